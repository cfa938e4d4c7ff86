import Derived.Test.YtdpbbagllhfjbaaDoorAISem18
import Derived.IntWalk
import Derived.WalkKit
import Derived.ProofKit
import Derived.OpenShut
import Derived.Carry
import Derived.ChangeOld
/-! The interpreter without fuel: equations to walk by. -/
namespace Go.Proofs.YtdpbbagllhfjbaaDoorW.AI
open Go
set_option linter.unusedVariables false
set_option linter.unusedSimpArgs false

def Sub (f g : CallT) : Prop := ∀ x vs h r, f x vs h = some r → g x vs h = some r

theorem Sub.refl (f : CallT) : Sub f f := fun _ _ _ _ h => h
theorem Sub.trans {f g k : CallT} (a : Sub f g) (b : Sub g k) : Sub f k := fun _ _ _ _ h => b _ _ _ _ (a _ _ _ _ h)

theorem aop_sub {f g : CallT} (hs : Sub f g) {o : MOp} {a : Acts} {h : AHeap} {r} (e : aop f o a h = some r) : aop g o a h = some r := by
  cases o <;> first
    | exact e
    | (simp only [aop, Option.bind_eq_some_iff] at e ⊢
       obtain ⟨vs, h1, h2⟩ := e
       exact ⟨vs, h1, hs _ _ _ _ h2⟩)
    | (simp only [aop, Option.bind_eq_some_iff] at e ⊢
       obtain ⟨x, h0, vs, h1, h2⟩ := e
       refine ⟨x, h0, vs, h1, ?_⟩
       split at h2
       · exact hs _ _ _ _ h2
       · cases h2)

theorem aoper_sub {f g : CallT} (hs : Sub f g) {o : MOper} {a : Acts} {h : AHeap} {r} (e : aoper f o a h = some r) : aoper g o a h = some r := by
  unfold aoper at e ⊢
  simp only [Option.bind_eq_some_iff] at e ⊢
  obtain ⟨b, h1, h2⟩ := e
  refine ⟨b, h1, ?_⟩
  cases b
  · exact h2
  · exact aop_sub hs h2

theorem aops_sub {f g : CallT} (hs : Sub f g) {base : Nat} : ∀ {os : List MOper} {a : Acts} {h : AHeap} {ws : List Nat} {r}, aops f base os a h ws = some r → aops g base os a h ws = some r
  | [], a, h, ws, r, e => e
  | o :: os, a, h, ws, r, e => by
    simp only [aops, Option.bind_eq_some_iff] at e ⊢
    obtain ⟨x, h1, h2⟩ := e
    exact ⟨x, aoper_sub hs h1, aops_sub hs h2⟩

theorem aopsR_sub {f g : CallT} (hs : Sub f g) {base : Nat} : ∀ {os : List (Nat × MOper)} {a : Acts} {h : AHeap} {ws : List Nat} {rs : List Rec} {r}, aopsR f base os a h ws rs = some r → aopsR g base os a h ws rs = some r
  | [], a, h, ws, rs, r, e => e
  | (_, o) :: os, a, h, ws, rs, r, e => by
    simp only [aopsR, Option.bind_eq_some_iff] at e ⊢
    obtain ⟨x, h1, h2⟩ := e
    exact ⟨x, aoper_sub hs h1, aopsR_sub hs h2⟩

abbrev Step := Acts → AHeap → List Nat → Option AOut

theorem iter_sub {s t : Step} (hs : ∀ a h ws r, s a h ws = some r → t a h ws = some r) {keep : List Nat} : ∀ {n m : Nat} {a : Acts} {h : AHeap} {ws : List Nat} {r}, n ≤ m → iter s keep n a h ws = some r → iter t keep m a h ws = some r
  | 0, m, a, h, ws, r, _, e => by cases e
  | n + 1, 0, a, h, ws, r, hm, _ => by omega
  | n + 1, m + 1, a, h, ws, r, hm, e => by
    simp only [iter, Option.bind_eq_some_iff] at e ⊢
    obtain ⟨x, h1, h2⟩ := e
    refine ⟨x, hs _ _ _ _ h1, ?_⟩
    split at h2
    · exact iter_sub hs (by omega) h2
    · exact h2

theorem giter_sub {s1 s2 t1 t2 : Step} (h1 : ∀ a h ws r, s1 a h ws = some r → t1 a h ws = some r) (h2 : ∀ a h ws r, s2 a h ws = some r → t2 a h ws = some r) {keep : List Nat} {l1 l2 : Nat} : ∀ {n m : Nat} {o o' : Option AOut} {r}, n ≤ m → (∀ r', o = some r' → o' = some r') → giter s1 s2 keep l1 l2 n o = some r → giter t1 t2 keep l1 l2 m o' = some r
  | 0, m, o, o', r, _, _, e => by cases e
  | n + 1, 0, o, o', r, hm, _, _ => by omega
  | n + 1, m + 1, o, o', r, hm, ho, e => by
    simp only [giter, Option.bind_eq_some_iff] at e ⊢
    obtain ⟨x, e1, e2⟩ := e
    refine ⟨x, ho _ e1, ?_⟩
    split at e2
    · split at e2
      · rename_i hl; rw [if_pos hl]; exact giter_sub h1 h2 (by omega) (fun r' => h1 _ _ _ r') e2
      · rename_i hl
        rw [if_neg hl]
        split at e2
        · rename_i hl2; rw [if_pos hl2]; exact giter_sub h1 h2 (by omega) (fun r' => h2 _ _ _ r') e2
        · cases e2
    · exact e2

theorem aexec_sub {f g : CallT} (hs : Sub f g) {base n m : Nat} (hn : n ≤ m) : ∀ {c : MCode} {a : Acts} {h : AHeap} {ws : List Nat} {r}, aexec f base n c a h ws = some r → aexec g base m c a h ws = some r
  | .skip, a, h, ws, r, e => e
  | .reg ops, a, h, ws, r, e => by
    simp only [aexec, Option.map_eq_some_iff] at e ⊢
    obtain ⟨x, h1, h2⟩ := e
    exact ⟨x, aops_sub hs h1, h2⟩
  | .regd ops un, a, h, ws, r, e => by
    simp only [aexec, Option.bind_eq_some_iff] at e ⊢
    obtain ⟨x, h1, h2⟩ := e
    exact ⟨x, aopsR_sub hs h1, h2⟩
  | .seq x y, a, h, ws, r, e => by
    simp only [aexec, Option.bind_eq_some_iff] at e ⊢
    obtain ⟨o, h1, h2⟩ := e
    refine ⟨o, aexec_sub hs hn h1, ?_⟩
    split at h2
    · exact aexec_sub hs hn h2
    · exact h2
  | .cond c x y, a, h, ws, r, e => by
    simp only [aexec, Option.bind_eq_some_iff] at e ⊢
    obtain ⟨o, h1, h2⟩ := e
    refine ⟨o, h1, ?_⟩
    split at h2
    · exact aexec_sub hs hn h2
    · exact aexec_sub hs hn h2
    · cases h2
  | .block id keep body, a, h, ws, r, e => by
    simp only [aexec, Option.bind_eq_some_iff] at e ⊢
    obtain ⟨o, h1, h2⟩ := e
    exact ⟨o, aexec_sub hs hn h1, h2⟩
  | .loop keep body, a, h, ws, r, e => by
    simp only [aexec] at e ⊢
    exact iter_sub (fun a h ws r h1 => aexec_sub hs hn h1) hn e
  | .exit id, a, h, ws, r, e => e
  | .ret, a, h, ws, r, e => e
  | .goto l, a, h, ws, r, e => e
  | .scope keep l1 r1 l2 r2 body, a, h, ws, r, e => by
    simp only [aexec] at e ⊢
    exact giter_sub (fun a h ws r h1 => aexec_sub hs hn h1) (fun a h ws r h1 => aexec_sub hs hn h1) hn (fun r' h1 => aexec_sub hs hn h1) e

theorem abody_sub {f g : CallT} (hs : Sub f g) {n k : Nat} (hn : n ≤ k) {m : MFunc} {args : List AV} {h : AHeap} {r} (e : abody f n m args h = some r) : abody g k m args h = some r := by
  unfold abody at e ⊢
  simp only [Option.bind_eq_some_iff] at e ⊢
  obtain ⟨o, h1, h2⟩ := e
  exact ⟨o, aexec_sub hs hn h1, h2⟩

theorem acall_succ (C : Cfg) : ∀ n, Sub (acall C n) (acall C (n + 1))
  | 0 => fun f vs h r e => by cases e
  | n + 1 => fun f vs h r e => by
    have ih := acall_succ C n
    rw [acall] at e ⊢
    split at e
    · exact e
    · split at e
      · cases e
      · split at e
        · rename_i hl
          simp only [hl, if_true, Option.bind_eq_some_iff] at e ⊢
          obtain ⟨⟨v, h', ws⟩, h1, h2⟩ := e
          refine ⟨⟨v, h', ws⟩, abody_sub ih (by omega) h1, ?_⟩
          simp only at h2 ⊢
          split at h2
          · rename_i hv; rw [if_pos hv]; exact h2
          · rename_i hv
            rw [if_neg hv]
            simp only [Option.map_eq_some_iff] at h2 ⊢
            obtain ⟨x, h3, h4⟩ := h2
            exact ⟨x, abody_sub ih (by omega) h3, h4⟩
        · rename_i hl
          rw [if_neg hl]
          simp only [Option.map_eq_some_iff] at e ⊢
          obtain ⟨x, h3, h4⟩ := e
          exact ⟨x, abody_sub ih (by omega) h3, h4⟩

theorem acall_sub (C : Cfg) {n m : Nat} (h : n ≤ m) : Sub (acall C n) (acall C m) := by
  induction m with
  | zero => have : n = 0 := by omega
            subst this; exact Sub.refl _
  | succ m ih =>
    by_cases e : n = m + 1
    · subst e; exact Sub.refl _
    · exact (ih (by omega)).trans (acall_succ C m)

-- ------------------------------------------------------------------ limits
open Classical in
noncomputable def lim {α : Type} (g : Nat → Option α) : Option α :=
  if h : ∃ r n, g n = some r then some h.choose else none

theorem lim_eq {α : Type} {g : Nat → Option α} (hm : ∀ n m r, n ≤ m → g n = some r → g m = some r) {r : α} : lim g = some r ↔ ∃ n, g n = some r := by
  unfold lim
  constructor
  · intro h
    split at h
    · rename_i hx
      cases h
      exact hx.choose_spec
    · cases h
  · rintro ⟨n, hn⟩
    have hx : ∃ r n, g n = some r := ⟨r, n, hn⟩
    rw [dif_pos hx]
    obtain ⟨k, hk⟩ := hx.choose_spec
    have h1 := hm n (max n k) r (by omega) hn
    have h2 := hm k (max n k) _ (by omega) hk
    rw [h1] at h2
    exact h2.symm

/-- What a call answers, whatever fuel it needs. -/
noncomputable def W (C : Cfg) : CallT := fun f vs h => lim fun n => acall C n f vs h

theorem W_eq {C : Cfg} {f vs h r} : W C f vs h = some r ↔ ∃ n, acall C n f vs h = some r :=
  lim_eq fun n m r hn e => acall_sub C hn _ _ _ _ e

noncomputable def xiter (s : Step) (keep : List Nat) : Step := fun a h ws => lim fun n => iter s keep n a h ws

theorem xiter_eq {s : Step} {keep a h ws r} : xiter s keep a h ws = some r ↔ ∃ n, iter s keep n a h ws = some r :=
  lim_eq fun n m r hn e => iter_sub (fun _ _ _ _ h => h) hn e

noncomputable def xgiter (s1 s2 : Step) (keep : List Nat) (l1 l2 : Nat) (o : Option AOut) : Option AOut := lim fun n => giter s1 s2 keep l1 l2 n o

theorem xgiter_eq {s1 s2 : Step} {keep l1 l2 o r} : xgiter s1 s2 keep l1 l2 o = some r ↔ ∃ n, giter s1 s2 keep l1 l2 n o = some r :=
  lim_eq fun n m r hn e => giter_sub (fun _ _ _ _ h => h) (fun _ _ _ _ h => h) hn (fun _ h => h) e

noncomputable def xexec (call : CallT) (base : Nat) : MCode → Step
  | .skip, a, h, ws => some (.normal, a, h, ws)
  | .reg ops, a, h, ws => (aops call base ops a h ws).map fun (a, h, ws) => (.normal, a, h, ws)
  | .regd ops un, a, h, ws => (aopsR call base ops a h ws []).bind fun (a, h, ws, rs) => if apartR rs un then some (.normal, a, h, ws) else none
  | .seq x y, a, h, ws => (xexec call base x a h ws).bind fun
    | (.normal, a, h, ws) => xexec call base y a h ws
    | r => some r
  | .cond c x y, a, h, ws => (aeval a c).bind fun
    | .bool true => xexec call base x a h ws
    | .bool false => xexec call base y a h ws
    | _ => none
  | .block id keep body, a, h, ws => (xexec call base body a h ws).bind fun
    | (.normal, a, h, ws) => some (.normal, keepA keep a, h, ws)
    | (.exit id', a, h, ws) => if id' = id then some (.normal, keepA keep a, h, ws) else some (.exit id', a, h, ws)
    | r => some r
  | .loop keep body, a, h, ws => xiter (xexec call base body) keep a h ws
  | .exit id, a, h, ws => some (.exit id, a, h, ws)
  | .ret, a, h, ws => some (.ret, a, h, ws)
  | .goto l, a, h, ws => some (.goto l, a, h, ws)
  | .scope keep l1 r1 l2 r2 body, a, h, ws => xgiter (xexec call base r1) (xexec call base r2) keep l1 l2 (xexec call base body a h ws)

section
variable {C : Cfg}

theorem xop {o : MOp} {a : Acts} {h : AHeap} {r} (e : aop (W C) o a h = some r) : ∃ n, aop (acall C n) o a h = some r := by
  cases o <;> first
    | exact ⟨0, e⟩
    | (simp only [aop, Option.bind_eq_some_iff] at e ⊢
       obtain ⟨vs, h1, h2⟩ := e
       obtain ⟨n, h2⟩ := W_eq.1 h2
       exact ⟨n, vs, h1, h2⟩)
    | (simp only [aop, Option.bind_eq_some_iff] at e ⊢
       obtain ⟨x, h0, vs, h1, h2⟩ := e
       split at h2
       · obtain ⟨n, h2⟩ := W_eq.1 h2
         exact ⟨n, _, h0, vs, h1, h2⟩
       · cases h2)

theorem xoper {o : MOper} {a : Acts} {h : AHeap} {r} (e : aoper (W C) o a h = some r) : ∃ n, aoper (acall C n) o a h = some r := by
  unfold aoper at e ⊢
  simp only [Option.bind_eq_some_iff] at e ⊢
  obtain ⟨b, h1, h2⟩ := e
  cases b
  · exact ⟨0, false, h1, h2⟩
  · obtain ⟨n, h2⟩ := xop h2
    exact ⟨n, true, h1, h2⟩

theorem xops {base : Nat} : ∀ {os : List MOper} {a : Acts} {h : AHeap} {ws : List Nat} {r}, aops (W C) base os a h ws = some r → ∃ n, aops (acall C n) base os a h ws = some r
  | [], a, h, ws, r, e => ⟨0, e⟩
  | o :: os, a, h, ws, r, e => by
    simp only [aops, Option.bind_eq_some_iff] at e ⊢
    obtain ⟨x, h1, h2⟩ := e
    obtain ⟨n, h1⟩ := xoper h1
    obtain ⟨m, h2⟩ := xops h2
    exact ⟨max n m, x, aoper_sub (acall_sub C (by omega)) h1, aops_sub (acall_sub C (by omega)) h2⟩

theorem xopsR {base : Nat} : ∀ {os : List (Nat × MOper)} {a : Acts} {h : AHeap} {ws : List Nat} {rs : List Rec} {r}, aopsR (W C) base os a h ws rs = some r → ∃ n, aopsR (acall C n) base os a h ws rs = some r
  | [], a, h, ws, rs, r, e => ⟨0, e⟩
  | (_, o) :: os, a, h, ws, rs, r, e => by
    simp only [aopsR, Option.bind_eq_some_iff] at e ⊢
    obtain ⟨x, h1, h2⟩ := e
    obtain ⟨n, h1⟩ := xoper h1
    obtain ⟨m, h2⟩ := xopsR h2
    exact ⟨max n m, x, aoper_sub (acall_sub C (by omega)) h1, aopsR_sub (acall_sub C (by omega)) h2⟩

theorem xexec_fuel {base : Nat} : ∀ {c : MCode} {a : Acts} {h : AHeap} {ws : List Nat} {r}, xexec (W C) base c a h ws = some r → ∃ n, aexec (acall C n) base n c a h ws = some r
  | .skip, a, h, ws, r, e => ⟨0, e⟩
  | .reg ops, a, h, ws, r, e => by
    simp only [xexec, aexec, Option.map_eq_some_iff] at e ⊢
    obtain ⟨x, h1, h2⟩ := e
    obtain ⟨n, h1⟩ := xops h1
    exact ⟨n, x, h1, h2⟩
  | .regd ops un, a, h, ws, r, e => by
    simp only [xexec, aexec, Option.bind_eq_some_iff] at e ⊢
    obtain ⟨x, h1, h2⟩ := e
    obtain ⟨n, h1⟩ := xopsR h1
    exact ⟨n, x, h1, h2⟩
  | .seq x y, a, h, ws, r, e => by
    simp only [xexec, aexec, Option.bind_eq_some_iff] at e ⊢
    obtain ⟨⟨ex, a1, hp1, ws1⟩, h1, h2⟩ := e
    obtain ⟨n, h1⟩ := xexec_fuel h1
    cases ex with
    | normal =>
      obtain ⟨m, h2⟩ := xexec_fuel (show xexec (W C) base y a1 hp1 ws1 = some r from h2)
      exact ⟨max n m, _, aexec_sub (acall_sub C (by omega)) (by omega) h1, aexec_sub (acall_sub C (by omega)) (by omega) h2⟩
    | exit i => exact ⟨n, _, h1, h2⟩
    | ret => exact ⟨n, _, h1, h2⟩
    | goto l => exact ⟨n, _, h1, h2⟩
  | .cond c x y, a, h, ws, r, e => by
    simp only [xexec, aexec, Option.bind_eq_some_iff] at e ⊢
    obtain ⟨o, h1, h2⟩ := e
    split at h2
    · obtain ⟨n, h2⟩ := xexec_fuel h2
      exact ⟨n, _, h1, h2⟩
    · obtain ⟨n, h2⟩ := xexec_fuel h2
      exact ⟨n, _, h1, h2⟩
    · cases h2
  | .block id keep body, a, h, ws, r, e => by
    simp only [xexec, aexec, Option.bind_eq_some_iff] at e ⊢
    obtain ⟨o, h1, h2⟩ := e
    obtain ⟨n, h1⟩ := xexec_fuel h1
    exact ⟨n, o, h1, h2⟩
  | .loop keep body, a, h, ws, r, e => by
    simp only [xexec, aexec] at e ⊢
    obtain ⟨k, e⟩ := xiter_eq.1 e
    have key : ∀ k a h ws, iter (xexec (W C) base body) keep k a h ws = some r → ∃ n, iter (aexec (acall C n) base n body) keep n a h ws = some r := by
      intro k
      induction k with
      | zero => intro a h ws e; cases e
      | succ k ih =>
        intro a h ws e
        simp only [iter, Option.bind_eq_some_iff] at e
        obtain ⟨⟨ex, a1, hp1, ws1⟩, h1, h2⟩ := e
        obtain ⟨n, h1⟩ := xexec_fuel h1
        cases ex with
        | normal =>
          obtain ⟨m, h2⟩ := ih a1 hp1 ws1 h2
          refine ⟨max n m + 1, ?_⟩
          simp only [iter, Option.bind_eq_some_iff]
          exact ⟨_, aexec_sub (acall_sub C (by omega)) (by omega) h1, iter_sub (fun a h ws r e => aexec_sub (acall_sub C (by omega)) (by omega) e) (by omega) h2⟩
        | exit i =>
          refine ⟨n + 1, ?_⟩
          simp only [iter, Option.bind_eq_some_iff]
          exact ⟨_, aexec_sub (acall_sub C (by omega)) (by omega) h1, h2⟩
        | ret =>
          refine ⟨n + 1, ?_⟩
          simp only [iter, Option.bind_eq_some_iff]
          exact ⟨_, aexec_sub (acall_sub C (by omega)) (by omega) h1, h2⟩
        | goto l =>
          refine ⟨n + 1, ?_⟩
          simp only [iter, Option.bind_eq_some_iff]
          exact ⟨_, aexec_sub (acall_sub C (by omega)) (by omega) h1, h2⟩
    exact key k a h ws e
  | .exit id, a, h, ws, r, e => ⟨0, e⟩
  | .ret, a, h, ws, r, e => ⟨0, e⟩
  | .goto l, a, h, ws, r, e => ⟨0, e⟩
  | .scope keep l1 r1 l2 r2 body, a, h, ws, r, e => by
    simp only [xexec, aexec] at e ⊢
    obtain ⟨k, e⟩ := xgiter_eq.1 e
    have some_of : ∀ {s1 s2 : Step} {k : Nat} {o : Option AOut} {r}, giter s1 s2 keep l1 l2 k o = some r → ∃ r', o = some r' := by
      intro s1 s2 k o r h
      cases k with
      | zero => cases h
      | succ k => simp only [giter, Option.bind_eq_some_iff] at h; obtain ⟨x, h1, _⟩ := h; exact ⟨x, h1⟩
    have key : ∀ k (o : Option AOut), giter (xexec (W C) base r1) (xexec (W C) base r2) keep l1 l2 k o = some r → ∃ n, giter (aexec (acall C n) base n r1) (aexec (acall C n) base n r2) keep l1 l2 n o = some r := by
      intro k
      induction k with
      | zero => intro o e; cases e
      | succ k ih =>
        intro o e
        simp only [giter, Option.bind_eq_some_iff] at e
        obtain ⟨⟨ex, a1, hp1, ws1⟩, h1, h2⟩ := e
        subst h1
        cases ex with
        | normal => exact ⟨1, h2⟩
        | exit i => exact ⟨1, h2⟩
        | ret => exact ⟨1, h2⟩
        | goto l =>
          simp only at h2
          have jump : ∀ (rr : MCode), (∀ {a h ws r}, xexec (W C) base rr a h ws = some r → ∃ n, aexec (acall C n) base n rr a h ws = some r) → giter (xexec (W C) base r1) (xexec (W C) base r2) keep l1 l2 k (xexec (W C) base rr (keepA keep a1) hp1 ws1) = some r →
              ∃ n, giter (aexec (acall C n) base n r1) (aexec (acall C n) base n r2) keep l1 l2 n (aexec (acall C (n + 1)) base (n + 1) rr (keepA keep a1) hp1 ws1) = some r := by
            intro rr hrr h3
            obtain ⟨r', h4⟩ := some_of h3
            obtain ⟨m, h5⟩ := hrr h4
            obtain ⟨n, h6⟩ := ih _ h3
            refine ⟨max n m, giter_sub (fun a h ws r h1 => aexec_sub (acall_sub C (by omega)) (by omega) h1) (fun a h ws r h1 => aexec_sub (acall_sub C (by omega)) (by omega) h1) (by omega) (fun r'' h7 => ?_) h6⟩
            rw [h4] at h7; cases h7
            exact aexec_sub (acall_sub C (by omega)) (by omega) h5
          split at h2
          · rename_i hl
            obtain ⟨n, h3⟩ := jump r1 (fun e => xexec_fuel e) h2
            refine ⟨n + 1, ?_⟩
            simp only [giter, Option.bind_some, if_pos hl]
            exact giter_sub (fun a h ws r h1 => aexec_sub (acall_sub C (by omega)) (by omega) h1) (fun a h ws r h1 => aexec_sub (acall_sub C (by omega)) (by omega) h1) (by omega) (fun _ h => h) h3
          · rename_i hl
            split at h2
            · rename_i hl2
              obtain ⟨n, h3⟩ := jump r2 (fun e => xexec_fuel e) h2
              refine ⟨n + 1, ?_⟩
              simp only [giter, Option.bind_some, if_neg hl, if_pos hl2]
              exact giter_sub (fun a h ws r h1 => aexec_sub (acall_sub C (by omega)) (by omega) h1) (fun a h ws r h1 => aexec_sub (acall_sub C (by omega)) (by omega) h1) (by omega) (fun _ h => h) h3
            · cases h2
    obtain ⟨r', h1⟩ := some_of e
    obtain ⟨m, h2⟩ := xexec_fuel h1
    obtain ⟨n, h3⟩ := key k _ e
    refine ⟨max n m, giter_sub (fun a h ws r h1 => aexec_sub (acall_sub C (by omega)) (by omega) h1) (fun a h ws r h1 => aexec_sub (acall_sub C (by omega)) (by omega) h1) (by omega) (fun r'' h7 => ?_) h3⟩
    rw [h1] at h7; cases h7
    exact aexec_sub (acall_sub C (by omega)) (by omega) h2

noncomputable def xbody (call : CallT) (m : MFunc) (args : List AV) (h : AHeap) : Option (AV × AHeap × List Nat) :=
  (xexec call h.length m.body (argsA 0 args) h []).bind fun
    | (.exit _, _, _, _) => none
    | (.goto _, _, _, _) => none
    | (_, a, h', ws) => (ares a h' m.res).map fun v => (v, h', ws)

theorem xbody_fuel {m : MFunc} {args : List AV} {h : AHeap} {r} (e : xbody (W C) m args h = some r) : ∃ n, abody (acall C n) n m args h = some r := by
  unfold xbody at e
  simp only [Option.bind_eq_some_iff] at e
  obtain ⟨o, h1, h2⟩ := e
  obtain ⟨n, h1⟩ := xexec_fuel h1
  refine ⟨n, ?_⟩
  unfold abody
  simp only [Option.bind_eq_some_iff]
  exact ⟨o, h1, h2⟩

/-- A function that is handed no address and answers none. -/
theorem W_pure {f : Nat} {m : MFunc} {args : List AV} {v : AV} {h' : AHeap} {ws : List Nat} (hp : ∀ h, C.prim f args h = none) (hm : C.mp f = some m) (h0 : AV.lts 0 args = true) (hv : AV.lt 0 v = true)
    (e : xbody (W C) m args C.gl = some (v, h', ws)) (h : AHeap) : W C f args h = some (v, h, []) := by
  obtain ⟨n, e⟩ := xbody_fuel e
  refine W_eq.2 ⟨n + 1, ?_⟩
  rw [acall, hp h, hm]
  simp only [h0, if_true, e, Option.bind_some, hv]

/-- A function that is handed an address. -/
theorem W_body {f : Nat} {m : MFunc} {args : List AV} {h : AHeap} {r} (hp : C.prim f args h = none) (hm : C.mp f = some m) (h0 : AV.lts 0 args = false)
    (e : xbody (W C) m args h = some r) : W C f args h = some (if m.trim then trimR h.length r else r) := by
  obtain ⟨n, e⟩ := xbody_fuel e
  refine W_eq.2 ⟨n + 1, ?_⟩
  rw [acall, hp, hm]
  simp only [h0, e, Option.map_some, if_false, Bool.false_eq_true]

/-- A function that is handed no address and answers one. -/
theorem W_made {f : Nat} {m : MFunc} {args : List AV} {v : AV} {h' : AHeap} {ws : List Nat} {h : AHeap} {r} (hp : C.prim f args h = none) (hm : C.mp f = some m) (h0 : AV.lts 0 args = true)
    (e0 : xbody (W C) m args C.gl = some (v, h', ws)) (hv : AV.lt 0 v = false) (e : xbody (W C) m args h = some r) : W C f args h = some (if m.trim then trimR h.length r else r) := by
  obtain ⟨n, e0⟩ := xbody_fuel e0
  obtain ⟨k, e⟩ := xbody_fuel e
  refine W_eq.2 ⟨max n k + 1, ?_⟩
  rw [acall, hp, hm]
  simp only [h0, if_true, abody_sub (acall_sub C (show n ≤ max n k by omega)) (show n ≤ max n k by omega) e0, Option.bind_some, hv, Bool.false_eq_true, if_false,
    abody_sub (acall_sub C (show k ≤ max n k by omega)) (show k ≤ max n k by omega) e, Option.map_some]

theorem W_of {n f vs h r} (e : acall C n f vs h = some r) : W C f vs h = some r := W_eq.2 ⟨n, e⟩
end

-- ------------------------------------------------------------------ equations to walk by
section
variable (call : CallT) (base : Nat)

noncomputable def kOps (os : List MOper) (d : Option Nat) (a : Acts) (ws : List Nat) : Option (AV × AHeap × List Nat) → Option (Acts × AHeap × List Nat)
  | some (v, h', ws') => aops call base os (putA a d v) h' (wadd base ws ws')
  | none => none

theorem w_ops_nil (a h ws) : aops call base [] a h ws = some (a, h, ws) := rfl
theorem w_ops_cons (o os a h ws) : aops call base (o :: os) a h ws = kOps call base os o.dst a ws (aoper call o a h) := by
  unfold kOps; rw [aops]; cases aoper call o a h <;> rfl
theorem w_kOps (os d a ws v h' ws') : kOps call base os d a ws (some (v, h', ws')) = aops call base os (putA a d v) h' (wadd base ws ws') := rfl

noncomputable def kOpsR (os : List (Nat × MOper)) (o : MOper) (a : Acts) (h : AHeap) (ws : List Nat) (rs : List Rec) : Option (AV × AHeap × List Nat) → Option (Acts × AHeap × List Nat × List Rec)
  | some (v, h', ws') => aopsR call base os (putA a o.dst v) h' (wadd base ws ws') (rs ++ [recOf o a h ws' h'.length])
  | none => none
theorem w_opsR_nil (a h ws rs) : aopsR call base [] a h ws rs = some (a, h, ws, rs) := rfl
theorem w_opsR_cons (i o os a h ws rs) : aopsR call base ((i, o) :: os) a h ws rs = kOpsR call base os o a h ws rs (aoper call o a h) := by
  unfold kOpsR; rw [aopsR]; cases aoper call o a h <;> rfl
theorem w_kOpsR (os o a h ws rs v h' ws') : kOpsR call base os o a h ws rs (some (v, h', ws')) = aopsR call base os (putA a o.dst v) h' (wadd base ws ws') (rs ++ [recOf o a h ws' h'.length]) := rfl

def gOper (o : MOp) (a : Acts) (h : AHeap) : Option Bool → Option (AV × AHeap × List Nat)
  | some true => aop call o a h
  | some false => some (.tup [], h, [])
  | none => none
theorem w_oper (d o a h) : aoper call ⟨d, o, none⟩ a h = aop call o a h := rfl
theorem w_operG (d o g a h) : aoper call ⟨d, o, some g⟩ a h = gOper call o a h (guardOf a (some g)) := by
  unfold aoper gOper; cases guardOf a (some g) with
  | none => rfl
  | some b => cases b <;> rfl
theorem w_gOperT (o a h) : gOper call o a h (some true) = aop call o a h := rfl
theorem w_gOperF (o a h) : gOper call o a h (some false) = some (.tup [], h, []) := rfl

noncomputable def kReg : Option (Acts × AHeap × List Nat) → Option AOut
  | some (a, h, ws) => some (.normal, a, h, ws)
  | none => none
noncomputable def kRegd (un : List (Nat × Nat)) : Option (Acts × AHeap × List Nat × List Rec) → Option AOut
  | some (a, h, ws, rs) => if apartR rs un then some (.normal, a, h, ws) else none
  | none => none
noncomputable def kSeq (y : MCode) : Option AOut → Option AOut
  | some (.normal, a, h, ws) => xexec call base y a h ws
  | some (.exit i, a, h, ws) => some (.exit i, a, h, ws)
  | some (.ret, a, h, ws) => some (.ret, a, h, ws)
  | some (.goto l, a, h, ws) => some (.goto l, a, h, ws)
  | none => none
noncomputable def kCond (x y : MCode) (a : Acts) (h : AHeap) (ws : List Nat) : Option AV → Option AOut
  | some (.bool true) => xexec call base x a h ws
  | some (.bool false) => xexec call base y a h ws
  | _ => none
def kBlock (id : Nat) (keep : List Nat) : Option AOut → Option AOut
  | some (.normal, a, h, ws) => some (.normal, keepA keep a, h, ws)
  | some (.exit id', a, h, ws) => if id' = id then some (.normal, keepA keep a, h, ws) else some (.exit id', a, h, ws)
  | some (.ret, a, h, ws) => some (.ret, a, h, ws)
  | some (.goto l, a, h, ws) => some (.goto l, a, h, ws)
  | none => none
def kRes (rs : List MRes) : Option AOut → Option (AV × AHeap × List Nat)
  | some (.exit _, _, _, _) => none
  | some (.goto _, _, _, _) => none
  | some (.normal, a, h, ws) => (ares a h rs).map fun v => (v, h, ws)
  | some (.ret, a, h, ws) => (ares a h rs).map fun v => (v, h, ws)
  | none => none

theorem w_skip (a h ws) : xexec call base .skip a h ws = some (.normal, a, h, ws) := rfl
theorem w_exit (i a h ws) : xexec call base (.exit i) a h ws = some (.exit i, a, h, ws) := rfl
theorem w_ret (a h ws) : xexec call base .ret a h ws = some (.ret, a, h, ws) := rfl
theorem w_goto (l a h ws) : xexec call base (.goto l) a h ws = some (.goto l, a, h, ws) := rfl
theorem w_scope (keep l1 r1 l2 r2 body a h ws) : xexec call base (.scope keep l1 r1 l2 r2 body) a h ws = xgiter (xexec call base r1) (xexec call base r2) keep l1 l2 (xexec call base body a h ws) := rfl
theorem w_reg (ops a h ws) : xexec call base (.reg ops) a h ws = kReg (aops call base ops a h ws) := by
  unfold kReg; rw [xexec]; cases aops call base ops a h ws <;> rfl
theorem w_regd (ops un a h ws) : xexec call base (.regd ops un) a h ws = kRegd un (aopsR call base ops a h ws []) := by
  unfold kRegd; rw [xexec]; cases aopsR call base ops a h ws [] <;> rfl
theorem w_seq (x y a h ws) : xexec call base (.seq x y) a h ws = kSeq call base y (xexec call base x a h ws) := by
  unfold kSeq; rw [xexec]
  rcases xexec call base x a h ws with _ | ⟨_ | _ | _ | _, _, _, _⟩ <;> rfl
theorem w_cond (c x y a h ws) : xexec call base (.cond c x y) a h ws = kCond call base x y a h ws (aeval a c) := by
  unfold kCond; rw [xexec]
  cases aeval a c with
  | none => rfl
  | some v => cases v <;> first | rfl | (rename_i b; cases b <;> rfl)
theorem w_block (id keep body a h ws) : xexec call base (.block id keep body) a h ws = kBlock id keep (xexec call base body a h ws) := by
  unfold kBlock; rw [xexec]
  rcases xexec call base body a h ws with _ | ⟨_ | _ | _ | _, _, _, _⟩ <;> rfl
theorem w_regd1 (ops u un a h ws) : xexec call base (.regd ops (u :: un)) a h ws = kRegd (u :: un) (aopsR call base ops a h ws []) := w_regd call base ops (u :: un) a h ws
theorem w_body (m : MFunc) (args h) : xbody call m args h = kRes m.res (xexec call h.length m.body (argsA 0 args) h []) := by
  unfold xbody kRes
  rcases xexec call h.length m.body (argsA 0 args) h [] with _ | ⟨_ | _ | _ | _, _, _, _⟩ <;> rfl

theorem w_kReg (a h ws) : kReg (some (a, h, ws)) = some (.normal, a, h, ws) := rfl
theorem w_kRegd (un a h ws rs) : kRegd un (some (a, h, ws, rs)) = if apartR rs un then some (.normal, a, h, ws) else none := rfl
theorem w_kSeqN (y a h ws) : kSeq call base y (some (.normal, a, h, ws)) = xexec call base y a h ws := rfl
theorem w_kSeqE (y i a h ws) : kSeq call base y (some (.exit i, a, h, ws)) = some (.exit i, a, h, ws) := rfl
theorem w_kSeqG (y l a h ws) : kSeq call base y (some (.goto l, a, h, ws)) = some (.goto l, a, h, ws) := rfl
theorem w_kBlockG (id keep l a h ws) : kBlock id keep (some (.goto l, a, h, ws)) = some (.goto l, a, h, ws) := rfl
theorem w_kSeqR (y a h ws) : kSeq call base y (some (.ret, a, h, ws)) = some (.ret, a, h, ws) := rfl
theorem w_kCondT (x y a h ws) : kCond call base x y a h ws (some (.bool true)) = xexec call base x a h ws := rfl
theorem w_kCondF (x y a h ws) : kCond call base x y a h ws (some (.bool false)) = xexec call base y a h ws := rfl
theorem w_kBlockN (id keep a h ws) : kBlock id keep (some (.normal, a, h, ws)) = some (.normal, keepA keep a, h, ws) := rfl
theorem w_kBlockE (id keep i a h ws) : kBlock id keep (some (.exit i, a, h, ws)) = if i = id then some (.normal, keepA keep a, h, ws) else some (.exit i, a, h, ws) := rfl
theorem w_kBlockR (id keep a h ws) : kBlock id keep (some (.ret, a, h, ws)) = some (.ret, a, h, ws) := rfl
theorem w_kResN (rs a h ws) : kRes rs (some (.normal, a, h, ws)) = (ares a h rs).map fun v => (v, h, ws) := rfl
theorem w_kResR (rs a h ws) : kRes rs (some (.ret, a, h, ws)) = (ares a h rs).map fun v => (v, h, ws) := rfl

/-- Where nothing may come ahead of anything, a drawn region is a region. -/
theorem aopsR_ops : ∀ (os : List (Nat × MOper)) (a : Acts) (h : AHeap) (ws : List Nat) (rs : List Rec), (aopsR call base os a h ws rs).map (fun x => (x.1, x.2.1, x.2.2.1)) = aops call base (os.map (·.2)) a h ws
  | [], a, h, ws, rs => rfl
  | (i, o) :: os, a, h, ws, rs => by
    simp only [aopsR, List.map_cons, aops]
    cases aoper call o a h with
    | none => rfl
    | some x => exact aopsR_ops os _ _ _ _
theorem w_regd0 (ops a h ws) : xexec call base (.regd ops []) a h ws = kReg (aops call base (ops.map (·.2)) a h ws) := by
  rw [← aopsR_ops call base ops a h ws [], xexec]
  cases aopsR call base ops a h ws [] <;> rfl

-- scopes
theorem xg_step (s1 s2 : Step) (keep l1 l2) (ex a h ws) : xgiter s1 s2 keep l1 l2 (some (ex, a, h, ws)) = match ex with
    | .goto l => if l = l1 then xgiter s1 s2 keep l1 l2 (s1 (keepA keep a) h ws) else if l = l2 then xgiter s1 s2 keep l1 l2 (s2 (keepA keep a) h ws) else none
    | ex => some (ex, a, h, ws) := by
  have key : ∀ r, xgiter s1 s2 keep l1 l2 (some (ex, a, h, ws)) = some r ↔ (match ex with
      | .goto l => if l = l1 then xgiter s1 s2 keep l1 l2 (s1 (keepA keep a) h ws) else if l = l2 then xgiter s1 s2 keep l1 l2 (s2 (keepA keep a) h ws) else none
      | ex => some (ex, a, h, ws)) = some r := by
    intro r
    constructor
    · intro e
      obtain ⟨n, e⟩ := xgiter_eq.1 e
      cases n with
      | zero => cases e
      | succ n =>
        simp only [giter, Option.bind_some] at e
        cases ex with
        | normal => exact e
        | exit i => exact e
        | ret => exact e
        | goto l =>
          simp only at e ⊢
          split at e
          · rename_i hl; rw [if_pos hl]; exact xgiter_eq.2 ⟨n, e⟩
          · rename_i hl
            rw [if_neg hl]
            split at e
            · rename_i hl2; rw [if_pos hl2]; exact xgiter_eq.2 ⟨n, e⟩
            · cases e
    · intro e
      refine xgiter_eq.2 ?_
      cases ex with
      | normal => exact ⟨1, e⟩
      | exit i => exact ⟨1, e⟩
      | ret => exact ⟨1, e⟩
      | goto l =>
        simp only at e
        split at e
        · rename_i hl
          obtain ⟨n, e⟩ := xgiter_eq.1 e
          exact ⟨n + 1, by simp only [giter, Option.bind_some, if_pos hl]; exact e⟩
        · rename_i hl
          split at e
          · rename_i hl2
            obtain ⟨n, e⟩ := xgiter_eq.1 e
            exact ⟨n + 1, by simp only [giter, Option.bind_some, if_neg hl, if_pos hl2]; exact e⟩
          · cases e
  exact Option.ext fun r => key r
theorem xg_normal (s1 s2 : Step) (keep l1 l2) (a h ws) : xgiter s1 s2 keep l1 l2 (some (.normal, a, h, ws)) = some (.normal, a, h, ws) := xg_step ..
theorem xg_exit (s1 s2 : Step) (keep l1 l2) (i a h ws) : xgiter s1 s2 keep l1 l2 (some (.exit i, a, h, ws)) = some (.exit i, a, h, ws) := xg_step ..
theorem xg_ret (s1 s2 : Step) (keep l1 l2) (a h ws) : xgiter s1 s2 keep l1 l2 (some (.ret, a, h, ws)) = some (.ret, a, h, ws) := xg_step ..
theorem xg_goto (s1 s2 : Step) (keep l1 l2) (l a h ws) : xgiter s1 s2 keep l1 l2 (some (.goto l, a, h, ws)) = if l = l1 then xgiter s1 s2 keep l1 l2 (s1 (keepA keep a) h ws) else if l = l2 then xgiter s1 s2 keep l1 l2 (s2 (keepA keep a) h ws) else none := xg_step ..

-- loops
theorem xiter_unfold (s : Step) (keep a h ws) : xiter s keep a h ws = (s (keepA keep a) h ws).bind fun
    | (.normal, a', h', ws') => xiter s keep a' h' ws'
    | r => some r := by
  have key : ∀ r, xiter s keep a h ws = some r ↔ ((s (keepA keep a) h ws).bind fun
      | (.normal, a', h', ws') => xiter s keep a' h' ws'
      | r => some r) = some r := by
    intro r
    simp only [Option.bind_eq_some_iff]
    constructor
    · intro h1
      obtain ⟨n, h1⟩ := xiter_eq.1 h1
      cases n with
      | zero => cases h1
      | succ n =>
        simp only [iter, Option.bind_eq_some_iff] at h1
        obtain ⟨⟨ex, a1, hp1, ws1⟩, h2, h3⟩ := h1
        refine ⟨_, h2, ?_⟩
        cases ex with
        | normal => exact xiter_eq.2 ⟨n, h3⟩
        | exit i => exact h3
        | ret => exact h3
        | goto l => exact h3
    · rintro ⟨⟨ex, a1, hp1, ws1⟩, h2, h3⟩
      cases ex with
      | normal =>
        obtain ⟨n, h3⟩ := xiter_eq.1 h3
        refine xiter_eq.2 ⟨n + 1, ?_⟩
        simp only [iter, h2, Option.bind_some]
        exact h3
      | exit i =>
        refine xiter_eq.2 ⟨1, ?_⟩
        simp only [iter, h2, Option.bind_some]
        exact h3
      | ret =>
        refine xiter_eq.2 ⟨1, ?_⟩
        simp only [iter, h2, Option.bind_some]
        exact h3
      | goto l =>
        refine xiter_eq.2 ⟨1, ?_⟩
        simp only [iter, h2, Option.bind_some]
        exact h3
  generalize ((s (keepA keep a) h ws).bind fun
      | (.normal, a', h', ws') => xiter s keep a' h' ws'
      | r => some r) = y at key ⊢
  cases hx : xiter s keep a h ws with
  | none =>
    cases y with
    | none => rfl
    | some r => rw [hx] at key; exact absurd ((key r).2 rfl) (by simp)
  | some r => exact ((key r).1 hx).symm
end

/-- A loop, by what holds at its head: each round ends the loop as Q says, or leads to a head of less. -/
theorem xiter_rule {s : Step} {keep : List Nat} {Q : AOut → Prop} (I : Nat → Acts → AHeap → List Nat → Prop)
    (hstep : ∀ k a h ws, I k a h ws → ∃ o, s (keepA keep a) h ws = some o ∧ ((∃ a' h' ws' k', o = (.normal, a', h', ws') ∧ k' < k ∧ I k' a' h' ws') ∨ (o.1 ≠ .normal ∧ Q o))) :
    ∀ k a h ws, I k a h ws → ∃ o, xiter s keep a h ws = some o ∧ Q o := by
  intro k
  induction k using Nat.strongRecOn with
  | ind k ih =>
    intro a h ws hI
    obtain ⟨o, h1, h2⟩ := hstep k a h ws hI
    rw [xiter_unfold, h1, Option.bind_some]
    rcases h2 with ⟨a', h', ws', k', rfl, hk, hI'⟩ | ⟨hn, hq⟩
    · exact ih k' hk a' h' ws' hI'
    · obtain ⟨e, a', h', ws'⟩ := o
      cases e with
      | normal => exact absurd rfl hn
      | exit i => exact ⟨_, rfl, hq⟩
      | ret => exact ⟨_, rfl, hq⟩
      | goto l => exact ⟨_, rfl, hq⟩

end Go.Proofs.YtdpbbagllhfjbaaDoorW.AI

namespace Go.Proofs.YtdpbbagllhfjbaaDoorW.AI
open Go
set_option linter.unusedVariables false
set_option linter.unusedSimpArgs false
-- ------------------------------------------------------------------ contracts
def Good (h : AHeap) : Prop := h.all (oldIn h.length) = true

theorem wadd_nil (base ws) : wadd base ws [] = ws := rfl
theorem wadd_one (base ws b) : wadd base ws [b] = if b < base ∧ b ∉ ws then ws ++ [b] else ws := rfl

theorem wadd_cons (base ws b bs) : wadd base ws (b :: bs) = wadd base (if b < base ∧ b ∉ ws then ws ++ [b] else ws) bs := rfl

theorem wadd_ge {base : Nat} {l : List Nat} : ∀ {ws : List Nat}, (∀ b ∈ ws, base ≤ b) → wadd base l ws = l
  | [], _ => rfl
  | b :: bs, h => by
    rw [wadd_cons, if_neg (by have := h b List.mem_cons_self; omega)]
    exact wadd_ge fun b' h' => h b' (List.mem_cons_of_mem _ h')

theorem oldIn_mono {n m : Nat} (h : n ≤ m) {x : ABlk} (hx : oldIn n x = true) : oldIn m x = true := by
  unfold oldIn at hx ⊢
  split at hx
  · rename_i t ht; simp only [decide_eq_true_eq] at hx ⊢; omega
  · rfl

theorem Good.append {h js : AHeap} (hg : Good h) (hj : js.all (oldIn (h.length + js.length)) = true) : Good (h ++ js) := by
  unfold Good at *
  rw [List.all_append, Bool.and_eq_true, List.length_append]
  exact ⟨List.all_eq_true.2 fun x hx => oldIn_mono (by omega) (List.all_eq_true.1 hg x hx), hj⟩

theorem Good.set {h : AHeap} (hg : Good h) {p : Nat} {b : ABlk} (hb : oldIn h.length b = true) : Good (h.set p b) := by
  unfold Good at *
  rw [List.length_set]
  refine List.all_eq_true.2 fun x hx => ?_
  rcases List.mem_or_eq_of_mem_set hx with h1 | h1
  · exact List.all_eq_true.1 hg x h1
  · rw [h1]; exact hb

theorem trim_of {len : Nat} {X js : AHeap} {v : AV} {ws : List Nat} (hX : X.length = len) (hv : v.lt len = true) (hw : ∀ b ∈ ws, ∃ x : ABlk, X[b]? = some x ∧ x.c.lt len = true) (hg : X.all (oldIn len) = true) :
    trimR len (v, X ++ js, ws) = (v, X, ws) := by
  have ht : (X ++ js).take len = X := by rw [← hX]; simp
  unfold trimR
  rw [if_pos]
  · simp only [ht]
  · simp only [hv, Bool.true_and, ht, hg, Bool.and_true, List.all_eq_true]
    intro b hb
    obtain ⟨x, h1, h2⟩ := hw b hb
    have hl : b < X.length := (List.getElem?_eq_some_iff.1 h1).1
    rw [List.getElem?_append_left hl, h1]
    exact h2

section
variable {C : Cfg}
/-- A function that leaves the heap alone. -/
theorem W_quiet {f : Nat} {m : MFunc} {args : List AV} {h js : AHeap} {v : AV} (hp : C.prim f args h = none) (hm : C.mp f = some m) (h0 : AV.lts 0 args = false) (ht : m.trim = true) (hv : v.lt h.length = true) (hg : Good h)
    (e : xbody (W C) m args h = some (v, h ++ js, [])) : W C f args h = some (v, h, []) := by
  rw [W_body hp hm h0 e, ht, if_pos rfl, trim_of rfl hv (by simp) hg]

theorem W_quiet0 {f : Nat} {m : MFunc} {args : List AV} {h : AHeap} {v : AV} (hp : C.prim f args h = none) (hm : C.mp f = some m) (h0 : AV.lts 0 args = false) (ht : m.trim = true) (hv : v.lt h.length = true) (hg : Good h)
    (e : xbody (W C) m args h = some (v, h, [])) : W C f args h = some (v, h, []) :=
  W_quiet (js := []) hp hm h0 ht hv hg (by rw [e, List.append_nil])

/-- A function that changes blocks. -/
theorem W_sets {f : Nat} {m : MFunc} {args : List AV} {h X js : AHeap} {v : AV} {ws : List Nat} (hp : C.prim f args h = none) (hm : C.mp f = some m) (h0 : AV.lts 0 args = false) (ht : m.trim = true) (hv : v.lt h.length = true)
    (hX : X.length = h.length) (hg : Good X) (hw : ∀ b ∈ ws, ∃ x : ABlk, X[b]? = some x ∧ x.c.lt h.length = true)
    (e : xbody (W C) m args h = some (v, X ++ js, ws)) : W C f args h = some (v, X, ws) := by
  rw [W_body hp hm h0 e, ht, if_pos rfl, trim_of hX hv hw (by unfold Good at hg; rwa [hX] at hg)]

/-- A function that changes one block. -/
theorem W_set {f : Nat} {m : MFunc} {args : List AV} {h js : AHeap} {v : AV} {p : Nat} {b : ABlk} (hp : C.prim f args h = none) (hm : C.mp f = some m) (h0 : AV.lts 0 args = false) (ht : m.trim = true) (hv : v.lt h.length = true) (hg : Good h)
    (hl : p < h.length) (hb : oldIn h.length b = true) (hc : b.c.lt h.length = true)
    (e : xbody (W C) m args h = some (v, h.set p b ++ js, [p])) : W C f args h = some (v, h.set p b, [p]) := by
  rw [W_body hp hm h0 e, ht, if_pos rfl, trim_of (by simp) hv ?_ (by have := hg.set (p := p) hb; unfold Good at this; rwa [List.length_set] at this)]
  intro q hq
  simp only [List.mem_singleton] at hq
  subst hq
  exact ⟨b, by rw [List.getElem?_set_self hl], hc⟩

theorem W_set0 {f : Nat} {m : MFunc} {args : List AV} {h : AHeap} {v : AV} {p : Nat} {b : ABlk} (hp : C.prim f args h = none) (hm : C.mp f = some m) (h0 : AV.lts 0 args = false) (ht : m.trim = true) (hv : v.lt h.length = true) (hg : Good h)
    (hl : p < h.length) (hb : oldIn h.length b = true) (hc : b.c.lt h.length = true)
    (e : xbody (W C) m args h = some (v, h.set p b, [p])) : W C f args h = some (v, h.set p b, [p]) :=
  W_set (js := []) hp hm h0 ht hv hg hl hb hc (by rw [e, List.append_nil])
end

/-- A loop, by what holds at its head (of what is kept). -/
theorem loop_rule {s : Step} {keep : List Nat} {Q : AOut → Prop} (I : Nat → Acts → AHeap → List Nat → Prop)
    (hstep : ∀ k a h ws, I k a h ws → ∃ o, s a h ws = some o ∧ ((∃ a' h' ws' k', o = (.normal, a', h', ws') ∧ k' < k ∧ I k' (keepA keep a') h' ws') ∨ (o.1 ≠ .normal ∧ Q o)))
    (k : Nat) (a : Acts) (h : AHeap) (ws : List Nat) (hI : I k (keepA keep a) h ws) : ∃ o, xiter s keep a h ws = some o ∧ Q o :=
  xiter_rule (fun k a h ws => I k (keepA keep a) h ws) (fun k a h ws hI => hstep k _ h ws hI) k a h ws hI

/-- It answers, and what it answers fits. -/
def Wp {α : Type} (o : Option α) (Q : α → Prop) : Prop := ∃ r, o = some r ∧ Q r
theorem wp_some {α : Type} {r : α} {Q : α → Prop} (h : Q r) : Wp (some r) Q := ⟨r, rfl, h⟩
theorem Wp.mono {α : Type} {o : Option α} {Q Q' : α → Prop} (h : Wp o Q) (hq : ∀ r, Q r → Q' r) : Wp o Q' := by
  obtain ⟨r, e, q⟩ := h; exact ⟨r, e, hq r q⟩
theorem wp_kSeq {call base y} {x : Option AOut} {Q} (h : Wp x fun o => Wp (kSeq call base y (some o)) Q) : Wp (kSeq call base y x) Q := by
  obtain ⟨o, rfl, h⟩ := h; exact h
theorem wp_kBlock {id keep} {x : Option AOut} {Q} (h : Wp x fun o => Wp (kBlock id keep (some o)) Q) : Wp (kBlock id keep x) Q := by
  obtain ⟨o, rfl, h⟩ := h; exact h
theorem wp_kRes {rs} {x : Option AOut} {Q} (h : Wp x fun o => Wp (kRes rs (some o)) Q) : Wp (kRes rs x) Q := by
  obtain ⟨o, rfl, h⟩ := h; exact h
def LoopPost (keep : List Nat) (I : Nat → Acts → AHeap → List Nat → Prop) (Q : AOut → Prop) (k : Nat) (o : AOut) : Prop :=
  (∃ a' h' ws' k', o = (.normal, a', h', ws') ∧ k' < k ∧ I k' (keepA keep a') h' ws') ∨ (o.1 ≠ .normal ∧ Q o)
theorem loop_next {keep I Q k a h ws} (k' : Nat) (hk : k' < k) (hI : I k' (keepA keep a) h ws) : LoopPost keep I Q k (.normal, a, h, ws) := Or.inl ⟨a, h, ws, k', rfl, hk, hI⟩
theorem loop_exit {keep I Q k i a h ws} (hq : Q (.exit i, a, h, ws)) : LoopPost keep I Q k (.exit i, a, h, ws) := Or.inr ⟨(fun h => by cases h), hq⟩
theorem loop_ret {keep I Q k a h ws} (hq : Q (.ret, a, h, ws)) : LoopPost keep I Q k (.ret, a, h, ws) := Or.inr ⟨(fun h => by cases h), hq⟩
theorem wp_loop {s : Step} {keep : List Nat} {Q : AOut → Prop} {a : Acts} {h : AHeap} {ws : List Nat} (I : Nat → Acts → AHeap → List Nat → Prop) (k : Nat) (hI : I k (keepA keep a) h ws)
    (hstep : ∀ k a h ws, I k a h ws → Wp (s a h ws) (LoopPost keep I Q k)) : Wp (xiter s keep a h ws) Q :=
  loop_rule I hstep k a h ws hI

theorem wp_some_eq {α : Type} (r : α) (Q : α → Prop) : Wp (some r) Q = Q r := by
  apply propext; constructor
  · rintro ⟨_, h, q⟩; cases h; exact q
  · exact wp_some
theorem loop_exit_eq (keep I Q k i a h ws) : LoopPost keep I Q k (.exit i, a, h, ws) = Q (.exit i, a, h, ws) := by
  apply propext; constructor
  · rintro (⟨_, _, _, _, h, _⟩ | h)
    · cases h
    · exact h.2
  · exact loop_exit
theorem loop_goto {keep I Q k l a h ws} (hq : Q (.goto l, a, h, ws)) : LoopPost keep I Q k (.goto l, a, h, ws) := Or.inr ⟨(fun h => by cases h), hq⟩
theorem loop_goto_eq (keep I Q k l a h ws) : LoopPost keep I Q k (.goto l, a, h, ws) = Q (.goto l, a, h, ws) := by
  apply propext; constructor
  · rintro (⟨_, _, _, _, h, _⟩ | h)
    · cases h
    · exact h.2
  · exact loop_goto
theorem loop_ret_eq (keep I Q k a h ws) : LoopPost keep I Q k (.ret, a, h, ws) = Q (.ret, a, h, ws) := by
  apply propext; constructor
  · rintro (⟨_, _, _, _, h, _⟩ | h)
    · cases h
    · exact h.2
  · exact loop_ret

theorem trimR_fst (n : Nat) (r : AV × AHeap × List Nat) : (trimR n r).1 = r.1 := by unfold trimR; split <;> rfl
/-- A law: it answers true (where it is handed no address: on the globals' heap too). -/
theorem W_law {C : Cfg} {f : Nat} {m : MFunc} {args : List AV} {h : AHeap} (hp : ∀ h, C.prim f args h = none) (hm : C.mp f = some m)
    (e : Wp (xbody (W C) m args h) fun r => r.1 = .bool true) (e0 : AV.lts 0 args = true → Wp (xbody (W C) m args C.gl) fun r => r.1 = .bool true) : ∃ h' ws, W C f args h = some (.bool true, h', ws) := by
  cases h0 : AV.lts 0 args with
  | true =>
    obtain ⟨⟨v, h', ws⟩, e, rfl⟩ := e0 h0
    exact ⟨_, _, W_pure hp hm h0 rfl e h⟩
  | false =>
    obtain ⟨⟨v, h', ws⟩, e, rfl⟩ := e
    have := W_body (hp h) hm h0 e
    cases ht : m.trim with
    | false => rw [ht] at this; exact ⟨_, _, this⟩
    | true =>
      rw [ht, if_pos rfl] at this
      have e1 := trimR_fst h.length (.bool true, h', ws)
      generalize trimR h.length (.bool true, h', ws) = r at this e1
      obtain ⟨v, h2, ws2⟩ := r
      simp only at e1
      subst e1
      exact ⟨h2, ws2, this⟩

def noAny : Option AV → Option AV
  | some .any => none
  | r => r
theorem aeval_t (a i) : aeval a (.t i) = noAny (look a i) := by unfold noAny; rw [aeval]; rfl
theorem aeval_c (a v) : aeval a (.c v) = some v := rfl
theorem aeval_f (a f) : aeval a (.f f) = some (.fn f []) := rfl
theorem aeval_g (a i) : aeval a (.g i) = some (.ptr i 0) := rfl
theorem na_none : noAny none = none := rfl
theorem na_int (k n) : noAny (some (.int k n)) = some (.int k n) := rfl
theorem na_bool (b) : noAny (some (.bool b)) = some (.bool b) := rfl
theorem na_str (b) : noAny (some (.str b)) = some (.str b) := rfl
theorem na_nilp : noAny (some .nilp) = some .nilp := rfl
theorem na_ptr (b o) : noAny (some (.ptr b o)) = some (.ptr b o) := rfl
theorem na_nils : noAny (some .nils) = some .nils := rfl
theorem na_sl (b o n c) : noAny (some (.sl b o n c)) = some (.sl b o n c) := rfl
theorem na_gsl (b o n e m) : noAny (some (.gsl b o n e m)) = some (.gsl b o n e m) := rfl
theorem na_nilf : noAny (some .nilf) = some .nilf := rfl
theorem na_fn (f c) : noAny (some (.fn f c)) = some (.fn f c) := rfl
theorem na_agg (c) : noAny (some (.agg c)) = some (.agg c) := rfl
theorem na_tup (c) : noAny (some (.tup c)) = some (.tup c) := rfl
theorem slen_nils : slen .nils = some 0 := rfl
theorem slen_sl (b o n c) : slen (.sl b o n c) = some n := rfl
theorem slen_gsl (b o n e m) : slen (.gsl b o n e m) = some n := rfl
theorem na_slen {v : AV} {n : Nat} (h : slen v = some n) : noAny (some v) = some v := by cases v <;> first | rfl | cases h

theorem lt_self (n : Nat) : (n < n) = False := by simp
theorem lt_add (n k : Nat) : (n + k < n) = False := by simp

theorem ite_T {α : Type} (a b : α) : (if True then a else b) = a := if_pos trivial
theorem ite_F {α : Type} (a b : α) : (if False then a else b) = b := if_neg (fun h => h)
theorem dec_T : decide True = true := rfl
theorem dec_F : decide False = false := rfl
theorem beqT (b : Bool) : (b == true) = b := by cases b <;> rfl
theorem beqF (b : Bool) : (b == false) = !b := by cases b <;> rfl
theorem beq_int (a b : Int) : (a == b) = decide (a = b) := by
  by_cases h : a = b
  · simp [h]
  · simp [h]
theorem bne_bool {α : Type} [BEq α] (a b : α) : (a != b) = !(a == b) := rfl
theorem mem_nil_F (a : Nat) : (a ∈ ([] : List Nat)) = False := by simp
theorem eq_true_T : (true = true) = True := by simp
theorem eq_FT : (false = true) = False := by simp
theorem eq_TF : (true = false) = False := by simp
theorem some_FT : (some false = some true) = False := by simp
theorem none_T : (none = some true) = False := by simp
theorem ic_int (k n) : (AV.int k n).isCell = true := rfl
theorem ic_bool (b) : (AV.bool b).isCell = true := rfl
theorem ic_ptr (b o) : (AV.ptr b o).isCell = true := rfl
theorem ic_nilp : AV.nilp.isCell = true := rfl
theorem ic_nils : AV.nils.isCell = true := rfl
theorem ic_nilf : AV.nilf.isCell = true := rfl
theorem ic_sl (b o n c) : (AV.sl b o n c).isCell = true := rfl
theorem ic_gsl (b o n c m) : (AV.gsl b o n c m).isCell = true := rfl
theorem ic_fn (b o) : (AV.fn b o).isCell = true := rfl
theorem ic_str (s) : (AV.str s).isCell = true := rfl
theorem not_F : (¬ False) = True := by simp
theorem not_T : (¬ True) = False := by simp
theorem nn_nat (n : Nat) : (0 ≤ (n : Int)) = True := by simp
theorem wr_i64 (n : Int) (h : -9223372036854775808 ≤ n) (h' : n ≤ 9223372036854775807) : IntKind.i64.wrap n = n := IntWalk.i64_in n ⟨h, h'⟩
theorem wr_u64 (n : Int) (h : 0 ≤ n) (h' : n ≤ 18446744073709551615) : IntKind.u64.wrap n = n := IntWalk.u64_in n ⟨h, h'⟩
theorem wr_u32 (n : Int) (h : 0 ≤ n) (h' : n ≤ 4294967295) : IntKind.u32.wrap n = n := IntWalk.u32_in n ⟨h, h'⟩
theorem wr_i32 (n : Int) (h : -2147483648 ≤ n) (h' : n ≤ 2147483647) : IntKind.i32.wrap n = n := IntWalk.i32_in n ⟨h, h'⟩
theorem wr_u16 (n : Int) (h : 0 ≤ n) (h' : n ≤ 65535) : IntKind.u16.wrap n = n := IntWalk.u16_in n ⟨h, h'⟩
theorem wr_u8 (n : Int) (h : 0 ≤ n) (h' : n ≤ 255) : IntKind.u8.wrap n = n := IntWalk.u8_in n ⟨h, h'⟩
theorem wr_i8 (n : Int) (h : -128 ≤ n) (h' : n ≤ 127) : IntKind.i8.wrap n = n := IntWalk.i8_in n ⟨h, h'⟩
theorem asN_eq (k : IntKind) (n : Int) : asN (.int k n) = if 0 ≤ n then some n.toNat else none := rfl
def notOld (b : ABlk) : Bool := match b.st with | .old _ => false | _ => true
theorem oldIn_of {n : Nat} {b : ABlk} (h : notOld b = true) : oldIn n b = true := by
  unfold notOld at h; unfold oldIn
  split at h
  · cases h
  · rename_i hh
    split
    · rename_i t ht; exact absurd ht (hh t)
    · rfl
theorem good_set {h : AHeap} {p : Nat} {b : ABlk} (hg : Good h) (hb : notOld b = true) : Good (h.set p b) := hg.set (oldIn_of hb)
theorem good_app {h js : AHeap} (hg : Good h) (hb : js.all notOld = true) : Good (h ++ js) := hg.append (List.all_eq_true.2 fun x hx => oldIn_of (List.all_eq_true.1 hb x hx))
theorem notOld_tip (o c) : notOld ⟨.tip o, c⟩ = true := rfl
theorem notOld_ext (c) : notOld ⟨.ext, c⟩ = true := rfl
theorem beq_nat (a b : Nat) : (a == b) = decide (a = b) := by
  by_cases h : a = b
  · simp [h]
  · simp [h]
theorem le_sadd (n k : Nat) (h : 0 < k) : (n + k ≤ n) = False := by
  apply propext; constructor
  · intro; omega
  · exact False.elim
theorem lt_sadd (n k : Nat) (h : 0 < k) : (n < n + k) = True := by
  apply propext; constructor
  · intro; trivial
  · intro; omega
theorem ge_addF {n p : Nat} (k : Nat) (h : p < n) : (n + k ≤ p) = False := by
  apply propext; constructor
  · intro; omega
  · exact False.elim
theorem Tbeq (b : Bool) : (true == b) = b := by cases b <;> rfl
theorem Fbeq (b : Bool) : (false == b) = !b := by cases b <;> rfl

section
variable {C : Cfg}
/-- What the kernel works out. -/
def pureOf (C : Cfg) (n f : Nat) (args : List AV) : Option AV :=
  match C.prim f args C.gl with
  | some _ => none
  | none => match C.mp f with
    | none => none
    | some m => if AV.lts 0 args then (abody (acall C n) n m args C.gl).bind fun r => if AV.lt 0 r.1 then some r.1 else none else none
theorem W_known {n f : Nat} {args : List AV} {v : AV} (hp : ∀ h, C.prim f args h = none) (e : pureOf C n f args = some v) (h : AHeap) : W C f args h = some (v, h, []) := by
  unfold pureOf at e
  rw [hp] at e
  simp only at e
  cases hm : C.mp f with
  | none => rw [hm] at e; cases e
  | some m =>
    rw [hm] at e
    simp only at e
    split at e
    · rename_i h0
      simp only [Option.bind_eq_some_iff] at e
      obtain ⟨⟨v', h', ws⟩, h1, h2⟩ := e
      split at h2
      · rename_i hv
        cases h2
        refine W_of (n := n + 1) ?_
        rw [acall, hp h, hm]
        simp only [h0, if_true, h1, Option.bind_some, hv]
      · cases h2
    · cases e
end

attribute [push_cast] loop_goto_eq w_goto w_scope w_kSeqG w_kBlockG xg_normal xg_exit xg_ret xg_goto wp_some_eq loop_exit_eq loop_ret_eq w_ops_nil w_ops_cons w_kOps w_oper w_operG w_regd1 good_set good_app notOld_tip notOld_ext w_gOperT w_gOperF w_skip w_exit w_ret w_reg w_regd0 w_seq w_cond w_block w_body w_kReg w_kSeqN w_kSeqE w_kSeqR w_kCondT w_kCondF w_kBlockN w_kBlockE w_kBlockR w_kResN w_kResR
  w_opsR_nil w_opsR_cons w_kOpsR w_kRegd apartR recOf readB faceOk
  aop aeval_t aeval_c aeval_f aeval_g na_none na_int na_bool na_str na_nilp na_ptr na_nils na_sl na_gsl na_nilf na_fn na_agg na_tup aevals look putA guardOf wadd_nil wadd_cons argsA ares aresL ares1 cellsAt loadA loadN ACells.get? ACells.set? ACells.len ACells.list ACells.sub ACells.app abin abinInt abinStr aeq aun nilOf isSlice aminmax apart partsOf fillA fillC spliceL repl mkCells toInts optN bounds slen_nils slen_sl slen_gsl storeL change AV.cells ic_int ic_bool ic_ptr ic_nilp ic_nils ic_nilf ic_sl ic_gsl ic_fn ic_str some_FT none_T keepA lt_self lt_add ite_T ite_F dec_T dec_F asN_eq nn_nat wr_i64 wr_u64 wr_u32 wr_i32 wr_u16 wr_u8 wr_i8 Int.toNat_natCast Int.zero_add Int.add_zero Nat.min_eq_left Nat.min_eq_right IntKind.bits beq_int beq_nat le_sadd lt_sadd ge_addF bne_bool mem_nil_F eq_true_T eq_FT eq_TF not_F not_T eq_self gt_iff_lt ge_iff_le beqT beqF Tbeq Fbeq
  Option.bind_some Option.bind_none Option.map_some Option.map_none List.map_cons List.map_nil List.filterMap_cons List.filterMap_nil List.getElem?_cons_succ List.getElem?_cons_zero List.getElem?_nil List.length_cons List.length_nil List.length_set List.length_append List.cons_append List.nil_append List.append_assoc List.append_nil
  List.set_cons_zero List.set_cons_succ List.set_nil List.set_set List.drop_zero List.drop_succ_cons List.take_succ_cons List.take_zero List.take_nil List.replicate_succ List.replicate_zero List.flatten_cons List.flatten_nil List.mem_cons List.not_mem_nil or_false false_or or_true true_or true_and and_true false_and and_false not_true_eq_false not_false_eq_true ne_eq
  List.getElem?_append_left List.getElem?_append_right List.set_append_left List.set_append_right List.getElem?_set_self List.getElem?_set_ne Nat.le_refl Nat.le_add_right Nat.sub_self Nat.add_sub_cancel_left Nat.zero_add Nat.add_zero Nat.zero_le Nat.zero_mul Nat.mul_zero Nat.sub_zero Nat.mul_one Nat.one_mul List.getElem?_map List.length_map Nat.lt_irrefl Int.lt_irrefl Nat.add_assoc BEq.rfl Bool.not_false Bool.not_true Bool.false_eq_true Bool.true_and Bool.and_true Bool.false_and Bool.and_false Bool.true_or Bool.or_true Bool.false_or Bool.or_false Bool.not_not
  List.all_cons List.all_nil List.all_append List.contains_nil List.contains_cons List.elem_nil List.elem_cons Option.getD_some Option.getD_none
end Go.Proofs.YtdpbbagllhfjbaaDoorW.AI
/-! Arguments of whatever plain types, opened: as values and blocks of the interpreter. -/
namespace Go.Proofs.YtdpbbagllhfjbaaDoorW.AI
open Go Go.ChangeShapes Go.WideShapes Go.RowKit
set_option linter.unusedVariables false
set_option linter.unusedSimpArgs false

inductive CK where
  | i (k : IntKind)
  | b
  | s
  | sl (l : List CK)
  deriving Inhabited

mutual
def Fits (w : World) : CK → Value → Prop
  | .i k, v => ∃ n, v = .int k n ∧ k.min ≤ n ∧ n ≤ k.max
  | .b, v => ∃ x, v = .bool x
  | .s, v => ∃ x, v = .string x ∧ x.size ≤ maxLen
  | .sl l, v => v = .slice none 0 0 ∨ ∃ a len cap, v = .slice (some a) len cap ∧ len ≤ cap ∧ cap ≤ maxLen ∧ (cap ≠ 0 → a.spot = none) ∧
      ∀ i, i < len → ∃ us : List Value, us.length = l.length ∧ (∀ j, j < l.length → w.cell? (a.add (i * l.length + j)) = us[j]?) ∧ FitsL w l us
def FitsL (w : World) : List CK → List Value → Prop
  | [], us => us = []
  | k :: ks, us => ∃ v vs, us = v :: vs ∧ Fits w k v ∧ FitsL w ks vs
end

theorem FitsL_append {w : World} : ∀ {ks ls : List CK} {us vs : List Value}, FitsL w ks us → FitsL w ls vs → FitsL w (ks ++ ls) (us ++ vs)
  | [], ls, us, vs, h, h' => by simp only [FitsL] at h; subst h; simpa using h'
  | k :: ks, ls, us, vs, h, h' => by
    simp only [FitsL] at h
    obtain ⟨v, us', rfl, h1, h2⟩ := h
    simp only [List.cons_append, FitsL]
    exact ⟨v, us' ++ vs, rfl, h1, FitsL_append h2 h'⟩

def ckFields (f : TypeId → Option (List CK)) (P : Program) : Nat → List Field → Option (List CK)
  | _, [] => some []
  | off, fd :: fs => if fd.offset = off then (f fd.type).bind fun l => if P.cellsOf fd.type = l.length then (ckFields f P (off + l.length) fs).map (l ++ ·) else none else none

def ckOf (P : Program) : Nat → TypeId → Option (List CK)
  | 0, _ => none
  | n + 1, t => match P.underlying t with
    | some .bool => some [.b]
    | some (.int k) => some [.i k]
    | some .string => some [.s]
    | some (.slice e) => (ckOf P n e).bind fun l => if P.cellsOf e = l.length ∧ l ≠ [] then some [.sl l] else none
    | some (.struct fs) => (ckFields (ckOf P n) P 0 fs.toList).bind fun l => if P.cellsOf t = l.length then some l else none
    | some (.array m e) => (ckOf P n e).bind fun l => if P.cellsOf e = l.length ∧ P.cellsOf t = m * l.length then some (List.replicate m l).flatten else none
    | _ => none

section
variable {H : Type} {enc : TypeId × Value → H} {P : Program} {w : World} {held : Bool}

theorem fields_fit {f : TypeId → Option (List CK)} {cs : List Value} : ∀ {fs : List Field} {off : Nat} {ks : List CK}, ckFields f P off fs = some ks → cs.length = off + ks.length →
    (∀ fd ∈ fs, ∀ l, f fd.type = some l → FitsL w l ((cs.drop fd.offset).take (P.cellsOf fd.type))) → FitsL w ks (cs.drop off)
  | [], off, ks, h, hl, hf => by
    simp only [ckFields, Option.some.injEq] at h; subst h
    have : cs.drop off = [] := List.drop_eq_nil_of_le (by simp at hl; omega)
    rw [this]; rfl
  | fd :: fs, off, ks, h, hl, hf => by
    simp only [ckFields] at h
    split at h
    case isFalse => cases h
    rename_i ho
    simp only [Option.bind_eq_some_iff] at h
    obtain ⟨l, h1, h2⟩ := h
    split at h2
    case isFalse => cases h2
    rename_i hc
    simp only [Option.map_eq_some_iff] at h2
    obtain ⟨ks', h3, rfl⟩ := h2
    have a := hf fd List.mem_cons_self l h1
    rw [ho, hc] at a
    have b := fields_fit h3 (by simp at hl; omega) (fun fd' h' => hf fd' (List.mem_cons_of_mem _ h'))
    have e : cs.drop off = (cs.drop off).take l.length ++ cs.drop (off + l.length) := by
      rw [← List.drop_drop, List.take_append_drop]
    rw [e]
    exact FitsL_append a b

theorem rep_fit {l : List CK} : ∀ {m : Nat} {cs : List Value}, cs.length = m * l.length → (∀ i, i < m → FitsL w l ((cs.drop (i * l.length)).take l.length)) → FitsL w (List.replicate m l).flatten cs
  | 0, cs, hl, hf => by
    have : cs = [] := List.eq_nil_of_length_eq_zero (by omega)
    subst this; rfl
  | m + 1, cs, hl, hf => by
    rw [List.replicate_succ, List.flatten_cons, ← List.take_append_drop l.length cs]
    have h0 := hf 0 (by omega)
    simp only [Nat.zero_mul, List.drop_zero] at h0
    refine FitsL_append h0 (rep_fit (by rw [List.length_drop, hl, Nat.add_mul]; omega) fun i hi => ?_)
    have := hf (i + 1) (by omega)
    rw [List.drop_drop]
    have e : l.length + i * l.length = (i + 1) * l.length := by rw [Nat.add_mul]; omega
    rw [e]; exact this

theorem trod_fit : ∀ (n fuel : Nat) (t : TypeId) (ks : List CK) (cs : List Value) (x : DataW H × List MemPlace), ckOf P n t = some ks → DataW.trod enc P w 0 (fun _ => true) held fuel t cs = some x → FitsL w ks cs
  | 0, _, _, _, _, _, h, _ => by cases h
  | n + 1, fuel, t, ks, cs, x, h, ht => by
    rw [ckOf] at h
    split at h
    · rename_i hu
      cases h
      obtain ⟨b, rfl, _⟩ := DataW.trod_bool hu ht
      exact ⟨_, _, rfl, ⟨b, rfl⟩, rfl⟩
    · rename_i k hu
      cases h
      obtain ⟨m, rfl, _, hw⟩ := DataW.trod_int hu ht
      simp only [Lit.wf, Bool.and_eq_true, decide_eq_true_eq] at hw
      exact ⟨_, _, rfl, ⟨m, rfl, hw.1, hw.2⟩, rfl⟩
    · rename_i hu
      cases h
      obtain ⟨s, rfl, _, hs⟩ := DataW.trod_string hu ht
      exact ⟨_, _, rfl, ⟨s, rfl, hs⟩, rfl⟩
    · rename_i e hu
      simp only [Option.bind_eq_some_iff] at h
      obtain ⟨l, h1, h2⟩ := h
      split at h2
      case isFalse => cases h2
      rename_i hc
      obtain ⟨hc, hne⟩ := hc
      cases h2
      rcases DataW.trod_slice hu ht with ⟨rfl, _⟩ | ⟨a, len, cap, elems, rest, m, rfl, rfl, _, _, hlc, hcm, hel, hat, hsp, _⟩
      · exact ⟨_, _, rfl, Or.inl rfl, rfl⟩
      · obtain ⟨hrl, hrest⟩ := hsp rfl
        have elem : ∀ i, (w.cells? 0 (a.add (i * P.cellsOf e)) (P.cellsOf e)).bind (DataW.trod enc P w 0 (fun _ => true) held m e) ≠ none →
            ∃ us : List Value, us.length = l.length ∧ (∀ j, j < l.length → w.cell? ((a.add (i * l.length)).add j) = us[j]?) ∧ FitsL w l us := by
          intro i hi
          cases hcs : w.cells? 0 (a.add (i * P.cellsOf e)) (P.cellsOf e) with
          | none => rw [hcs] at hi; exact absurd rfl hi
          | some us =>
            rw [hcs, Option.bind_some] at hi
            obtain ⟨y, hy⟩ := Option.ne_none_iff_exists'.1 hi
            obtain ⟨_, hlen, hcell⟩ := World.cells?_some hcs
            rw [hc] at hlen hcell
            exact ⟨us, hlen, fun j hj => hcell j hj, trod_fit n m e l us y h1 hy⟩
        have add_add : ∀ (i j : Nat), (a.add i).add j = a.add (i + j) := by
          intro i j
          unfold Addr.add
          by_cases hi : i = 0
          · subst hi; simp
          · by_cases hj : j = 0
            · subst hj; simp [hi]
            · simp [hi, hj, Nat.add_assoc]
        refine ⟨_, _, rfl, Or.inr ⟨a, len, cap, rfl, hlc, hcm, fun hcap => ?_, fun i hi => ?_⟩, rfl⟩
        · have : ∃ us : List Value, us.length = l.length ∧ (∀ j, j < l.length → w.cell? ((a.add (0 * l.length)).add j) = us[j]?) ∧ FitsL w l us := by
            refine elem 0 ?_
            by_cases h0 : 0 < len
            · rw [hat 0 h0, List.getElem?_eq_getElem (by omega)]; simp
            · have hl0 : len = 0 := by omega
              have := hrest 0 (by omega)
              rw [hl0, Nat.zero_add] at this
              rw [this, List.getElem?_eq_getElem (by omega)]; simp
          obtain ⟨us, hlen, hcell, _⟩ := this
          have hl0 : 0 < l.length := List.length_pos_iff.2 hne
          have := hcell 0 hl0
          rw [List.getElem?_eq_getElem (by omega)] at this
          have e : (a.add (0 * l.length)).add 0 = a := by simp [Addr.add]
          rw [e] at this
          unfold World.cell? at this
          split at this
          · split at this
            · cases this
            · rename_i hs; simpa using hs
          · cases this
        · obtain ⟨us, g1, g2, g3⟩ := elem i (by rw [hat i hi, List.getElem?_eq_getElem (by omega)]; simp)
          exact ⟨us, g1, fun j hj => by rw [← add_add]; exact g2 j hj, g3⟩
    · rename_i fs hu
      simp only [Option.bind_eq_some_iff] at h
      obtain ⟨l, h1, h2⟩ := h
      split at h2
      case isFalse => cases h2
      rename_i hc
      cases h2
      obtain ⟨xs, m, rfl, _, hl, hxs, hf⟩ := DataW.trod_struct hu ht
      have := fields_fit (w := w) (cs := cs) h1 (by omega) fun fd hfd l hl => by
        obtain ⟨i, hi⟩ := List.getElem?_of_mem hfd
        have hi' : fs[i]? = some fd := by simpa using hi
        have h3 := hf i fd hi'
        have hlt : i < fs.size := (Array.getElem?_eq_some_iff.1 hi').1
        rw [List.getElem?_eq_getElem (by omega)] at h3
        exact trod_fit n m fd.type l _ _ hl h3
      simpa using this
    · rename_i m' e hu
      simp only [Option.bind_eq_some_iff] at h
      obtain ⟨l, h1, h2⟩ := h
      split at h2
      case isFalse => cases h2
      rename_i hc
      cases h2
      obtain ⟨xs, m, rfl, _, hl, hxs, hf⟩ := DataW.trod_array hu ht
      refine rep_fit (by rw [hl, hc.2]) fun i hi => ?_
      have h3 := hf i hi
      rw [List.getElem?_eq_getElem (by omega), hc.1] at h3
      exact trod_fit n m e l _ _ h1 h3
    · cases h
end

-- ------------------------------------------------------------------ as values of the interpreter
def intK : List CK → Option IntKind
  | .i k :: rest => if rest.all (fun c => match c with | .i k' => decide (k' = k) | _ => false) then some k else none
  | _ => none
def toI : AV → Int
  | .int _ n => n
  | _ => 0
def mkC (l : List CK) (xs : List AV) : ACells :=
  match intK l with
  | some k => .ints k (xs.map toI)
  | none => .vals xs

mutual
def Ty (h : AHeap) : CK → AV → Prop
  | .i k, v => ∃ n, v = .int k n ∧ k.min ≤ n ∧ n ≤ k.max
  | .b, v => ∃ x, v = .bool x
  | .s, v => ∃ x, v = .str x ∧ x.size ≤ maxLen
  | .sl l, v => v = .nils ∨ ∃ (b n c : Nat) (es : List (List AV)), v = .sl b 0 n c ∧ n ≤ c ∧ c ≤ maxLen ∧ es.length = n ∧ (∀ e, e ∈ es → TyL h l e) ∧ h[b]? = some ⟨.ext, mkC l es.flatten⟩
def TyL (h : AHeap) : List CK → List AV → Prop
  | [], us => us = []
  | k :: ks, us => ∃ v vs, us = v :: vs ∧ Ty h k v ∧ TyL h ks vs
end

mutual
theorem Ty_mono {h js : AHeap} : ∀ (k : CK) (v : AV), Ty h k v → Ty (h ++ js) k v
  | .i k, v, hv => by simpa only [Ty] using hv
  | .b, v, hv => by simpa only [Ty] using hv
  | .s, v, hv => by simpa only [Ty] using hv
  | .sl l, v, hv => by
    simp only [Ty] at hv ⊢
    rcases hv with rfl | ⟨b, n, c, es, rfl, h1, h2, h3, h4, h5⟩
    · exact Or.inl rfl
    · exact Or.inr ⟨b, n, c, es, rfl, h1, h2, h3, fun e he => TyL_mono l e (h4 e he), by rw [List.getElem?_append_left (List.getElem?_eq_some_iff.1 h5).1]; exact h5⟩
theorem TyL_mono {h js : AHeap} : ∀ (ks : List CK) (vs : List AV), TyL h ks vs → TyL (h ++ js) ks vs
  | [], vs, hv => by simpa only [TyL] using hv
  | k :: ks, vs, hv => by
    simp only [TyL] at hv ⊢
    obtain ⟨v, vs', rfl, h1, h2⟩ := hv
    exact ⟨v, vs', rfl, Ty_mono k v h1, TyL_mono ks vs' h2⟩
end

theorem Ty_lt {h : AHeap} : ∀ {k : CK} {v : AV}, Ty h k v → v.lt h.length = true ∧ v.isCell = true
  | .i k, v, hv => by simp only [Ty] at hv; obtain ⟨n, rfl, _⟩ := hv; exact ⟨rfl, rfl⟩
  | .b, v, hv => by simp only [Ty] at hv; obtain ⟨n, rfl⟩ := hv; exact ⟨rfl, rfl⟩
  | .s, v, hv => by simp only [Ty] at hv; obtain ⟨n, rfl, _⟩ := hv; exact ⟨rfl, rfl⟩
  | .sl l, v, hv => by
    simp only [Ty] at hv
    rcases hv with rfl | ⟨b, n, c, es, rfl, h1, h2, h3, h4, h5⟩
    · exact ⟨rfl, rfl⟩
    · exact ⟨by simp only [AV.lt, decide_eq_true_eq]; exact (List.getElem?_eq_some_iff.1 h5).1, rfl⟩

theorem TyL_lt {h : AHeap} : ∀ {ks : List CK} {vs : List AV}, TyL h ks vs → AV.lts h.length vs = true ∧ vs.all AV.isCell = true ∧ vs.length = ks.length
  | [], vs, hv => by simp only [TyL] at hv; subst hv; exact ⟨rfl, rfl, rfl⟩
  | k :: ks, vs, hv => by
    simp only [TyL] at hv
    obtain ⟨v, vs', rfl, h1, h2⟩ := hv
    obtain ⟨a, b⟩ := Ty_lt h1
    obtain ⟨c, d, e⟩ := TyL_lt h2
    simp [AV.lts, a, b, c, d, e]

theorem TyL_int {h : AHeap} {k : IntKind} : ∀ {ks : List CK} {vs : List AV}, (ks.all fun c => match c with | .i k' => decide (k' = k) | _ => false) = true → TyL h ks vs → vs = vs.map (fun v => AV.int k (toI v))
  | [], vs, _, hv => by simp only [TyL] at hv; subst hv; rfl
  | c :: ks, vs, ha, hv => by
    simp only [TyL] at hv
    obtain ⟨v, vs', rfl, h1, h2⟩ := hv
    simp only [List.all_cons, Bool.and_eq_true] at ha
    obtain ⟨a1, a2⟩ := ha
    have ih := TyL_int a2 h2
    split at a1
    · rename_i k'
      have : k' = k := by simpa using a1
      subst this
      simp only [Ty] at h1
      obtain ⟨n, rfl, _⟩ := h1
      rw [List.map_cons, ← ih]; rfl
    · cases a1

theorem intK_all {l : List CK} {k : IntKind} (h : intK l = some k) : (l.all fun c => match c with | .i k' => decide (k' = k) | _ => false) = true := by
  unfold intK at h
  split at h
  · split at h
    · rename_i k' rest hr
      cases h
      simp only [List.all_cons, decide_true, Bool.true_and]
      exact hr
    · cases h
  · cases h

theorem mkC_list {h : AHeap} {l : List CK} {es : List (List AV)} (he : ∀ e ∈ es, TyL h l e) : (mkC l es.flatten).list = es.flatten := by
  unfold mkC
  split
  · rename_i k hk
    have ha := intK_all hk
    simp only [ACells.list, List.map_map]
    have : ∀ e ∈ es, e.map (AV.int k ∘ toI) = e := fun e h' => (TyL_int ha (he e h')).symm
    clear he hk ha
    induction es with
    | nil => rfl
    | cons e es ih =>
      rw [List.flatten_cons, List.map_append, this e List.mem_cons_self, ih fun e' h' => this e' (List.mem_cons_of_mem _ h')]
  · rfl

theorem flat_len {l : List CK} : ∀ {es : List (List AV)}, (∀ e ∈ es, e.length = l.length) → es.flatten.length = es.length * l.length
  | [], _ => by simp
  | e :: es, h => by
    rw [List.flatten_cons, List.length_append, h e List.mem_cons_self, flat_len fun e' h' => h e' (List.mem_cons_of_mem _ h'), List.length_cons, Nat.add_mul]; omega

/-- All blocks came in. -/
def Ext (h : AHeap) : Prop := ∀ x ∈ h, x.st = .ext ∨ x.st = .dead

structure Opened (w : World) (ρ : Env) (h : AHeap) : Prop where
  rep : Rep w.heap.size ρ h w
  ext : Ext h

/-- One more block that came in. -/
theorem Opened.add {w : World} {ρ : Env} {h : AHeap} (o : Opened w ρ h) {c : ACells} {blk base sz : Nat} (hc : c.lt h.length = true) (hle : c.len ≤ sz)
    (hz : sz ≠ 0 → ∃ arr T fz, w.heap[blk]? = some (.cells arr T fz) ∧ base + sz ≤ arr.size ∧ ∀ j v, c.get? j = some v → ∃ y, arr[base + j]? = some y ∧ R ρ v y) :
    ∃ ρ', Agree h.length ρ ρ' ∧ ρ'.blk h.length = blk ∧ ρ'.base h.length = base ∧ ρ'.sz h.length = sz ∧ Opened w ρ' (h ++ [⟨.ext, c⟩]) := by
  refine ⟨⟨fun i => if i = h.length then blk else ρ.blk i, fun i => if i = h.length then base else ρ.base i, fun i => if i = h.length then sz else ρ.sz i⟩, ?_, by simp, by simp, by simp, ?_⟩
  · intro i hi
    have : ¬ i = h.length := by omega
    simp [this]
  · have ag : Agree h.length ρ ⟨fun i => if i = h.length then blk else ρ.blk i, fun i => if i = h.length then base else ρ.base i, fun i => if i = h.length then sz else ρ.sz i⟩ := by
      intro i hi
      have : ¬ i = h.length := by omega
      simp [this]
    have get : ∀ (i : Nat) (x : ABlk), (h ++ [⟨BSt.ext, c⟩])[i]? = some x → (i < h.length ∧ h[i]? = some x) ∨ (i = h.length ∧ x = ⟨.ext, c⟩) := by
      intro i x hx
      by_cases hi : i < h.length
      · rw [List.getElem?_append_left hi] at hx; exact Or.inl ⟨hi, hx⟩
      · have hl := (List.getElem?_eq_some_iff.1 hx).1
        simp at hl
        have : i = h.length := by omega
        subst this
        simp at hx
        exact Or.inr ⟨rfl, hx.symm⟩
    have noTip : ∀ (i : Nat) (x : ABlk) (t : Bool), (h ++ [⟨BSt.ext, c⟩])[i]? = some x → x.st = .tip t → False := by
      intro i x t hx ht
      rcases get i x hx with ⟨_, h1⟩ | ⟨_, rfl⟩
      · rcases o.ext x (List.mem_of_getElem? h1) with h2 | h2 <;> rw [h2] at ht <;> cases ht
      · cases ht
    refine ⟨⟨fun i x hx hd => ?_, fun i x t hx ht => ?_, fun i x hx hd => ?_, fun i x t hx ht => (noTip i x t hx ht).elim, fun i x hx ht hsz => ?_, fun i j x y t hx _ _ ht => (noTip i x t hx ht).elim⟩, ?_⟩
    · rw [List.length_append]
      rcases get i x hx with ⟨_, h1⟩ | ⟨_, rfl⟩
      · exact ACells.lt_mono (by omega) (o.rep.wf i x h1 hd)
      · exact ACells.lt_mono (by omega) hc
    · rcases get i x hx with ⟨_, h1⟩ | ⟨_, rfl⟩
      · rcases o.ext x (List.mem_of_getElem? h1) with h2 | h2 <;> rw [h2] at ht <;> cases ht
      · cases ht
    · rcases get i x hx with ⟨hi, h1⟩ | ⟨rfl, rfl⟩
      · obtain ⟨l1, l2⟩ := o.rep.lies i x h1 hd
        obtain ⟨a1, a2, a3⟩ := ag i hi
        refine ⟨by rw [a3]; exact l1, fun hsz => ?_⟩
        rw [a3] at hsz
        obtain ⟨arr, T, fz, g1, g2, g3⟩ := l2 hsz
        refine ⟨arr, T, fz, by rw [a1]; exact g1, by rw [a2, a3]; exact g2, fun j v hv => ?_⟩
        obtain ⟨y, g4, g5⟩ := g3 j v hv
        exact ⟨y, by rw [a2]; exact g4, R_agree ag v y (ACells.get_lt (o.rep.wf i x h1 hd) hv) g5⟩
      · refine ⟨by simpa using hle, fun hsz => ?_⟩
        simp only [if_true] at hsz ⊢
        obtain ⟨arr, T, fz, g1, g2, g3⟩ := hz hsz
        refine ⟨arr, T, fz, g1, g2, fun j v hv => ?_⟩
        obtain ⟨y, g4, g5⟩ := g3 j v hv
        exact ⟨y, g4, R_agree ag v y (ACells.get_lt hc hv) g5⟩
    · rcases get i x hx with ⟨hi, h1⟩ | ⟨rfl, rfl⟩
      · obtain ⟨a1, a2, a3⟩ := ag i hi
        rw [a3] at hsz
        rw [a1]
        exact o.rep.ext i x h1 ht hsz
      · simp only [if_true] at hsz ⊢
        obtain ⟨arr, T, fz, g1, _⟩ := hz hsz
        exact (Array.getElem?_eq_some_iff.1 g1).1
    · intro x hx
      rcases List.mem_append.1 hx with h1 | h1
      · exact o.ext x h1
      · simp at h1; subst h1; exact Or.inl rfl

mutual
theorem open_ck {w : World} : ∀ (k : CK) (v : Value), Fits w k v → ∀ (ρ : Env) (h : AHeap), Opened w ρ h →
    ∃ (ρ' : Env) (js : AHeap) (av : AV), Agree h.length ρ ρ' ∧ Opened w ρ' (h ++ js) ∧ R ρ' av v ∧ Ty (h ++ js) k av
  | .i k, v, hv, ρ, h, o => by
    simp only [Fits] at hv
    obtain ⟨n, rfl, h1, h2⟩ := hv
    exact ⟨ρ, [], .int k n, Agree.refl _ _, by simpa using o, rfl, by simp only [Ty]; exact ⟨n, rfl, h1, h2⟩⟩
  | .b, v, hv, ρ, h, o => by
    simp only [Fits] at hv
    obtain ⟨n, rfl⟩ := hv
    exact ⟨ρ, [], .bool n, Agree.refl _ _, by simpa using o, rfl, by simp only [Ty]; exact ⟨n, rfl⟩⟩
  | .s, v, hv, ρ, h, o => by
    simp only [Fits] at hv
    obtain ⟨n, rfl, h1⟩ := hv
    exact ⟨ρ, [], .str n, Agree.refl _ _, by simpa using o, rfl, by simp only [Ty]; exact ⟨n, rfl, h1⟩⟩
  | .sl l, v, hv, ρ, h, o => by
    simp only [Fits] at hv
    rcases hv with rfl | ⟨a, len, cap, rfl, hlc, hcm, hsp, hel⟩
    · exact ⟨ρ, [], .nils, Agree.refl _ _, by simpa using o, rfl, by simp [Ty]⟩
    · have key : ∀ m, m ≤ len → ∃ (ρ' : Env) (js : AHeap) (es : List (List AV)), Agree h.length ρ ρ' ∧ Opened w ρ' (h ++ js) ∧ es.length = m ∧ (∀ e ∈ es, TyL (h ++ js) l e) ∧
          ∀ (i : Nat) (e : List AV), es[i]? = some e → ∃ us : List Value, us.length = l.length ∧ (∀ j, j < l.length → w.cell? (a.add (i * l.length + j)) = us[j]?) ∧ Rs ρ' e us := by
        intro m
        induction m with
        | zero => exact fun _ => ⟨ρ, [], [], Agree.refl _ _, by simpa using o, rfl, by simp, by simp⟩
        | succ m ih =>
          intro hm
          obtain ⟨ρ1, js1, es1, a1, o1, l1, t1, r1⟩ := ih (by omega)
          obtain ⟨us, u1, u2, u3⟩ := hel m (by omega)
          obtain ⟨ρ2, js2, e2, a2, o2, r2, t2⟩ := open_cks l us u3 ρ1 (h ++ js1) o1
          refine ⟨ρ2, js1 ++ js2, es1 ++ [e2], a1.trans a2 (by simp), by rw [← List.append_assoc]; exact o2, by simp [l1], ?_, ?_⟩
          · intro e he
            rw [← List.append_assoc]
            rcases List.mem_append.1 he with h1 | h1
            · exact TyL_mono l e (t1 e h1)
            · simp at h1; subst h1; exact t2
          · intro i e he
            by_cases hi : i < m
            · rw [List.getElem?_append_left (by omega)] at he
              obtain ⟨us', v1, v2, v3⟩ := r1 i e he
              exact ⟨us', v1, v2, Rs_agree a2 e us' (TyL_lt (t1 e (List.mem_of_getElem? he))).1 v3⟩
            · have hl := (List.getElem?_eq_some_iff.1 he).1
              simp [l1] at hl
              have : i = m := by omega
              subst this
              rw [List.getElem?_append_right (by omega)] at he
              simp [l1] at he
              subst he
              exact ⟨us, u1, u2, r2⟩
      obtain ⟨ρ1, js, es, a1, o1, l1, t1, r1⟩ := key len (Nat.le_refl _)
      have hlist := mkC_list t1
      have hclt : (mkC l es.flatten).lt (h ++ js).length = true := by
        refine ACells.lt_list.2 fun u hu => ?_
        rw [hlist] at hu
        obtain ⟨e, he, hue⟩ := List.mem_flatten.1 hu
        obtain ⟨b1, b2, _⟩ := TyL_lt (t1 e he)
        exact ⟨AV.lts_iff.1 b1 u hue, List.all_eq_true.1 b2 u hue⟩
      have hlen : (mkC l es.flatten).len = len * l.length := by
        rw [ACells.len_list, hlist, flat_len (l := l) fun e he => (TyL_lt (t1 e he)).2.2, l1]
      have hcell : ∀ (j : Nat) (u : AV), (mkC l es.flatten).get? j = some u → ∃ y, w.cell? (a.add j) = some y ∧ R ρ1 u y := by
        intro j u hu
        have hj : j < len * l.length := by rw [← hlen]; exact ACells.get_none hu
        rw [ACells.get_list, hlist] at hu
        have hl0 : 0 < l.length := by
          rcases Nat.eq_zero_or_pos l.length with h0 | h0
          · rw [h0] at hj; simp at hj
          · exact h0
        have hq : j / l.length < len := (Nat.div_lt_iff_lt_mul hl0).2 hj
        have hr : j % l.length < l.length := Nat.mod_lt _ hl0
        have hjd : j / l.length * l.length + j % l.length = j := by rw [Nat.mul_comm]; exact Nat.div_add_mod _ _
        obtain ⟨us, v1, v2, v3⟩ := r1 (j / l.length) es[j / l.length] (List.getElem?_eq_getElem (by omega))
        have hfl : ∀ (es : List (List AV)) (q r : Nat) (hq : q < es.length), (∀ e ∈ es, e.length = l.length) → r < l.length → es.flatten[q * l.length + r]? = es[q][r]? := by
          intro es
          induction es with
          | nil => intro q r hq; simp at hq
          | cons e es ih =>
            intro q r hq he hr
            rw [List.flatten_cons]
            have e1 := he e List.mem_cons_self
            cases q with
            | zero => rw [Nat.zero_mul, Nat.zero_add, List.getElem?_append_left (by omega)]; rfl
            | succ q =>
              rw [List.getElem?_append_right (by rw [Nat.add_mul]; omega)]
              have : (q + 1) * l.length + r - e.length = q * l.length + r := by rw [Nat.add_mul]; omega
              rw [this]
              simpa using ih q r (by simpa using hq) (fun e' h' => he e' (List.mem_cons_of_mem _ h')) hr
        have h3 := hfl es (j / l.length) (j % l.length) (by omega) (fun e he => (TyL_lt (t1 e he)).2.2) hr
        rw [hjd, hu] at h3
        obtain ⟨y, g1, g2⟩ := Rs_get v3 h3.symm
        exact ⟨y, by have := v2 _ hr; rw [hjd] at this; rw [this, g1], g2⟩
      obtain ⟨ρ2, a2, k1, k2, k3, o2⟩ := o1.add (c := mkC l es.flatten) (blk := a.block) (base := a.off) (sz := len * l.length) hclt (by omega) (by
        intro hz
        have hcap : cap ≠ 0 := by rintro rfl; have : len = 0 := by omega
                                  subst this; simp at hz
        have hspot := hsp hcap
        have cellAt : ∀ j, j < len * l.length → ∃ u y, (mkC l es.flatten).get? j = some u ∧ w.cell? (a.add j) = some y ∧ R ρ1 u y := by
          intro j hj
          obtain ⟨u, hu⟩ := ACells.get_some (c := mkC l es.flatten) (j := j) (by omega)
          obtain ⟨y, g1, g2⟩ := hcell j u hu
          exact ⟨u, y, hu, g1, g2⟩
        have raw : ∀ j y, w.cell? (a.add j) = some y → ∃ arr T fz, w.heap[a.block]? = some (.cells arr T fz) ∧ arr[a.off + j]? = some y := by
          intro j y hy
          have e1 : (a.add j).block = a.block := by unfold Addr.add; split <;> rfl
          have e2 : (a.add j).off = a.off + j := by unfold Addr.add; split <;> simp_all
          unfold World.cell? at hy
          rw [e1] at hy
          split at hy
          · rename_i arr T fz hb
            split at hy
            · cases hy
            · exact ⟨arr, T, fz, hb, by rw [← e2]; exact hy⟩
          · cases hy
        obtain ⟨_, y0, _, g1, _⟩ := cellAt (len * l.length - 1) (by omega)
        obtain ⟨arr, T, fz, g2, g3⟩ := raw _ _ g1
        refine ⟨arr, T, fz, g2, ?_, fun j v hv => ?_⟩
        · have := (Array.getElem?_eq_some_iff.1 g3).1; omega
        · obtain ⟨y, g4, g5⟩ := hcell j v hv
          obtain ⟨arr', T', fz', g6, g7⟩ := raw _ _ g4
          rw [g2] at g6; cases g6
          exact ⟨y, g7, g5⟩)
      refine ⟨ρ2, js ++ [⟨.ext, mkC l es.flatten⟩], .sl (h ++ js).length 0 len cap, a1.trans a2 (by simp), by rw [← List.append_assoc]; exact o2, ?_, ?_⟩
      · simp only [R]
        refine ⟨a, rfl, fun hne => ?_, hlc⟩
        rw [k1, k2]
        have := hsp hne
        obtain ⟨b, off, spot⟩ := a
        simp only at this
        subst this
        rfl
      · simp only [Ty]
        refine Or.inr ⟨_, len, cap, es, rfl, hlc, hcm, l1, fun e he => ?_, ?_⟩
        · rw [← List.append_assoc]; exact TyL_mono l e (t1 e he)
        · rw [← List.append_assoc, List.getElem?_append_right (Nat.le_refl _)]; simp
theorem open_cks {w : World} : ∀ (ks : List CK) (vs : List Value), FitsL w ks vs → ∀ (ρ : Env) (h : AHeap), Opened w ρ h →
    ∃ (ρ' : Env) (js : AHeap) (avs : List AV), Agree h.length ρ ρ' ∧ Opened w ρ' (h ++ js) ∧ Rs ρ' avs vs ∧ TyL (h ++ js) ks avs
  | [], vs, hv, ρ, h, o => by
    simp only [FitsL] at hv; subst hv
    exact ⟨ρ, [], [], Agree.refl _ _, by simpa using o, rfl, rfl⟩
  | k :: ks, vs, hv, ρ, h, o => by
    simp only [FitsL] at hv
    obtain ⟨v, vs', rfl, h1, h2⟩ := hv
    obtain ⟨ρ1, js1, av, a1, o1, r1, t1⟩ := open_ck k v h1 ρ h o
    obtain ⟨ρ2, js2, avs, a2, o2, r2, t2⟩ := open_cks ks vs' h2 ρ1 (h ++ js1) o1
    refine ⟨ρ2, js1 ++ js2, av :: avs, a1.trans a2 (by simp), by rw [← List.append_assoc]; exact o2, ?_, ?_⟩
    · simp only [Rs]
      exact ⟨v, vs', rfl, R_agree a2 av v (Ty_lt t1).1 r1, r2⟩
    · simp only [TyL]
      rw [← List.append_assoc]
      exact ⟨av, avs, rfl, Ty_mono k av t1, t2⟩
end

-- ------------------------------------------------------------------ the arguments of a call
inductive AK where
  | one (k : CK)
  | agg (l : List CK)
  deriving Inhabited

def akOf (P : Program) (n : Nat) (t : TypeId) : Option AK :=
  match P.underlying t with
  | some (.struct _) => (ckOf P n t).map .agg
  | some (.array _ _) => (ckOf P n t).map .agg
  | _ => match ckOf P n t with
    | some [k] => some (.one k)
    | _ => none

def aksOf (P : Program) (n : Nat) : List TypeId → Option (List AK)
  | [] => some []
  | t :: ts => (akOf P n t).bind fun k => (aksOf P n ts).map (k :: ·)

def TyA (h : AHeap) : List AK → List AV → Prop
  | [], vs => vs = []
  | .one k :: ks, vs => ∃ v vs', vs = v :: vs' ∧ Ty h k v ∧ TyA h ks vs'
  | .agg l :: ks, vs => ∃ cs vs', vs = .agg cs :: vs' ∧ TyL h l cs ∧ TyA h ks vs'

theorem TyA_lt {h : AHeap} : ∀ {ks : List AK} {vs : List AV}, TyA h ks vs → AV.lts h.length vs = true
  | [], vs, hv => by simp only [TyA] at hv; subst hv; rfl
  | .one k :: ks, vs, hv => by
    simp only [TyA] at hv
    obtain ⟨v, vs', rfl, h1, h2⟩ := hv
    simp [AV.lts, (Ty_lt h1).1, TyA_lt h2]
  | .agg l :: ks, vs, hv => by
    simp only [TyA] at hv
    obtain ⟨cs, vs', rfl, h1, h2⟩ := hv
    simp [AV.lts, AV.lt, (TyL_lt h1).1, TyA_lt h2]

section
variable {H : Type} {enc : TypeId × Value → H} {P : Program} {w : World} {held : Bool}

theorem arg_fit {n base : Nat} {t : TypeId} {k : AK} {v : Value} {d : DataW H} {ps : List MemPlace} (hk : akOf P n t = some k) (hw : Value.okWide P w .any base t v) (ht : DataW.Trod enc P w 0 (fun _ => true) held t v d ps) :
    (∃ c, k = .one c ∧ Fits w c v) ∨ ∃ l cs, k = .agg l ∧ v = .agg cs ∧ FitsL w l cs.toList := by
  obtain ⟨fuel, ht⟩ := ht
  have agg : ∀ l, k = .agg l → ckOf P n t = some l → (∃ cs, v = .agg cs) → ∃ l cs, k = .agg l ∧ v = .agg cs ∧ FitsL w l cs.toList := by
    rintro l rfl hl ⟨cs, rfl⟩
    exact ⟨l, cs, rfl, rfl, trod_fit n fuel t l _ _ hl ht⟩
  unfold akOf at hk
  split at hk
  · rename_i fs hu
    simp only [Option.map_eq_some_iff] at hk
    obtain ⟨l, h1, rfl⟩ := hk
    simp only [Value.okWide, hu] at hw
    obtain ⟨cs, rfl, _⟩ := hw
    exact Or.inr (agg l rfl h1 ⟨cs, rfl⟩)
  · rename_i m e hu
    simp only [Option.map_eq_some_iff] at hk
    obtain ⟨l, h1, rfl⟩ := hk
    simp only [Value.okWide, hu] at hw
    obtain ⟨cs, rfl, _⟩ := hw
    exact Or.inr (agg l rfl h1 ⟨cs, rfl⟩)
  · split at hk
    case h_2 => cases hk
    rename_i c hc
    cases hk
    have hf := trod_fit n fuel t [c] _ _ hc ht
    simp only [FitsL] at hf
    obtain ⟨u, us, h1, h2, rfl⟩ := hf
    refine Or.inl ⟨c, rfl, ?_⟩
    have hnagg : ∀ cs, v ≠ .agg cs := by
      rintro cs rfl
      cases n with
      | zero => cases hc
      | succ n =>
        rw [ckOf] at hc
        split at hc <;> rename_i hu <;> first
          | (simp only [Value.okWide, hu, Cell.okWide, Cell.ok] at hw; done)
          | (simp [Value.okWide, hu, Cell.okWide, Cell.ok] at hw; done)
          | (simp_all; done)
          | (rename_i hn1 hn2 _; exact absurd hu (by first | exact hn1 _ | exact hn2 _ _))
          | (rename_i hn1 hn2; exact absurd hu (by first | exact hn1 _ | exact hn2 _ _))
          | cases hc
    have : v.cells.toList = [v] := by
      cases v <;> first | rfl | exact absurd rfl (hnagg _)
    rw [this] at h1
    cases h1
    exact h2

theorem open_args {n base : Nat} : ∀ {ts : List TypeId} {vs : List Value} {ds : List (DataW H)} {ps : List MemPlace} {aks : List AK}, DataW.TrodAll enc P w 0 (fun _ => true) held ts vs ds ps →
    (∀ (j : Nat) t v, ts[j]? = some t → vs[j]? = some v → Value.okWide P w .any base t v) → aksOf P n ts = some aks → ∀ (ρ : Env) (h : AHeap), Opened w ρ h →
    ∃ (ρ' : Env) (js : AHeap) (avs : List AV), Agree h.length ρ ρ' ∧ Opened w ρ' (h ++ js) ∧ Rs ρ' avs vs ∧ TyA (h ++ js) aks avs
  | [], vs, ds, ps, aks, ht, hw, hk, ρ, h, o => by
    obtain ⟨rfl, _, _⟩ := trodAll_nil ht
    simp only [aksOf, Option.some.injEq] at hk; subst hk
    exact ⟨ρ, [], [], Agree.refl _ _, by simpa using o, rfl, rfl⟩
  | t :: ts, vs, ds, ps, aks, ht, hw, hk, ρ, h, o => by
    obtain ⟨v, vs', d, ds', p, q, rfl, rfl, rfl, h1, h2⟩ := trodAll_cons ht
    simp only [aksOf, Option.bind_eq_some_iff, Option.map_eq_some_iff] at hk
    obtain ⟨k, hk1, ks, hk2, rfl⟩ := hk
    have hw' : ∀ (j : Nat) t' v', ts[j]? = some t' → vs'[j]? = some v' → Value.okWide P w .any base t' v' := fun j t' v' a b => hw (j + 1) t' v' (by simpa using a) (by simpa using b)
    rcases arg_fit hk1 (hw 0 t v rfl rfl) h1 with ⟨c, rfl, hf⟩ | ⟨l, cs, rfl, rfl, hf⟩
    · obtain ⟨ρ1, js1, av, a1, o1, r1, t1⟩ := open_ck c v hf ρ h o
      obtain ⟨ρ2, js2, avs, a2, o2, r2, t2⟩ := open_args h2 hw' hk2 ρ1 (h ++ js1) o1
      refine ⟨ρ2, js1 ++ js2, av :: avs, a1.trans a2 (by simp), by rw [← List.append_assoc]; exact o2, ?_, ?_⟩
      · simp only [Rs]
        exact ⟨v, vs', rfl, R_agree a2 av v (Ty_lt t1).1 r1, r2⟩
      · simp only [TyA]
        rw [← List.append_assoc]
        exact ⟨av, avs, rfl, Ty_mono c av t1, t2⟩
    · obtain ⟨ρ1, js1, av, a1, o1, r1, t1⟩ := open_cks l cs.toList hf ρ h o
      obtain ⟨ρ2, js2, avs, a2, o2, r2, t2⟩ := open_args h2 hw' hk2 ρ1 (h ++ js1) o1
      refine ⟨ρ2, js1 ++ js2, .agg av :: avs, a1.trans a2 (by simp), by rw [← List.append_assoc]; exact o2, ?_, ?_⟩
      · simp only [Rs]
        refine ⟨.agg cs, vs', rfl, ?_, r2⟩
        simp only [R]
        exact ⟨cs, rfl, Rs_agree a2 av cs.toList (TyL_lt t1).1 r1⟩
      · simp only [TyA]
        rw [← List.append_assoc]
        exact ⟨av, avs, rfl, TyL_mono l av t1, t2⟩
end

/-- The arguments, read again. -/
theorem trodAll_stays {H : Type} {enc : TypeId × Value → H} {P : Program} (hl : laidOutB P = true) {W W' : World} (hb : Below W.heap.size W W') : ∀ {ts : List TypeId} {vs : List Value} {ds : List (DataW H)} {ps : List MemPlace},
    (ts.all fun t => P.readableRec t && decide (t < P.types.size)) = true → DataW.TrodAll enc P W 0 (fun _ => true) true ts vs ds ps → DataW.TrodAll enc P W' 0 (fun b => decide (b < W.heap.size)) true ts vs ds ps
  | [], vs, ds, ps, _, h => by
    obtain ⟨rfl, rfl, rfl⟩ := trodAll_nil h
    exact trodAll_mk0
  | t :: ts, vs, ds, ps, ha, h => by
    obtain ⟨v, vs', d, ds', p, q, rfl, rfl, rfl, h1, h2⟩ := trodAll_cons h
    simp only [List.all_cons, Bool.and_eq_true, decide_eq_true_eq] at ha
    have hlt : ∀ x ∈ p, x.block < W.heap.size := by obtain ⟨m, hm⟩ := h1; exact DataW.trod_lt m _ _ _ hm
    exact trodAll_cons_mk (Below.trod hl ha.1.1 ha.1.2 h1 hb hlt) (trodAll_stays hl hb ha.2 h2)

/-- A slice that came in: what its elements' cells are. -/
def SlAt (h : AHeap) (l : List CK) (v : AV) (es : List (List AV)) : Prop :=
  (v = .nils ∧ es = []) ∨ ∃ b c, v = .sl b 0 es.length c ∧ es.length ≤ c ∧ c ≤ maxLen ∧ b < h.length ∧ h[b]? = some ⟨.ext, mkC l es.flatten⟩
theorem SlAt.len {h l v es} (s : SlAt h l v es) : slen v = some es.length := by
  rcases s with ⟨rfl, rfl⟩ | ⟨b, c, rfl, _⟩ <;> rfl
theorem SlAt.le {h l v es} (s : SlAt h l v es) : es.length ≤ 9223372036854775807 := by
  rcases s with ⟨rfl, rfl⟩ | ⟨b, c, rfl, h1, h2, _⟩
  · simp
  · unfold maxLen at h2; omega
end Go.Proofs.YtdpbbagllhfjbaaDoorW.AI

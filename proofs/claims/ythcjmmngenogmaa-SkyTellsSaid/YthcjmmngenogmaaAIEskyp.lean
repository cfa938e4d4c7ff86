import Derived.Test.YthcjmmngenogmaaAIEskyl1
import Derived.Test.YthcjmmngenogmaaAIEsky7
namespace Go.Proofs.YthcjmmngenogmaaW.AI.E
open Go Go.Proofs.YthcjmmngenogmaaW.AI
set_option maxRecDepth 100000
set_option linter.unusedSimpArgs false
set_option linter.unusedVariables false
set_option linter.unusedSectionVars false
/-- A piece, parted or not. -/
def seg (a : Int) (P : List (Int × Int)) (j : Nat) : List (Int × Int) :=
  match P[j]? with
  | some (f, o) => match P[j + 1]? with
    | some (f', _) => if f < a ∧ a < f' then [(f, o), (a, o)] else [(f, o)]
    | none => if f < a then [(f, o), (a, o)] else [(f, o)]
  | none => []
def parN (a : Int) (P : List (Int × Int)) : Nat → List (Int × Int)
  | 0 => []
  | i + 1 => parN a P i ++ seg a P i
def par (a : Int) (P : List (Int × Int)) : List (Int × Int) := parN a P P.length
theorem parN_cons (a : Int) (p : Int × Int) (P : List (Int × Int)) : ∀ i : Nat, parN a (p :: P) (i + 1) = seg a (p :: P) 0 ++ parN a P i
  | 0 => by simp [parN]
  | i + 1 => by
    rw [parN, parN_cons a p P i, List.append_assoc]
    congr 1
theorem par_cons (a : Int) (p : Int × Int) (P : List (Int × Int)) : par a (p :: P) = seg a (p :: P) 0 ++ par a P := parN_cons a p P P.length
theorem pacN_cons (p : Int × Int) (P : List (Int × Int)) (t : Int) : ∀ i : Nat, pacN (p :: P) t (i + 1) = term (p :: P) t 0 + pacN P t i
  | 0 => by simp [pacN]
  | i + 1 => by
    rw [pacN, pacN_cons p P t i, Int.add_assoc]
    congr 1
theorem pac_cons (p : Int × Int) (P : List (Int × Int)) (t : Int) : pac (p :: P) t = term (p :: P) t 0 + pac P t := pacN_cons p P t P.length
/-- The first From. -/
def hd (P : List (Int × Int)) : Option Int := P.head?.map (·.1)
def nx (n : Option Int) (t : Int) : Int := match n with | some f => mnS t f | none => t
theorem term_0 (f o : Int) (P : List (Int × Int)) (t : Int) : term ((f, o) :: P) t 0 = if f < nx (hd P) t then (nx (hd P) t - f) * (1000000000 + o) else 0 := by
  unfold term nx hd
  cases P with
  | nil => rfl
  | cons q P => obtain ⟨f', o'⟩ := q; rfl
theorem seg_0 (a f o : Int) (P : List (Int × Int)) : seg a ((f, o) :: P) 0 = if f < a ∧ (∀ f', hd P = some f' → a < f') then [(f, o), (a, o)] else [(f, o)] := by
  unfold seg hd
  cases P with
  | nil => simp
  | cons q P => obtain ⟨f', o'⟩ := q; simp
theorem hd_par (a : Int) : ∀ P : List (Int × Int), hd (par a P) = hd P
  | [] => rfl
  | (f, o) :: P => by
    rw [par_cons, seg_0]
    split <;> simp [hd]
theorem pac_par (a t : Int) : ∀ P : List (Int × Int), pac (par a P) t = pac P t
  | [] => rfl
  | (f, o) :: P => by
    have ih := pac_par a t P
    rw [par_cons, seg_0, pac_cons]
    split
    · rename_i hc
      simp only [List.cons_append, List.nil_append]
      rw [pac_cons, pac_cons, ih, term_0, term_0, term_0, hd_par]
      have e : hd ((a, o) :: par a P) = some a := rfl
      rw [e]
      obtain ⟨c1, c2⟩ := hc
      have key : (if f < nx (some a) t then nx (some a) t - f else 0) + (if a < nx (hd P) t then nx (hd P) t - a else 0) = if f < nx (hd P) t then nx (hd P) t - f else 0 := by
        cases hh : hd P with
        | none => simp only [nx, mnS]; repeat' split
                  all_goals omega
        | some f' =>
          have := c2 f' hh
          simp only [nx, mnS]
          repeat' split
          all_goals omega
      have mul : ∀ x y : Int, (if x < y then (y - x) * (1000000000 + o) else 0) = (if x < y then y - x else 0) * (1000000000 + o) := fun x y => by
        split
        · rfl
        · rw [Int.zero_mul]
      rw [mul, mul, mul, ← key, Int.add_mul]
      omega
    · simp only [List.cons_append, List.nil_append]
      rw [pac_cons, ih, term_0, term_0, hd_par]
/-- By how much it is faster. -/
def offF (t : Int) : List (Int × Int) → Int → Int
  | [], d => d
  | (f, o) :: P, d => if t < f then d else offF t P o
theorem off_par (a t : Int) : ∀ (P : List (Int × Int)) (d : Int), offF t (par a P) d = offF t P d
  | [], d => rfl
  | (f, o) :: P, d => by
    have ih := off_par a t P
    rw [par_cons, seg_0]
    split
    · rename_i hc
      simp only [List.cons_append, List.nil_append, offF]
      by_cases h1 : t < f
      · rw [if_pos h1, if_pos h1]
      · rw [if_neg h1, if_neg h1, ih]
        by_cases h2 : t < a
        · rw [if_pos h2]
          cases P with
          | nil => rfl
          | cons q P =>
            obtain ⟨f', o'⟩ := q
            have := hc.2 f' rfl
            simp only [offF]
            rw [if_pos (by omega)]
        · rw [if_neg h2]
    · simp only [List.cons_append, List.nil_append, offF]
      rw [ih]
theorem wst_par (a : Int) : ∀ (P : List (Int × Int)) (w : Int), (par a P).foldl (fun w p => if w < (p.2.natAbs : Int) then (p.2.natAbs : Int) else w) w = P.foldl (fun w p => if w < (p.2.natAbs : Int) then (p.2.natAbs : Int) else w) w
  | [], w => rfl
  | (f, o) :: P, w => by
    rw [par_cons, seg_0]
    split
    · simp only [List.cons_append, List.nil_append, List.foldl_cons]
      rw [wst_par a P]
      congr 1
      by_cases c : w < (o.natAbs : Int)
      · simp only [if_pos c, Int.lt_irrefl, if_false]
      · simp only [if_neg c]
    · simp only [List.cons_append, List.nil_append, List.foldl_cons]
      rw [wst_par a P]
/-- Froms that grow. -/
def IncL : List (Int × Int) → Prop
  | [] => True
  | p :: P => (∀ f, hd P = some f → p.1 < f) ∧ IncL P
theorem incL_of : ∀ {P : List (Int × Int)}, (∀ (i : Nat) p q, P[i]? = some p → P[i + 1]? = some q → p.1 < q.1) → IncL P
  | [], _ => trivial
  | p :: P, h => by
    refine ⟨fun f hf => ?_, incL_of fun i a b h1 h2 => h (i + 1) a b (by simpa using h1) (by simpa using h2)⟩
    cases P with
    | nil => simp [hd] at hf
    | cons q P =>
      simp only [hd, List.head?_cons, Option.map_some, Option.some.injEq] at hf
      rw [← hf]
      exact h 0 p q rfl rfl
theorem incL_to : ∀ {P : List (Int × Int)}, IncL P → ∀ (i : Nat) p q, P[i]? = some p → P[i + 1]? = some q → p.1 < q.1
  | [], _, i, p, q, h, _ => by simp at h
  | a :: P, hI, 0, p, q, h1, h2 => by
    simp at h1
    subst h1
    cases P with
    | nil => simp at h2
    | cons b P =>
      simp at h2
      subst h2
      exact hI.1 _ rfl
  | a :: P, hI, i + 1, p, q, h1, h2 => incL_to hI.2 i p q (by simpa using h1) (by simpa using h2)
theorem inc_par (a : Int) : ∀ P : List (Int × Int), IncL P → IncL (par a P)
  | [], _ => trivial
  | (f, o) :: P, h => by
    have ih := inc_par a P h.2
    rw [par_cons, seg_0]
    split
    · rename_i hc
      refine ⟨fun x hx => ?_, fun x hx => ?_, ih⟩
      · have e : a = x := by simpa [hd] using hx
        rw [← e]
        exact hc.1
      · have hx : hd (par a P) = some x := hx
        rw [hd_par] at hx
        exact hc.2 x hx
    · refine ⟨fun x hx => ?_, ih⟩
      have hx : hd (par a P) = some x := hx
      rw [hd_par] at hx
      exact h.1 x hx
theorem par_len (a : Int) : ∀ P : List (Int × Int), P.length ≤ (par a P).length ∧ (par a P).length ≤ 2 * P.length
  | [] => by simp [par, parN]
  | (f, o) :: P => by
    have ih := par_len a P
    rw [par_cons, seg_0]
    split <;> simp <;> omega
theorem par_mem (a : Int) : ∀ (P : List (Int × Int)) (x : Int × Int), x ∈ par a P → x ∈ P ∨ (x.1 = a ∧ ∃ y ∈ P, y.2 = x.2)
  | [], x, h => by simp [par, parN] at h
  | (f, o) :: P, x, h => by
    rw [par_cons, seg_0] at h
    have ih := par_mem a P x
    split at h
    · simp only [List.cons_append, List.nil_append, List.mem_cons] at h
      rcases h with rfl | rfl | h
      · exact Or.inl List.mem_cons_self
      · exact Or.inr ⟨rfl, _, List.mem_cons_self, rfl⟩
      · rcases ih h with h | ⟨h1, y, h2, h3⟩
        · exact Or.inl (List.mem_cons_of_mem _ h)
        · exact Or.inr ⟨h1, y, List.mem_cons_of_mem _ h2, h3⟩
    · simp only [List.cons_append, List.nil_append, List.mem_cons] at h
      rcases h with rfl | h
      · exact Or.inl List.mem_cons_self
      · rcases ih h with h | ⟨h1, y, h2, h3⟩
        · exact Or.inl (List.mem_cons_of_mem _ h)
        · exact Or.inr ⟨h1, y, List.mem_cons_of_mem _ h2, h3⟩
theorem par_ok {a : Int} {P : List (Int × Int)} (hP : Pcs P) (hl : P.length ≤ 32) (a0 : 0 ≤ a) (a1 : a ≤ 4503599627370496) : Pcs (par a P) := by
  have hlen := par_len a P
  have h1 := hP.ne
  refine ⟨by omega, by omega, fun p hp => ?_, fun p hp => ?_, incL_to (inc_par a P (incL_of hP.inc))⟩
  · rcases par_mem a P p hp with h | ⟨e, y, hy, e2⟩
    · exact hP.rng p h
    · have := hP.rng y hy
      omega
  · obtain ⟨q, hq⟩ : ∃ q, P[0]? = some q := ⟨_, List.getElem?_eq_getElem hP.ne⟩
    have h0 := hP.head q hq
    have e := hd_par a P
    have e1 : hd (par a P) = some p.1 := by unfold hd; rw [List.head?_eq_getElem?, hp]; rfl
    have e2 : hd P = some q.1 := by unfold hd; rw [List.head?_eq_getElem?, hq]; rfl
    rw [e1, e2] at e
    rw [Option.some.inj e]
    exact h0
theorem offF_at {t : Int} : ∀ {P : List (Int × Int)} {r : Nat} {d : Int}, r ≤ P.length → (∀ k p, k < r → P[k]? = some p → p.1 ≤ t) → (∀ p, P[r]? = some p → t < p.1) → offF t P d = if r = 0 then d else match P[r - 1]? with | some p => p.2 | none => d
  | [], r, d, hr, _, _ => by
    have : r = 0 := by simpa using hr
    subst this
    rfl
  | (f, o) :: P, 0, d, _, _, h => by
    have := h (f, o) rfl
    simp only at this
    rw [if_pos rfl]
    simp only [offF]
    rw [if_pos this]
  | (f, o) :: P, r + 1, d, hr, h1, h2 => by
    have h0 := h1 0 (f, o) (by omega) rfl
    simp only at h0
    simp only [offF]
    rw [if_neg (by omega), offF_at (r := r) (d := o) (by simpa using hr) (fun k p hk hp => h1 (k + 1) p (by omega) (by simpa using hp)) (fun p hp => h2 p (by simpa using hp))]
    rw [if_neg (Nat.succ_ne_zero r), Nat.add_sub_cancel]
    cases r with
    | zero => simp
    | succ r =>
      have hr2 : r < P.length := by simp at hr; omega
      simp [List.getElem?_eq_getElem hr2]
section
variable {h : AHeap} {p : Nat} {hz mk fs : Int} {P : List (Int × Int)}
theorem off1_c {c2 c3 k : Nat} {t f o : Int} (hg : Good h) (s : SkAt h p hz mk fs P) (b2 : h[c2]? = some ⟨.tip false, .vals [.ptr p 0]⟩) (b3 : h[c3]? = some ⟨.tip false, .ints .i64 [t]⟩) (hp : P[k]? = some (f, o)) : W CP 69 [.int .i64 (k : Int), .ptr c2 0, .ptr c3 0] h = some (.bool (decide (t < f)), h, []) := by
  obtain ⟨q, _, d1, d2⟩ := s.at'
  have l1 := (List.getElem?_eq_some_iff.1 d1).1
  have l2 := (List.getElem?_eq_some_iff.1 d2).1
  have m2 := (List.getElem?_eq_some_iff.1 b2).1
  have m3 := (List.getElem?_eq_some_iff.1 b3).1
  obtain ⟨g1, g2⟩ := flatP_get hp
  have hk := (List.getElem?_eq_some_iff.1 hp).1
  obtain ⟨n, hn⟩ : ∃ n, P.length = n := ⟨_, rfl⟩
  rw [hn] at d1 hk
  refine W_quiet0 (m := M69) rfl rfl (by simp [AV.lts, AV.lt]) rfl rfl hg ?_
  simp (maxDischargeDepth := 9) -implicitDefEqProofs only [push_cast, simprocAttr, M69, b2, b3, m2, m3, d1, d2, l1, l2, hk, g1, Nat.zero_add]
theorem off_c {t : Int} (hg : Good h) (s : SkAt h p hz mk fs P) : W CP 25 [.ptr p 0, .int .i64 t] h = some (.int .i64 (offF (tm t) P 0), h, []) := by
  have hP := s.ok
  have p1 := hP.ne
  have p64 := hP.le
  obtain ⟨t0, t1⟩ := tm_in t
  have eT := fun g => time_c t g
  obtain ⟨T, hT⟩ : ∃ T, tm t = T := ⟨_, rfl⟩
  rw [hT] at eT t0 t1 ⊢
  have eN0 := none_c (h := h ++ [⟨.tip false, .vals [.ptr p 0]⟩, ⟨.tip false, .ints .i64 [t]⟩]) (good_app hg rfl) (s.app _)
  have hG : Good (h ++ [⟨.tip false, .vals [.ptr p 0]⟩, ⟨.tip false, .ints .i64 [T]⟩]) := good_app hg rfl
  have sG := s.app [⟨.tip false, .vals [.ptr p 0]⟩, ⟨.tip false, .ints .i64 [T]⟩]
  have hset : (h ++ [(⟨.tip false, .vals [.ptr p 0]⟩ : ABlk), ⟨.tip false, .ints .i64 [t]⟩]).set (h.length + 1) ⟨.tip false, .ints .i64 [T]⟩ = h ++ [⟨.tip false, .vals [.ptr p 0]⟩, ⟨.tip false, .ints .i64 [T]⟩] := by
    rw [List.set_append_right _ _ (by omega), show h.length + 1 - h.length = 1 by omega]; rfl
  let F : Nat → Int := fun k => match P[k]? with | some q => q.1 | none => 0
  have hF : ∀ k q, P[k]? = some q → F k = q.1 := fun k q hk => by simp only [F, hk]
  have step : ∀ j i, i ≤ j → j < P.length → F i ≤ F j := by
    intro j
    induction j with
    | zero => intro i h1 h2; rw [show i = 0 by omega]; exact Int.le_refl _
    | succ j ih =>
      intro i h1 h2
      by_cases hij : i = j + 1
      · rw [hij]; exact Int.le_refl _
      · have := ih i (by omega) (by omega)
        obtain ⟨a, ha⟩ : ∃ a, P[j]? = some a := ⟨_, List.getElem?_eq_getElem (by omega)⟩
        obtain ⟨b, hb⟩ : ∃ a, P[j + 1]? = some a := ⟨_, List.getElem?_eq_getElem (by omega)⟩
        have h3 := hP.inc j a b ha hb
        rw [hF _ _ ha] at this
        rw [hF _ _ hb]
        omega
  obtain ⟨r, r1, r2, r3⟩ := first_ex (fun k => decide (T < F k)) P.length fun i j hij hj hi => by
    simp only [decide_eq_true_eq] at hi ⊢
    have := step j i hij hj
    omega
  have eS := search_c (F := 69) (a := h.length) (b := h.length + 1) (pd := fun k => decide (T < F k)) hG (by omega) (fun i hi => by
    obtain ⟨⟨f, o⟩, ha⟩ : ∃ a, P[i]? = some a := ⟨_, List.getElem?_eq_getElem hi⟩
    rw [hF _ _ ha]
    exact off1_c (c2 := h.length) (c3 := h.length + 1) hG sG (by simp) (by rw [List.getElem?_append_right (by omega)]; simp) ha) r1 r2 r3
  have hr1 : 1 ≤ r := by
    rcases Nat.lt_or_ge 0 r with c | c
    · exact c
    · obtain ⟨a, ha⟩ : ∃ a, P[0]? = some a := ⟨_, List.getElem?_eq_getElem p1⟩
      have := r3 0 (by omega) p1
      rw [hF _ _ ha, hP.head _ ha] at this
      simp only [decide_eq_true_eq] at this
      omega
  obtain ⟨⟨f, o⟩, hfo⟩ : ∃ a, P[r - 1]? = some a := ⟨_, List.getElem?_eq_getElem (by omega)⟩
  have hv : offF T P 0 = o := by
    rw [offF_at (r := r) r1 (fun k q hk hq => by have := r2 k hk; rw [hF _ _ hq] at this; simpa using this) (fun q hq => by have := r3 r (Nat.le_refl _) (List.getElem?_eq_some_iff.1 hq).1; rw [hF _ _ hq] at this; simpa using this), if_neg (by omega), hfo]
  rw [hv]
  obtain ⟨q, _, d1, d2⟩ := s.at'
  have l1 := (List.getElem?_eq_some_iff.1 d1).1
  have l2 := (List.getElem?_eq_some_iff.1 d2).1
  obtain ⟨g1, g2⟩ := flatP_get hfo
  obtain ⟨n, hn⟩ : ∃ n, P.length = n := ⟨_, rfl⟩
  rw [hn] at d1 eS r1
  obtain ⟨s1, hs1⟩ : ∃ s1, r - 1 = s1 := ⟨_, rfl⟩
  rw [hs1] at g1 g2
  have w1 : IntKind.i64.wrap ((r : Int) - 1) = (s1 : Int) := by rw [wr_i64 _ (by omega) (by omega)]; omega
  have hs2 : s1 < n := by omega
  refine W_quietP (m := M25) rfl rfl (by simp [AV.lts, AV.lt]) rfl rfl hg ?_
  simp (maxDischargeDepth := 9) -implicitDefEqProofs only [push_cast, simprocAttr, M25, eN0, eT, hset, d1, d2, l1, l2, eS, w1, hs2, g2, Nat.zero_add]
  exact quiet_i
end
end Go.Proofs.YthcjmmngenogmaaW.AI.E

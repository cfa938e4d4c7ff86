import Derived.Test.YtdbdmnhnijpdcaaDoorAICextC
import Derived.Test.YtdbdmnhnijpdcaaDoorAICoctB
namespace Go.Proofs.YtdbdmnhnijpdcaaDoorW.AI.C
open Go Go.Proofs.YtdbdmnhnijpdcaaDoorW.AI Go.Proofs.YtdbdmnhnijpdcaaDoorW.AI.Oct
set_option maxRecDepth 100000
set_option linter.unusedSimpArgs false
set_option linter.unusedVariables false
set_option linter.unusedSectionVars false
theorem lt_blkS {v : AV} {n p : Nat} (h : blkS v = some p) (hl : n ≤ p) : v.lt n = false := by
  cases v <;> simp [blkS] at h <;> simp [AV.lt] <;> omega
theorem xrefparse_ok {h : AHeap} {x : AV} {D D' : List Int} {F : List (Int × List Int)} (hg : Good h) (hx : BV h x D) (hD : D.length < 1000000000) (hp : parseX 9 [] D = .ok F D') :
    ∃ v rv js, W CP 47 [x] h = some (.tup [v, rv, .int .i64 0], h ++ js, []) ∧ ROk h F D' v rv js ∧ nilOf rv ≠ none := by
  cases h0 : x.lt 0 with
  | true =>
    have hn : x = .nils ∧ D = [] := by
      obtain ⟨_, k | ⟨b, o, c, st, l, mn, _, _, _, _, ⟨rfl, _⟩ | rfl⟩⟩ := hx
      · exact k
      · simp [AV.lt] at h0
      · simp [AV.lt] at h0
    obtain ⟨rfl, rfl⟩ := hn
    rw [parseX_nil] at hp
    cases hp
    refine ⟨.nils, .nils, [], ?_, ⟨[], ⟨rfl, Or.inl ⟨rfl, rfl⟩⟩, fun i t D hi => by simp at hi, fun i t D hi => by simp at hi, by simp [blkOf], BV.nil _, Or.inl rfl, by rw [List.append_nil]; exact hg⟩, by simp [nilOf]⟩
    rw [List.append_nil]
    refine W_val (m := M47) (fun _ => rfl) rfl rfl rfl ?_ h
    refine (refparse_key (g := CP.gl) glG (BV.nil _) hD).mono ?_
    rintro ⟨r1, h', ws⟩ ⟨rfl, k, q⟩
    rw [parseX_nil] at q
    obtain ⟨v, l, rv, rfl, _, _, _, _, _, _, _, e1, e2⟩ := q
    simp only [e1 rfl, e2 rfl]
  | false =>
    have hx0 : AV.lts 0 [x] = false := by simp [AV.lts, h0]
    obtain ⟨⟨r1, h', ws⟩, e, rfl, k, q⟩ := refparse_key hg hx hD
    rw [hp] at q
    obtain ⟨v, l, rv, rfl, g1, g2, g3, g4, g5, g6, g7, g8, g9⟩ := q
    simp only at k g1 g2 g3 g5
    obtain ⟨js, rfl⟩ := k.behind
    cases hl : (AV.tup [v, rv, .int .i64 0]).lt h.length with
    | false =>
      refine ⟨v, rv, js, ?_, ⟨l, g1, g2, g3, g4, g5, g7, k.2.2 hg⟩, g6⟩
      rw [W_body (m := M47) rfl rfl hx0 e, show (M47).trim = true from rfl, if_pos rfl, trim_addr hl]
    | true =>
      simp only [AV.lt, AV.lts, Bool.and_eq_true] at hl
      have hv : v = .nils := lt_blkOf g1.slen g4 hl.1 (by
        rintro b o m c rfl
        rcases g1.2 with ⟨e, _⟩ | ⟨_, _, _, e, _⟩ <;> cases e)
      subst hv
      have hrv : rv = .nils := by
        rcases g7 with e | ⟨p, e, hpl⟩
        · exact e
        · have := hl.2.1
          cases rv <;> simp [blkS] at e <;> simp [AV.lt] at this <;> omega
      subst hrv
      have hF : F = [] := by
        rcases g1.2 with ⟨_, e⟩ | ⟨_, _, _, e, _⟩
        · exact List.length_eq_zero_iff.1 e
        · cases e
      have hD' : D' = [] := by
        obtain ⟨_, ⟨_, e⟩ | ⟨_, _, _, _, _, _, _, _, _, _, ⟨e, _⟩ | e⟩⟩ := g5
        · exact e
        · cases e
        · cases e
      subst hF hD'
      refine ⟨.nils, .nils, [], ?_, ⟨[], ⟨rfl, Or.inl ⟨rfl, rfl⟩⟩, fun i t D hi => by simp at hi, fun i t D hi => by simp at hi, by simp [blkOf], BV.nil _, Or.inl rfl, by rw [List.append_nil]; exact hg⟩, by simp [nilOf]⟩
      rw [List.append_nil]
      exact W_quiet (m := M47) rfl rfl hx0 rfl rfl hg e
theorem xrefparse_err {h : AHeap} {x : AV} {D : List Int} {z : Int} (hg : Good h) (hx : BV h x D) (hD : D.length < 1000000000) (hp : parseX 9 [] D = .err z) : W CP 47 [x] h = some (.tup [.nils, .nils, .int .i64 z], h, []) := by
  refine W_bothH (m := M47) (fun g => BV g x D) (fun _ => rfl) rfl rfl rfl glG (fun h0 => ?_) (fun g hg hx => ?_) hg hx
  · simp only [AV.lts, Bool.and_eq_true] at h0
    exact hx.gl h0.1
  · refine (refparse_key hg hx hD).mono fun r hr => ?_
    obtain ⟨e1, e2, e3⟩ := hr
    rw [hp] at e3
    exact ⟨e3, e2.behind, e1⟩
/-- A row of fields that came in: its cells. -/
structure ArgX (g : AHeap) (v : AV) (F : List (Int × List Int)) (A : List AV) : Prop where
  fl : F.length ≤ 9223372036854775807
  len : A.length = F.length * 2
  sh : (v = .nils ∧ F = []) ∨ ∃ b c, v = .sl b 0 F.length c ∧ F.length ≤ c ∧ g[b]? = some ⟨.ext, .vals A⟩
  el : ∀ (i : Nat) (t : Int) (D : List Int), F[i]? = some (t, D) → (0 ≤ t ∧ t < 65536) ∧ A[i * 2]? = some (.int .u16 t) ∧ ∃ d, A[i * 2 + 1]? = some d ∧ BV g d D ∧ nilOf d ≠ none ∧ D.length ≤ 9223372036854775807
theorem arg_bv {g : AHeap} {v : AV} (hv : Ty g (.sl [.i .u8]) v) : ∃ D, BV g v D ∧ nilOf v ≠ none ∧ D.length ≤ 9223372036854775807 := by
  obtain ⟨es, hs, he⟩ := Ty_sl hv
  have hle := hs.le
  rcases hs with ⟨rfl, rfl⟩ | ⟨b, c, rfl, g1, g2, g3, g4⟩
  · exact ⟨[], BV.nil g, by simp [nilOf], by simp⟩
  · have hl := flat_len (l := [CK.i .u8]) fun e h' => (TyL_lt (he e h')).2.2
    have hl1 : (es.flatten.map toI).length = es.length := by rw [List.length_map, hl]; simp
    refine ⟨es.flatten.map toI, ⟨?_, Or.inr ⟨b, 0, c, .ext, es.flatten.map toI, false, g4, Or.inl rfl, by omega, by rw [List.drop_zero, List.take_length], Or.inl ⟨by rw [hl1], by omega⟩⟩⟩, by simp [nilOf], by omega⟩
    intro x hx
    obtain ⟨a, ha, rfl⟩ := List.mem_map.1 hx
    obtain ⟨e, h1, h2⟩ := List.mem_flatten.1 ha
    have := he e h1
    simp only [TyL, Ty] at this
    obtain ⟨v, vs, rfl, ⟨n, rfl, n1, n2⟩, rfl⟩ := this
    simp only [List.mem_singleton] at h2
    subst h2
    have a : 0 ≤ n := n1
    have b : n ≤ 255 := n2
    exact ⟨a, by show n < 256; omega⟩
theorem arg_rows {g : AHeap} : ∀ {es : List (List AV)}, (∀ e ∈ es, TyL g [.i .u16, .sl [.i .u8]] e) → ∃ F : List (Int × List Int), F.length = es.length ∧ es.flatten.length = F.length * 2 ∧
    ∀ (i : Nat) (t : Int) (D : List Int), F[i]? = some (t, D) → (0 ≤ t ∧ t < 65536) ∧ es.flatten[i * 2]? = some (.int .u16 t) ∧ ∃ d, es.flatten[i * 2 + 1]? = some d ∧ BV g d D ∧ nilOf d ≠ none ∧ D.length ≤ 9223372036854775807
  | [], _ => ⟨[], rfl, rfl, fun i t D hi => by simp at hi⟩
  | e :: es, h => by
    obtain ⟨F, h1, h2, h3⟩ := arg_rows (es := es) fun y hy => h y (List.mem_cons_of_mem _ hy)
    have he := h e List.mem_cons_self
    simp only [TyL] at he
    obtain ⟨v, _, rfl, hv, d, _, rfl, hd, rfl⟩ := he
    simp only [Ty] at hv
    obtain ⟨t, rfl, t0, t1⟩ := hv
    obtain ⟨D, b1, b2, b3⟩ := arg_bv hd
    have a0 : 0 ≤ t := t0
    have a1 : t ≤ 65535 := t1
    refine ⟨(t, D) :: F, by simp [h1], by simp [h2]; omega, fun i u E hi => ?_⟩
    cases i with
    | zero =>
      simp only [List.getElem?_cons_zero, Option.some.injEq, Prod.mk.injEq] at hi
      obtain ⟨rfl, rfl⟩ := hi
      exact ⟨⟨a0, by omega⟩, rfl, d, rfl, b1, b2, b3⟩
    | succ i =>
      simp only [List.getElem?_cons_succ] at hi
      obtain ⟨q1, q2, c, q3, q4⟩ := h3 i u E hi
      refine ⟨q1, ?_, c, ?_, q4⟩
      · show (AV.int .u16 t :: d :: es.flatten)[(i + 1) * 2]? = _
        rw [show (i + 1) * 2 = i * 2 + 1 + 1 by omega, List.getElem?_cons_succ, List.getElem?_cons_succ]; exact q2
      · show (AV.int .u16 t :: d :: es.flatten)[(i + 1) * 2 + 1]? = _
        rw [show (i + 1) * 2 + 1 = (i * 2 + 1) + 1 + 1 by omega, List.getElem?_cons_succ, List.getElem?_cons_succ]; exact q3
theorem arg_ext {g : AHeap} {v : AV} (hv : Ty g (.sl [.i .u16, .sl [.i .u8]]) v) : ∃ F A, ArgX g v F A := by
  obtain ⟨es, hs, he⟩ := Ty_sl hv
  obtain ⟨F, h1, h2, h3⟩ := arg_rows he
  refine ⟨F, es.flatten, by have := hs.le; omega, h2, ?_, h3⟩
  rcases hs with ⟨rfl, rfl⟩ | ⟨b, c, rfl, g1, g2, g3, g4⟩
  · exact Or.inl ⟨rfl, List.length_eq_zero_iff.1 (by simpa using h1)⟩
  · exact Or.inr ⟨b, c, by rw [h1], by omega, g4⟩
theorem ArgX.xr {g : AHeap} {v : AV} {F : List (Int × List Int)} {A : List AV} (a : ArgX g v F A) : ExtAt g v F := by
  rcases a.sh with ⟨rfl, rfl⟩ | ⟨b, c, rfl, hc, hb⟩
  · exact ExtAt.nil g
  · refine ⟨b, 0, A, rfl, fun g i hi => by simp only [iaV, if_pos hi], fun _ => ⟨cellsAt_of hb (by simp), by unfold faceOk; rw [hb], (List.getElem?_eq_some_iff.1 hb).1⟩, fun i t D hi => ?_⟩
    obtain ⟨h1, h2, d, h3, h4, h5, _⟩ := a.el i t D hi
    exact ⟨h1, by rw [Nat.zero_add]; exact h2, d, by rw [Nat.zero_add]; exact h3, h4, h5⟩
theorem ArgX.app {g : AHeap} {v : AV} {F : List (Int × List Int)} {A : List AV} (a : ArgX g v F A) (js : AHeap) : ArgX (g ++ js) v F A := by
  refine ⟨a.fl, a.len, ?_, fun i t D hi => ?_⟩
  · rcases a.sh with e | ⟨b, c, e, hc, hb⟩
    · exact Or.inl e
    · exact Or.inr ⟨b, c, e, hc, by rw [List.getElem?_append_left (List.getElem?_eq_some_iff.1 hb).1]; exact hb⟩
  · obtain ⟨h1, h2, d, h3, h4, h5⟩ := a.el i t D hi
    exact ⟨h1, h2, d, h3, h4.app js, h5⟩
end Go.Proofs.YtdbdmnhnijpdcaaDoorW.AI.C
namespace Go.Proofs.YtdbdmnhnijpdcaaDoorW.AI.C
open Go Go.Proofs.YtdbdmnhnijpdcaaDoorW.AI Go.Proofs.YtdbdmnhnijpdcaaDoorW.AI.Oct
set_option maxRecDepth 100000
set_option linter.unusedSimpArgs false
set_option linter.unusedVariables false
set_option linter.unusedSectionVars false
/-- A fresh slice, bytes appended, then zeros. -/
theorem grow {H1 : AHeap} {D E : List Int} {m k : Nat} (hm : D.length = m) (hE : E.length = k) (hk : 0 < m + k) (hl : m + k < 1000000) :
    ∃ s1 Hm w1 p o H2 w2, aappend (H1 ++ [⟨.tip false, .ints .u8 []⟩]) (.ints .u8 [0]) 1 (.sl H1.length 0 0 0) (.ints .u8 D) m = some (s1, Hm, w1) ∧ aappend Hm (.ints .u8 [0]) 1 s1 (.ints .u8 E) k = some (.gsl p 0 (m + k) 1 false, H2, w2) ∧
      noAny (some s1) = some s1 ∧ H2[p]? = some ⟨.tip o, .ints .u8 (D ++ E)⟩ ∧ Keeps H1 H2 none ∧ (∀ b ∈ w1, H1.length ≤ b) ∧ (∀ b ∈ w2, H1.length ≤ b) ∧ H1.length ≤ p ∧ (∀ b ∈ w1, b = H1.length) ∧ Keeps H1 Hm none := by
  have e0 := app_fresh (h := H1) (D := D) (by omega)
  rw [hm] at e0
  by_cases hD : D = []
  · subst hD
    simp at hm
    subst hm
    rw [if_pos rfl] at e0
    have e1 : aappend (H1 ++ [⟨.tip false, .ints .u8 []⟩]) (.ints .u8 [0]) 1 (.sl H1.length 0 0 0) (.ints .u8 E) k = some (.gsl (H1.length + 1) 0 k 1 false, H1 ++ [⟨.tip false, .ints .u8 []⟩, ⟨.tip false, .ints .u8 E⟩], []) := by
      have := app_fresh (h := H1) (D := E) (by omega)
      rw [hE, if_neg (by intro h; have := congrArg List.length h; rw [hE, List.length_nil] at this; omega)] at this
      exact this
    refine ⟨_, _, _, H1.length + 1, false, _, _, e0, by rw [Nat.zero_add]; exact e1, rfl, ?_, Keeps.app _ _ _ rfl, by simp, by simp, by omega, by simp, Keeps.app _ _ _ rfl⟩
    rw [List.getElem?_append_right (by omega)]; simp
  · rw [if_neg hD] at e0
    have hp : (H1 ++ [(⟨.tip false, .ints .u8 []⟩ : ABlk), ⟨.tip false, .ints .u8 D⟩])[H1.length + 1]? = some ⟨.tip false, .ints .u8 D⟩ := by rw [List.getElem?_append_right (by omega)]; simp
    have hset : (H1 ++ [(⟨.tip false, .ints .u8 []⟩ : ABlk), ⟨.tip false, .ints .u8 D⟩]).set (H1.length + 1) ⟨.old (H1.length + 2), .ints .u8 D⟩ = H1 ++ [⟨.tip false, .ints .u8 []⟩, ⟨.old (H1.length + 2), .ints .u8 D⟩] := by
      rw [List.set_append_right _ _ (by omega)]; simp
    refine ⟨_, _, _, H1.length + 2, true, H1 ++ [⟨.tip false, .ints .u8 []⟩, ⟨.old (H1.length + 2), .ints .u8 D⟩, ⟨.tip true, .ints .u8 (D ++ E)⟩], [H1.length + 1], e0, ?_, rfl, ?_, ?_, by simp, by simp, by omega, by simp, Keeps.app _ _ _ rfl⟩
    · simp only [aappend, ACells.len, List.length_cons, List.length_nil, hp]
      simp only [Nat.zero_add, Nat.mul_one, if_true, hm]
      simp only [ACells.sub, List.drop_zero, Nat.mul_one, ACells.app, if_true, Option.bind_some]
      rw [roomy (by omega), show m = D.length from hm.symm, List.take_length]
      simp only [if_true, Bool.false_eq_true, if_false, List.length_append, List.length_cons, List.length_nil, Nat.zero_add, Nat.reduceAdd]
      rw [hset]
      simp
    · rw [List.getElem?_append_right (by omega)]; simp
    · refine ⟨fun q x hq _ _ => by rw [List.getElem?_append_left (List.getElem?_eq_some_iff.1 hq).1]; exact hq, by simp, fun hg => hg.append ?_⟩
      simp [oldIn]
/-- Bytes of a length that fields may have. -/
def nOf (n : Nat) : Nat := min (max n 12) 464 / 4 * 4
def properF (z : Int × List Int) : Int × List Int := (z.1, z.2.take (nOf z.2.length) ++ List.replicate (nOf z.2.length - z.2.length) 0)
def properX (F : List (Int × List Int)) : List (Int × List Int) := (F.take 8).map properF
theorem nOf_le (n : Nat) : 12 ≤ nOf n ∧ nOf n ≤ 464 ∧ nOf n % 4 = 0 := by unfold nOf; omega
theorem properF_len (z : Int × List Int) : (properF z).2.length = nOf z.2.length := by
  have := nOf_le z.2.length
  simp only [properF, List.length_append, List.length_take, List.length_replicate]
  unfold nOf at this ⊢
  omega
theorem properX_may (F : List (Int × List Int)) : mayX (properX F) = true := by
  unfold mayX properX
  have h1 : ((F.take 8).map properF).length ≤ 8 := by rw [List.length_map, List.length_take]; omega
  have h2 : ((F.take 8).map properF).any badX = false := by
    rw [List.any_eq_false]
    intro z hz
    obtain ⟨y, _, rfl⟩ := List.mem_map.1 hz
    have := properF_len y
    have h3 := nOf_le y.2.length
    simp only [badX, mayN, this]
    simp; omega
  rw [decide_eq_true h1, h2]; rfl
theorem properX_snoc {F : List (Int × List Int)} {i : Nat} {z : Int × List Int} (h : F[i]? = some z) (hi : i < 8) : ((F.take (i + 1)).map properF) = ((F.take i).map properF) ++ [properF z] := by
  rw [List.take_add_one, h]; simp
/-- What makes a row of fields answers. -/
def RowPost (g : AHeap) (F : List (Int × List Int)) (r : AV × AHeap × List Nat) : Prop := (∃ l, GxAt r.2.1 r.1 F.length l ∧ Ents r.2.1 r.1 l F ∧ (∀ p, blkOf r.1 = some p → g.length ≤ p) ∧ (F ≠ [] → ∃ p, blkOf r.1 = some p) ∧ (F = [] → r.1 = .nils)) ∧ Keeps g r.2.1 none ∧ r.2.2 = []
end Go.Proofs.YtdbdmnhnijpdcaaDoorW.AI.C
namespace Go.Proofs.YtdbdmnhnijpdcaaDoorW.AI.C
open Go Go.Proofs.YtdbdmnhnijpdcaaDoorW.AI Go.Proofs.YtdbdmnhnijpdcaaDoorW.AI.Oct
set_option linter.unusedVariables false
/-- What is laid is taken. -/
theorem takeV_layB : ∀ {Ls : List Nat} {V R : List Int}, Ls.length = V.length → (∀ (i s : Nat) (v : Int), Ls[i]? = some s → V[i]? = some v → 0 ≤ v ∧ v < 256 ^ s) → takeV Ls (layB Ls V ++ R) = V
  | [], [], R, _, _ => rfl
  | s :: Ls, v :: V, R, h, hf => by
    have h0 := hf 0 s v rfl rfl
    have hl := dg_len s v
    simp only [layB, takeV, List.append_assoc]
    rw [List.take_left' hl, List.drop_left' hl, be_dg s v h0.1 h0.2, takeV_layB (by simpa using h) fun i => by simpa using hf (i + 1)]
  | [], _ :: _, _, h, _ => by simp at h
  | _ :: _, [], _, h, _ => by simp at h
/-- What is taken is laid again. -/
theorem layB_takeV : ∀ {Ls : List Nat} {D : List Int}, Byt D → Ls.sum ≤ D.length → layB Ls (takeV Ls D) = D.take Ls.sum
  | [], D, _, _ => by simp [layB]
  | s :: Ls, D, hB, hl => by
    simp only [List.sum_cons] at hl ⊢
    have h1 : (D.take s).length = s := by rw [List.length_take]; omega
    have h2 := dg_be (fun z hz => hB z (List.mem_of_mem_take hz) : Byt (D.take s))
    rw [h1] at h2
    simp only [takeV, layB]
    rw [h2, layB_takeV (fun z hz => hB z (List.mem_of_mem_drop hz)) (by rw [List.length_drop]; omega), List.take_add]
/-- What is taken fits. -/
theorem takeV_fits : ∀ {Ls : List Nat} {D : List Int}, Byt D → Ls.sum ≤ D.length → ∀ (i s : Nat) (v : Int), Ls[i]? = some s → (takeV Ls D)[i]? = some v → 0 ≤ v ∧ v < 256 ^ s
  | [], D, _, _, i, s, v, h, _ => by simp at h
  | s :: Ls, D, hB, hl, i, s', v, h, hv => by
    simp only [List.sum_cons] at hl
    cases i with
    | zero =>
      simp only [takeV, List.getElem?_cons_zero, Option.some.injEq] at h hv
      subst h hv
      have := be_bound (fun z hz => hB z (List.mem_of_mem_take hz) : Byt (D.take s))
      rw [List.length_take, Nat.min_eq_left (by omega)] at this
      exact this
    | succ i =>
      simp only [takeV, List.getElem?_cons_succ] at h hv
      exact takeV_fits (fun z hz => hB z (List.mem_of_mem_drop hz)) (by rw [List.length_drop]; omega) i s' v h hv
end Go.Proofs.YtdbdmnhnijpdcaaDoorW.AI.C
namespace Go.Proofs.YtdbdmnhnijpdcaaDoorW.AI.C
open Go Go.Proofs.YtdbdmnhnijpdcaaDoorW.AI Go.Proofs.YtdbdmnhnijpdcaaDoorW.AI.Oct
set_option maxRecDepth 100000
set_option linter.unusedSimpArgs false
set_option linter.unusedVariables false
set_option linter.unusedSectionVars false
theorem GxAt.app {h : AHeap} {v : AV} {n : Nat} {l : List AV} (g : GxAt h v n l) (js : AHeap) : GxAt (h ++ js) v n l := by
  refine ⟨g.1, ?_⟩
  rcases g.2 with e | ⟨p, mn, o, e, hp⟩
  · exact Or.inl e
  · exact Or.inr ⟨p, mn, o, e, by rw [List.getElem?_append_left (List.getElem?_eq_some_iff.1 hp).1]; exact hp⟩
theorem Ents.app {h : AHeap} {v : AV} {l : List AV} {F : List (Int × List Int)} (e : Ents h v l F) (js : AHeap) : Ents (h ++ js) v l F := fun i t D hi => by
  obtain ⟨h1, h2, d, h3, h4, h5, h6⟩ := e i t D hi
  exact ⟨h1, h2, d, h3, h4.app js, h5, h6⟩
theorem gsAt_app {h : AHeap} {v : AV} {l : List Int} (g : GsAt h v l) (js : AHeap) : GsAt (h ++ js) v l := by
  rcases g with e | ⟨p, mn, o, e, hp⟩
  · exact Or.inl e
  · exact Or.inr ⟨p, mn, o, e, by rw [List.getElem?_append_left (List.getElem?_eq_some_iff.1 hp).1]; exact hp⟩
theorem gsAt_bv {h : AHeap} {v : AV} {l : List Int} (g : GsAt h v l) (hB : Byt l) : BV h v l := by
  rcases g with ⟨rfl, rfl⟩ | ⟨p, mn, o, rfl, hp⟩
  · exact BV.nil h
  · exact gsl_bv hB rfl hp
/-- What Put has made, cut, may be read. -/
theorem gsAt_sv {h : AHeap} {v : AV} {l : List Int} (g : GsAt h v l) (hm : Mn v) (hB : Byt l) {k : Nat} (hk : k ≤ l.length) : SV h (cutX v k) (l.take k) := by
  rcases g with ⟨rfl, rfl⟩ | ⟨p, mn, o, rfl, hp⟩
  · exact Or.inl ⟨rfl, by simp⟩
  · have hmn : mn = false := by
      cases mn
      · rfl
      · exact absurd rfl (hm _ _ _ _)
    subst hmn
    refine Or.inr ⟨fun z hz => hB z (List.mem_of_mem_take hz), p, 0, 0, .tip o, l, hp, Or.inr ⟨o, rfl⟩, by rw [List.length_take]; omega, by rw [List.drop_zero, List.length_take, Nat.min_eq_left hk], Or.inr ?_⟩
    rw [List.length_take, Nat.min_eq_left hk]; rfl
theorem cutX_all {h : AHeap} {v : AV} {l : List Int} (g : GsAt h v l) : cutX v l.length = v := by
  rcases g with ⟨rfl, rfl⟩ | ⟨p, mn, o, rfl, hp⟩ <;> rfl
/-- Bytes appended to what Put has made. -/
theorem app_any {h : AHeap} {v : AV} {l xs : List Int} {k : Nat} (hv : GsAt h v l) (hB : Byt l) (hBx : Byt xs) (hk : xs.length = k) (hr : l.length + k < 1000000) :
    ∃ v' h' ws, aappend h (.ints .u8 [0]) 1 v (.ints .u8 xs) k = some (v', h', ws) ∧ BV h' v' (l ++ xs) ∧ Keeps h h' (blkOf v) ∧ (∀ b ∈ ws, blkOf v = some b) := by
  by_cases h0 : 0 < k
  · obtain ⟨v', h', ws, e, g, kk, w, _⟩ := app_one hv hk h0 hr
    exact ⟨v', h', ws, e, gsAt_bv g (hB.app hBx), kk, w⟩
  · have hk0 : k = 0 := by omega
    subst hk0
    obtain rfl : xs = [] := List.length_eq_zero_iff.1 hk
    rcases hv with ⟨rfl, rfl⟩ | ⟨p, mn, o, rfl, hp⟩
    · exact ⟨.nils, h, [], rfl, BV.nil h, Keeps.refl _ _, by simp⟩
    · have hpl := (List.getElem?_eq_some_iff.1 hp).1
      refine ⟨.gsl h.length 0 l.length 1 mn, ((if o then reTip p h.length h else h).set p ⟨.old h.length, .ints .u8 l⟩) ++ [⟨.tip true, .ints .u8 l⟩], [p], ?_, ?_, ?_, by simp [blkOf]⟩
      · simp only [aappend, ACells.len, List.length_cons, List.length_nil, hp]
        simp only [Nat.zero_add, Nat.mul_one, if_true]
        simp only [ACells.sub, List.drop_zero, Nat.mul_one, List.take_length, ACells.app, if_true, Option.bind_some]
        rw [roomy (by omega)]
        simp
      · refine gsl_bv (o := true) (hB.app hBx) (by simp) ?_
        rw [List.getElem?_append_right (by cases o <;> simp [len_reTip])]
        cases o <;> simp [len_reTip]
      · refine ⟨fun q x hq hx hne => ?_, by cases o <;> simp [len_reTip], fun hg => ?_⟩
        · have hpq : p ≠ q := fun e => hne (by rw [e]; rfl)
          rw [List.getElem?_append_left (by cases o <;> simp [len_reTip] <;> exact (List.getElem?_eq_some_iff.1 hq).1), List.getElem?_set_ne hpq]
          cases o
          · exact hq
          · exact reTip_keeps hq (hx p rfl)
        · cases o
          · exact good_set_old (y := ⟨.tip true, .ints .u8 l⟩) hg hpl
          · exact good_reTip (y := ⟨.tip true, .ints .u8 l⟩) hg hpl
-- ---------------------------------------------------------------- plain laws
theorem field_head {t : Int} {n : Nat} {R : List Int} (ht : 0 ≤ t ∧ t < 65536) (hn : n ≤ 464) : typF (dg 2 t ++ (dg 2 ((n : Int) + 4) ++ R)) = t ∧ lenF (dg 2 t ++ (dg 2 ((n : Int) + 4) ++ R)) = (n : Int) := by
  have l1 := dg_len 2 t
  have l2 := dg_len 2 ((n : Int) + 4)
  refine ⟨?_, ?_⟩
  · rw [typF, List.take_left' l1, be_dg 2 t ht.1 (by simp only [Int.reducePow]; omega)]
  · rw [lenF, List.drop_left' l1, List.take_left' l2, be_dg 2 _ (by omega) (by simp only [Int.reducePow]; omega)]
    omega
theorem mayN_I {n : Nat} (h : mayN n = true) : mayI (n : Int) = true := by
  simp only [mayI, Int.toNat_natCast, h, Bool.and_true, decide_eq_true_eq]; omega
theorem mayN_of {F : List (Int × List Int)} (h : mayX F = true) : ∀ z ∈ F, mayN z.2.length = true := by
  simp only [mayX, Bool.and_eq_true, Bool.not_eq_true', List.any_eq_false] at h
  intro z hz
  have := h.2 z hz
  simpa [badX] using this
/-- Of laid fields that are cut: too short, or the first of them. -/
theorem parse_cut : ∀ (F2 F1 : List (Int × List Int)) (k : Nat) (S : List Int), F1.length + F2.length ≤ 8 → (∀ z ∈ F2, (0 ≤ z.1 ∧ z.1 < 65536) ∧ mayN z.2.length = true) → (S.length = 0 ∨ S.length = 12) →
    ∀ c, c ≤ (putX F2 ++ S).length → (c = (putX F2 ++ S).length ∨ S = []) → k = 9 - F1.length →
    (parseX k F1 ((putX F2 ++ S).take c) = .err 4 ∧ c ≠ (putX F2 ++ S).length) ∨ (∃ j T, j ≤ F2.length ∧ parseX k F1 ((putX F2 ++ S).take c) = .ok (F1 ++ F2.take j) T ∧ (c = (putX F2 ++ S).length → j = F2.length ∧ T = S))
  | [], F1, k, S, h8, hF, hS, c, hc, hcS, hk => by
    refine Or.inr ⟨0, S.take c, by simp, ?_, fun e => ⟨rfl, ?_⟩⟩
    · obtain ⟨k', rfl⟩ : ∃ k', k = k' + 1 := ⟨k - 1, by simp at h8; omega⟩
      simp only [putX, List.map_nil, List.flatten_nil, List.nil_append] at hc hcS ⊢
      rw [parseX, if_pos]
      · simp
      · rcases hcS with e | rfl
        · rw [e, List.take_length]; exact hS
        · simp
    · simp only [putX, List.map_nil, List.flatten_nil, List.nil_append] at e
      rw [e, List.take_length]
  | z :: F2, F1, k, S, h8, hF, hS, c, hc, hcS, hk => by
    obtain ⟨⟨t0, t1⟩, hm⟩ := hF z List.mem_cons_self
    obtain ⟨t, D⟩ := z
    simp only at t0 t1 hm
    obtain ⟨n, hn⟩ : ∃ n, D.length = n := ⟨_, rfl⟩
    rw [hn] at hm
    have hm' := hm
    simp only [mayN, Bool.and_eq_true, decide_eq_true_eq] at hm'
    obtain ⟨k', rfl⟩ : ∃ k', k = k' + 1 := ⟨k - 1, by simp at h8; omega⟩
    obtain ⟨R, hR⟩ : ∃ R, putX F2 ++ S = R := ⟨_, rfl⟩
    have hput : putX ((t, D) :: F2) ++ S = dg 2 t ++ (dg 2 ((n : Int) + 4) ++ (D ++ R)) := by
      rw [← hR]; simp [putX, putF, hn]
    rw [hput] at hc hcS ⊢
    have l1 := dg_len 2 t
    have l2 := dg_len 2 ((n : Int) + 4)
    have hlen : (dg 2 t ++ (dg 2 ((n : Int) + 4) ++ (D ++ R))).length = 4 + n + R.length := by simp only [List.length_append, l1, l2, hn]; omega
    rw [hlen] at hc hcS ⊢
    by_cases c0 : c = 0 ∨ c = 12
    · have hS0 : S = [] := by
        rcases hcS with e | e
        · omega
        · exact e
      refine Or.inr ⟨0, (dg 2 t ++ (dg 2 ((n : Int) + 4) ++ (D ++ R))).take c, by simp, ?_, fun e => by omega⟩
      rw [parseX, if_pos (by rw [List.length_take, hlen]; omega)]
      simp
    · have hSc := hcS
      by_cases c1 : c < 16
      · refine Or.inl ⟨?_, by omega⟩
        rw [parseX, if_neg (by rw [List.length_take, hlen]; omega), if_pos (by rw [List.length_take, hlen]; omega)]
      · have htake : (dg 2 t ++ (dg 2 ((n : Int) + 4) ++ (D ++ R))).take c = dg 2 t ++ (dg 2 ((n : Int) + 4) ++ (D ++ R).take (c - 4)) := by
          rw [List.take_append, l1, List.take_of_length_le (by omega : (dg 2 t).length ≤ c), List.take_append, l2, List.take_of_length_le (by omega : (dg 2 ((n : Int) + 4)).length ≤ c - 2), show c - 2 - 2 = c - 4 by omega]
        obtain ⟨f1, f2⟩ := field_head (t := t) (n := n) (R := (D ++ R).take (c - 4)) ⟨t0, t1⟩ (by omega)
        rw [htake]
        have hl3 : (dg 2 t ++ (dg 2 ((n : Int) + 4) ++ (D ++ R).take (c - 4))).length = c := by rw [← htake, List.length_take, hlen]; omega
        rw [parseX, hl3, if_neg c0, if_neg c1, f1, f2, mayN_I hm, if_neg (by simp), Int.toNat_natCast]
        by_cases c2 : c < n + 4
        · rw [if_pos (by omega)]
          exact Or.inl ⟨rfl, by omega⟩
        · rw [if_neg (by omega), if_neg (by simp at h8; omega)]
          have hd : ((dg 2 t ++ (dg 2 ((n : Int) + 4) ++ (D ++ R).take (c - 4))).drop 4).take n = D := by
            rw [← List.append_assoc, List.drop_left' (by simp [l1, l2]), List.take_take, Nat.min_eq_left (by omega), List.take_left' hn]
          have hr : (dg 2 t ++ (dg 2 ((n : Int) + 4) ++ (D ++ R).take (c - 4))).drop (4 + n) = R.take (c - (4 + n)) := by
            rw [← List.drop_drop, ← List.append_assoc, List.drop_left' (by simp [l1, l2]), List.drop_take, List.drop_left' hn, show c - 4 - n = c - (4 + n) by omega]
          rw [hd, hr]
          have ih := parse_cut F2 (F1 ++ [(t, D)]) k' S (by simp at h8 ⊢; omega) (fun z hz => hF z (List.mem_cons_of_mem _ hz)) hS (c - (4 + n)) (by rw [hR]; omega) (by rw [hR]; rcases hSc with e | e; exact Or.inl (by omega); exact Or.inr e) (by simp; omega)
          rw [hR] at ih
          rcases ih with ⟨e, e2⟩ | ⟨j, T, hj, e, e2⟩
          · exact Or.inl ⟨e, by omega⟩
          · refine Or.inr ⟨j + 1, T, by simp; omega, by rw [e]; simp, fun h => ?_⟩
            obtain ⟨a, b⟩ := e2 (by omega)
            exact ⟨by simp [a], b⟩
/-- What is laid is read. -/
theorem parse_put {F : List (Int × List Int)} {S : List Int} (hm : mayX F = true) (hF : ∀ z ∈ F, 0 ≤ z.1 ∧ z.1 < 65536) (hS : S.length = 0 ∨ S.length = 12) : parseX 9 [] (putX F ++ S) = .ok F S := by
  have h8 := (mayX_all hm).1
  have := parse_cut F [] 9 S (by simpa using h8) (fun z hz => ⟨hF z hz, mayN_of hm z hz⟩) hS (putX F ++ S).length (Nat.le_refl _) (Or.inl rfl) rfl
  rw [List.take_length] at this
  rcases this with ⟨_, e⟩ | ⟨j, T, hj, e, e2⟩
  · exact absurd rfl e
  · obtain ⟨rfl, rfl⟩ := e2 rfl
    rw [e]; simp
/-- What is read is laid again. -/
theorem put_parse : ∀ (k : Nat) (F1 F : List (Int × List Int)) (D D' : List Int), Byt D → F1.length + k = 9 → parseX k F1 D = .ok F D' → ∃ F2, F = F1 ++ F2 ∧ D = putX F2 ++ D' ∧ (∀ z ∈ F2, (0 ≤ z.1 ∧ z.1 < 65536) ∧ mayN z.2.length = true) ∧ F.length ≤ 8 ∧ (D'.length = 0 ∨ D'.length = 12)
  | 0, F1, F, D, D', hB, hk, h => by cases h
  | k + 1, F1, F, D, D', hB, hk, h => by
    rw [parseX] at h
    split at h
    · rename_i c0
      cases h
      exact ⟨[], by simp, by simp [putX], by simp, by omega, c0⟩
    · split at h
      · cases h
      · rename_i c0 c1
        split at h
        · cases h
        · rename_i c2
          split at h
          · cases h
          · rename_i c3
            split at h
            · cases h
            · rename_i c4
              have hmI : mayI (lenF D) = true := by simpa using c2
              obtain ⟨m1, m2⟩ := mayI_le hmI
              obtain ⟨n, hn⟩ : ∃ n : Nat, lenF D = (n : Int) := ⟨(lenF D).toNat, by omega⟩
              rw [hn, Int.toNat_natCast] at h
              have hl22 := len22 hB (show 4 ≤ D.length by omega)
              have hBd : Byt (D.drop (4 + n)) := fun z hz => hB z (List.mem_of_mem_drop hz)
              obtain ⟨F2, e1, e2, e3, e4, e5⟩ := put_parse k _ F _ D' hBd (by simp; omega) h
              have hm : mayN n = true := by
                have := hmI
                rw [hn] at this
                simp only [mayI, Int.toNat_natCast, Bool.and_eq_true] at this
                exact this.2
              have hcl : ((D.drop 4).take n).length = n := by rw [List.length_take, List.length_drop]; omega
              refine ⟨(typF D, (D.drop 4).take n) :: F2, by rw [e1]; simp, ?_, ?_, e4, e5⟩
              · have hB2 : Byt (D.take 2) := fun z hz => hB z (List.mem_of_mem_take hz)
                have hB3 : Byt ((D.drop 2).take 2) := fun z hz => hB z (List.mem_of_mem_drop (List.mem_of_mem_take hz))
                have d1 := dg_be hB2
                have d2 := dg_be hB3
                rw [show (D.take 2).length = 2 by rw [List.length_take]; omega] at d1
                rw [show ((D.drop 2).take 2).length = 2 by rw [List.length_take, List.length_drop]; omega] at d2
                have e6 : putX ((typF D, (D.drop 4).take n) :: F2) = D.take 2 ++ ((D.drop 2).take 2 ++ ((D.drop 4).take n ++ putX F2)) := by
                  have h7 : ((n : Int) + 4) = be ((D.drop 2).take 2) := by rw [← hn, lenF]; omega
                  simp only [putX, List.map_cons, List.flatten_cons, putF, hcl, h7, d2]
                  rw [show dg 2 (typF D) = D.take 2 from d1]
                  simp
                rw [e6, List.append_assoc, List.append_assoc, List.append_assoc, ← e2, show (4 + n) = 2 + 2 + n by omega, ← List.drop_drop, ← List.drop_drop]
                rw [show D.drop 4 = (D.drop 2).drop 2 by rw [List.drop_drop], List.take_append_drop, List.take_append_drop, List.take_append_drop]
              · intro z hz
                rcases List.mem_cons.1 hz with rfl | hz
                · exact ⟨hl22.1, by simp only [hcl]; exact hm⟩
                · exact e3 z hz
end Go.Proofs.YtdbdmnhnijpdcaaDoorW.AI.C

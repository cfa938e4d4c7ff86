import Derived.Test.YtcpiohklljppaaaAIDcmb3
namespace Go.Proofs.YtcpiohklljppaaaW.AI.D
open Go Go.Proofs.YtcpiohklljppaaaW.AI Go.RowKit
set_option maxRecDepth 100000
set_option linter.unusedSimpArgs false
set_option linter.unusedVariables false
set_option linter.unusedSectionVars false
/-- A slice value that holds spans. -/
def Spans (w : World) (sv : Value) (L : List Sp) : Prop := (sv = .slice none 0 0 ∧ L = []) ∨ ∃ q cap, sv = .slice (some q) L.length cap ∧ L.length ≤ cap ∧ (cap ≠ 0 → q.spot = none) ∧ Cel w q.block q.off (flat3 L)
/-- A slice value that holds whole numbers. -/
def Ints (w : World) (sv : Value) (n : Nat) (l : List Int) : Prop := ∃ b o cap, sv = .slice (some ⟨b, o, none⟩) l.length cap ∧ n ≤ b ∧ Cel w b o l
theorem SV.spans {B : Nat} {ρ : Env} {h : AHeap} {w : World} {v : AV} {L : List Sp} {sv : Value} (u : SV h v L) (r : R ρ v sv) (rep : Rep B ρ h w) : Spans w sv L := by
  obtain ⟨rfl, rfl⟩ | ⟨b, c, st, l, mn, e, hst, ht, hv⟩ := u
  · simp only [R] at r
    exact Or.inl ⟨r, rfl⟩
  have hnd : (⟨st, .ints .i64 l⟩ : ABlk).st ≠ .dead := by rcases hst with rfl | ⟨o, rfl⟩ <;> simp
  have hlies := rep.lies b _ e hnd
  have cel : Cel w (ρ.blk b) (ρ.base b) (flat3 L) := by
    intro j x hx
    rw [← ht, List.getElem?_take] at hx
    split at hx
    case isFalse => cases hx
    have hjl := (List.getElem?_eq_some_iff.1 hx).1
    obtain ⟨h1, h2⟩ := hlies
    obtain ⟨arr, T, fz, g1, g2, g3⟩ := h2 (by simp only [ACells.len] at h1; omega)
    obtain ⟨y, g4, g5⟩ := g3 j (.int .i64 x) (by simp [ACells.get?, hx])
    simp only [R] at g5
    simp only [World.cell?, g1, Option.isSome_none, Bool.false_eq_true, if_false]
    rw [g4, g5]
  rcases hv with ⟨rfl, hc⟩ | rfl
  · simp only [R] at r
    obtain ⟨q, rfl, hq, _⟩ := r
    refine Or.inr ⟨q, c, rfl, hc, fun hc0 => by rw [hq hc0], ?_⟩
    by_cases c0 : c = 0
    · have : L = [] := List.length_eq_zero_iff.1 (by omega)
      subst this
      intro j x hx
      simp [flat3] at hx
    · rw [hq c0]; exact cel
  · simp only [R] at r
    rcases r with ⟨q, c, rfl, hc, hq⟩ | ⟨_, h0, rfl⟩
    · refine Or.inr ⟨_, c, rfl, hc, fun _ => rfl, ?_⟩
      by_cases c0 : c = 0
      · have : L = [] := List.length_eq_zero_iff.1 (by omega)
        subst this
        intro j x hx
        simp [flat3] at hx
      · obtain ⟨rfl, _⟩ := hq c0
        exact cel
    · exact Or.inl ⟨rfl, List.length_eq_zero_iff.1 h0⟩
theorem Spans.kept {w w' : World} {sv : Value} {L : List Sp} (s : Spans w sv L) (hk : ∀ b, b < w.heap.size → w'.heap[b]? = w.heap[b]?) : Spans w' sv L := by
  obtain c | ⟨q, cap, e, h1, h2, h3⟩ := s
  · exact Or.inl c
  · refine Or.inr ⟨q, cap, e, h1, h2, ?_⟩
    by_cases hL : flat3 L = []
    · intro j x hx; rw [hL] at hx; simp at hx
    · exact h3.of_block (hk _ (h3.lt hL))
section
variable {w : World}
theorem sv2 (q : Addr) (cap : Nat) (L : List Sp) (hc : L.length ≤ cap) : SV (CP.gl ++ ([(q.block, q.off, flat3 L)] : Bks).map bkB) (.sl 2 0 L.length cap) L :=
  Or.inr ⟨2, cap, .ext, flat3 L, false, rfl, Or.inl rfl, by rw [← flat3_len, List.take_length], Or.inl ⟨rfl, hc⟩⟩
theorem raw_sl {q : Addr} {cap : Nat} {L : List Sp} (hc : L.length ≤ cap) (hq : cap ≠ 0 → q.spot = none) : Rs (envB [(q.block, q.off, flat3 L)]) [.sl 2 0 L.length cap] (#[Value.slice (some q) L.length cap] : Array Value).toList := by
  simp only [Rs, R]
  refine ⟨_, _, rfl, ⟨q, rfl, fun h0 => ?_, hc⟩, rfl⟩
  have := hq h0
  obtain ⟨b, o, s⟩ := q
  simp only at this
  subst this
  rfl
theorem gB (bs : Bks) : Good (CP.gl ++ bs.map bkB) := good_app cgl (List.all_eq_true.2 fun x hx => by
  obtain ⟨b, _, rfl⟩ := List.mem_map.1 hx
  rfl)
theorem may_raw {sv : Value} {L : List Sp} (s : Spans w sv L) (hl : L.length ≤ 9223372036854775806) : Calls Go.Proofs.Try.prog 57 #[sv] w fun e w' => e = .returned (.bool (L.all mayB)) ∧ Below w.heap.size w w' := by
  obtain ⟨rfl, rfl⟩ | ⟨q, cap, rfl, hc, hq, hcel⟩ := s
  · exact raw_bool (bs := []) (may_c (v := .nils) (gB []) (Or.inl ⟨rfl, rfl⟩) hl) (by simp) rfl ⟨_, _, rfl, rfl, rfl⟩
  · refine raw_bool (bs := [(q.block, q.off, flat3 L)]) (may_c (gB _) (sv2 q cap L hc) hl) (fun b hb => ?_) rfl (raw_sl hc hq)
    simp only [List.mem_singleton] at hb
    subst hb
    exact hcel
theorem spanMay_raw (s : Sp) : Calls Go.Proofs.Try.prog 28 #[.agg #[.int .i64 s.1, .int .i64 s.2.1, .int .i64 s.2.2]] w fun e w' => e = .returned (.bool (mayB s)) ∧ Below w.heap.size w w' :=
  raw_bool (bs := []) (span_May (a := s.1) (l := s.2.1) (u := s.2.2) _) (by simp) rfl ⟨_, _, rfl, ⟨_, rfl, _, _, rfl, rfl, _, _, rfl, rfl, _, _, rfl, rfl, rfl⟩, rfl⟩
theorem mid_raw (s : Sp) : Calls Go.Proofs.Try.prog 31 #[.agg #[.int .i64 s.1, .int .i64 s.2.1, .int .i64 s.2.2]] w fun e w' => e = .returned (.int .i64 (mS s)) ∧ Below w.heap.size w w' :=
  raw_int (bs := []) (span_Mid (a := s.1) (l := s.2.1) (u := s.2.2) _) (by simp) rfl ⟨_, _, rfl, ⟨_, rfl, _, _, rfl, rfl, _, _, rfl, rfl, _, _, rfl, rfl, rfl⟩, rfl⟩
theorem clamp_raw (a lo hi : Int) : Calls Go.Proofs.Try.prog 73 #[.int .i64 a, .int .i64 lo, .int .i64 hi] w fun e w' => e = .returned (.int .i64 (clamp a lo hi)) ∧ Below w.heap.size w w' :=
  raw_int (bs := []) (fix_Clamp (a := a) (lo := lo) (hi := hi) _) (by simp) rfl ⟨_, _, rfl, rfl, _, _, rfl, rfl, _, _, rfl, rfl, rfl⟩
theorem weights_raw {b o cap : Nat} {L : List Sp} (hcel : Cel w b o (flat3 L)) (hc : L.length ≤ cap) (h16 : L.length ≤ 16) (h0 : L ≠ []) (hm : L.all mayB = true) :
    Calls Go.Proofs.Try.prog 36 #[.slice (some ⟨b, o, none⟩) L.length cap] w fun e w' => ∃ xw, e = .returned xw ∧ Below w.heap.size w w' ∧ Ints w' xw w.heap.size (wts L) := by
  obtain ⟨r, js, e, ti, hG, _⟩ := weights_ok (gB [(b, o, flat3 L)]) (sv2 ⟨b, o, none⟩ cap L hc) h16 hm
  refine (raw e (fun b' hb => ?_) rfl (raw_sl (q := ⟨b, o, none⟩) hc fun _ => rfl)).mono ?_
  · simp only [List.mem_singleton] at hb
    subst hb
    exact hcel
  rintro e' w' ⟨x, ρ', rfl, _, hx, rep, hb⟩
  refine ⟨x, rfl, hb, ?_⟩
  have hl : 0 < (wts L).length := by rw [wts_len]; exact List.length_pos_iff.2 h0
  have key : ∀ {p : Nat} {t : Bool}, (CP.gl ++ List.map bkB [(b, o, flat3 L)] ++ js)[p]? = some ⟨.tip t, .ints .i64 (wts L)⟩ → w.heap.size ≤ ρ'.blk p ∧ Cel w' (ρ'.blk p) (ρ'.base p) (wts L) := by
    intro p t ep
    have hlies := rep.lies p _ ep (by simp)
    have hz : ρ'.sz p ≠ 0 := by have := hlies.1; simp only [ACells.len] at this; omega
    refine ⟨(rep.own p _ t ep rfl hz).1, fun j z hz' => ?_⟩
    obtain ⟨arr, T, fz, g1, g2, g3⟩ := hlies.2 hz
    obtain ⟨y, g4, g5⟩ := g3 j (.int .i64 z) (by simp [ACells.get?, hz'])
    simp only [R] at g5
    simp only [World.cell?, g1, Option.isSome_none, Bool.false_eq_true, if_false]
    rw [g4, g5]
  rcases ti with ⟨_, h1⟩ | ⟨p, _, ⟨rfl, ep⟩ | ⟨t, mn, rfl, ep⟩⟩
  · rw [h1] at hl; simp at hl
  · obtain ⟨k1, k2⟩ := key ep
    simp only [R] at hx
    obtain ⟨q, rfl, hq, _⟩ := hx
    rw [hq (by omega)]
    exact ⟨_, _, _, rfl, k1, by simpa using k2⟩
  · obtain ⟨k1, k2⟩ := key ep
    simp only [R] at hx
    rcases hx with ⟨q, c, rfl, hc', hq⟩ | ⟨_, h1, _⟩
    · obtain ⟨rfl, _⟩ := hq (by omega)
      exact ⟨_, _, _, rfl, k1, by simpa using k2⟩
    · omega
/-- What is told of a quotient. -/
def qz (q : Int) : Int := if I64 q then q else 0
def qe (q : Int) : Int := if I64 q then 0 else 20
theorem qres_eq (q : Int) : qres q = .tup [.int .i64 (qz q), .int .i64 (qe q)] := by
  unfold qres qz qe
  split <;> rfl
theorem part2_raw {mid wt lo hi at' all : Int} {b1 o1 b2 o2 : Nat} (e1 : Cel w b1 o1 [at', lo, hi]) (e2 : Cel w b2 o2 [all]) (hm : I64 (mid - lo)) (hw : I64 wt) (ha : 0 < all ∧ all ≤ 9223372036854775807) :
    Calls Go.Proofs.Try.prog 60 #[.int .i64 mid, .int .i64 wt, .pointer (some ⟨b1, o1, none⟩), .pointer (some ⟨b2, o2, none⟩)] w fun e w' => e = .returned (.tuple #[.int .i64 (qz (mdv false (mid - lo) wt all)), .int .i64 (qe (mdv false (mid - lo) wt all))]) ∧ Below w.heap.size w w' := by
  have e := part2_c (h := CP.gl ++ ([(b1, o1, [at', lo, hi]), (b2, o2, [all])] : Bks).map bkB) (b1 := 2) (b2 := 3) (gB _) rfl rfl (Or.inl rfl) (Or.inl rfl) hm hw ha
  rw [qres_eq] at e
  refine raw_two e (fun b hb => ?_) rfl ?_
  · simp only [List.mem_cons, List.not_mem_nil, or_false] at hb
    rcases hb with rfl | rfl
    · exact e1
    · exact e2
  · simp only [Rs, R, Env.addr]
    exact ⟨_, _, rfl, rfl, _, _, rfl, rfl, _, _, rfl, rfl, _, _, rfl, rfl, rfl⟩
theorem part3_raw {mid wt mean all : Int} {b1 o1 b2 o2 : Nat} (e1 : Cel w b1 o1 [mean]) (e2 : Cel w b2 o2 [all]) (hm : -9223372036854775808 < mid - mean ∧ mid - mean ≤ 9223372036854775807) (hw : I64 wt) (ha : 0 < all ∧ all ≤ 9223372036854775807) :
    Calls Go.Proofs.Try.prog 61 #[.int .i64 mid, .int .i64 wt, .pointer (some ⟨b1, o1, none⟩), .pointer (some ⟨b2, o2, none⟩)] w fun e w' => e = .returned (.tuple #[.int .i64 (qz (mdv true ((mid - mean).natAbs : Int) wt all)), .int .i64 (qe (mdv true ((mid - mean).natAbs : Int) wt all))]) ∧ Below w.heap.size w w' := by
  have e := part3_c (h := CP.gl ++ ([(b1, o1, [mean]), (b2, o2, [all])] : Bks).map bkB) (b1 := 2) (b2 := 3) (gB _) rfl rfl (Or.inl rfl) (Or.inl rfl) hm hw ha
  rw [qres_eq] at e
  refine raw_two e (fun b hb => ?_) rfl ?_
  · simp only [List.mem_cons, List.not_mem_nil, or_false] at hb
    rcases hb with rfl | rfl
    · exact e1
    · exact e2
  · simp only [Rs, R, Env.addr]
    exact ⟨_, _, rfl, rfl, _, _, rfl, rfl, _, _, rfl, rfl, _, _, rfl, rfl, rfl⟩
end
end Go.Proofs.YtcpiohklljppaaaW.AI.D

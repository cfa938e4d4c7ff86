import Derived.Test.YtdpbbagllhfjbaaDoorAIGpkt7
namespace Go.Proofs.YtdpbbagllhfjbaaDoorW.AI.G
open Go Go.Proofs.YtdpbbagllhfjbaaDoorW.AI Go.Proofs.YtdpbbagllhfjbaaDoorW.AI.Oct
set_option maxRecDepth 100000
set_option linter.unusedSimpArgs false
set_option linter.unusedVariables false
set_option linter.unusedSectionVars false
theorem BV.set_vals {h : AHeap} {v : AV} {L : List Int} {q : Nat} {A B : List AV} (s : BV h v L) (hq : h[q]? = some ⟨.tip false, .vals A⟩) : BV (h.set q ⟨.tip false, .vals B⟩) v L := by
  obtain ⟨hB, k | ⟨b, o, c, st, l, mn, e, r⟩⟩ := s
  · exact ⟨hB, Or.inl k⟩
  · refine ⟨hB, Or.inr ⟨b, o, c, st, l, mn, ?_, r⟩⟩
    rw [List.getElem?_set_ne (by rintro rfl; rw [hq] at e; cases e)]
    exact e
section
variable {x : AV} {D : List Int}
/-- What Parse answers: its heap. -/
def ParOk (h : AHeap) (R : PP) (o : Option (AV × AHeap × List Nat)) : Prop := match R with
  | .err e => o = some (.tup [.agg (pk0.l .nils), .int .i64 e], h, [])
  | .ok P F => ∃ xv l js, o = some (.tup [.agg (P.l xv), .int .i64 0], h ++ js, []) ∧ XO (h ++ js) h.length F xv l ∧ Good (h ++ js)
theorem par_from {f : Nat} {m : MFunc} {h : AHeap} (hp : ∀ h, CP.prim f [x] h = none) (hm : CP.mp f = some m) (ht : m.trim = true) (hg : Good h) (hx0 : AV.lts 0 [x] = false) {R : PP} (key : Wp (xbody (W CP) m [x] h) (ParPost h R)) : ParOk h R (W CP f [x] h) := by
  cases R with
  | err e =>
    refine W_quietP (m := m) (hp h) hm hx0 ht rfl hg (key.mono fun r hr => ?_)
    obtain ⟨k, e1, e2⟩ := hr
    exact ⟨e2, k.behind, e1⟩
  | ok P F =>
    obtain ⟨⟨r1, h', ws⟩, e, k, rfl, xv, l, rfl, xo⟩ := key
    simp only at k xo
    obtain ⟨js, rfl⟩ := k.behind
    cases hl : xv.lt h.length with
    | false =>
      refine ⟨xv, l, js, ?_, xo, k.2.2 hg⟩
      rw [W_body (m := m) (hp h) hm hx0 e, ht, if_pos rfl, trim_addr (by simp [AV.lt, AV.lts, hl])]
    | true =>
      have hv : xv = .nils := lt_blkOf xo.gx.slen xo.gp hl (by
        rintro b o m c rfl
        rcases xo.gx.2 with ⟨e, _⟩ | ⟨_, _, _, e, _⟩ <;> cases e)
      subst hv
      have hF : F = [] := by
        rcases xo.gx.2 with ⟨_, e⟩ | ⟨_, _, _, e, _⟩
        · exact List.length_eq_zero_iff.1 e
        · cases e
      subst hF
      refine ⟨.nils, [], [], ?_, ⟨⟨rfl, Or.inl ⟨rfl, rfl⟩⟩, fun i t D hi => by simp at hi, fun i t D hi => by simp at hi, by simp [blkOf]⟩, by rw [List.append_nil]; exact hg⟩
      rw [List.append_nil]
      exact W_quiet (m := m) (hp h) hm hx0 ht (by simp [AV.lt, AV.lts]) hg e
theorem pparse_c {h : AHeap} (hg : Good h) (ha : At0 h) (hx : SV h x D) (hD : D.length < 1000000000) : ParOk h (parseP D) (W CP 15 [x] h) := by
  rcases hx with ⟨rfl, rfl⟩ | hs
  · show W CP 15 [.nils] h = some (.tup [.agg (pk0.l .nils), .int .i64 4], h, [])
    refine W_val (m := M15) (fun _ => rfl) rfl rfl rfl ?_ h
    have e := parse_short (h := CP.gl ++ [⟨.tip false, .vals (pk0.l .nils)⟩]) (x := .nils) (n := 0) (good_app glG rfl) rfl (by decide)
    simp only [pk0, Pk.l] at e
    simp (maxDischargeDepth := 9) -implicitDefEqProofs only [push_cast, simprocAttr, M15, nadd1, nadd2, nadd3, nadd4, nadd5, nadd6, nadd7, nadd8, nadd9, nadd10, nadd11, nadd12, e, pk0, Pk.l]
  · exact par_from (fun _ => rfl) rfl rfl hg (by obtain ⟨_, b, o, c, st, l, _, _, _, _, ⟨rfl, _⟩ | rfl⟩ := hs <;> simp [AV.lts, AV.lt]) (pparse_key hg ha hs hD)
end
end Go.Proofs.YtdpbbagllhfjbaaDoorW.AI.G

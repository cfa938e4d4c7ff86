import Derived.Test.YtdpbbagllhfjbaaDoorAIFstA
import Derived.Test.YtdpbbagllhfjbaaDoorAIFpktB
import Derived.Test.YtdpbbagllhfjbaaDoorAIFpktf1
namespace Go.Proofs.YtdpbbagllhfjbaaDoorW.AI.F
open Go Go.Proofs.YtdpbbagllhfjbaaDoorW.AI Go.Proofs.YtdpbbagllhfjbaaDoorW.AI.Oct
set_option maxRecDepth 100000
set_option linter.unusedSimpArgs false
set_option linter.unusedVariables false
set_option linter.unusedSectionVars false
-- ------------------------------------------------------------------ a server
structure Srv where
  st : Int
  rid : Int
  kid : Int
  ka : Int
  kb : Int
  rho : Int
structure Srv.Ok (S : Srv) : Prop where
  s1 : 1 ≤ S.st
  s2 : S.st ≤ 15
  r0 : 0 ≤ S.rid
  r1 : S.rid ≤ 4294967295
  k0 : 0 ≤ S.kid
  k1 : S.kid ≤ 4294967295
  o0 : 0 ≤ S.rho
  o1 : S.rho ≤ 16000000000
abbrev Srv.l (S : Srv) : List AV := [.int .u8 S.st, .int .u32 S.rid, .int .u32 S.kid, .int .u64 S.ka, .int .u64 S.kb, .int .i64 S.rho]
abbrev Srv.b (S : Srv) (n : Int) : List AV := [.int .u8 S.st, .int .u32 S.rid, .int .u32 S.kid, .int .u64 S.ka, .int .u64 S.kb, .int .i64 S.rho, .int .i64 n]
theorem snew_bad {S : Srv} (hb : S.st < 1 ∨ 15 < S.st ∨ S.rho < 0 ∨ 16000000000 < S.rho) (h : AHeap) : W CP 7 [.agg S.l] h = some (.tup [.nilp, .int .i64 1], h, []) := by
  refine W_val (m := M7) (fun _ => rfl) rfl rfl rfl ?_ h
  by_cases c1 : S.st < 1
  · simp (maxDischargeDepth := 9) -implicitDefEqProofs only [push_cast, simprocAttr, M7, nadd1, nadd2, nadd3, nadd4, nadd5, nadd6, nadd7, nadd8, nadd9, nadd10, nadd11, nadd12, Srv.l, c1]
  by_cases c2 : 15 < S.st
  · simp (maxDischargeDepth := 9) -implicitDefEqProofs only [push_cast, simprocAttr, M7, nadd1, nadd2, nadd3, nadd4, nadd5, nadd6, nadd7, nadd8, nadd9, nadd10, nadd11, nadd12, Srv.l, c1, c2]
  by_cases c3 : S.rho < 0
  · simp (maxDischargeDepth := 9) -implicitDefEqProofs only [push_cast, simprocAttr, M7, nadd1, nadd2, nadd3, nadd4, nadd5, nadd6, nadd7, nadd8, nadd9, nadd10, nadd11, nadd12, Srv.l, c1, c2, c3]
  have c4 : 16000000000 < S.rho := by omega
  simp (maxDischargeDepth := 9) -implicitDefEqProofs only [push_cast, simprocAttr, M7, nadd1, nadd2, nadd3, nadd4, nadd5, nadd6, nadd7, nadd8, nadd9, nadd10, nadd11, nadd12, Srv.l, c1, c2, c3, c4]
theorem snew_ok {S : Srv} (ok : S.Ok) (h : AHeap) : W CP 7 [.agg S.l] h = some (.tup [.ptr (h.length + 1) 0, .int .i64 0], h ++ [⟨.tip false, .vals S.l⟩, ⟨.tip false, .vals (S.b 0)⟩], []) := by
  have c1 : ¬ S.st < 1 := by have := ok.s1; omega
  have c2 : ¬ 15 < S.st := by have := ok.s2; omega
  have c3 : ¬ S.rho < 0 := by have := ok.o0; omega
  have c4 : ¬ 16000000000 < S.rho := by have := ok.o1; omega
  have hb : ∀ h : AHeap, xbody (W CP) M7 [.agg S.l] h = some (.tup [.ptr (h.length + 1) 0, .int .i64 0], h ++ [⟨.tip false, .vals S.l⟩, ⟨.tip false, .vals (S.b 0)⟩], []) := by
    intro h
    simp (maxDischargeDepth := 9) -implicitDefEqProofs only [push_cast, simprocAttr, M7, nadd1, nadd2, nadd3, nadd4, nadd5, nadd6, nadd7, nadd8, nadd9, nadd10, nadd11, nadd12, Srv.l, Srv.b, ABlk.new, c1, c2, c3, c4]
    try rfl
  rw [W_made (m := M7) rfl rfl rfl (hb _) (by simp [AV.lt, AV.lts]) (hb h)]
  have : M7.trim = true := rfl
  rw [this, if_pos rfl, trim_addr (by simp [AV.lt, AV.lts])]
theorem rnew_bad {S : Srv} (s0 : 0 ≤ S.st) (hb : S.st < 1 ∨ 15 < S.st ∨ S.rho < 0 ∨ 16000000000 < S.rho) (h : AHeap) : W CP 8 [.agg S.l] h = some (.tup [.nilp, .int .i64 1], h, []) := by
  refine W_val (m := M8) (fun _ => rfl) rfl rfl rfl ?_ h
  obtain ⟨st, rid, kid, ka, kb, rho⟩ := S
  simp only at s0 hb
  by_cases c1 : st = 0
  · subst c1
    simp (maxDischargeDepth := 9) -implicitDefEqProofs only [push_cast, simprocAttr, M8, nadd1, nadd2, nadd3, nadd4, nadd5, nadd6, nadd7, nadd8, nadd9, nadd10, nadd11, nadd12, Srv.l]
  by_cases c2 : 15 < st
  · simp (maxDischargeDepth := 9) -implicitDefEqProofs only [push_cast, simprocAttr, M8, nadd1, nadd2, nadd3, nadd4, nadd5, nadd6, nadd7, nadd8, nadd9, nadd10, nadd11, nadd12, Srv.l, c1, c2]
  by_cases c3 : rho < 0
  · simp (maxDischargeDepth := 9) -implicitDefEqProofs only [push_cast, simprocAttr, M8, nadd1, nadd2, nadd3, nadd4, nadd5, nadd6, nadd7, nadd8, nadd9, nadd10, nadd11, nadd12, Srv.l, c1, c2, c3]
  have c4 : 16000000000 < rho := by omega
  simp (maxDischargeDepth := 9) -implicitDefEqProofs only [push_cast, simprocAttr, M8, nadd1, nadd2, nadd3, nadd4, nadd5, nadd6, nadd7, nadd8, nadd9, nadd10, nadd11, nadd12, Srv.l, c1, c2, c3, c4]
theorem rnew_ok {S : Srv} (ok : S.Ok) (h : AHeap) : W CP 8 [.agg S.l] h = some (.tup [.ptr (h.length + 1) 0, .int .i64 0], h ++ [⟨.tip false, .vals S.l⟩, ⟨.tip false, .vals (S.b 0)⟩], []) := by
  have c1 : ¬ S.st = 0 := by have := ok.s1; omega
  have c2 : ¬ 15 < S.st := by have := ok.s2; omega
  have c3 : ¬ S.rho < 0 := by have := ok.o0; omega
  have c4 : ¬ 16000000000 < S.rho := by have := ok.o1; omega
  have hb : ∀ h : AHeap, xbody (W CP) M8 [.agg S.l] h = some (.tup [.ptr (h.length + 1) 0, .int .i64 0], h ++ [⟨.tip false, .vals S.l⟩, ⟨.tip false, .vals (S.b 0)⟩], []) := by
    intro h
    simp (maxDischargeDepth := 9) -implicitDefEqProofs only [push_cast, simprocAttr, M8, nadd1, nadd2, nadd3, nadd4, nadd5, nadd6, nadd7, nadd8, nadd9, nadd10, nadd11, nadd12, Srv.l, Srv.b, ABlk.new, c1, c2, c3, c4]
    try rfl
  rw [W_made (m := M8) rfl rfl rfl (hb _) (by simp [AV.lt, AV.lts]) (hb h)]
  have : M8.trim = true := rfl
  rw [this, if_pos rfl, trim_addr (by simp [AV.lt, AV.lts])]
section
variable {S : Srv} {h : AHeap} {p : Nat} {n : Int}
theorem snone_c (hg : Good h) (hp : h[p]? = some ⟨.tip false, .vals (S.b n)⟩) (hs : 1 ≤ S.st) : W CP 25 [.ptr p 0] h = some (.bool false, h, []) := by
  have lp := (List.getElem?_eq_some_iff.1 hp).1
  have c : ¬ S.st = 0 := by omega
  refine W_quiet0 (m := M25) rfl rfl (by simp [AV.lts, AV.lt]) rfl rfl hg ?_
  simp only [Srv.b] at hp
  simp (maxDischargeDepth := 9) -implicitDefEqProofs only [push_cast, simprocAttr, M25, nadd1, nadd2, nadd3, nadd4, nadd5, nadd6, nadd7, nadd8, nadd9, nadd10, nadd11, nadd12, hp, lp, c]
theorem served_c (hg : Good h) (hp : h[p]? = some ⟨.tip false, .vals (S.b n)⟩) (hs : 1 ≤ S.st) : W CP 12 [.ptr p 0] h = some (.int .i64 n, h, []) := by
  have lp := (List.getElem?_eq_some_iff.1 hp).1
  have eN := snone_c hg hp hs
  refine W_quiet0 (m := M12) rfl rfl (by simp [AV.lts, AV.lt]) rfl rfl hg ?_
  simp only [Srv.b] at hp
  simp (maxDischargeDepth := 9) -implicitDefEqProofs only [push_cast, simprocAttr, M12, nadd1, nadd2, nadd3, nadd4, nadd5, nadd6, nadd7, nadd8, nadd9, nadd10, nadd11, nadd12, hp, lp, eN]
theorem setup_c (hg : Good h) (hp : h[p]? = some ⟨.tip false, .vals (S.b n)⟩) (hs : 1 ≤ S.st) : W CP 13 [.ptr p 0] h = some (.agg S.l, h, []) := by
  have lp := (List.getElem?_eq_some_iff.1 hp).1
  have eN := snone_c (S := S) (n := n) (h := h ++ [⟨.tip false, .vals [.int .u8 0, .int .u32 0, .int .u32 0, .int .u64 0, .int .u64 0, .int .i64 0]⟩]) (p := p) (good_app hg rfl) (by rw [List.getElem?_append_left lp]; exact hp) hs
  have ne : ¬ p = h.length := by omega
  refine W_quietP (m := M13) rfl rfl (by simp [AV.lts, AV.lt]) rfl rfl hg ?_
  simp only [Srv.b] at hp
  simp (maxDischargeDepth := 9) -implicitDefEqProofs only [push_cast, simprocAttr, M13, nadd1, nadd2, nadd3, nadd4, nadd5, nadd6, nadd7, nadd8, nadd9, nadd10, nadd11, nadd12, ABlk.new, hp, lp, eN, Srv.l, ne]
  exact quiet_i
end
end Go.Proofs.YtdpbbagllhfjbaaDoorW.AI.F

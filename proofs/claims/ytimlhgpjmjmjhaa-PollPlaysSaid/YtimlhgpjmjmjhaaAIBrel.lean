import Derived.Test.YtimlhgpjmjmjhaaAIBref2
namespace Go.Proofs.YtimlhgpjmjmjhaaW.AI.B
open Go Go.Proofs.YtimlhgpjmjmjhaaW.AI
set_option maxRecDepth 100000
set_option linter.unusedSimpArgs false
set_option linter.unusedVariables false
set_option linter.unusedSectionVars false

structure Rel (P : Po) (R : Re) : Prop where
  ex : R.exp = P.exp
  le : R.least = P.floor
  mo : R.most = P.most
  sd : R.steady = P.steady
  la : R.last = P.last
  nx : R.next = P.next
  sp : R.stopped = P.stopped
  rq : P.req = R.ans.length
  rg : P.reg = R.reach

theorem idle_iff {P : Po} {R : Re} (h : Rel P R) : R.idle = true ↔ (3 ≤ P.req ∧ P.reg % 8 = 0) := by
  by_cases q3 : 3 ≤ R.ans.length
  · obtain ⟨pre, y3, y2, y1, hpre⟩ : ∃ pre y3 y2 y1, R.ans = pre ++ [y3, y2, y1] := by
      have t1 := List.take_append_drop (R.ans.length - 3) R.ans
      have t2 : (R.ans.drop (R.ans.length - 3)).length = 3 := by simp; omega
      match hd : R.ans.drop (R.ans.length - 3), t2 with
      | [c3, c2, c1], _ => exact ⟨R.ans.take (R.ans.length - 3), c3, c2, c1, by rw [← hd, t1]⟩
    have hid : R.idle = (!y1 && !y2 && !y3) := by
      unfold Re.idle; rw [hpre]; simp only [List.reverse_append, List.reverse_cons, List.reverse_nil, List.nil_append, List.cons_append]
      cases y1 <;> cases y2 <;> cases y3 <;> rfl
    rw [hid, h.rg, h.rq]
    unfold Re.reach
    rw [hpre, bitsOf_app]
    generalize bitsOf (if R.early then 1 else 0) pre = x
    have hl : (3 : Int) ≤ ((pre ++ [y3, y2, y1]).length : Int) := by rw [← hpre]; omega
    cases y1 <;> cases y2 <;> cases y3 <;> simp only [bitsOf, if_true, if_false, Bool.false_eq_true, Bool.not_true, Bool.not_false, Bool.and_true, Bool.and_false, Bool.true_and, Bool.false_and] <;> constructor <;> intro hh <;> first | (exact ⟨hl, by omega⟩) | omega | (cases hh; done) | rfl | trivial | (exfalso; have := hh.2; omega)
  · have hid : R.idle = false := by
      unfold Re.idle
      split
      · rename_i hrv
        have := congrArg List.length hrv
        simp at this; omega
      · rfl
    rw [hid, h.rq]
    constructor
    · intro hh; cases hh
    · rintro ⟨hh, _⟩; omega

theorem sent_reach (R : Re) (now : Int) (sl' : AV) : (R.sent now sl').reach = (bitsOf (if R.early then 1 else 0) R.ans * 2 + 0) % 256 := by
  show bitsOf (if R.early then 1 else 0) (R.ans ++ [false]) % 256 = _
  rw [bitsOf_snoc]; rfl
theorem Rel.sent {P : Po} {R : Re} (h : Rel P R) (now : Int) (sl' : AV) : Rel (P.sent now) (R.sent now sl') := by
  have hi := idle_iff h
  by_cases hc : 3 ≤ P.req ∧ P.reg % 8 = 0
  · have hid := hi.2 hc
    refine ⟨?_, ?_, ?_, ?_, rfl, ?_, ?_, ?_, ?_⟩
    · rw [sent_exp, if_pos hc]; simp [Re.sent, hid, h.le]
    · rw [sent_floor]; simp [Re.sent, h.le]
    · rw [sent_most]; simp [Re.sent, h.mo]
    · rw [sent_steady, if_pos hc]; simp [Re.sent, hid]
    · rw [sent_next, sent_exp, if_pos hc]; simp [Re.sent, hid, h.le]
    · rw [sent_stopped]; simp [Re.sent, h.sp]
    · rw [sent_req, h.rq]; simp [Re.sent]
    · rw [sent_reg, h.rg, sent_reach]; unfold Re.reach; generalize bitsOf (if R.early then 1 else 0) R.ans = y; omega
  · have hid : R.idle = false := by cases hh : R.idle with
      | false => rfl
      | true => exact absurd (hi.1 hh) hc
    refine ⟨?_, ?_, ?_, ?_, rfl, ?_, ?_, ?_, ?_⟩
    · rw [sent_exp, if_neg hc]; simp [Re.sent, hid, h.ex]
    · rw [sent_floor]; simp [Re.sent, h.le]
    · rw [sent_most]; simp [Re.sent, h.mo]
    · rw [sent_steady, if_neg hc]; simp [Re.sent, hid, h.sd]
    · rw [sent_next, sent_exp, if_neg hc]; simp [Re.sent, hid, h.ex]
    · rw [sent_stopped]; simp [Re.sent, h.sp]
    · rw [sent_req, h.rq]; simp [Re.sent]
    · rw [sent_reg, h.rg, sent_reach]; unfold Re.reach; generalize bitsOf (if R.early then 1 else 0) R.ans = y; omega

theorem marked_reach (R : Re) : R.marked.reach = if R.reach % 2 = 0 then R.reach + 1 else R.reach := by
  unfold Re.marked
  by_cases he : R.ans = []
  · rw [if_pos he]
    unfold Re.reach
    simp only [he, bitsOf]
    cases R.early <;> decide
  · rw [if_neg he]
    unfold Re.reach
    simp only
    obtain ⟨m, x, hm⟩ : ∃ m x, R.ans = m ++ [x] := ⟨R.ans.dropLast, R.ans.getLast he, (List.dropLast_concat_getLast he).symm⟩
    have e : setLast R.ans = m ++ [true] := by
      have := setLast_set R.ans he
      rw [hm]
      cases m with
      | nil => rfl
      | cons y m =>
        show (y :: (m ++ [x])).dropLast ++ [true] = _
        rw [← List.cons_append, List.dropLast_concat]
    rw [e, hm, bitsOf_snoc, bitsOf_snoc]
    cases x <;> simp only [if_true, if_false, Bool.false_eq_true] <;> split <;> omega

theorem Rel.got {P : Po} {R : Re} (h : Rel P R) (ok : P.ok) (g : Bool) : Rel (P.got g) (R.got g) := by
  have hm := marked_reach R
  have hf := ok.f
  have hlen : R.marked.ans.length = R.ans.length := by unfold Re.marked; by_cases he : R.ans = [] <;> simp [he, setLast_len]
  have g1 : (R.got g).reach = R.marked.reach := by unfold Re.got Re.reach; cases g <;> by_cases h8 : R.steady + 1 = 8 <;> simp [h8]
  have g2 : (R.got g).ans.length = R.ans.length := by rw [← hlen]; unfold Re.got; cases g <;> by_cases h8 : R.steady + 1 = 8 <;> simp [h8]
  have m1 : R.marked.least = R.least ∧ R.marked.most = R.most ∧ R.marked.exp = R.exp ∧ R.marked.last = R.last ∧ R.marked.next = R.next ∧ R.marked.stopped = R.stopped := by
    unfold Re.marked; by_cases he : R.ans = [] <;> simp [he]
  obtain ⟨m1, m2, m3, m4, m5, m6⟩ := m1
  refine ⟨?_, ?_, ?_, ?_, ?_, ?_, ?_, by rw [got_req, g2]; exact h.rq, by rw [got_reg, g1, hm, h.rg]⟩
  · unfold Re.got Po.got
    cases g
    · simp only [Bool.false_eq_true, if_false, h.le, h.ex]; split <;> split <;> omega
    · simp only [if_true, h.sd, h.ex, h.mo]
      by_cases h8 : P.steady + 1 = 8
      · simp only [h8, if_true]; split <;> split <;> omega
      · simp only [h8, if_false, m3, h.ex]
  · rw [got_floor]; unfold Re.got; cases g <;> by_cases h8 : R.steady + 1 = 8 <;> simp [h8, m1, h.le]
  · rw [got_most]; unfold Re.got; cases g <;> by_cases h8 : R.steady + 1 = 8 <;> simp [h8, m2, h.mo]
  · unfold Re.got Po.got; cases g <;> simp only [Bool.false_eq_true, if_false, if_true, h.sd] <;> by_cases h8 : P.steady + 1 = 8 <;> simp [h8]
  · rw [got_last]; unfold Re.got; cases g <;> by_cases h8 : R.steady + 1 = 8 <;> simp [h8, m4, h.la]
  · rw [got_next]; unfold Re.got; cases g <;> by_cases h8 : R.steady + 1 = 8 <;> simp [h8, m5, h.nx]
  · rw [got_stopped]; unfold Re.got; cases g <;> by_cases h8 : R.steady + 1 = 8 <;> simp [h8, m6, h.sp]

theorem Rel.rate {P : Po} {R : Re} (h : Rel P R) (n : Int) : Rel (P.rate n) (R.rate n) := by
  have hz : R.ans ≠ [] ↔ 0 < P.req := by rw [h.rq]; constructor
                                         · intro hh; have := List.length_pos_iff.2 hh; omega
                                         · intro hh; exact List.length_pos_iff.1 (by omega)
  refine ⟨?_, ?_, ?_, rfl, h.la, ?_, h.sp, h.rq, h.rg⟩
  · simp only [Re.rate, Po.rate, h.ex]
  · simp only [Re.rate, Po.rate, h.le]
  · simp only [Re.rate, Po.rate, h.mo]
  · simp only [Re.rate, Po.rate, h.ex, h.la, h.nx]
    by_cases hq : 0 < P.req
    · simp only [hz.2 hq, hq, if_true, true_and, ne_eq, not_false_eq_true]
    · have : ¬ R.ans ≠ [] := fun hh => hq (hz.1 hh)
      simp only [this, hq, if_false, false_and]

theorem Rel.stop {P : Po} {R : Re} (h : Rel P R) : Rel P.stop { R with stopped := true } := ⟨h.ex, h.le, h.mo, h.sd, h.la, h.nx, rfl, h.rq, h.rg⟩
theorem stop_ok {P : Po} (ok : P.ok) : P.stop.ok := ⟨ok.f, ok.r, ok.q, ok.s, ok.l, ok.m⟩

theorem RefAt.app {h : AHeap} {r : Nat} {R : Re} (a : RefAt h r R) (js : AHeap) : RefAt (h ++ js) r R := by
  refine ⟨by rw [List.getElem?_append_left a.lt]; exact a.blk, by have := a.lt; simp; omega, ?_, a.ne⟩
  rcases a.ans with ⟨e1, e2⟩ | ⟨b, o, mn, e1, e2, e3, e4⟩
  · exact Or.inl ⟨e1, e2⟩
  · exact Or.inr ⟨b, o, mn, e1, e2, by simp; omega, by rw [List.getElem?_append_left e3]; exact e4⟩
theorem RefAt.set {h : AHeap} {r p : Nat} {R : Re} (a : RefAt h r R) (hp : p ≠ r) (hn : ¬ isAns R p) (x : ABlk) : RefAt (h.set p x) r R := by
  refine ⟨by rw [List.getElem?_set_ne hp]; exact a.blk, by simpa using a.lt, ?_, a.ne⟩
  rcases a.ans with ⟨e1, e2⟩ | ⟨b, o, mn, e1, e2, e3, e4⟩
  · exact Or.inl ⟨e1, e2⟩
  · refine Or.inr ⟨b, o, mn, e1, e2, by simpa using e3, ?_⟩
    rw [List.getElem?_set_ne (fun h => hn ⟨0, _, _, _, by rw [e1, h]⟩)]; exact e4

structure Pl (g h : AHeap) (p r : Nat) (P : Po) (R : Re) (i : Nat) : Prop where
  good : Good h
  hp : h[p]? = some P.blk
  hr : RefAt h r R
  na : ¬ isAns R p
  ne : p ≠ r
  gp : g.length ≤ p
  gr : g.length ≤ r
  ga : ∀ b, isAns R b → g.length ≤ b
  gh : ∀ (j : Nat) (x : ABlk), g[j]? = some x → x.st = .ext → h[j]? = some x
  gl : g.length ≤ h.length
  ok : P.ok
  rel : Rel P R
  rq : P.req ≤ i
end Go.Proofs.YtimlhgpjmjmjhaaW.AI.B

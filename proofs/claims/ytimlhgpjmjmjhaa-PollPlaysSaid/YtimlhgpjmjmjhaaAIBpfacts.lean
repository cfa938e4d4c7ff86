import Derived.Test.YtimlhgpjmjmjhaaAIBpoll
namespace Go.Proofs.YtimlhgpjmjmjhaaW.AI.B
open Go Go.Proofs.YtimlhgpjmjmjhaaW.AI
set_option linter.unusedVariables false
theorem sent_ok {P : Po} (ok : P.ok) {now : Int} (h0 : 0 ≤ now) (h1 : now ≤ 4611686018427387904) (hq : P.req + 1 < 1000000000) : (P.sent now).ok := by
  have := ok.f; have := ok.r; have := ok.q; have := ok.s; have := ok.l
  constructor <;> simp only [Po.sent, Po.quick] <;> (try split) <;> first | exact ok.m | ((try dsimp only); omega)
theorem got_ok {P : Po} (ok : P.ok) (g : Bool) : (P.got g).ok := by
  have := ok.f; have := ok.r; have := ok.q; have := ok.s; have := ok.l
  constructor <;> simp only [Po.got] <;> (repeat' split) <;> first | exact ok.m | ((try dsimp only); omega)

theorem got_reg (P : Po) (g : Bool) : (P.got g).reg = if P.reg % 2 = 0 then P.reg + 1 else P.reg := by
  cases g <;> by_cases h : P.steady + 1 = 8 <;> simp [Po.got, h]
theorem got_req (P : Po) (g : Bool) : (P.got g).req = P.req := by
  cases g <;> by_cases h : P.steady + 1 = 8 <;> simp [Po.got, h]
theorem got_stopped (P : Po) (g : Bool) : (P.got g).stopped = P.stopped := by
  cases g <;> by_cases h : P.steady + 1 = 8 <;> simp [Po.got, h]
theorem got_next (P : Po) (g : Bool) : (P.got g).next = P.next := by
  cases g <;> by_cases h : P.steady + 1 = 8 <;> simp [Po.got, h]
theorem got_floor (P : Po) (g : Bool) : (P.got g).floor = P.floor := by
  cases g <;> by_cases h : P.steady + 1 = 8 <;> simp [Po.got, h]
theorem got_most (P : Po) (g : Bool) : (P.got g).most = P.most := by
  cases g <;> by_cases h : P.steady + 1 = 8 <;> simp [Po.got, h]
theorem got_last (P : Po) (g : Bool) : (P.got g).last = P.last := by
  cases g <;> by_cases h : P.steady + 1 = 8 <;> simp [Po.got, h]
theorem sent_stopped (P : Po) (n : Int) : (P.sent n).stopped = P.stopped := by
  simp only [Po.sent, Po.quick]; split <;> rfl
theorem sent_floor (P : Po) (n : Int) : (P.sent n).floor = P.floor := by
  simp only [Po.sent, Po.quick]; split <;> rfl
theorem sent_most (P : Po) (n : Int) : (P.sent n).most = P.most := by
  simp only [Po.sent, Po.quick]; split <;> rfl


theorem sent_reg (P : Po) (n : Int) : (P.sent n).reg = P.reg * 2 % 256 := rfl
theorem sent_req (P : Po) (n : Int) : (P.sent n).req = P.req + 1 := rfl
theorem sent_last (P : Po) (n : Int) : (P.sent n).last = n := rfl
theorem sent_next (P : Po) (n : Int) : (P.sent n).next = n + 1000000000 * 2 ^ (P.sent n).exp.toNat := rfl
theorem sent_exp (P : Po) (n : Int) : (P.sent n).exp = if 3 ≤ P.req ∧ P.reg % 8 = 0 then P.floor else P.exp := by
  simp only [Po.sent, Po.quick]; split <;> rfl
theorem sent_steady (P : Po) (n : Int) : (P.sent n).steady = if 3 ≤ P.req ∧ P.reg % 8 = 0 then 0 else P.steady := by
  simp only [Po.sent, Po.quick]; split <;> rfl
theorem rate_ok {P : Po} (ok : P.ok) {n : Int} (h0 : 4 ≤ n) (h1 : n ≤ 10) : (P.rate n).ok := by
  have := ok.f; have := ok.r; have := ok.q; have := ok.s; have := ok.l
  constructor <;> simp only [Po.rate] <;> (repeat' split) <;> first | exact ok.m | ((try dsimp only); omega)
theorem rate_stopped (P : Po) (n : Int) : (P.rate n).stopped = P.stopped := rfl
/-- An unsigned rest of any whole number. -/
theorem um (a d : Int) (h0 : 0 < d) (h1 : d ≤ 4611686018427387904) : 0 ≤ IntKind.i64.wrap ((IntKind.u64.wrap a).tmod d) ∧ IntKind.i64.wrap ((IntKind.u64.wrap a).tmod d) < d := by
  have e : IntKind.u64.wrap a = a % 18446744073709551616 := IntKind.wrap_u64 a
  have hn : 0 ≤ a % 18446744073709551616 := Int.emod_nonneg _ (by omega)
  rw [e, Int.tmod_eq_emod_of_nonneg hn]
  have h2 := Int.emod_nonneg (a % 18446744073709551616) (show d ≠ 0 by omega)
  have h3 := Int.emod_lt_of_pos (a % 18446744073709551616) h0
  rw [wr_i64 _ (by omega) (by omega)]
  exact ⟨h2, h3⟩
end Go.Proofs.YtimlhgpjmjmjhaaW.AI.B

import Derived.Test.YtdbdmnhnijpdcaaDoorAITool2
import Derived.Laws.Strings
/-! Texts as rows of bytes. -/
namespace Go.Proofs.YtdbdmnhnijpdcaaDoorW.AI
open Go
def sb (l : List UInt8) : ByteArray := ⟨⟨l⟩⟩
theorem sb_size (l : List UInt8) : (sb l).size = l.length := rfl
theorem sb_list (l : List UInt8) : (sb l).data.toList = l := rfl
theorem sb_toList (l : List UInt8) : (sb l).toList = l := by rw [ByteArray.toList_eq]; rfl
theorem sb_extract (l : List UInt8) (n : Nat) : (sb l).extract 0 n = sb (l.take n) := by
  apply ByteArray.ext
  simp only [ByteArray.data_extract, sb]
  simp
theorem sb_append (a b : List UInt8) : sb a ++ sb b = sb (a ++ b) := by
  apply ByteArray.ext
  simp [sb]
theorem sb_of (s : ByteArray) : s = sb s.data.toList := rfl
theorem sb_of' (s : ByteArray) : ∃ l, s = sb l := ⟨_, rfl⟩
/-- Without the zeros behind. -/
def trimz (l : List UInt8) : List UInt8 := (l.reverse.dropWhile (· == 0)).reverse
theorem trimz_nil : trimz [] = [] := rfl
theorem trimz_zero (l : List UInt8) : trimz (l ++ [0]) = trimz l := by simp [trimz]
theorem trimz_snoc (l : List UInt8) {x : UInt8} (h : ¬ x = 0) : trimz (l ++ [x]) = l ++ [x] := by simp [trimz, h]
theorem trimz_len (l : List UInt8) : (trimz l).length ≤ l.length := by
  have := (List.dropWhile_suffix (fun x : UInt8 => x == 0) (l := l.reverse)).length_le
  simpa [trimz] using this
theorem u8_zero {x : UInt8} : ((x.toNat : Int) = 0) ↔ x = 0 := by
  constructor
  · intro h
    exact UInt8.toNat_inj.1 (by simpa using h)
  · rintro rfl; rfl
/-- The last one is no zero. -/
theorem trimz_last (l : List UInt8) {m : List UInt8} {x : UInt8} (h : trimz l = m ++ [x]) : ¬ x = 0 := by
  have e : (l.reverse.dropWhile (· == 0)) = x :: m.reverse := by
    have := congrArg List.reverse h
    simpa [trimz] using this
  intro hx
  subst hx
  have := List.head?_dropWhile_not (fun x : UInt8 => x == 0) l.reverse
  rw [e] at this
  simp at this
/-- Numbers as bytes. -/
def bsOf (l : List Int) : List UInt8 := l.map fun n => UInt8.ofNat n.toNat
theorem bytesOf_sb (l : List Int) : bytesOf (.ints .u8 l) = some (sb (bsOf l)) := rfl
theorem list_eqb (a b : List UInt8) : (a == b) = decide (a = b) := by
  rw [Bool.eq_iff_iff]; simp
theorem bsOf_inj : ∀ {a b : List Int}, (∀ x ∈ a, 0 ≤ x ∧ x < 256) → (∀ x ∈ b, 0 ≤ x ∧ x < 256) → bsOf a = bsOf b → a = b
  | [], [], _, _, _ => rfl
  | [], y :: b, _, _, h => by simp [bsOf] at h
  | x :: a, [], _, _, h => by simp [bsOf] at h
  | x :: a, y :: b, ha, hb, h => by
    simp only [bsOf, List.map_cons, List.cons.injEq] at h
    have h1 := bsOf_inj (fun z hz => ha z (List.mem_cons_of_mem _ hz)) (fun z hz => hb z (List.mem_cons_of_mem _ hz)) h.2
    have hx := ha x List.mem_cons_self
    have hy := hb y List.mem_cons_self
    have h2 := congrArg UInt8.toNat h.1
    simp only [UInt8.toNat_ofNat'] at h2
    rw [h1]
    congr 1
    omega
end Go.Proofs.YtdbdmnhnijpdcaaDoorW.AI

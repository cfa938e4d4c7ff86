import Derived.Test.YtdbdmnhnijpdcaaDoorAITool2
import Derived.Laws.Strings
/-! Texts as rows of bytes. -/
namespace Go.Proofs.YtdbdmnhnijpdcaaDoorW.AI
open Go
def sb (l : List UInt8) : ByteArray := ⟨⟨l⟩⟩
theorem sb_size (l : List UInt8) : (sb l).size = l.length := rfl
theorem sb_list (l : List UInt8) : (sb l).data.toList = l := rfl
theorem sb_toList (l : List UInt8) : (sb l).toList = l := by rw [ByteArray.toList_eq]; rfl
theorem sb_extract (l : List UInt8) (n : Nat) : (sb l).extract 0 n = sb (l.take n) := by
  apply ByteArray.ext
  simp only [ByteArray.data_extract, sb]
  simp
theorem sb_append (a b : List UInt8) : sb a ++ sb b = sb (a ++ b) := by
  apply ByteArray.ext
  simp [sb]
theorem sb_of (s : ByteArray) : s = sb s.data.toList := rfl
theorem sb_of' (s : ByteArray) : ∃ l, s = sb l := ⟨_, rfl⟩
/-- Without the zeros behind. -/
def trimz (l : List UInt8) : List UInt8 := (l.reverse.dropWhile (· == 0)).reverse
theorem trimz_nil : trimz [] = [] := rfl
theorem trimz_zero (l : List UInt8) : trimz (l ++ [0]) = trimz l := by simp [trimz]
theorem trimz_snoc (l : List UInt8) {x : UInt8} (h : ¬ x = 0) : trimz (l ++ [x]) = l ++ [x] := by simp [trimz, h]
theorem trimz_len (l : List UInt8) : (trimz l).length ≤ l.length := by
  have := (List.dropWhile_suffix (fun x : UInt8 => x == 0) (l := l.reverse)).length_le
  simpa [trimz] using this
theorem u8_zero {x : UInt8} : ((x.toNat : Int) = 0) ↔ x = 0 := by
  constructor
  · intro h
    exact UInt8.toNat_inj.1 (by simpa using h)
  · rintro rfl; rfl
/-- The last one is no zero. -/
theorem trimz_last (l : List UInt8) {m : List UInt8} {x : UInt8} (h : trimz l = m ++ [x]) : ¬ x = 0 := by
  have e : (l.reverse.dropWhile (· == 0)) = x :: m.reverse := by
    have := congrArg List.reverse h
    simpa [trimz] using this
  intro hx
  subst hx
  have := List.head?_dropWhile_not (fun x : UInt8 => x == 0) l.reverse
  rw [e] at this
  simp at this
end Go.Proofs.YtdbdmnhnijpdcaaDoorW.AI

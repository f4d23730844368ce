/-
  PLAIN LAWS OF CHARACTERS AS BYTES, on: the steps of a text.
-/
import Derived.Test.YtejipknbhiokeaaDoorPlain2
namespace Ut

/-- The steps from place i on: where each begins, and whether it is a character. -/
def stp (s : ByteArray) (i : Nat) : List (Nat × Bool) := if _h : i < s.size then (i, rb s i) :: stp s (i + rn s i) else []
termination_by s.size - i
decreasing_by have := rn_bd _h; omega

theorem stp_in {s : ByteArray} {i : Nat} (h : i < s.size) : stp s i = (i, rb s i) :: stp s (i + rn s i) := by rw [stp, dif_pos h]
theorem stp_end {s : ByteArray} {i : Nat} (h : s.size ≤ i) : stp s i = [] := by rw [stp, dif_neg (by omega)]

theorem stp_len (s : ByteArray) : ∀ (d i : Nat), s.size - i ≤ d → (stp s i).length ≤ s.size - i := by
  intro d
  induction d with
  | zero => intro i h; rw [stp_end (by omega)]; simp
  | succ d ih =>
    intro i h
    by_cases hi : i < s.size
    · have hr := rn_bd hi
      rw [stp_in hi, List.length_cons]
      have := ih (i + rn s i) (by omega)
      omega
    · rw [stp_end (by omega)]; simp

/-- How many steps; whether none is a lone byte. -/
def cnt (s : ByteArray) : Nat := (stp s 0).length
def vld (s : ByteArray) : Bool := (stp s 0).all (·.2)
theorem cnt_le (s : ByteArray) : cnt s ≤ s.size := by have := stp_len s s.size 0 (by omega); unfold cnt; omega
end Ut

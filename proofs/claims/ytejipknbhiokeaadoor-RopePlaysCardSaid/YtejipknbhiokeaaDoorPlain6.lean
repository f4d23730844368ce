/-
  Where a line begins: behind the LF number k. Plain Lean.
-/
import Derived.Test.YtejipknbhiokeaaDoorTree2
namespace Rp

def bhL : List UInt8 → Nat → Nat
  | _, 0 => 0
  | [], _ + 1 => 0
  | c :: l, k + 1 => 1 + bhL l (if c = 10 then k else k + 1)
def bh (s : ByteArray) (k : Nat) : Nat := bhL s.data.toList k

theorem bhL_zero (l : List UInt8) : bhL l 0 = 0 := by cases l <;> rfl
theorem bhL_le (l : List UInt8) : ∀ k, bhL l k ≤ l.length := by
  induction l with
  | nil => intro k; cases k <;> simp [bhL]
  | cons c l ih =>
    intro k
    cases k with
    | zero => simp [bhL]
    | succ k => simp only [bhL, List.length_cons]; have := ih (if c = 10 then k else k + 1); omega
theorem bhL_left (a b : List UInt8) : ∀ k, k ≤ a.count 10 → bhL (a ++ b) k = bhL a k := by
  induction a with
  | nil => intro k h; obtain rfl : k = 0 := by simpa using h
           rw [bhL_zero, bhL_zero]
  | cons c a ih =>
    intro k h
    cases k with
    | zero => rw [bhL_zero, bhL_zero]
    | succ k =>
      simp only [List.cons_append, bhL]
      rw [ih]
      rw [List.count_cons] at h
      by_cases hc : c = 10
      · subst hc; simp at h ⊢; omega
      · rw [if_neg hc]; simp [hc] at h; exact h
theorem bhL_right (a b : List UInt8) : ∀ k, a.count 10 < k → bhL (a ++ b) k = a.length + bhL b (k - a.count 10) := by
  induction a with
  | nil => intro k h; simp
  | cons c a ih =>
    intro k h
    cases k with
    | zero => omega
    | succ k =>
      rw [List.count_cons] at h
      simp only [List.cons_append, bhL, List.length_cons]
      by_cases hc : c = 10
      · subst hc
        simp only [beq_self_eq_true, if_true] at h ⊢
        rw [ih k (by omega), List.count_cons_self, show k + 1 - (List.count 10 a + 1) = k - List.count 10 a by omega]
        omega
      · simp only [beq_iff_eq, hc, if_false] at h ⊢
        rw [ih (k + 1) (by omega), List.count_cons_of_ne (by simpa using hc)]
        omega

theorem bh_zero (s : ByteArray) : bh s 0 = 0 := bhL_zero _
theorem bh_le (s : ByteArray) (k : Nat) : bh s k ≤ s.size := by
  have := bhL_le s.data.toList k
  simpa [bh] using this
theorem bh_left (a b : ByteArray) {k : Nat} (h : k ≤ lf a) : bh (a ++ b) k = bh a k := by
  unfold bh lf at *
  rw [ByteArray.toList_data_append, bhL_left _ _ _ h]
theorem bh_right (a b : ByteArray) {k : Nat} (h : lf a < k) : bh (a ++ b) k = a.size + bh b (k - lf a) := by
  unfold bh lf at *
  rw [ByteArray.toList_data_append, bhL_right _ _ _ h]
  simp

/-- One byte further. -/
theorem bhL_drop (s : ByteArray) {i k : Nat} (h : i < s.size) : bhL (s.data.toList.drop i) (k + 1) = 1 + bhL (s.data.toList.drop (i + 1)) (if s[i] = 10 then k else k + 1) := by
  have h' : i < s.data.toList.length := by simpa using h
  rw [List.drop_eq_getElem_cons h']
  rfl
theorem count_drop (s : ByteArray) {i : Nat} (h : i < s.size) : (s.data.toList.drop i).count 10 = (s.data.toList.drop (i + 1)).count 10 + (if s[i] = 10 then 1 else 0) := by
  have h' : i < s.data.toList.length := by simpa using h
  rw [List.drop_eq_getElem_cons h', List.count_cons]
  have e : s.data.toList[i] = s[i] := rfl
  rw [e]
  by_cases hc : s[i] = 10
  · simp [hc]
  · simp [hc]
theorem count_end (s : ByteArray) {i : Nat} (h : s.size ≤ i) : (s.data.toList.drop i).count 10 = 0 := by
  rw [List.drop_eq_nil_of_le (by simpa using h)]; rfl
end Rp

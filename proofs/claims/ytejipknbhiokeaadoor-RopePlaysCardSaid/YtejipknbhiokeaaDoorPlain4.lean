/-
  PLAIN LAWS OF CHARACTERS AS BYTES, on: where steps begin.
-/
import Derived.Test.YtejipknbhiokeaaDoorPlain3
namespace Ut

/-- What Len and Char tell at any number. -/
def Ln (s : ByteArray) (at' : Int) : Int := if 0 ≤ at' ∧ at' < s.size then (rn s at'.toNat : Int) else 0
def Lb (s : ByteArray) (at' : Int) : Bool := if 0 ≤ at' ∧ at' < s.size then rb s at'.toNat else false
def Cc (s : ByteArray) (at' : Int) : Int := if 0 ≤ at' ∧ at' < s.size then rc s at'.toNat else 0

/-- No character reaches over place k. -/
def st (s : ByteArray) (k : Nat) : Bool := decide (∀ i, i < k → k ≤ i + 3 → rb s i = true → i + rn s i ≤ k)
/-- What Start tells at any number. -/
def Sb (s : ByteArray) (at' : Int) : Bool := if 0 ≤ at' ∧ at' ≤ s.size then st s at'.toNat else false

theorem st_iff {s : ByteArray} {k : Nat} : st s k = true ↔ ∀ i, i < k → k ≤ i + 3 → rb s i = true → i + rn s i ≤ k := by
  unfold st; rw [decide_eq_true_iff]

theorem cont {c : Int} (hv : Val c) {j : Nat} (h1 : 1 ≤ j) (h2 : j < (en c).length) : 128 ≤ (en c).getD j 0 ∧ (en c).getD j 0 < 192 := by
  obtain ⟨v0, v1, v2⟩ := hv
  unfold en at h2 ⊢
  by_cases c1 : c < 128
  · simp only [if_pos c1, List.length_cons, List.length_nil] at h2; omega
  · by_cases c2 : c < 2048
    · simp only [if_neg c1, if_pos c2, List.length_cons, List.length_nil] at h2 ⊢
      obtain rfl : j = 1 := by omega
      simp only [List.getD_cons_zero, List.getD_cons_succ]; omega
    · by_cases c3 : c < 65536
      · simp only [if_neg c1, if_neg c2, if_pos c3, List.length_cons, List.length_nil] at h2 ⊢
        have : j = 1 ∨ j = 2 := by omega
        rcases this with rfl | rfl
        all_goals simp only [List.getD_cons_zero, List.getD_cons_succ]; omega
      · simp only [if_neg c1, if_neg c2, if_neg c3, List.length_cons, List.length_nil] at h2 ⊢
        have : j = 1 ∨ j = 2 ∨ j = 3 := by omega
        rcases this with rfl | rfl | rfl
        all_goals simp only [List.getD_cons_zero, List.getD_cons_succ]; omega

theorem rd_cont {f : Nat → Int} {n : Nat} (h1 : 128 ≤ f 0) (h2 : f 0 < 192) : (rd f n).2.2 = false := by
  unfold rd
  rw [if_neg (by omega), if_neg (by omega), if_neg (by omega), if_neg (by omega)]

/-- No character begins within another one. -/
theorem inside {s : ByteArray} {i j : Nat} (hi : i < s.size) (hb : rb s i = true) (h1 : i < j) (h2 : j < i + rn s i) : rb s j = false := by
  obtain ⟨⟨hv, hl, hj⟩, hn⟩ := rb_stands hi hb
  have e := hj (j - i) (by omega)
  have c := cont hv (j := j - i) (by omega) (by omega)
  rw [← e] at c
  have ej : i + (j - i) = j := by omega
  simp only [ej] at c
  exact rd_cont (f := fun t => bt s (j + t)) (by simpa using c.1) (by simpa using c.2)


theorem st_zero (s : ByteArray) : st s 0 = true := st_iff.2 (fun i h => by omega)

/-- Behind a step the next one begins. -/
theorem st_next {s : ByteArray} {i : Nat} (hi : i < s.size) (h : st s i = true) : st s (i + rn s i) = true := by
  have hr := rn_bd hi
  rw [st_iff] at h ⊢
  intro j h1 h2 h3
  by_cases c1 : j < i
  · by_cases c2 : j + rn s j ≤ i + rn s i
    · exact c2
    · have hjs : j < s.size := by omega
      have hj := rn_bd hjs
      have := h j c1 (by omega) h3
      omega
  · by_cases c2 : j = i
    · subst c2; omega
    · exfalso
      cases hb : rb s i with
      | true => have := inside hi hb (by omega) h1; rw [this] at h3; cases h3
      | false => have := (rb_no hb).2; omega

/-- Where one comes to, going by steps from i on, as long as one is ahead of k. -/
def goto (s : ByteArray) (k i : Nat) : Nat := if _h : i < k ∧ i < s.size then goto s k (i + rn s i) else i
termination_by s.size - i
decreasing_by have := rn_bd _h.2; omega
theorem goto_in {s : ByteArray} {k i : Nat} (h : i < k) (h2 : i < s.size) : goto s k i = goto s k (i + rn s i) := by rw [goto, dif_pos ⟨h, h2⟩]
theorem goto_end {s : ByteArray} {k i : Nat} (h : k ≤ i ∨ s.size ≤ i) : goto s k i = i := by rw [goto, dif_neg (by omega)]

theorem goto_st {s : ByteArray} {k : Nat} (hk : k ≤ s.size) : ∀ (d i : Nat), k - i ≤ d → i ≤ k → st s i = true → (goto s k i = k ↔ st s k = true) := by
  intro d
  induction d with
  | zero =>
    intro i h1 h2 h3
    obtain rfl : i = k := by omega
    rw [goto_end (by omega)]
    simp [h3]
  | succ d ih =>
    intro i h1 h2 h3
    by_cases c : i = k
    · subst c; rw [goto_end (by omega)]; simp [h3]
    · have hi : i < s.size := by omega
      have hr := rn_bd hi
      rw [goto_in (by omega) hi]
      by_cases c2 : i + rn s i ≤ k
      · exact ih _ (by omega) c2 (st_next hi h3)
      · rw [goto_end (by omega)]
        constructor
        · intro e; omega
        · intro hs
          exfalso
          have hb : rb s i = true := by
            cases hb : rb s i with
            | true => rfl
            | false => have := (rb_no hb).2; omega
          have := st_iff.1 hs i (by omega) (by omega) hb
          omega

theorem goto_le {s : ByteArray} (k : Nat) : ∀ (d i : Nat), s.size - i ≤ d → i ≤ s.size → goto s k i ≤ s.size := by
  intro d
  induction d with
  | zero => intro i h1 h2; rw [goto_end (by omega)]; exact h2
  | succ d ih =>
    intro i h1 h2
    by_cases c : i < k ∧ i < s.size
    · have hr := rn_bd c.2
      rw [goto_in c.1 c.2]
      exact ih _ (by omega) (by omega)
    · rw [goto_end (by omega)]; exact h2

/-- The reference's Start and the program's are one. -/
theorem goto_Sb (s : ByteArray) (at' : Int) : (decide (0 ≤ at') && decide ((goto s at'.toNat 0 : Int) = at')) = Sb s at' := by
  unfold Sb
  by_cases h0 : 0 ≤ at'
  · by_cases h1 : at' ≤ s.size
    · rw [if_pos ⟨h0, h1⟩]
      have := goto_st (k := at'.toNat) (by omega) at'.toNat 0 (by omega) (by omega) (st_zero s)
      rw [Bool.eq_iff_iff]
      simp only [Bool.and_eq_true, decide_eq_true_eq]
      constructor
      · rintro ⟨_, h⟩; exact this.1 (by omega)
      · intro h; exact ⟨h0, by have := this.2 h; omega⟩
    · rw [if_neg (by omega)]
      have := goto_le (s := s) at'.toNat s.size 0 (by omega) (by omega)
      simp only [Bool.and_eq_false_iff, decide_eq_false_iff_not]
      right; omega
  · rw [if_neg (by omega)]; simp [h0]
end Ut

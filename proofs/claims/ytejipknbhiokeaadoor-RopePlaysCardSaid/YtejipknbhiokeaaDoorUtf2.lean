/-
  CONTRACTS of package utf and of its reference, on: Len, Char, Start; the reference's Len, Char, Start, Count, Valid.
-/
import Derived.Test.YtejipknbhiokeaaDoorPlain4
import Derived.Test.YtejipknbhiokeaaDoorSteps
import Derived.Test.YtejipknbhiokeaaDoorPut
import Derived.Test.YtejipknbhiokeaaDoorRefChar
import Derived.Outline
namespace Go.Proofs.YtejipknbhiokeaaDoor
open Go.RowKit Ut

theorem len_any (s : ByteArray) (k : Int) (w : World) (hs : s.size ≤ maxLen) (hw : Rows w) :
    Calls Tryd.prog 19 #[.string s, .int .i64 k] w fun e w' => e = .returned (.tuple #[.int .i64 (Ln s k), .bool (Lb s k)]) ∧ Below w.heap.size w w' := by
  by_cases h : 0 ≤ k ∧ k < s.size
  · obtain ⟨i, rfl⟩ := Int.eq_ofNat_of_zero_le h.1
    have e1 : Ln s i = (rn s i : Int) := by unfold Ln; rw [if_pos h]; simp
    have e2 : Lb s i = rb s i := by unfold Lb; rw [if_pos h]; simp
    rw [e1, e2]
    have hi : i < s.size := by omega
    clear h e1 e2
    go_enter Tryd.func19, Tryd.ntmps19
    go_wp2_with (go_at_call 56; refine (read_any s i _ hs hi hw).mono ?_; rintro e w' ⟨rfl, hB⟩)
    go_ret2
    exact ⟨rfl, hB⟩
  · have e1 : Ln s k = 0 := by unfold Ln; rw [if_neg h]
    have e2 : Lb s k = false := by unfold Lb; rw [if_neg h]
    rw [e1, e2]
    clear e1 e2
    by_cases h0 : k < 0
    · go_enter Tryd.func19, Tryd.ntmps19
      go_wp2
      go_ret2
      exact ⟨rfl, Below.refl _ _⟩
    · have h1 : (s.size : Int) ≤ k := by omega
      go_enter Tryd.func19, Tryd.ntmps19
      go_wp2
      go_ret2
      exact ⟨rfl, Below.refl _ _⟩

theorem char_any (s : ByteArray) (k : Int) (w : World) (hs : s.size ≤ maxLen) (hw : Rows w) :
    Calls Tryd.prog 21 #[.string s, .int .i64 k] w fun e w' => e = .returned (.tuple #[.int .i32 (Cc s k), .bool (Lb s k)]) ∧ Below w.heap.size w w' := by
  by_cases h : 0 ≤ k ∧ k < s.size
  · obtain ⟨i, rfl⟩ := Int.eq_ofNat_of_zero_le h.1
    have e1 : Cc s i = rc s i := by unfold Cc; rw [if_pos h]; simp
    have e2 : Lb s i = rb s i := by unfold Lb; rw [if_pos h]; simp
    rw [e1, e2]
    have hi : i < s.size := by omega
    clear h e1 e2
    go_enter Tryd.func21, Tryd.ntmps21
    go_wp2_with (go_at_call 56; refine (read_any s i _ hs hi hw).mono ?_; rintro e w' ⟨rfl, hB⟩)
    go_ret2
    exact ⟨rfl, hB⟩
  · have e1 : Cc s k = 0 := by unfold Cc; rw [if_neg h]
    have e2 : Lb s k = false := by unfold Lb; rw [if_neg h]
    rw [e1, e2]
    clear e1 e2
    by_cases h0 : k < 0
    · go_enter Tryd.func21, Tryd.ntmps21
      go_wp2
      go_ret2
      exact ⟨rfl, Below.refl _ _⟩
    · have h1 : (s.size : Int) ≤ k := by omega
      go_enter Tryd.func21, Tryd.ntmps21
      go_wp2
      go_ret2
      exact ⟨rfl, Below.refl _ _⟩

theorem refchar_any (s : ByteArray) (k : Int) (w : World) (hs : s.size ≤ maxLen) :
    Calls Tryd.prog 22 #[.string s, .int .i64 k] w fun e w' => e = .returned (.tuple #[.int .i32 (Cc s k), .bool (Lb s k)]) ∧ Below w.heap.size w w' := by
  by_cases h : 0 ≤ k ∧ k < s.size
  · obtain ⟨i, rfl⟩ := Int.eq_ofNat_of_zero_le h.1
    have e1 : Cc s i = rc s i := by unfold Cc; rw [if_pos h]; simp
    have e2 : Lb s i = rb s i := by unfold Lb; rw [if_pos h]; simp
    rw [e1, e2]
    exact refchar_in s i w hs (by omega)
  · have e1 : Cc s k = 0 := by unfold Cc; rw [if_neg h]
    have e2 : Lb s k = false := by unfold Lb; rw [if_neg h]
    rw [e1, e2]
    clear e1 e2
    by_cases h0 : k < 0
    · go_enter Tryd.func22, Tryd.ntmps22
      go_wp2
      go_ret2
      exact ⟨rfl, Below.refl _ _⟩
    · have h1 : (s.size : Int) ≤ k := by omega
      go_enter Tryd.func22, Tryd.ntmps22
      go_wp2
      go_ret2
      exact ⟨rfl, Below.refl _ _⟩

theorem reflen_in (s : ByteArray) (i : Nat) (w : World) (hs : s.size ≤ maxLen) (hi : i < s.size) :
    Calls Tryd.prog 20 #[.string s, .int .i64 i] w fun e w' => e = .returned (.tuple #[.int .i64 (rn s i), .bool (rb s i)]) ∧ Below w.heap.size w w' := by
  have d1 : decide ((i : Int) < 0) = false := by simp
  have d2 : decide (s.size ≤ i) = false := by simp; omega
  have h : (0 : Int) ≤ i ∧ (i : Int) < s.size := by omega
  have e1 : Cc s i = rc s i := by unfold Cc; rw [if_pos h]; simp
  have e2 : Lb s i = rb s i := by unfold Lb; rw [if_pos h]; simp
  have hC := fun w => refchar_any s i w hs
  rw [e1, e2] at hC
  have HC := Lib.hid hC
  clear hC e1 e2 h
  cases hb : rb s i with
  | false =>
    have en := (rb_no hb).2
    rw [en]
    rw [hb] at HC
    clear hb en
    go_enter Tryd.func20, Tryd.ntmps20
    go_wp2_with (go_at_call 22; refine (HC.out _).mono ?_; rintro e w' ⟨rfl, hB⟩)
    go_ret2
    exact ⟨rfl, hB⟩
  | true =>
    obtain ⟨⟨hv, hl, hj⟩, hn⟩ := rb_stands hi hb
    have hz : (ps (rc s i)).size = rn s i := by rw [ps_size hv, hn]
    rw [hb] at HC
    have HZ := Lib.hid hz
    clear hb hz hj hn hl
    go_enter Tryd.func20, Tryd.ntmps20
    go_wp2_with (first
      | (go_at_call 22; refine (HC.out _).mono ?_; rintro e w' ⟨rfl, hB⟩)
      | (go_at_call 25; refine (refput_any _ _).mono ?_; rintro e w2 ⟨rfl, hB2⟩))
    go_ret2
    exact ⟨by rw [← HZ.out]; rfl, hB.trans (hB2.mono hB.size)⟩

theorem reflen_any (s : ByteArray) (k : Int) (w : World) (hs : s.size ≤ maxLen) :
    Calls Tryd.prog 20 #[.string s, .int .i64 k] w fun e w' => e = .returned (.tuple #[.int .i64 (Ln s k), .bool (Lb s k)]) ∧ Below w.heap.size w w' := by
  by_cases h : 0 ≤ k ∧ k < s.size
  · obtain ⟨i, rfl⟩ := Int.eq_ofNat_of_zero_le h.1
    have e1 : Ln s i = (rn s i : Int) := by unfold Ln; rw [if_pos h]; simp
    have e2 : Lb s i = rb s i := by unfold Lb; rw [if_pos h]; simp
    rw [e1, e2]
    exact reflen_in s i w hs (by omega)
  · have e1 : Ln s k = 0 := by unfold Ln; rw [if_neg h]
    have e2 : Lb s k = false := by unfold Lb; rw [if_neg h]
    rw [e1, e2]
    clear e1 e2
    by_cases h0 : k < 0
    · go_enter Tryd.func20, Tryd.ntmps20
      go_wp2
      go_ret2
      exact ⟨rfl, Below.refl _ _⟩
    · have h1 : (s.size : Int) ≤ k := by omega
      go_enter Tryd.func20, Tryd.ntmps20
      go_wp2
      go_ret2
      exact ⟨rfl, Below.refl _ _⟩
end Go.Proofs.YtejipknbhiokeaaDoor

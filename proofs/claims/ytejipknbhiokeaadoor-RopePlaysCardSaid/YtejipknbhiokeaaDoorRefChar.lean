/-
  CONTRACTS of the reference of package utf: Char, Len.
-/
import Derived.Test.YtejipknbhiokeaaDoorPlain2
import Derived.Test.YtejipknbhiokeaaDoorRefPut
namespace Go.Proofs.YtejipknbhiokeaaDoor
open Go.RowKit Ut

theorem str_eq {a b : ByteArray} (h : (a.toList == b.toList) = true) : a = b := by
  rw [ByteArray.toList_eq, ByteArray.toList_eq, beq_iff_eq] at h
  exact ByteArray.ext (Array.toList_inj.1 h)
theorem str_ne {a b : ByteArray} (h : (a.toList == b.toList) = false) : a ≠ b := by
  rintro rfl
  simp at h

/-- One more number of bytes that is none. -/
theorem no_more {s : ByteArray} {i k : Nat} (h : ∀ n, 1 ≤ n → n < k → i + n ≤ s.size → ¬ tst s i n) (hk : i + k ≤ s.size → ¬ tst s i k) : ∀ n, 1 ≤ n → n < k + 1 → i + n ≤ s.size → ¬ tst s i n := by
  intro n h1 h2 h3
  by_cases e : n = k
  · subst e; exact hk h3
  · exact h n h1 (by omega) h3


set_option maxRecDepth 100000 in
set_option maxHeartbeats 1000000 in
theorem refchar_in (s : ByteArray) (i : Nat) (w : World) (hs : s.size ≤ maxLen) (hi : i < s.size) :
    Calls Tryd.prog 22 #[.string s, .int .i64 i] w fun e w' => e = .returned (.tuple #[.int .i32 (rc s i), .bool (rb s i)]) ∧ Below w.heap.size w w' := by
  unfold maxLen at hs
  have hb := get_bt s
  have h0 := bt_nonneg s i
  have h00 := bt_le s i
  have h1 := bt_nonneg s (i + 1)
  have h10 := bt_le s (i + 1)
  have h2 := bt_nonneg s (i + 2)
  have h20 := bt_le s (i + 2)
  have h3 := bt_nonneg s (i + 3)
  have h30 := bt_le s (i + 3)
  have d1 : decide ((i : Int) < 0) = false := by simp
  have d2 : decide (s.size ≤ i) = false := by simp; omega
  go_enter Tryd.func22, Tryd.ntmps22
  go_wp2
  go_loopw [6] (fun v wr => ∃ k : Nat, v = .int .i64 k ∧ 1 ≤ k ∧ k ≤ 5 ∧ Below w.heap.size w wr ∧ ∀ n, 1 ≤ n → n < k → i + n ≤ s.size → ¬ tst s i n) (fun v _ => 5 - (intOf v).toNat)
  case atStart => exact ⟨1, rfl, by omega, by omega, Below.refl _ _, fun n h1 h2 => by omega⟩
  case round =>
    obtain ⟨k, rfl, k1, k2, hB, hn⟩ := hrel
    have H := Lib.hid hn
    clear hn
    have hk : k = 1 ∨ k = 2 ∨ k = 3 ∨ k = 4 ∨ k = 5 := by omega
    rcases hk with rfl | rfl | rfl | rfl | rfl
    · have hl : i + 1 ≤ s.size := by omega
      go_wp2
      refine wp_loop_rounds 5 ?_
      rw [rounds_succ]
      go_wp2
      rw [rounds_succ]
      go_wp2_with (go_at_call 25; refine (refput_any _ _).mono ?_; rintro e w' ⟨rfl, hB'⟩)
      · have e1 : Val (bt s i) := by assumption
        have e2 : ((ps (bt s i)).toList == (s.extract i (i + 1)).toList) = true := by assumption
        obtain ⟨y1, y2, y3⟩ := tst_yes (n := 1) hl ⟨e1, str_eq e2⟩
        go_ret2
        exact ⟨by rw [y1, y3]; rfl, hB.trans (hB'.mono hB.size)⟩
      · have e1 : Val (bt s i) := by assumption
        have e2 : ((ps (bt s i)).toList == (s.extract i (i + 1)).toList) = false := by assumption
        go_roundw
        case rel => exact ⟨2, rfl, by omega, by omega, hB.trans (hB'.mono hB.size), no_more H.out (fun _ h => str_ne e2 h.2)⟩
        case measure => simp [intOf]
      · have e1 : ¬ Val (bt s i) := by assumption
        go_roundw
        case rel => exact ⟨2, rfl, by omega, by omega, hB.trans (hB'.mono hB.size), no_more H.out (fun _ h => e1 h.1)⟩
        case measure => simp [intOf]
    · by_cases hl : i + 2 ≤ s.size
      rotate_left
      · have g : decide ((2 : Int) ≤ (s.size : Int) - (i : Int)) = false := by simp; omega
        go_wp2
        go_ret2
        have hno : rb s i = false := rb_none hi (fun n n1 n2 n3 => H.out n n1 (by omega) n3)
        exact ⟨by rw [(rb_no hno).1, hno]; rfl, hB⟩
      have g : decide ((2 : Int) ≤ (s.size : Int) - (i : Int)) = true := by simp; omega
      go_wp2
      refine wp_loop_rounds 5 ?_
      rw [rounds_succ]
      go_wp2
      rw [rounds_succ]
      go_wp2
      rw [rounds_succ]
      go_wp2_with (go_at_call 25; refine (refput_any _ _).mono ?_; rintro e w' ⟨rfl, hB'⟩)
      · have e1 : Val (bt s i % 32 * 64 + bt s (i + 1) % 64) := by assumption
        have e2 : ((ps (bt s i % 32 * 64 + bt s (i + 1) % 64)).toList == (s.extract i (i + 2)).toList) = true := by assumption
        obtain ⟨y1, y2, y3⟩ := tst_yes (n := 2) hl ⟨e1, str_eq e2⟩
        go_ret2
        exact ⟨by rw [y1, y3]; rfl, hB.trans (hB'.mono hB.size)⟩
      · have e1 : Val (bt s i % 32 * 64 + bt s (i + 1) % 64) := by assumption
        have e2 : ((ps (bt s i % 32 * 64 + bt s (i + 1) % 64)).toList == (s.extract i (i + 2)).toList) = false := by assumption
        go_roundw
        case rel => exact ⟨3, rfl, by omega, by omega, hB.trans (hB'.mono hB.size), no_more H.out (fun _ h => str_ne e2 h.2)⟩
        case measure => simp [intOf]
      · have e1 : ¬ Val (bt s i % 32 * 64 + bt s (i + 1) % 64) := by assumption
        go_roundw
        case rel => exact ⟨3, rfl, by omega, by omega, hB.trans (hB'.mono hB.size), no_more H.out (fun _ h => e1 h.1)⟩
        case measure => simp [intOf]
    · by_cases hl : i + 3 ≤ s.size
      rotate_left
      · have g : decide ((3 : Int) ≤ (s.size : Int) - (i : Int)) = false := by simp; omega
        go_wp2
        go_ret2
        have hno : rb s i = false := rb_none hi (fun n n1 n2 n3 => H.out n n1 (by omega) n3)
        exact ⟨by rw [(rb_no hno).1, hno]; rfl, hB⟩
      have g : decide ((3 : Int) ≤ (s.size : Int) - (i : Int)) = true := by simp; omega
      go_wp2
      refine wp_loop_rounds 5 ?_
      rw [rounds_succ]
      go_wp2
      rw [rounds_succ]
      go_wp2
      rw [rounds_succ]
      go_wp2
      rw [rounds_succ]
      go_wp2_with (go_at_call 25; refine (refput_any _ _).mono ?_; rintro e w' ⟨rfl, hB'⟩)
      · have e1 : Val ((bt s i % 16 * 64 + bt s (i + 1) % 64) * 64 + bt s (i + 2) % 64) := by assumption
        have e2 : ((ps ((bt s i % 16 * 64 + bt s (i + 1) % 64) * 64 + bt s (i + 2) % 64)).toList == (s.extract i (i + 3)).toList) = true := by assumption
        obtain ⟨y1, y2, y3⟩ := tst_yes (n := 3) hl ⟨e1, str_eq e2⟩
        go_ret2
        exact ⟨by rw [y1, y3]; rfl, hB.trans (hB'.mono hB.size)⟩
      · have e1 : Val ((bt s i % 16 * 64 + bt s (i + 1) % 64) * 64 + bt s (i + 2) % 64) := by assumption
        have e2 : ((ps ((bt s i % 16 * 64 + bt s (i + 1) % 64) * 64 + bt s (i + 2) % 64)).toList == (s.extract i (i + 3)).toList) = false := by assumption
        go_roundw
        case rel => exact ⟨4, rfl, by omega, by omega, hB.trans (hB'.mono hB.size), no_more H.out (fun _ h => str_ne e2 h.2)⟩
        case measure => simp [intOf]
      · have e1 : ¬ Val ((bt s i % 16 * 64 + bt s (i + 1) % 64) * 64 + bt s (i + 2) % 64) := by assumption
        go_roundw
        case rel => exact ⟨4, rfl, by omega, by omega, hB.trans (hB'.mono hB.size), no_more H.out (fun _ h => e1 h.1)⟩
        case measure => simp [intOf]
    · by_cases hl : i + 4 ≤ s.size
      rotate_left
      · have g : decide ((4 : Int) ≤ (s.size : Int) - (i : Int)) = false := by simp; omega
        go_wp2
        go_ret2
        have hno : rb s i = false := rb_none hi (fun n n1 n2 n3 => H.out n n1 (by omega) n3)
        exact ⟨by rw [(rb_no hno).1, hno]; rfl, hB⟩
      have g : decide ((4 : Int) ≤ (s.size : Int) - (i : Int)) = true := by simp; omega
      go_wp2
      refine wp_loop_rounds 5 ?_
      rw [rounds_succ]
      go_wp2
      rw [rounds_succ]
      go_wp2
      rw [rounds_succ]
      go_wp2
      rw [rounds_succ]
      go_wp2
      rw [rounds_succ]
      go_wp2_with (go_at_call 25; refine (refput_any _ _).mono ?_; rintro e w' ⟨rfl, hB'⟩)
      · have e1 : Val (((bt s i % 8 * 64 + bt s (i + 1) % 64) * 64 + bt s (i + 2) % 64) * 64 + bt s (i + 3) % 64) := by assumption
        have e2 : ((ps (((bt s i % 8 * 64 + bt s (i + 1) % 64) * 64 + bt s (i + 2) % 64) * 64 + bt s (i + 3) % 64)).toList == (s.extract i (i + 4)).toList) = true := by assumption
        obtain ⟨y1, y2, y3⟩ := tst_yes (n := 4) hl ⟨e1, str_eq e2⟩
        go_ret2
        exact ⟨by rw [y1, y3]; rfl, hB.trans (hB'.mono hB.size)⟩
      · have e1 : Val (((bt s i % 8 * 64 + bt s (i + 1) % 64) * 64 + bt s (i + 2) % 64) * 64 + bt s (i + 3) % 64) := by assumption
        have e2 : ((ps (((bt s i % 8 * 64 + bt s (i + 1) % 64) * 64 + bt s (i + 2) % 64) * 64 + bt s (i + 3) % 64)).toList == (s.extract i (i + 4)).toList) = false := by assumption
        go_roundw
        case rel => exact ⟨5, rfl, by omega, by omega, hB.trans (hB'.mono hB.size), no_more H.out (fun _ h => str_ne e2 h.2)⟩
        case measure => simp [intOf]
      · have e1 : ¬ Val (((bt s i % 8 * 64 + bt s (i + 1) % 64) * 64 + bt s (i + 2) % 64) * 64 + bt s (i + 3) % 64) := by assumption
        go_roundw
        case rel => exact ⟨5, rfl, by omega, by omega, hB.trans (hB'.mono hB.size), no_more H.out (fun _ h => e1 h.1)⟩
        case measure => simp [intOf]
    · go_wp2
      go_ret2
      have hno : rb s i = false := rb_none hi (fun n n1 n2 n3 => H.out n n1 (by omega) n3)
      exact ⟨by rw [(rb_no hno).1, hno]; rfl, hB⟩
end Go.Proofs.YtejipknbhiokeaaDoor

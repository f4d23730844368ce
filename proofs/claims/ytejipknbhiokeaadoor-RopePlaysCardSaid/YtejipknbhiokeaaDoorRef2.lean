/-
  CONTRACTS of the second reference: Find, Steps, Splice, Digits.
-/
import Derived.Test.YtejipknbhiokeaaDoorPlace3
namespace Go.Proofs.YtejipknbhiokeaaDoor
open Go.RowKit Rp

theorem count_take_succ (s : ByteArray) {j : Nat} (h : j < s.size) : (s.data.toList.take (j + 1)).count 10 = (s.data.toList.take j).count 10 + (if Ut.bt s j = 10 then 1 else 0) := by
  have h' : j < s.data.toList.length := by simpa using h
  rw [List.take_succ_eq_append_getElem h', List.count_append]
  have e : s.data.toList[j] = s[j] := rfl
  rw [e, Ut.bt_at s h]
  by_cases hc : s[j] = 10
  · rw [if_pos (by rw [hc]; rfl)]; simp [hc]
  · have : ¬ ((s[j]).toNat : Int) = 10 := by
      intro h2
      apply hc
      exact UInt8.toNat_inj.1 (by have : s[j].toNat = 10 := by omega
                                  simpa using this)
    rw [if_neg this]; simp [hc]

theorem reffind_out (s : ByteArray) (i : Int) (w : World) (hi : i < 0 ∨ (s.size : Int) < i) : Calls Tryd.prog 75 #[.string s, .int .i64 i] w (Gives (.tuple #[.int .i64 0, .int .i64 5]) w) := by
  by_cases h0 : i < 0
  · have hd : decide (i < 0) = true := by simpa using h0
    go_enter Tryd.func75, Tryd.ntmps75
    go_wp2_with (fail)
    go_ret2
    exact ⟨rfl, Below.refl _ _⟩
  · have hd : decide (i < 0) = false := by simpa using h0
    have hd2 : decide ((s.size : Int) < i) = true := by simp; omega
    go_enter Tryd.func75, Tryd.ntmps75
    go_wp2_with (fail)
    go_ret2
    exact ⟨rfl, Below.refl _ _⟩

set_option maxRecDepth 100000 in
theorem reffind_in (s : ByteArray) (i : Nat) (w : World) (hs : s.size ≤ 1048576) (hi : i ≤ s.size) : Calls Tryd.prog 75 #[.string s, .int .i64 i] w (Gives (.tuple #[.int .i64 (Rp.lf (s.extract 0 i)), .int .i64 0]) w) := by
  have hd : decide ((i : Int) < 0) = false := by simp
  have hd2 : decide ((s.size : Int) < (i : Int)) = false := by simp; omega
  have hd2' : decide (s.size < i) = false := by simp; omega
  rw [lf_take]
  go_enter Tryd.func75, Tryd.ntmps75
  go_wp2_with (fail)
  go_loopw [6, 7] (fun vn vj wr => ∃ j n : Nat, vj = .int .i64 j ∧ vn = .int .i64 n ∧ j ≤ i ∧ n ≤ j ∧ n = (s.data.toList.take j).count 10 ∧ wr = w) (fun _ vj _ => i - (intOf vj).toNat)
  case atStart => exact ⟨0, 0, rfl, rfl, Nat.zero_le _, Nat.le_refl _, rfl, rfl⟩
  case round =>
    obtain ⟨j, n, rfl, rfl, hj, hnj, hE, rfl⟩ := hrel
    have HE := Lib.hid hE
    clear hE
    by_cases hlt : j < i
    · have hjs : j < s.size := by omega
      have hlt1 : decide ((j : Int) < (i : Int)) = true := by simp; omega
      have hlt2 : decide (j < i) = true := by simp; omega
      have hc := Lib.hid (count_take_succ s hjs)
      have hget := Ut.get_bt s
      by_cases hb : Ut.bt s j = 10
      · go_wp2_with (fail)
        go_roundw
        case rel =>
          refine ⟨j + 1, n + 1, by go_num, by go_num, by omega, by omega, ?_, trivial⟩
          rw [hc.out, if_pos hb, HE.out]
        case measure => simp [intOf]; omega
      · go_wp2_with (fail)
        go_roundw
        case rel =>
          refine ⟨j + 1, n, by go_num, rfl, by omega, by omega, ?_, trivial⟩
          rw [hc.out, if_neg hb, HE.out]; rfl
        case measure => simp [intOf]; omega
    · obtain rfl : j = i := by omega
      have hlt1 : decide ((j : Int) < (j : Int)) = false := by simp
      go_wp2_with (fail)
      go_ret2
      refine ⟨?_, Below.refl _ _⟩
      rw [← HE.out]
      rfl

theorem refsteps_any (s : ByteArray) (w : World) (hs : s.size ≤ maxLen) : Calls Tryd.prog 54 #[.string s] w (Gives (.int .i64 (Ut.cnt s)) w) := by
  have HC := Lib.hid (fun W => refcount_any s W hs)
  go_enter Tryd.func54, Tryd.ntmps54
  go_wp2_with (fail)
  refine (HC.out _).mono ?_
  rintro e w1 ⟨rfl, b1⟩
  go_wp2_with (fail)
  go_ret
  exact ⟨rfl, b1⟩

/-- How many binary digits. -/
def dig (n : Nat) : Nat := if _h : 0 < n then dig (n / 2) + 1 else 0
termination_by n
decreasing_by omega
theorem dig_pos {n : Nat} (h : 0 < n) : dig n = dig (n / 2) + 1 := by rw [dig, dif_pos h]
theorem dig_zero : dig 0 = 0 := by rw [dig, dif_neg (by omega)]
theorem dig_pow (n : Nat) : n < 2 ^ dig n := by
  induction n using Nat.strongRecOn with
  | _ n ih =>
    by_cases h : 0 < n
    · rw [dig_pos h, Nat.pow_succ]
      have := ih (n / 2) (by omega)
      omega
    · obtain rfl : n = 0 := by omega
      rw [dig_zero]; decide
theorem dig_le (n : Nat) : dig n ≤ n := by
  induction n using Nat.strongRecOn with
  | _ n ih =>
    by_cases h : 0 < n
    · rw [dig_pos h]
      have := ih (n / 2) (by omega)
      omega
    · obtain rfl : n = 0 := by omega
      rw [dig_zero]; exact Nat.le_refl _
theorem deep_dig {d n : Nat} (h : 2 ^ ((d + 1) / 2) ≤ n + 1) : d ≤ 2 * dig n + 2 := by
  have h1 := dig_pow n
  have h2 : 2 ^ ((d + 1) / 2) ≤ 2 ^ dig n := by omega
  have h3 := (Nat.pow_le_pow_iff_right (by decide)).1 h2
  omega

set_option maxRecDepth 100000 in
theorem digits_any (n : Nat) (w : World) (hn : n ≤ 1048576) : Calls Tryd.prog 74 #[.int .i64 n] w (Gives (.int .i64 (dig n)) w) := by
  have hdl := dig_le n
  go_enter Tryd.func74, Tryd.ntmps74
  go_wp2_with (fail)
  go_loopw [0, 3] (fun vn vk wr => ∃ m k : Nat, vn = .int .i64 m ∧ vk = .int .i64 k ∧ m ≤ n ∧ k + dig m = dig n ∧ wr = w) (fun vn _ _ => (intOf vn).toNat)
  case atStart => exact ⟨n, 0, rfl, rfl, Nat.le_refl _, by omega, rfl⟩
  case round =>
    obtain ⟨m, k, rfl, rfl, hm, hE, rfl⟩ := hrel
    by_cases h0 : 0 < m
    · have hd : decide ((0 : Int) < (m : Int)) = true := by simp; omega
      have hd' : decide (0 < m) = true := by simp; omega
      have hq : (m : Int).tdiv 2 = ((m / 2 : Nat) : Int) := by rw [Int.tdiv_eq_ediv_of_nonneg (by omega)]; omega
      rw [dig_pos h0] at hE
      have hkb : k ≤ 1048576 := by omega
      have HE := Lib.hid hE
      clear hE
      go_wp2_with (fail)
      refine ⟨⟨m / 2, k + 1, by go_num, by go_num, by omega, ?_, trivial⟩, ?_⟩
      · have := HE.out
        omega
      · simp only [intOf]; omega
    · obtain rfl : m = 0 := by omega
      rw [dig_zero] at hE
      have HE := Lib.hid hE
      clear hE
      go_wp2_with (fail)
      go_ret
      refine ⟨?_, Below.refl _ _⟩
      rw [← HE.out]
      rfl
end Go.Proofs.YtejipknbhiokeaaDoor

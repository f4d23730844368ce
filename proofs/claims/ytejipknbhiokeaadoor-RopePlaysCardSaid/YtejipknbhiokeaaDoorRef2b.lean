/-
  CONTRACT of the second reference's Splice.
-/
import Derived.Test.YtejipknbhiokeaaDoorRef2
namespace Go.Proofs.YtejipknbhiokeaaDoor
open Go.RowKit Rp

theorem refsplice_out (s : ByteArray) (pos del : Int) (ins : ByteArray) (w : World) (hs : s.size ≤ 1048576) (hp : -9223372036854775808 ≤ pos) (hp2 : pos ≤ 9223372036854775807)
    (hx : pos < 0 ∨ del < 0 ∨ (s.size : Int) < pos ∨ (s.size : Int) - pos < del) : Calls Tryd.prog 55 #[.string s, ed pos del ins] w (Gives (.tuple #[.string ByteArray.empty, .int .i64 5]) w) := by
  unfold ed
  have hB0 : Below w.heap.size w (w.alloc (.cells #[.int .i64 pos, .int .i64 del, .string ins] 35)) := (Below.refl _ _).alloc (Nat.le_refl _) _
  obtain ⟨c0, c1, c2⟩ := box3_new w pos del ins
  obtain ⟨w1, hw1⟩ : ∃ w1, w.alloc (.cells #[.int .i64 pos, .int .i64 del, .string ins] 35) = w1 := ⟨_, rfl⟩
  rw [hw1] at hB0 c0 c1 c2
  have HX := Lib.hid hx
  clear hx
  by_cases d0 : pos < 0
  · have hd : decide (pos < 0) = true := by simpa using d0
    go_enter Tryd.func55, Tryd.ntmps55
    go_wp2_with (fail)
    go_ret2
    exact ⟨rfl, hB0⟩
  · have hd : decide (pos < 0) = false := by simpa using d0
    by_cases d1 : del < 0
    · have hd1 : decide (del < 0) = true := by simpa using d1
      go_enter Tryd.func55, Tryd.ntmps55
      go_wp2_with (fail)
      go_ret2
      exact ⟨rfl, hB0⟩
    · have hd1 : decide (del < 0) = false := by simpa using d1
      by_cases d2 : (s.size : Int) < pos
      · have hd2 : decide ((s.size : Int) < pos) = true := by simpa using d2
        go_enter Tryd.func55, Tryd.ntmps55
        go_wp2_with (fail)
        go_ret2
        exact ⟨rfl, hB0⟩
      · have hd2 : decide ((s.size : Int) < pos) = false := by simpa using d2
        have d3 : (s.size : Int) - pos < del := by have := HX.out; omega
        have hd3 : decide ((s.size : Int) - pos < del) = true := by simpa using d3
        go_enter Tryd.func55, Tryd.ntmps55
        go_wp2_with (fail)
        go_ret2
        exact ⟨rfl, hB0⟩

theorem refsplice_long (s : ByteArray) (p d : Nat) (ins : ByteArray) (w : World) (hs : s.size ≤ 1048576) (hp : p + d ≤ s.size) (hx : 1048576 < ins.size ∨ 1048576 < s.size - d + ins.size) :
    Calls Tryd.prog 55 #[.string s, ed p d ins] w (Gives (.tuple #[.string ByteArray.empty, .int .i64 2]) w) := by
  unfold ed
  have hB0 : Below w.heap.size w (w.alloc (.cells #[.int .i64 p, .int .i64 d, .string ins] 35)) := (Below.refl _ _).alloc (Nat.le_refl _) _
  obtain ⟨c0, c1, c2⟩ := box3_new w p d ins
  obtain ⟨w1, hw1⟩ : ∃ w1, w.alloc (.cells #[.int .i64 p, .int .i64 d, .string ins] 35) = w1 := ⟨_, rfl⟩
  rw [hw1] at hB0 c0 c1 c2
  have hd : decide ((p : Int) < 0) = false := by simp
  have hd1 : decide ((d : Int) < 0) = false := by simp
  have hd2 : decide ((s.size : Int) < (p : Int)) = false := by simp; omega
  have hd2' : decide (s.size < p) = false := by simp; omega
  have hd3 : decide ((s.size : Int) - (p : Int) < (d : Int)) = false := by simp; omega
  by_cases d4 : 1048576 < ins.size
  · have hd4 : decide ((1048576 : Int) < (ins.size : Int)) = true := by simp; omega
    clear hx
    go_enter Tryd.func55, Tryd.ntmps55
    go_wp2_with (fail)
    go_ret2
    exact ⟨rfl, hB0⟩
  · have hd4 : decide ((1048576 : Int) < (ins.size : Int)) = false := by simp; omega
    have hd5 : decide ((1048576 : Int) - (ins.size : Int) < (s.size : Int) - (d : Int)) = true := by simp; omega
    clear hx
    go_enter Tryd.func55, Tryd.ntmps55
    go_wp2_with (fail)
    go_ret2
    exact ⟨rfl, hB0⟩

set_option maxRecDepth 100000 in
theorem refsplice_ok (s : ByteArray) (p d : Nat) (ins : ByteArray) (w : World) (hs : s.size ≤ 1048576) (hp : p + d ≤ s.size) (hi : ins.size ≤ 1048576) (hx : s.size - d + ins.size ≤ 1048576) :
    Calls Tryd.prog 55 #[.string s, ed p d ins] w (Gives (.tuple #[.string (s.extract 0 p ++ ins ++ s.extract (p + d) s.size), .int .i64 0]) w) := by
  unfold ed
  have hB0 : Below w.heap.size w (w.alloc (.cells #[.int .i64 p, .int .i64 d, .string ins] 35)) := (Below.refl _ _).alloc (Nat.le_refl _) _
  obtain ⟨c0, c1, c2⟩ := box3_new w p d ins
  obtain ⟨w1, hw1⟩ : ∃ w1, w.alloc (.cells #[.int .i64 p, .int .i64 d, .string ins] 35) = w1 := ⟨_, rfl⟩
  rw [hw1] at hB0 c0 c1 c2
  have hd : decide ((p : Int) < 0) = false := by simp
  have hd1 : decide ((d : Int) < 0) = false := by simp
  have hd2 : decide ((s.size : Int) < (p : Int)) = false := by simp; omega
  have hd2' : decide (s.size < p) = false := by simp; omega
  have hd3 : decide ((s.size : Int) - (p : Int) < (d : Int)) = false := by simp; omega
  have hd4 : decide ((1048576 : Int) < (ins.size : Int)) = false := by simp; omega
  have hd4' : decide (1048576 < ins.size) = false := by simp; omega
  have hd5 : decide ((1048576 : Int) - (ins.size : Int) < (s.size : Int) - (d : Int)) = false := by simp; omega
  have hsl : ∀ W, (Instr.slice 9 (.string s) none (some (.int .i64 p)) none).run Tryd.prog W = .ok (.string (s.extract 0 p)) W := by
    intro W
    have := run_slice_string_h (P := Tryd.prog) W 9 s Tryd.underlying9 .i64 (p : Int) (by omega) (by omega)
    simpa using this
  have hws : IntKind.i64.wrap ((p : Int) + (d : Int)) = ((p + d : Nat) : Int) := (w64 (by omega) (by omega)).trans (by omega)
  have hsr : ∀ W, (Instr.slice 9 (.string s) (some (.int .i64 ((p + d : Nat) : Int))) none none).run Tryd.prog W = .ok (.string (s.extract (p + d) s.size)) W := by
    intro W
    exact run_slice_string_l (P := Tryd.prog) W 9 s Tryd.underlying9 .i64 ((p + d : Nat) : Int) (by omega) (by omega)
  obtain ⟨pd, hpd⟩ : ∃ pd, p + d = pd := ⟨_, rfl⟩
  rw [hpd] at hws hsr ⊢
  have z1 : (s.extract 0 p).size ≤ 1048576 := by rw [ByteArray.size_extract]; omega
  have z2 : (s.extract pd s.size).size ≤ 1048576 := by rw [ByteArray.size_extract]; omega
  obtain ⟨a, ha⟩ : ∃ a, s.extract 0 p = a := ⟨_, rfl⟩
  obtain ⟨b, hb⟩ : ∃ b, s.extract pd s.size = b := ⟨_, rfl⟩
  rw [ha] at hsl z1 ⊢
  rw [hb] at hsr z2 ⊢
  clear ha hb hpd
  have g1 : a.size + ins.size ≤ 1099511627776 := by omega
  have g2 : a.size + ins.size + b.size ≤ 1099511627776 := by omega
  go_enter Tryd.func55, Tryd.ntmps55
  go_wp2_with (fail)
  go_quiet (fail)
  go_wp2_with (fail)
  go_ret2
  exact ⟨rfl, below_drewN hB0 _⟩
end Go.Proofs.YtejipknbhiokeaaDoor

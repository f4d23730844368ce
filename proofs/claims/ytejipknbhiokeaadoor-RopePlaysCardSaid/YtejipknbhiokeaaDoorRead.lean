/-
  THE WALKS OF utf.half AND utf.read: what the character at a place is, one theorem for each way through the code. Printed by wip/gen/gen_read.py.
-/
import Derived.Test.YtejipknbhiokeaaDoorChecked
import Derived.Test.YtejipknbhiokeaaDoorPlain
import Derived.WalkKit
import Derived.WalkSpells
import Derived.WalkLawsBesides
import Derived.Handy
import Derived.BigQuiet
import Derived.Deep.QuietTactic
import Derived.Lib.Hide
import Derived.WalkSmall
namespace Go.Proofs.YtejipknbhiokeaaDoor
open Go.RowKit Ut

theorem half_any (c : Int) (w : World) : Calls Tryd.prog 57 #[.int .i32 c] w fun e w' => e = .returned (.bool (c / 2048 == 27)) ∧ w = w' := by
  go_enter Tryd.func57, Tryd.ntmps57
  go_wp2
  go_ret
  exact ⟨rfl, rfl⟩

theorem u8_and127 {x : Int} (h0 : 0 ≤ x) (h1 : x < 128) : bits .and .u8 x 127 = x := by
  have h : bits .and .u8 x (2 ^ 7 - 1) = x % 2 ^ 7 := bits_mask .u8 8 (by decide) wraps_u8 7 (by decide) x h0 (by omega)
  simp only [Int.reducePow, Int.reduceSub] at h
  rw [h]; omega

/-- What the table 'rows' holds. -/
def Rows (w : World) : Prop :=
  (w.cell? ⟨0, 0, none⟩ = some (.int .u64 7) ∧ w.cell? ⟨0, 1, none⟩ = some (.int .u8 0) ∧ w.cell? ⟨0, 2, none⟩ = some (.int .i32 0) ∧ w.cell? ⟨0, 3, none⟩ = some (.int .i32 127)) ∧
  (w.cell? ⟨0, 4, none⟩ = some (.int .u64 5) ∧ w.cell? ⟨0, 5, none⟩ = some (.int .u8 192) ∧ w.cell? ⟨0, 6, none⟩ = some (.int .i32 128) ∧ w.cell? ⟨0, 7, none⟩ = some (.int .i32 2047)) ∧
  (w.cell? ⟨0, 8, none⟩ = some (.int .u64 4) ∧ w.cell? ⟨0, 9, none⟩ = some (.int .u8 224) ∧ w.cell? ⟨0, 10, none⟩ = some (.int .i32 2048) ∧ w.cell? ⟨0, 11, none⟩ = some (.int .i32 65535)) ∧
  (w.cell? ⟨0, 12, none⟩ = some (.int .u64 3) ∧ w.cell? ⟨0, 13, none⟩ = some (.int .u8 240) ∧ w.cell? ⟨0, 14, none⟩ = some (.int .i32 65536) ∧ w.cell? ⟨0, 15, none⟩ = some (.int .i32 1114111))

theorem Rows.size {w : World} (h : Rows w) : 0 < w.heap.size := World.block_lt_of_cell? w _ h.1.1
theorem Rows.below {B : Nat} {w w' : World} (h : Rows w) (hb : Below B w w') (hB : 0 < B) : Rows w' := by
  have e : ∀ j, w'.cell? ⟨0, j, none⟩ = w.cell? ⟨0, j, none⟩ := fun j => hb.cell (p := ⟨0, j, none⟩) hB
  unfold Rows
  simp only [e]
  exact h

set_option maxRecDepth 100000 in
theorem read_none (s : ByteArray) (i : Nat) (w : World) (_hs : s.size ≤ maxLen) (hi : i < s.size) (hw : Rows w) (h1 : 128 ≤ bt s i) (h2 : bt s i < 192) :
    Calls Tryd.prog 56 #[.string s, .int .i64 i] w fun e w' => e = .returned (.tuple #[.int .i32 0, .int .i64 1, .bool false]) ∧ Below w.heap.size w w' := by
  unfold maxLen at _hs
  obtain ⟨⟨r0, r1, r2, r3⟩, ⟨r4, r5, r6, r7⟩, ⟨r8, r9, r10, r11⟩, ⟨r12, r13, r14, r15⟩⟩ := hw
  have hb := get_bt s
  have hz : 0 < w.heap.size := World.block_lt_of_cell? w _ r0
  have h0 := bt_nonneg s i
  have h00 := bt_le s i
  have k0 : (bt s i / 128 != 0) = true := by simp; omega
  have k1 : (bt s i / 32 != 6) = true := by simp; omega
  have k2 : (bt s i / 16 != 14) = true := by simp; omega
  have k3 : (bt s i / 8 != 30) = true := by simp; omega
  go_enter Tryd.func56, Tryd.ntmps56
  go_wp2
  refine wp_loop_rounds 5 ?_
  rw [rounds_succ]
  go_wp2
  go_quiet (fail)
  go_wp2
  rw [rounds_succ]
  go_wp2
  go_quiet (fail)
  go_wp2
  rw [rounds_succ]
  go_wp2
  go_quiet (fail)
  go_wp2
  rw [rounds_succ]
  go_wp2
  go_quiet (fail)
  go_wp2
  rw [rounds_succ]
  go_wp2
  go_ret3
  exact ⟨rfl, by repeat (first | exact Below.refl _ _ | apply below_drewN | (refine Below.alloc ?_ (by simp; try omega) _))⟩

set_option maxRecDepth 100000 in
theorem read_none' (s : ByteArray) (i : Nat) (w : World) (_hs : s.size ≤ maxLen) (hi : i < s.size) (hw : Rows w) (h1 : 248 ≤ bt s i) :
    Calls Tryd.prog 56 #[.string s, .int .i64 i] w fun e w' => e = .returned (.tuple #[.int .i32 0, .int .i64 1, .bool false]) ∧ Below w.heap.size w w' := by
  unfold maxLen at _hs
  obtain ⟨⟨r0, r1, r2, r3⟩, ⟨r4, r5, r6, r7⟩, ⟨r8, r9, r10, r11⟩, ⟨r12, r13, r14, r15⟩⟩ := hw
  have hb := get_bt s
  have hz : 0 < w.heap.size := World.block_lt_of_cell? w _ r0
  have h0 := bt_nonneg s i
  have h00 := bt_le s i
  have k0 : (bt s i / 128 != 0) = true := by simp; omega
  have k1 : (bt s i / 32 != 6) = true := by simp; omega
  have k2 : (bt s i / 16 != 14) = true := by simp; omega
  have k3 : (bt s i / 8 != 30) = true := by simp; omega
  go_enter Tryd.func56, Tryd.ntmps56
  go_wp2
  refine wp_loop_rounds 5 ?_
  rw [rounds_succ]
  go_wp2
  go_quiet (fail)
  go_wp2
  rw [rounds_succ]
  go_wp2
  go_quiet (fail)
  go_wp2
  rw [rounds_succ]
  go_wp2
  go_quiet (fail)
  go_wp2
  rw [rounds_succ]
  go_wp2
  go_quiet (fail)
  go_wp2
  rw [rounds_succ]
  go_wp2
  go_ret3
  exact ⟨rfl, by repeat (first | exact Below.refl _ _ | apply below_drewN | (refine Below.alloc ?_ (by simp; try omega) _))⟩

set_option maxRecDepth 100000 in
theorem read_short1 (s : ByteArray) (i : Nat) (w : World) (_hs : s.size ≤ maxLen) (hi : i < s.size) (hw : Rows w) (h1 : 192 ≤ bt s i) (h2 : bt s i < 224) (h3 : s.size < i + 2) :
    Calls Tryd.prog 56 #[.string s, .int .i64 i] w fun e w' => e = .returned (.tuple #[.int .i32 0, .int .i64 1, .bool false]) ∧ Below w.heap.size w w' := by
  unfold maxLen at _hs
  obtain ⟨⟨r0, r1, r2, r3⟩, ⟨r4, r5, r6, r7⟩, ⟨r8, r9, r10, r11⟩, ⟨r12, r13, r14, r15⟩⟩ := hw
  have hb := get_bt s
  have hz : 0 < w.heap.size := World.block_lt_of_cell? w _ r0
  have h0 := bt_nonneg s i
  have h00 := bt_le s i
  have k0 : (bt s i / 128 != 0) = true := by simp; omega
  have k1 : (bt s i / 32 != 6) = false := by simp; omega
  have k2 : (bt s i / 16 != 14) = true := by simp; omega
  have k3 : (bt s i / 8 != 30) = true := by simp; omega
  have g1 : decide ((s.size : Int) - (i : Int) ≤ 1) = true := by simp; omega
  go_enter Tryd.func56, Tryd.ntmps56
  go_wp2
  refine wp_loop_rounds 5 ?_
  rw [rounds_succ]
  go_wp2
  go_quiet (fail)
  go_wp2
  rw [rounds_succ]
  go_wp2
  go_quiet (fail)
  go_wp2
  rw [rounds_succ]
  go_wp2
  go_quiet (fail)
  go_wp2
  rw [rounds_succ]
  go_wp2
  go_quiet (fail)
  go_wp2
  rw [rounds_succ]
  go_wp2
  go_ret3
  exact ⟨rfl, by repeat (first | exact Below.refl _ _ | apply below_drewN | (refine Below.alloc ?_ (by simp; try omega) _))⟩

set_option maxRecDepth 100000 in
theorem read_short2 (s : ByteArray) (i : Nat) (w : World) (_hs : s.size ≤ maxLen) (hi : i < s.size) (hw : Rows w) (h1 : 224 ≤ bt s i) (h2 : bt s i < 240) (h3 : s.size < i + 3) :
    Calls Tryd.prog 56 #[.string s, .int .i64 i] w fun e w' => e = .returned (.tuple #[.int .i32 0, .int .i64 1, .bool false]) ∧ Below w.heap.size w w' := by
  unfold maxLen at _hs
  obtain ⟨⟨r0, r1, r2, r3⟩, ⟨r4, r5, r6, r7⟩, ⟨r8, r9, r10, r11⟩, ⟨r12, r13, r14, r15⟩⟩ := hw
  have hb := get_bt s
  have hz : 0 < w.heap.size := World.block_lt_of_cell? w _ r0
  have h0 := bt_nonneg s i
  have h00 := bt_le s i
  have k0 : (bt s i / 128 != 0) = true := by simp; omega
  have k1 : (bt s i / 32 != 6) = true := by simp; omega
  have k2 : (bt s i / 16 != 14) = false := by simp; omega
  have k3 : (bt s i / 8 != 30) = true := by simp; omega
  have g2 : decide ((s.size : Int) - (i : Int) ≤ 2) = true := by simp; omega
  go_enter Tryd.func56, Tryd.ntmps56
  go_wp2
  refine wp_loop_rounds 5 ?_
  rw [rounds_succ]
  go_wp2
  go_quiet (fail)
  go_wp2
  rw [rounds_succ]
  go_wp2
  go_quiet (fail)
  go_wp2
  rw [rounds_succ]
  go_wp2
  go_quiet (fail)
  go_wp2
  rw [rounds_succ]
  go_wp2
  go_quiet (fail)
  go_wp2
  rw [rounds_succ]
  go_wp2
  go_ret3
  exact ⟨rfl, by repeat (first | exact Below.refl _ _ | apply below_drewN | (refine Below.alloc ?_ (by simp; try omega) _))⟩

set_option maxRecDepth 100000 in
theorem read_short3 (s : ByteArray) (i : Nat) (w : World) (_hs : s.size ≤ maxLen) (hi : i < s.size) (hw : Rows w) (h1 : 240 ≤ bt s i) (h2 : bt s i < 248) (h3 : s.size < i + 4) :
    Calls Tryd.prog 56 #[.string s, .int .i64 i] w fun e w' => e = .returned (.tuple #[.int .i32 0, .int .i64 1, .bool false]) ∧ Below w.heap.size w w' := by
  unfold maxLen at _hs
  obtain ⟨⟨r0, r1, r2, r3⟩, ⟨r4, r5, r6, r7⟩, ⟨r8, r9, r10, r11⟩, ⟨r12, r13, r14, r15⟩⟩ := hw
  have hb := get_bt s
  have hz : 0 < w.heap.size := World.block_lt_of_cell? w _ r0
  have h0 := bt_nonneg s i
  have h00 := bt_le s i
  have k0 : (bt s i / 128 != 0) = true := by simp; omega
  have k1 : (bt s i / 32 != 6) = true := by simp; omega
  have k2 : (bt s i / 16 != 14) = true := by simp; omega
  have k3 : (bt s i / 8 != 30) = false := by simp; omega
  have g3 : decide ((s.size : Int) - (i : Int) ≤ 3) = true := by simp; omega
  go_enter Tryd.func56, Tryd.ntmps56
  go_wp2
  refine wp_loop_rounds 5 ?_
  rw [rounds_succ]
  go_wp2
  go_quiet (fail)
  go_wp2
  rw [rounds_succ]
  go_wp2
  go_quiet (fail)
  go_wp2
  rw [rounds_succ]
  go_wp2
  go_quiet (fail)
  go_wp2
  rw [rounds_succ]
  go_wp2
  go_quiet (fail)
  go_wp2
  rw [rounds_succ]
  go_wp2
  go_ret3
  exact ⟨rfl, by repeat (first | exact Below.refl _ _ | apply below_drewN | (refine Below.alloc ?_ (by simp; try omega) _))⟩

set_option maxRecDepth 100000 in
theorem read_good0 (s : ByteArray) (i : Nat) (w : World) (_hs : s.size ≤ maxLen) (hi : i < s.size) (hw : Rows w) (h1 : bt s i < 128) :
    Calls Tryd.prog 56 #[.string s, .int .i64 i] w fun e w' => e = .returned (.tuple #[.int .i32 (bt s i), .int .i64 1, .bool true]) ∧ Below w.heap.size w w' := by
  unfold maxLen at _hs
  obtain ⟨⟨r0, r1, r2, r3⟩, ⟨r4, r5, r6, r7⟩, ⟨r8, r9, r10, r11⟩, ⟨r12, r13, r14, r15⟩⟩ := hw
  clear r4 r5 r6 r7 r8 r9 r10 r11 r12 r13 r14 r15
  have hb := get_bt s
  have hz : 0 < w.heap.size := World.block_lt_of_cell? w _ r0
  have h0 := bt_nonneg s i
  have h00 := bt_le s i
  have k0 : (bt s i / 128 != 0) = false := by simp; omega
  have g0 : decide ((s.size : Int) - (i : Int) ≤ 0) = false := by simp; omega
  have m0 : bits BinOp.and IntKind.u8 (bt s i) 127 = bt s i := u8_and127 h0 h1
  have q1 : decide (bt s i < 0) = false := by simp; omega
  have q2 : decide (127 < bt s i) = false := by simp; omega
  have q3 : ((bt s i) / 2048 == 27) = false := by simp; omega
  go_enter Tryd.func56, Tryd.ntmps56
  go_wp2
  refine wp_loop_rounds 5 ?_
  rw [rounds_succ]
  go_wp2
  go_quiet (fail)
  go_wp2
  go_quiet (fail)
  go_wp2
  refine wp_loop_rounds 5 ?_
  rw [rounds_succ]
  go_wp2
  go_ret3
  exact ⟨rfl, by repeat (first | exact Below.refl _ _ | apply below_drewN | (refine Below.alloc ?_ (by simp; try omega) _))⟩

set_option maxRecDepth 100000 in
theorem read_good1 (s : ByteArray) (i : Nat) (w : World) (_hs : s.size ≤ maxLen) (hi : i < s.size) (hw : Rows w) (h1 : 192 ≤ bt s i) (h2 : bt s i < 224) (h3 : i + 2 ≤ s.size) (c1 : bt s (i + 1) / 64 = 2) (hr : 128 ≤ bt s i % 32 * 64 + bt s (i + 1) % 64) :
    Calls Tryd.prog 56 #[.string s, .int .i64 i] w fun e w' => e = .returned (.tuple #[.int .i32 (bt s i % 32 * 64 + bt s (i + 1) % 64), .int .i64 2, .bool true]) ∧ Below w.heap.size w w' := by
  unfold maxLen at _hs
  obtain ⟨⟨r0, r1, r2, r3⟩, ⟨r4, r5, r6, r7⟩, ⟨r8, r9, r10, r11⟩, ⟨r12, r13, r14, r15⟩⟩ := hw
  clear r8 r9 r10 r11 r12 r13 r14 r15
  have hb := get_bt s
  have hz : 0 < w.heap.size := World.block_lt_of_cell? w _ r0
  have h0 := bt_nonneg s i
  have h00 := bt_le s i
  have k0 : (bt s i / 128 != 0) = true := by simp; omega
  have k1 : (bt s i / 32 != 6) = false := by simp; omega
  have g1 : decide ((s.size : Int) - (i : Int) ≤ 1) = false := by simp; omega
  have m0 : bits BinOp.and IntKind.u8 (bt s i) 31 = bt s i % 32 := u8_and31 _ h0 (by omega)
  have a1 := bt_nonneg s (i + 1)
  have b1 := bt_le s (i + 1)
  have d1 : (bt s (i + 1) / 64 != 2) = false := by simp; omega
  have m1 : bits BinOp.and IntKind.u8 (bt s (i + 1)) 63 = bt s (i + 1) % 64 := u8_and63 _ a1 (by omega)
  have o1 : bits BinOp.or IntKind.i32 (bt s i % 32 * 64) (bt s (i + 1) % 64) = bt s i % 32 * 64 + bt s (i + 1) % 64 := i32_or6 _ _ (by omega) (by omega) (by omega) (by omega) (by omega)
  have q1 : decide (bt s i % 32 * 64 + bt s (i + 1) % 64 < 128) = false := by simp; omega
  have q2 : decide (2047 < bt s i % 32 * 64 + bt s (i + 1) % 64) = false := by simp; omega
  have q3 : ((bt s i % 32 * 64 + bt s (i + 1) % 64) / 2048 == 27) = false := by simp; omega
  clear c1
  go_enter Tryd.func56, Tryd.ntmps56
  go_wp2
  refine wp_loop_rounds 5 ?_
  rw [rounds_succ]
  go_wp2
  go_quiet (fail)
  go_wp2
  rw [rounds_succ]
  go_wp2
  go_quiet (fail)
  go_wp2
  go_quiet (fail)
  go_wp2
  refine wp_loop_rounds 5 ?_
  rw [rounds_succ]
  go_wp2
  rw [rounds_succ]
  go_wp2
  go_ret3
  exact ⟨rfl, by repeat (first | exact Below.refl _ _ | apply below_drewN | (refine Below.alloc ?_ (by simp; try omega) _))⟩

set_option maxRecDepth 100000 in
theorem read_bad11 (s : ByteArray) (i : Nat) (w : World) (_hs : s.size ≤ maxLen) (hi : i < s.size) (hw : Rows w) (h1 : 192 ≤ bt s i) (h2 : bt s i < 224) (h3 : i + 2 ≤ s.size) (c1 : bt s (i + 1) / 64 ≠ 2) :
    Calls Tryd.prog 56 #[.string s, .int .i64 i] w fun e w' => e = .returned (.tuple #[.int .i32 0, .int .i64 1, .bool false]) ∧ Below w.heap.size w w' := by
  unfold maxLen at _hs
  obtain ⟨⟨r0, r1, r2, r3⟩, ⟨r4, r5, r6, r7⟩, ⟨r8, r9, r10, r11⟩, ⟨r12, r13, r14, r15⟩⟩ := hw
  clear r8 r9 r10 r11 r12 r13 r14 r15
  have hb := get_bt s
  have hz : 0 < w.heap.size := World.block_lt_of_cell? w _ r0
  have h0 := bt_nonneg s i
  have h00 := bt_le s i
  have k0 : (bt s i / 128 != 0) = true := by simp; omega
  have k1 : (bt s i / 32 != 6) = false := by simp; omega
  have g1 : decide ((s.size : Int) - (i : Int) ≤ 1) = false := by simp; omega
  have m0 : bits BinOp.and IntKind.u8 (bt s i) 31 = bt s i % 32 := u8_and31 _ h0 (by omega)
  have a1 := bt_nonneg s (i + 1)
  have b1 := bt_le s (i + 1)
  have d1 : (bt s (i + 1) / 64 != 2) = true := by simp; omega
  clear c1
  go_enter Tryd.func56, Tryd.ntmps56
  go_wp2
  refine wp_loop_rounds 5 ?_
  rw [rounds_succ]
  go_wp2
  go_quiet (fail)
  go_wp2
  rw [rounds_succ]
  go_wp2
  go_quiet (fail)
  go_wp2
  go_quiet (fail)
  go_wp2
  refine wp_loop_rounds 5 ?_
  rw [rounds_succ]
  go_wp2
  go_ret3
  exact ⟨rfl, by repeat (first | exact Below.refl _ _ | apply below_drewN | (refine Below.alloc ?_ (by simp; try omega) _))⟩

set_option maxRecDepth 100000 in
theorem read_low1 (s : ByteArray) (i : Nat) (w : World) (_hs : s.size ≤ maxLen) (hi : i < s.size) (hw : Rows w) (h1 : 192 ≤ bt s i) (h2 : bt s i < 224) (h3 : i + 2 ≤ s.size) (c1 : bt s (i + 1) / 64 = 2) (hr : bt s i % 32 * 64 + bt s (i + 1) % 64 < 128) :
    Calls Tryd.prog 56 #[.string s, .int .i64 i] w fun e w' => e = .returned (.tuple #[.int .i32 0, .int .i64 1, .bool false]) ∧ Below w.heap.size w w' := by
  unfold maxLen at _hs
  obtain ⟨⟨r0, r1, r2, r3⟩, ⟨r4, r5, r6, r7⟩, ⟨r8, r9, r10, r11⟩, ⟨r12, r13, r14, r15⟩⟩ := hw
  clear r8 r9 r10 r11 r12 r13 r14 r15
  have hb := get_bt s
  have hz : 0 < w.heap.size := World.block_lt_of_cell? w _ r0
  have h0 := bt_nonneg s i
  have h00 := bt_le s i
  have k0 : (bt s i / 128 != 0) = true := by simp; omega
  have k1 : (bt s i / 32 != 6) = false := by simp; omega
  have g1 : decide ((s.size : Int) - (i : Int) ≤ 1) = false := by simp; omega
  have m0 : bits BinOp.and IntKind.u8 (bt s i) 31 = bt s i % 32 := u8_and31 _ h0 (by omega)
  have a1 := bt_nonneg s (i + 1)
  have b1 := bt_le s (i + 1)
  have d1 : (bt s (i + 1) / 64 != 2) = false := by simp; omega
  have m1 : bits BinOp.and IntKind.u8 (bt s (i + 1)) 63 = bt s (i + 1) % 64 := u8_and63 _ a1 (by omega)
  have o1 : bits BinOp.or IntKind.i32 (bt s i % 32 * 64) (bt s (i + 1) % 64) = bt s i % 32 * 64 + bt s (i + 1) % 64 := i32_or6 _ _ (by omega) (by omega) (by omega) (by omega) (by omega)
  have q1 : decide (bt s i % 32 * 64 + bt s (i + 1) % 64 < 128) = true := by simp; omega
  clear c1
  go_enter Tryd.func56, Tryd.ntmps56
  go_wp2
  refine wp_loop_rounds 5 ?_
  rw [rounds_succ]
  go_wp2
  go_quiet (fail)
  go_wp2
  rw [rounds_succ]
  go_wp2
  go_quiet (fail)
  go_wp2
  go_quiet (fail)
  go_wp2
  refine wp_loop_rounds 5 ?_
  rw [rounds_succ]
  go_wp2
  rw [rounds_succ]
  go_wp2
  go_ret3
  exact ⟨rfl, by repeat (first | exact Below.refl _ _ | apply below_drewN | (refine Below.alloc ?_ (by simp; try omega) _))⟩

set_option maxRecDepth 100000 in
theorem read_good2 (s : ByteArray) (i : Nat) (w : World) (_hs : s.size ≤ maxLen) (hi : i < s.size) (hw : Rows w) (h1 : 224 ≤ bt s i) (h2 : bt s i < 240) (h3 : i + 3 ≤ s.size) (c1 : bt s (i + 1) / 64 = 2) (c2 : bt s (i + 2) / 64 = 2) (hr : 2048 ≤ (bt s i % 16 * 64 + bt s (i + 1) % 64) * 64 + bt s (i + 2) % 64) (hq : ((bt s i % 16 * 64 + bt s (i + 1) % 64) * 64 + bt s (i + 2) % 64) / 2048 ≠ 27) :
    Calls Tryd.prog 56 #[.string s, .int .i64 i] w fun e w' => e = .returned (.tuple #[.int .i32 ((bt s i % 16 * 64 + bt s (i + 1) % 64) * 64 + bt s (i + 2) % 64), .int .i64 3, .bool true]) ∧ Below w.heap.size w w' := by
  unfold maxLen at _hs
  obtain ⟨⟨r0, r1, r2, r3⟩, ⟨r4, r5, r6, r7⟩, ⟨r8, r9, r10, r11⟩, ⟨r12, r13, r14, r15⟩⟩ := hw
  clear r12 r13 r14 r15
  have hb := get_bt s
  have hz : 0 < w.heap.size := World.block_lt_of_cell? w _ r0
  have h0 := bt_nonneg s i
  have h00 := bt_le s i
  have k0 : (bt s i / 128 != 0) = true := by simp; omega
  have k1 : (bt s i / 32 != 6) = true := by simp; omega
  have k2 : (bt s i / 16 != 14) = false := by simp; omega
  have g2 : decide ((s.size : Int) - (i : Int) ≤ 2) = false := by simp; omega
  have m0 : bits BinOp.and IntKind.u8 (bt s i) 15 = bt s i % 16 := u8_and15 _ h0 (by omega)
  have a1 := bt_nonneg s (i + 1)
  have b1 := bt_le s (i + 1)
  have d1 : (bt s (i + 1) / 64 != 2) = false := by simp; omega
  have m1 : bits BinOp.and IntKind.u8 (bt s (i + 1)) 63 = bt s (i + 1) % 64 := u8_and63 _ a1 (by omega)
  have o1 : bits BinOp.or IntKind.i32 (bt s i % 16 * 64) (bt s (i + 1) % 64) = bt s i % 16 * 64 + bt s (i + 1) % 64 := i32_or6 _ _ (by omega) (by omega) (by omega) (by omega) (by omega)
  have a2 := bt_nonneg s (i + 2)
  have b2 := bt_le s (i + 2)
  have d2 : (bt s (i + 2) / 64 != 2) = false := by simp; omega
  have m2 : bits BinOp.and IntKind.u8 (bt s (i + 2)) 63 = bt s (i + 2) % 64 := u8_and63 _ a2 (by omega)
  have o2 : bits BinOp.or IntKind.i32 ((bt s i % 16 * 64 + bt s (i + 1) % 64) * 64) (bt s (i + 2) % 64) = (bt s i % 16 * 64 + bt s (i + 1) % 64) * 64 + bt s (i + 2) % 64 := i32_or6 _ _ (by omega) (by omega) (by omega) (by omega) (by omega)
  have q1 : decide ((bt s i % 16 * 64 + bt s (i + 1) % 64) * 64 + bt s (i + 2) % 64 < 2048) = false := by simp; omega
  have q2 : decide (65535 < (bt s i % 16 * 64 + bt s (i + 1) % 64) * 64 + bt s (i + 2) % 64) = false := by simp; omega
  have q3 : (((bt s i % 16 * 64 + bt s (i + 1) % 64) * 64 + bt s (i + 2) % 64) / 2048 == 27) = false := by simp; omega
  clear c1 c2 hq
  go_enter Tryd.func56, Tryd.ntmps56
  go_wp2
  refine wp_loop_rounds 5 ?_
  rw [rounds_succ]
  go_wp2
  go_quiet (fail)
  go_wp2
  rw [rounds_succ]
  go_wp2
  go_quiet (fail)
  go_wp2
  rw [rounds_succ]
  go_wp2
  go_quiet (fail)
  go_wp2
  go_quiet (fail)
  go_wp2
  refine wp_loop_rounds 5 ?_
  rw [rounds_succ]
  go_wp2
  rw [rounds_succ]
  go_wp2
  rw [rounds_succ]
  go_wp2
  go_ret3
  exact ⟨rfl, by repeat (first | exact Below.refl _ _ | apply below_drewN | (refine Below.alloc ?_ (by simp; try omega) _))⟩

set_option maxRecDepth 100000 in
theorem read_bad12 (s : ByteArray) (i : Nat) (w : World) (_hs : s.size ≤ maxLen) (hi : i < s.size) (hw : Rows w) (h1 : 224 ≤ bt s i) (h2 : bt s i < 240) (h3 : i + 3 ≤ s.size) (c1 : bt s (i + 1) / 64 ≠ 2) :
    Calls Tryd.prog 56 #[.string s, .int .i64 i] w fun e w' => e = .returned (.tuple #[.int .i32 0, .int .i64 1, .bool false]) ∧ Below w.heap.size w w' := by
  unfold maxLen at _hs
  obtain ⟨⟨r0, r1, r2, r3⟩, ⟨r4, r5, r6, r7⟩, ⟨r8, r9, r10, r11⟩, ⟨r12, r13, r14, r15⟩⟩ := hw
  clear r12 r13 r14 r15
  have hb := get_bt s
  have hz : 0 < w.heap.size := World.block_lt_of_cell? w _ r0
  have h0 := bt_nonneg s i
  have h00 := bt_le s i
  have k0 : (bt s i / 128 != 0) = true := by simp; omega
  have k1 : (bt s i / 32 != 6) = true := by simp; omega
  have k2 : (bt s i / 16 != 14) = false := by simp; omega
  have g2 : decide ((s.size : Int) - (i : Int) ≤ 2) = false := by simp; omega
  have m0 : bits BinOp.and IntKind.u8 (bt s i) 15 = bt s i % 16 := u8_and15 _ h0 (by omega)
  have a1 := bt_nonneg s (i + 1)
  have b1 := bt_le s (i + 1)
  have d1 : (bt s (i + 1) / 64 != 2) = true := by simp; omega
  clear c1
  go_enter Tryd.func56, Tryd.ntmps56
  go_wp2
  refine wp_loop_rounds 5 ?_
  rw [rounds_succ]
  go_wp2
  go_quiet (fail)
  go_wp2
  rw [rounds_succ]
  go_wp2
  go_quiet (fail)
  go_wp2
  rw [rounds_succ]
  go_wp2
  go_quiet (fail)
  go_wp2
  go_quiet (fail)
  go_wp2
  refine wp_loop_rounds 5 ?_
  rw [rounds_succ]
  go_wp2
  go_ret3
  exact ⟨rfl, by repeat (first | exact Below.refl _ _ | apply below_drewN | (refine Below.alloc ?_ (by simp; try omega) _))⟩

set_option maxRecDepth 100000 in
theorem read_bad22 (s : ByteArray) (i : Nat) (w : World) (_hs : s.size ≤ maxLen) (hi : i < s.size) (hw : Rows w) (h1 : 224 ≤ bt s i) (h2 : bt s i < 240) (h3 : i + 3 ≤ s.size) (c1 : bt s (i + 1) / 64 = 2) (c2 : bt s (i + 2) / 64 ≠ 2) :
    Calls Tryd.prog 56 #[.string s, .int .i64 i] w fun e w' => e = .returned (.tuple #[.int .i32 0, .int .i64 1, .bool false]) ∧ Below w.heap.size w w' := by
  unfold maxLen at _hs
  obtain ⟨⟨r0, r1, r2, r3⟩, ⟨r4, r5, r6, r7⟩, ⟨r8, r9, r10, r11⟩, ⟨r12, r13, r14, r15⟩⟩ := hw
  clear r12 r13 r14 r15
  have hb := get_bt s
  have hz : 0 < w.heap.size := World.block_lt_of_cell? w _ r0
  have h0 := bt_nonneg s i
  have h00 := bt_le s i
  have k0 : (bt s i / 128 != 0) = true := by simp; omega
  have k1 : (bt s i / 32 != 6) = true := by simp; omega
  have k2 : (bt s i / 16 != 14) = false := by simp; omega
  have g2 : decide ((s.size : Int) - (i : Int) ≤ 2) = false := by simp; omega
  have m0 : bits BinOp.and IntKind.u8 (bt s i) 15 = bt s i % 16 := u8_and15 _ h0 (by omega)
  have a1 := bt_nonneg s (i + 1)
  have b1 := bt_le s (i + 1)
  have d1 : (bt s (i + 1) / 64 != 2) = false := by simp; omega
  have m1 : bits BinOp.and IntKind.u8 (bt s (i + 1)) 63 = bt s (i + 1) % 64 := u8_and63 _ a1 (by omega)
  have o1 : bits BinOp.or IntKind.i32 (bt s i % 16 * 64) (bt s (i + 1) % 64) = bt s i % 16 * 64 + bt s (i + 1) % 64 := i32_or6 _ _ (by omega) (by omega) (by omega) (by omega) (by omega)
  have a2 := bt_nonneg s (i + 2)
  have b2 := bt_le s (i + 2)
  have d2 : (bt s (i + 2) / 64 != 2) = true := by simp; omega
  clear c1 c2
  go_enter Tryd.func56, Tryd.ntmps56
  go_wp2
  refine wp_loop_rounds 5 ?_
  rw [rounds_succ]
  go_wp2
  go_quiet (fail)
  go_wp2
  rw [rounds_succ]
  go_wp2
  go_quiet (fail)
  go_wp2
  rw [rounds_succ]
  go_wp2
  go_quiet (fail)
  go_wp2
  go_quiet (fail)
  go_wp2
  refine wp_loop_rounds 5 ?_
  rw [rounds_succ]
  go_wp2
  rw [rounds_succ]
  go_wp2
  go_ret3
  exact ⟨rfl, by repeat (first | exact Below.refl _ _ | apply below_drewN | (refine Below.alloc ?_ (by simp; try omega) _))⟩

set_option maxRecDepth 100000 in
theorem read_low2 (s : ByteArray) (i : Nat) (w : World) (_hs : s.size ≤ maxLen) (hi : i < s.size) (hw : Rows w) (h1 : 224 ≤ bt s i) (h2 : bt s i < 240) (h3 : i + 3 ≤ s.size) (c1 : bt s (i + 1) / 64 = 2) (c2 : bt s (i + 2) / 64 = 2) (hr : (bt s i % 16 * 64 + bt s (i + 1) % 64) * 64 + bt s (i + 2) % 64 < 2048) :
    Calls Tryd.prog 56 #[.string s, .int .i64 i] w fun e w' => e = .returned (.tuple #[.int .i32 0, .int .i64 1, .bool false]) ∧ Below w.heap.size w w' := by
  unfold maxLen at _hs
  obtain ⟨⟨r0, r1, r2, r3⟩, ⟨r4, r5, r6, r7⟩, ⟨r8, r9, r10, r11⟩, ⟨r12, r13, r14, r15⟩⟩ := hw
  clear r12 r13 r14 r15
  have hb := get_bt s
  have hz : 0 < w.heap.size := World.block_lt_of_cell? w _ r0
  have h0 := bt_nonneg s i
  have h00 := bt_le s i
  have k0 : (bt s i / 128 != 0) = true := by simp; omega
  have k1 : (bt s i / 32 != 6) = true := by simp; omega
  have k2 : (bt s i / 16 != 14) = false := by simp; omega
  have g2 : decide ((s.size : Int) - (i : Int) ≤ 2) = false := by simp; omega
  have m0 : bits BinOp.and IntKind.u8 (bt s i) 15 = bt s i % 16 := u8_and15 _ h0 (by omega)
  have a1 := bt_nonneg s (i + 1)
  have b1 := bt_le s (i + 1)
  have d1 : (bt s (i + 1) / 64 != 2) = false := by simp; omega
  have m1 : bits BinOp.and IntKind.u8 (bt s (i + 1)) 63 = bt s (i + 1) % 64 := u8_and63 _ a1 (by omega)
  have o1 : bits BinOp.or IntKind.i32 (bt s i % 16 * 64) (bt s (i + 1) % 64) = bt s i % 16 * 64 + bt s (i + 1) % 64 := i32_or6 _ _ (by omega) (by omega) (by omega) (by omega) (by omega)
  have a2 := bt_nonneg s (i + 2)
  have b2 := bt_le s (i + 2)
  have d2 : (bt s (i + 2) / 64 != 2) = false := by simp; omega
  have m2 : bits BinOp.and IntKind.u8 (bt s (i + 2)) 63 = bt s (i + 2) % 64 := u8_and63 _ a2 (by omega)
  have o2 : bits BinOp.or IntKind.i32 ((bt s i % 16 * 64 + bt s (i + 1) % 64) * 64) (bt s (i + 2) % 64) = (bt s i % 16 * 64 + bt s (i + 1) % 64) * 64 + bt s (i + 2) % 64 := i32_or6 _ _ (by omega) (by omega) (by omega) (by omega) (by omega)
  have q1 : decide ((bt s i % 16 * 64 + bt s (i + 1) % 64) * 64 + bt s (i + 2) % 64 < 2048) = true := by simp; omega
  clear c1 c2
  go_enter Tryd.func56, Tryd.ntmps56
  go_wp2
  refine wp_loop_rounds 5 ?_
  rw [rounds_succ]
  go_wp2
  go_quiet (fail)
  go_wp2
  rw [rounds_succ]
  go_wp2
  go_quiet (fail)
  go_wp2
  rw [rounds_succ]
  go_wp2
  go_quiet (fail)
  go_wp2
  go_quiet (fail)
  go_wp2
  refine wp_loop_rounds 5 ?_
  rw [rounds_succ]
  go_wp2
  rw [rounds_succ]
  go_wp2
  rw [rounds_succ]
  go_wp2
  go_ret3
  exact ⟨rfl, by repeat (first | exact Below.refl _ _ | apply below_drewN | (refine Below.alloc ?_ (by simp; try omega) _))⟩

set_option maxRecDepth 100000 in
theorem read_half2 (s : ByteArray) (i : Nat) (w : World) (_hs : s.size ≤ maxLen) (hi : i < s.size) (hw : Rows w) (h1 : 224 ≤ bt s i) (h2 : bt s i < 240) (h3 : i + 3 ≤ s.size) (c1 : bt s (i + 1) / 64 = 2) (c2 : bt s (i + 2) / 64 = 2) (hr : 2048 ≤ (bt s i % 16 * 64 + bt s (i + 1) % 64) * 64 + bt s (i + 2) % 64) (hq : ((bt s i % 16 * 64 + bt s (i + 1) % 64) * 64 + bt s (i + 2) % 64) / 2048 = 27) :
    Calls Tryd.prog 56 #[.string s, .int .i64 i] w fun e w' => e = .returned (.tuple #[.int .i32 0, .int .i64 1, .bool false]) ∧ Below w.heap.size w w' := by
  unfold maxLen at _hs
  obtain ⟨⟨r0, r1, r2, r3⟩, ⟨r4, r5, r6, r7⟩, ⟨r8, r9, r10, r11⟩, ⟨r12, r13, r14, r15⟩⟩ := hw
  clear r12 r13 r14 r15
  have hb := get_bt s
  have hz : 0 < w.heap.size := World.block_lt_of_cell? w _ r0
  have h0 := bt_nonneg s i
  have h00 := bt_le s i
  have k0 : (bt s i / 128 != 0) = true := by simp; omega
  have k1 : (bt s i / 32 != 6) = true := by simp; omega
  have k2 : (bt s i / 16 != 14) = false := by simp; omega
  have g2 : decide ((s.size : Int) - (i : Int) ≤ 2) = false := by simp; omega
  have m0 : bits BinOp.and IntKind.u8 (bt s i) 15 = bt s i % 16 := u8_and15 _ h0 (by omega)
  have a1 := bt_nonneg s (i + 1)
  have b1 := bt_le s (i + 1)
  have d1 : (bt s (i + 1) / 64 != 2) = false := by simp; omega
  have m1 : bits BinOp.and IntKind.u8 (bt s (i + 1)) 63 = bt s (i + 1) % 64 := u8_and63 _ a1 (by omega)
  have o1 : bits BinOp.or IntKind.i32 (bt s i % 16 * 64) (bt s (i + 1) % 64) = bt s i % 16 * 64 + bt s (i + 1) % 64 := i32_or6 _ _ (by omega) (by omega) (by omega) (by omega) (by omega)
  have a2 := bt_nonneg s (i + 2)
  have b2 := bt_le s (i + 2)
  have d2 : (bt s (i + 2) / 64 != 2) = false := by simp; omega
  have m2 : bits BinOp.and IntKind.u8 (bt s (i + 2)) 63 = bt s (i + 2) % 64 := u8_and63 _ a2 (by omega)
  have o2 : bits BinOp.or IntKind.i32 ((bt s i % 16 * 64 + bt s (i + 1) % 64) * 64) (bt s (i + 2) % 64) = (bt s i % 16 * 64 + bt s (i + 1) % 64) * 64 + bt s (i + 2) % 64 := i32_or6 _ _ (by omega) (by omega) (by omega) (by omega) (by omega)
  have q1 : decide ((bt s i % 16 * 64 + bt s (i + 1) % 64) * 64 + bt s (i + 2) % 64 < 2048) = false := by simp; omega
  have q2 : decide (65535 < (bt s i % 16 * 64 + bt s (i + 1) % 64) * 64 + bt s (i + 2) % 64) = false := by simp; omega
  have q3 : (((bt s i % 16 * 64 + bt s (i + 1) % 64) * 64 + bt s (i + 2) % 64) / 2048 == 27) = true := by simp; omega
  clear c1 c2 hq
  go_enter Tryd.func56, Tryd.ntmps56
  go_wp2
  refine wp_loop_rounds 5 ?_
  rw [rounds_succ]
  go_wp2
  go_quiet (fail)
  go_wp2
  rw [rounds_succ]
  go_wp2
  go_quiet (fail)
  go_wp2
  rw [rounds_succ]
  go_wp2
  go_quiet (fail)
  go_wp2
  go_quiet (fail)
  go_wp2
  refine wp_loop_rounds 5 ?_
  rw [rounds_succ]
  go_wp2
  rw [rounds_succ]
  go_wp2
  rw [rounds_succ]
  go_wp2
  go_ret3
  exact ⟨rfl, by repeat (first | exact Below.refl _ _ | apply below_drewN | (refine Below.alloc ?_ (by simp; try omega) _))⟩

set_option maxRecDepth 100000 in
theorem read_good3 (s : ByteArray) (i : Nat) (w : World) (_hs : s.size ≤ maxLen) (hi : i < s.size) (hw : Rows w) (h1 : 240 ≤ bt s i) (h2 : bt s i < 248) (h3 : i + 4 ≤ s.size) (c1 : bt s (i + 1) / 64 = 2) (c2 : bt s (i + 2) / 64 = 2) (c3 : bt s (i + 3) / 64 = 2) (hr : 65536 ≤ ((bt s i % 8 * 64 + bt s (i + 1) % 64) * 64 + bt s (i + 2) % 64) * 64 + bt s (i + 3) % 64) (hq : ((bt s i % 8 * 64 + bt s (i + 1) % 64) * 64 + bt s (i + 2) % 64) * 64 + bt s (i + 3) % 64 ≤ 1114111) :
    Calls Tryd.prog 56 #[.string s, .int .i64 i] w fun e w' => e = .returned (.tuple #[.int .i32 (((bt s i % 8 * 64 + bt s (i + 1) % 64) * 64 + bt s (i + 2) % 64) * 64 + bt s (i + 3) % 64), .int .i64 4, .bool true]) ∧ Below w.heap.size w w' := by
  unfold maxLen at _hs
  obtain ⟨⟨r0, r1, r2, r3⟩, ⟨r4, r5, r6, r7⟩, ⟨r8, r9, r10, r11⟩, ⟨r12, r13, r14, r15⟩⟩ := hw
  have hb := get_bt s
  have hz : 0 < w.heap.size := World.block_lt_of_cell? w _ r0
  have h0 := bt_nonneg s i
  have h00 := bt_le s i
  have k0 : (bt s i / 128 != 0) = true := by simp; omega
  have k1 : (bt s i / 32 != 6) = true := by simp; omega
  have k2 : (bt s i / 16 != 14) = true := by simp; omega
  have k3 : (bt s i / 8 != 30) = false := by simp; omega
  have g3 : decide ((s.size : Int) - (i : Int) ≤ 3) = false := by simp; omega
  have m0 : bits BinOp.and IntKind.u8 (bt s i) 7 = bt s i % 8 := u8_and7 _ h0 (by omega)
  have a1 := bt_nonneg s (i + 1)
  have b1 := bt_le s (i + 1)
  have d1 : (bt s (i + 1) / 64 != 2) = false := by simp; omega
  have m1 : bits BinOp.and IntKind.u8 (bt s (i + 1)) 63 = bt s (i + 1) % 64 := u8_and63 _ a1 (by omega)
  have o1 : bits BinOp.or IntKind.i32 (bt s i % 8 * 64) (bt s (i + 1) % 64) = bt s i % 8 * 64 + bt s (i + 1) % 64 := i32_or6 _ _ (by omega) (by omega) (by omega) (by omega) (by omega)
  have a2 := bt_nonneg s (i + 2)
  have b2 := bt_le s (i + 2)
  have d2 : (bt s (i + 2) / 64 != 2) = false := by simp; omega
  have m2 : bits BinOp.and IntKind.u8 (bt s (i + 2)) 63 = bt s (i + 2) % 64 := u8_and63 _ a2 (by omega)
  have o2 : bits BinOp.or IntKind.i32 ((bt s i % 8 * 64 + bt s (i + 1) % 64) * 64) (bt s (i + 2) % 64) = (bt s i % 8 * 64 + bt s (i + 1) % 64) * 64 + bt s (i + 2) % 64 := i32_or6 _ _ (by omega) (by omega) (by omega) (by omega) (by omega)
  have a3 := bt_nonneg s (i + 3)
  have b3 := bt_le s (i + 3)
  have d3 : (bt s (i + 3) / 64 != 2) = false := by simp; omega
  have m3 : bits BinOp.and IntKind.u8 (bt s (i + 3)) 63 = bt s (i + 3) % 64 := u8_and63 _ a3 (by omega)
  have o3 : bits BinOp.or IntKind.i32 (((bt s i % 8 * 64 + bt s (i + 1) % 64) * 64 + bt s (i + 2) % 64) * 64) (bt s (i + 3) % 64) = ((bt s i % 8 * 64 + bt s (i + 1) % 64) * 64 + bt s (i + 2) % 64) * 64 + bt s (i + 3) % 64 := i32_or6 _ _ (by omega) (by omega) (by omega) (by omega) (by omega)
  have q1 : decide (((bt s i % 8 * 64 + bt s (i + 1) % 64) * 64 + bt s (i + 2) % 64) * 64 + bt s (i + 3) % 64 < 65536) = false := by simp; omega
  have q2 : decide (1114111 < ((bt s i % 8 * 64 + bt s (i + 1) % 64) * 64 + bt s (i + 2) % 64) * 64 + bt s (i + 3) % 64) = false := by simp; omega
  have q3 : ((((bt s i % 8 * 64 + bt s (i + 1) % 64) * 64 + bt s (i + 2) % 64) * 64 + bt s (i + 3) % 64) / 2048 == 27) = false := by simp; omega
  clear c1 c2 c3
  go_enter Tryd.func56, Tryd.ntmps56
  go_wp2
  refine wp_loop_rounds 5 ?_
  rw [rounds_succ]
  go_wp2
  go_quiet (fail)
  go_wp2
  rw [rounds_succ]
  go_wp2
  go_quiet (fail)
  go_wp2
  rw [rounds_succ]
  go_wp2
  go_quiet (fail)
  go_wp2
  rw [rounds_succ]
  go_wp2
  go_quiet (fail)
  go_wp2
  go_quiet (fail)
  go_wp2
  refine wp_loop_rounds 5 ?_
  rw [rounds_succ]
  go_wp2
  rw [rounds_succ]
  go_wp2
  rw [rounds_succ]
  go_wp2
  rw [rounds_succ]
  go_wp2
  go_ret3
  exact ⟨rfl, by repeat (first | exact Below.refl _ _ | apply below_drewN | (refine Below.alloc ?_ (by simp; try omega) _))⟩

set_option maxRecDepth 100000 in
theorem read_bad13 (s : ByteArray) (i : Nat) (w : World) (_hs : s.size ≤ maxLen) (hi : i < s.size) (hw : Rows w) (h1 : 240 ≤ bt s i) (h2 : bt s i < 248) (h3 : i + 4 ≤ s.size) (c1 : bt s (i + 1) / 64 ≠ 2) :
    Calls Tryd.prog 56 #[.string s, .int .i64 i] w fun e w' => e = .returned (.tuple #[.int .i32 0, .int .i64 1, .bool false]) ∧ Below w.heap.size w w' := by
  unfold maxLen at _hs
  obtain ⟨⟨r0, r1, r2, r3⟩, ⟨r4, r5, r6, r7⟩, ⟨r8, r9, r10, r11⟩, ⟨r12, r13, r14, r15⟩⟩ := hw
  have hb := get_bt s
  have hz : 0 < w.heap.size := World.block_lt_of_cell? w _ r0
  have h0 := bt_nonneg s i
  have h00 := bt_le s i
  have k0 : (bt s i / 128 != 0) = true := by simp; omega
  have k1 : (bt s i / 32 != 6) = true := by simp; omega
  have k2 : (bt s i / 16 != 14) = true := by simp; omega
  have k3 : (bt s i / 8 != 30) = false := by simp; omega
  have g3 : decide ((s.size : Int) - (i : Int) ≤ 3) = false := by simp; omega
  have m0 : bits BinOp.and IntKind.u8 (bt s i) 7 = bt s i % 8 := u8_and7 _ h0 (by omega)
  have a1 := bt_nonneg s (i + 1)
  have b1 := bt_le s (i + 1)
  have d1 : (bt s (i + 1) / 64 != 2) = true := by simp; omega
  clear c1
  go_enter Tryd.func56, Tryd.ntmps56
  go_wp2
  refine wp_loop_rounds 5 ?_
  rw [rounds_succ]
  go_wp2
  go_quiet (fail)
  go_wp2
  rw [rounds_succ]
  go_wp2
  go_quiet (fail)
  go_wp2
  rw [rounds_succ]
  go_wp2
  go_quiet (fail)
  go_wp2
  rw [rounds_succ]
  go_wp2
  go_quiet (fail)
  go_wp2
  go_quiet (fail)
  go_wp2
  refine wp_loop_rounds 5 ?_
  rw [rounds_succ]
  go_wp2
  go_ret3
  exact ⟨rfl, by repeat (first | exact Below.refl _ _ | apply below_drewN | (refine Below.alloc ?_ (by simp; try omega) _))⟩

set_option maxRecDepth 100000 in
theorem read_bad23 (s : ByteArray) (i : Nat) (w : World) (_hs : s.size ≤ maxLen) (hi : i < s.size) (hw : Rows w) (h1 : 240 ≤ bt s i) (h2 : bt s i < 248) (h3 : i + 4 ≤ s.size) (c1 : bt s (i + 1) / 64 = 2) (c2 : bt s (i + 2) / 64 ≠ 2) :
    Calls Tryd.prog 56 #[.string s, .int .i64 i] w fun e w' => e = .returned (.tuple #[.int .i32 0, .int .i64 1, .bool false]) ∧ Below w.heap.size w w' := by
  unfold maxLen at _hs
  obtain ⟨⟨r0, r1, r2, r3⟩, ⟨r4, r5, r6, r7⟩, ⟨r8, r9, r10, r11⟩, ⟨r12, r13, r14, r15⟩⟩ := hw
  have hb := get_bt s
  have hz : 0 < w.heap.size := World.block_lt_of_cell? w _ r0
  have h0 := bt_nonneg s i
  have h00 := bt_le s i
  have k0 : (bt s i / 128 != 0) = true := by simp; omega
  have k1 : (bt s i / 32 != 6) = true := by simp; omega
  have k2 : (bt s i / 16 != 14) = true := by simp; omega
  have k3 : (bt s i / 8 != 30) = false := by simp; omega
  have g3 : decide ((s.size : Int) - (i : Int) ≤ 3) = false := by simp; omega
  have m0 : bits BinOp.and IntKind.u8 (bt s i) 7 = bt s i % 8 := u8_and7 _ h0 (by omega)
  have a1 := bt_nonneg s (i + 1)
  have b1 := bt_le s (i + 1)
  have d1 : (bt s (i + 1) / 64 != 2) = false := by simp; omega
  have m1 : bits BinOp.and IntKind.u8 (bt s (i + 1)) 63 = bt s (i + 1) % 64 := u8_and63 _ a1 (by omega)
  have o1 : bits BinOp.or IntKind.i32 (bt s i % 8 * 64) (bt s (i + 1) % 64) = bt s i % 8 * 64 + bt s (i + 1) % 64 := i32_or6 _ _ (by omega) (by omega) (by omega) (by omega) (by omega)
  have a2 := bt_nonneg s (i + 2)
  have b2 := bt_le s (i + 2)
  have d2 : (bt s (i + 2) / 64 != 2) = true := by simp; omega
  clear c1 c2
  go_enter Tryd.func56, Tryd.ntmps56
  go_wp2
  refine wp_loop_rounds 5 ?_
  rw [rounds_succ]
  go_wp2
  go_quiet (fail)
  go_wp2
  rw [rounds_succ]
  go_wp2
  go_quiet (fail)
  go_wp2
  rw [rounds_succ]
  go_wp2
  go_quiet (fail)
  go_wp2
  rw [rounds_succ]
  go_wp2
  go_quiet (fail)
  go_wp2
  go_quiet (fail)
  go_wp2
  refine wp_loop_rounds 5 ?_
  rw [rounds_succ]
  go_wp2
  rw [rounds_succ]
  go_wp2
  go_ret3
  exact ⟨rfl, by repeat (first | exact Below.refl _ _ | apply below_drewN | (refine Below.alloc ?_ (by simp; try omega) _))⟩

set_option maxRecDepth 100000 in
theorem read_bad33 (s : ByteArray) (i : Nat) (w : World) (_hs : s.size ≤ maxLen) (hi : i < s.size) (hw : Rows w) (h1 : 240 ≤ bt s i) (h2 : bt s i < 248) (h3 : i + 4 ≤ s.size) (c1 : bt s (i + 1) / 64 = 2) (c2 : bt s (i + 2) / 64 = 2) (c3 : bt s (i + 3) / 64 ≠ 2) :
    Calls Tryd.prog 56 #[.string s, .int .i64 i] w fun e w' => e = .returned (.tuple #[.int .i32 0, .int .i64 1, .bool false]) ∧ Below w.heap.size w w' := by
  unfold maxLen at _hs
  obtain ⟨⟨r0, r1, r2, r3⟩, ⟨r4, r5, r6, r7⟩, ⟨r8, r9, r10, r11⟩, ⟨r12, r13, r14, r15⟩⟩ := hw
  have hb := get_bt s
  have hz : 0 < w.heap.size := World.block_lt_of_cell? w _ r0
  have h0 := bt_nonneg s i
  have h00 := bt_le s i
  have k0 : (bt s i / 128 != 0) = true := by simp; omega
  have k1 : (bt s i / 32 != 6) = true := by simp; omega
  have k2 : (bt s i / 16 != 14) = true := by simp; omega
  have k3 : (bt s i / 8 != 30) = false := by simp; omega
  have g3 : decide ((s.size : Int) - (i : Int) ≤ 3) = false := by simp; omega
  have m0 : bits BinOp.and IntKind.u8 (bt s i) 7 = bt s i % 8 := u8_and7 _ h0 (by omega)
  have a1 := bt_nonneg s (i + 1)
  have b1 := bt_le s (i + 1)
  have d1 : (bt s (i + 1) / 64 != 2) = false := by simp; omega
  have m1 : bits BinOp.and IntKind.u8 (bt s (i + 1)) 63 = bt s (i + 1) % 64 := u8_and63 _ a1 (by omega)
  have o1 : bits BinOp.or IntKind.i32 (bt s i % 8 * 64) (bt s (i + 1) % 64) = bt s i % 8 * 64 + bt s (i + 1) % 64 := i32_or6 _ _ (by omega) (by omega) (by omega) (by omega) (by omega)
  have a2 := bt_nonneg s (i + 2)
  have b2 := bt_le s (i + 2)
  have d2 : (bt s (i + 2) / 64 != 2) = false := by simp; omega
  have m2 : bits BinOp.and IntKind.u8 (bt s (i + 2)) 63 = bt s (i + 2) % 64 := u8_and63 _ a2 (by omega)
  have o2 : bits BinOp.or IntKind.i32 ((bt s i % 8 * 64 + bt s (i + 1) % 64) * 64) (bt s (i + 2) % 64) = (bt s i % 8 * 64 + bt s (i + 1) % 64) * 64 + bt s (i + 2) % 64 := i32_or6 _ _ (by omega) (by omega) (by omega) (by omega) (by omega)
  have a3 := bt_nonneg s (i + 3)
  have b3 := bt_le s (i + 3)
  have d3 : (bt s (i + 3) / 64 != 2) = true := by simp; omega
  clear c1 c2 c3
  go_enter Tryd.func56, Tryd.ntmps56
  go_wp2
  refine wp_loop_rounds 5 ?_
  rw [rounds_succ]
  go_wp2
  go_quiet (fail)
  go_wp2
  rw [rounds_succ]
  go_wp2
  go_quiet (fail)
  go_wp2
  rw [rounds_succ]
  go_wp2
  go_quiet (fail)
  go_wp2
  rw [rounds_succ]
  go_wp2
  go_quiet (fail)
  go_wp2
  go_quiet (fail)
  go_wp2
  refine wp_loop_rounds 5 ?_
  rw [rounds_succ]
  go_wp2
  rw [rounds_succ]
  go_wp2
  rw [rounds_succ]
  go_wp2
  go_ret3
  exact ⟨rfl, by repeat (first | exact Below.refl _ _ | apply below_drewN | (refine Below.alloc ?_ (by simp; try omega) _))⟩

set_option maxRecDepth 100000 in
theorem read_low3 (s : ByteArray) (i : Nat) (w : World) (_hs : s.size ≤ maxLen) (hi : i < s.size) (hw : Rows w) (h1 : 240 ≤ bt s i) (h2 : bt s i < 248) (h3 : i + 4 ≤ s.size) (c1 : bt s (i + 1) / 64 = 2) (c2 : bt s (i + 2) / 64 = 2) (c3 : bt s (i + 3) / 64 = 2) (hr : ((bt s i % 8 * 64 + bt s (i + 1) % 64) * 64 + bt s (i + 2) % 64) * 64 + bt s (i + 3) % 64 < 65536) :
    Calls Tryd.prog 56 #[.string s, .int .i64 i] w fun e w' => e = .returned (.tuple #[.int .i32 0, .int .i64 1, .bool false]) ∧ Below w.heap.size w w' := by
  unfold maxLen at _hs
  obtain ⟨⟨r0, r1, r2, r3⟩, ⟨r4, r5, r6, r7⟩, ⟨r8, r9, r10, r11⟩, ⟨r12, r13, r14, r15⟩⟩ := hw
  have hb := get_bt s
  have hz : 0 < w.heap.size := World.block_lt_of_cell? w _ r0
  have h0 := bt_nonneg s i
  have h00 := bt_le s i
  have k0 : (bt s i / 128 != 0) = true := by simp; omega
  have k1 : (bt s i / 32 != 6) = true := by simp; omega
  have k2 : (bt s i / 16 != 14) = true := by simp; omega
  have k3 : (bt s i / 8 != 30) = false := by simp; omega
  have g3 : decide ((s.size : Int) - (i : Int) ≤ 3) = false := by simp; omega
  have m0 : bits BinOp.and IntKind.u8 (bt s i) 7 = bt s i % 8 := u8_and7 _ h0 (by omega)
  have a1 := bt_nonneg s (i + 1)
  have b1 := bt_le s (i + 1)
  have d1 : (bt s (i + 1) / 64 != 2) = false := by simp; omega
  have m1 : bits BinOp.and IntKind.u8 (bt s (i + 1)) 63 = bt s (i + 1) % 64 := u8_and63 _ a1 (by omega)
  have o1 : bits BinOp.or IntKind.i32 (bt s i % 8 * 64) (bt s (i + 1) % 64) = bt s i % 8 * 64 + bt s (i + 1) % 64 := i32_or6 _ _ (by omega) (by omega) (by omega) (by omega) (by omega)
  have a2 := bt_nonneg s (i + 2)
  have b2 := bt_le s (i + 2)
  have d2 : (bt s (i + 2) / 64 != 2) = false := by simp; omega
  have m2 : bits BinOp.and IntKind.u8 (bt s (i + 2)) 63 = bt s (i + 2) % 64 := u8_and63 _ a2 (by omega)
  have o2 : bits BinOp.or IntKind.i32 ((bt s i % 8 * 64 + bt s (i + 1) % 64) * 64) (bt s (i + 2) % 64) = (bt s i % 8 * 64 + bt s (i + 1) % 64) * 64 + bt s (i + 2) % 64 := i32_or6 _ _ (by omega) (by omega) (by omega) (by omega) (by omega)
  have a3 := bt_nonneg s (i + 3)
  have b3 := bt_le s (i + 3)
  have d3 : (bt s (i + 3) / 64 != 2) = false := by simp; omega
  have m3 : bits BinOp.and IntKind.u8 (bt s (i + 3)) 63 = bt s (i + 3) % 64 := u8_and63 _ a3 (by omega)
  have o3 : bits BinOp.or IntKind.i32 (((bt s i % 8 * 64 + bt s (i + 1) % 64) * 64 + bt s (i + 2) % 64) * 64) (bt s (i + 3) % 64) = ((bt s i % 8 * 64 + bt s (i + 1) % 64) * 64 + bt s (i + 2) % 64) * 64 + bt s (i + 3) % 64 := i32_or6 _ _ (by omega) (by omega) (by omega) (by omega) (by omega)
  have q1 : decide (((bt s i % 8 * 64 + bt s (i + 1) % 64) * 64 + bt s (i + 2) % 64) * 64 + bt s (i + 3) % 64 < 65536) = true := by simp; omega
  clear c1 c2 c3
  go_enter Tryd.func56, Tryd.ntmps56
  go_wp2
  refine wp_loop_rounds 5 ?_
  rw [rounds_succ]
  go_wp2
  go_quiet (fail)
  go_wp2
  rw [rounds_succ]
  go_wp2
  go_quiet (fail)
  go_wp2
  rw [rounds_succ]
  go_wp2
  go_quiet (fail)
  go_wp2
  rw [rounds_succ]
  go_wp2
  go_quiet (fail)
  go_wp2
  go_quiet (fail)
  go_wp2
  refine wp_loop_rounds 5 ?_
  rw [rounds_succ]
  go_wp2
  rw [rounds_succ]
  go_wp2
  rw [rounds_succ]
  go_wp2
  rw [rounds_succ]
  go_wp2
  go_ret3
  exact ⟨rfl, by repeat (first | exact Below.refl _ _ | apply below_drewN | (refine Below.alloc ?_ (by simp; try omega) _))⟩

set_option maxRecDepth 100000 in
theorem read_high3 (s : ByteArray) (i : Nat) (w : World) (_hs : s.size ≤ maxLen) (hi : i < s.size) (hw : Rows w) (h1 : 240 ≤ bt s i) (h2 : bt s i < 248) (h3 : i + 4 ≤ s.size) (c1 : bt s (i + 1) / 64 = 2) (c2 : bt s (i + 2) / 64 = 2) (c3 : bt s (i + 3) / 64 = 2) (hr : 65536 ≤ ((bt s i % 8 * 64 + bt s (i + 1) % 64) * 64 + bt s (i + 2) % 64) * 64 + bt s (i + 3) % 64) (hq : 1114111 < ((bt s i % 8 * 64 + bt s (i + 1) % 64) * 64 + bt s (i + 2) % 64) * 64 + bt s (i + 3) % 64) :
    Calls Tryd.prog 56 #[.string s, .int .i64 i] w fun e w' => e = .returned (.tuple #[.int .i32 0, .int .i64 1, .bool false]) ∧ Below w.heap.size w w' := by
  unfold maxLen at _hs
  obtain ⟨⟨r0, r1, r2, r3⟩, ⟨r4, r5, r6, r7⟩, ⟨r8, r9, r10, r11⟩, ⟨r12, r13, r14, r15⟩⟩ := hw
  have hb := get_bt s
  have hz : 0 < w.heap.size := World.block_lt_of_cell? w _ r0
  have h0 := bt_nonneg s i
  have h00 := bt_le s i
  have k0 : (bt s i / 128 != 0) = true := by simp; omega
  have k1 : (bt s i / 32 != 6) = true := by simp; omega
  have k2 : (bt s i / 16 != 14) = true := by simp; omega
  have k3 : (bt s i / 8 != 30) = false := by simp; omega
  have g3 : decide ((s.size : Int) - (i : Int) ≤ 3) = false := by simp; omega
  have m0 : bits BinOp.and IntKind.u8 (bt s i) 7 = bt s i % 8 := u8_and7 _ h0 (by omega)
  have a1 := bt_nonneg s (i + 1)
  have b1 := bt_le s (i + 1)
  have d1 : (bt s (i + 1) / 64 != 2) = false := by simp; omega
  have m1 : bits BinOp.and IntKind.u8 (bt s (i + 1)) 63 = bt s (i + 1) % 64 := u8_and63 _ a1 (by omega)
  have o1 : bits BinOp.or IntKind.i32 (bt s i % 8 * 64) (bt s (i + 1) % 64) = bt s i % 8 * 64 + bt s (i + 1) % 64 := i32_or6 _ _ (by omega) (by omega) (by omega) (by omega) (by omega)
  have a2 := bt_nonneg s (i + 2)
  have b2 := bt_le s (i + 2)
  have d2 : (bt s (i + 2) / 64 != 2) = false := by simp; omega
  have m2 : bits BinOp.and IntKind.u8 (bt s (i + 2)) 63 = bt s (i + 2) % 64 := u8_and63 _ a2 (by omega)
  have o2 : bits BinOp.or IntKind.i32 ((bt s i % 8 * 64 + bt s (i + 1) % 64) * 64) (bt s (i + 2) % 64) = (bt s i % 8 * 64 + bt s (i + 1) % 64) * 64 + bt s (i + 2) % 64 := i32_or6 _ _ (by omega) (by omega) (by omega) (by omega) (by omega)
  have a3 := bt_nonneg s (i + 3)
  have b3 := bt_le s (i + 3)
  have d3 : (bt s (i + 3) / 64 != 2) = false := by simp; omega
  have m3 : bits BinOp.and IntKind.u8 (bt s (i + 3)) 63 = bt s (i + 3) % 64 := u8_and63 _ a3 (by omega)
  have o3 : bits BinOp.or IntKind.i32 (((bt s i % 8 * 64 + bt s (i + 1) % 64) * 64 + bt s (i + 2) % 64) * 64) (bt s (i + 3) % 64) = ((bt s i % 8 * 64 + bt s (i + 1) % 64) * 64 + bt s (i + 2) % 64) * 64 + bt s (i + 3) % 64 := i32_or6 _ _ (by omega) (by omega) (by omega) (by omega) (by omega)
  have q1 : decide (((bt s i % 8 * 64 + bt s (i + 1) % 64) * 64 + bt s (i + 2) % 64) * 64 + bt s (i + 3) % 64 < 65536) = false := by simp; omega
  have q2 : decide (1114111 < ((bt s i % 8 * 64 + bt s (i + 1) % 64) * 64 + bt s (i + 2) % 64) * 64 + bt s (i + 3) % 64) = true := by simp; omega
  clear c1 c2 c3
  go_enter Tryd.func56, Tryd.ntmps56
  go_wp2
  refine wp_loop_rounds 5 ?_
  rw [rounds_succ]
  go_wp2
  go_quiet (fail)
  go_wp2
  rw [rounds_succ]
  go_wp2
  go_quiet (fail)
  go_wp2
  rw [rounds_succ]
  go_wp2
  go_quiet (fail)
  go_wp2
  rw [rounds_succ]
  go_wp2
  go_quiet (fail)
  go_wp2
  go_quiet (fail)
  go_wp2
  refine wp_loop_rounds 5 ?_
  rw [rounds_succ]
  go_wp2
  rw [rounds_succ]
  go_wp2
  rw [rounds_succ]
  go_wp2
  rw [rounds_succ]
  go_wp2
  go_ret3
  exact ⟨rfl, by repeat (first | exact Below.refl _ _ | apply below_drewN | (refine Below.alloc ?_ (by simp; try omega) _))⟩

end Go.Proofs.YtejipknbhiokeaaDoor

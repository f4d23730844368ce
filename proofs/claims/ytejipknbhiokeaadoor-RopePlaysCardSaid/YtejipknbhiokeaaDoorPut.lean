/-
  THE WALKS OF utf.Put: a number's bytes, one theorem for each way through the code. Printed by wip/gen/gen_put.py.
-/
import Derived.Test.YtejipknbhiokeaaDoorRead
import Derived.Laws.BytesArg
namespace Go.Proofs.YtejipknbhiokeaaDoor
open Go.RowKit Ut

theorem i32_and63 {x : Int} (h0 : 0 ≤ x) (h1 : x < 2147483648) : bits .and .i32 x 63 = x % 64 := by
  have h : bits .and .i32 x (2 ^ 6 - 1) = x % 2 ^ 6 := bits_mask .i32 31 (by decide) wraps_i32 6 (by decide) x h0 (by omega)
  simp only [Int.reducePow, Int.reduceSub] at h
  exact h
theorem u8_or0 {x : Int} (h0 : 0 ≤ x) (h1 : x < 128) : bits .or .u8 0 x = x := by
  have h := bits_join .u8 8 (by decide) wraps_u8 7 0 x (by omega) (by omega) (by omega) (by omega) (by omega)
  simpa using h (by omega)

set_option maxRecDepth 100000 in
theorem put_neg (c : Int) (w : World) (hw : Rows w) (h1 : c < 0) :
    Calls Tryd.prog 24 #[.int .i32 c] w fun e w' => e = .returned (.tuple #[.string ⟨#[]⟩, .bool false]) ∧ Below w.heap.size w w' := by
  obtain ⟨⟨r0, r1, r2, r3⟩, ⟨r4, r5, r6, r7⟩, ⟨r8, r9, r10, r11⟩, ⟨r12, r13, r14, r15⟩⟩ := hw
  have hz : 0 < w.heap.size := World.block_lt_of_cell? w _ r0
  have k0 : decide (c < 0) = true := by simp; omega
  have k1 : decide (c < 128) = true := by simp; omega
  have k2 : decide (c < 2048) = true := by simp; omega
  have k3 : decide (c < 65536) = true := by simp; omega
  go_enter Tryd.func24, Tryd.ntmps24
  go_wp2
  refine wp_loop_rounds 5 ?_
  rw [rounds_succ]
  go_wp2
  rw [rounds_succ]
  go_wp2
  rw [rounds_succ]
  go_wp2
  rw [rounds_succ]
  go_wp2
  rw [rounds_succ]
  go_wp2
  go_ret2
  exact ⟨rfl, by repeat (first | exact Below.refl _ _ | apply below_drewN | (refine Below.alloc ?_ (by simp; try omega) _) | (refine Below.setCell ?_ (by simp; try omega) _))⟩

set_option maxRecDepth 100000 in
theorem put_high (c : Int) (w : World) (hw : Rows w) (h1 : 1114111 < c) :
    Calls Tryd.prog 24 #[.int .i32 c] w fun e w' => e = .returned (.tuple #[.string ⟨#[]⟩, .bool false]) ∧ Below w.heap.size w w' := by
  obtain ⟨⟨r0, r1, r2, r3⟩, ⟨r4, r5, r6, r7⟩, ⟨r8, r9, r10, r11⟩, ⟨r12, r13, r14, r15⟩⟩ := hw
  have hz : 0 < w.heap.size := World.block_lt_of_cell? w _ r0
  have k0 : decide (c < 0) = false := by simp; omega
  have l0 : decide (127 < c) = true := by simp; omega
  have k1 : decide (c < 128) = false := by simp; omega
  have l1 : decide (2047 < c) = true := by simp; omega
  have k2 : decide (c < 2048) = false := by simp; omega
  have l2 : decide (65535 < c) = true := by simp; omega
  have k3 : decide (c < 65536) = false := by simp; omega
  have l3 : decide (1114111 < c) = true := by simp; omega
  go_enter Tryd.func24, Tryd.ntmps24
  go_wp2
  refine wp_loop_rounds 5 ?_
  rw [rounds_succ]
  go_wp2
  rw [rounds_succ]
  go_wp2
  rw [rounds_succ]
  go_wp2
  rw [rounds_succ]
  go_wp2
  rw [rounds_succ]
  go_wp2
  go_ret2
  exact ⟨rfl, by repeat (first | exact Below.refl _ _ | apply below_drewN | (refine Below.alloc ?_ (by simp; try omega) _) | (refine Below.setCell ?_ (by simp; try omega) _))⟩

set_option maxRecDepth 100000 in
theorem put_half (c : Int) (w : World) (hw : Rows w) (h1 : 55296 ≤ c) (h2 : c ≤ 57343) :
    Calls Tryd.prog 24 #[.int .i32 c] w fun e w' => e = .returned (.tuple #[.string ⟨#[]⟩, .bool false]) ∧ Below w.heap.size w w' := by
  obtain ⟨⟨r0, r1, r2, r3⟩, ⟨r4, r5, r6, r7⟩, ⟨r8, r9, r10, r11⟩, ⟨r12, r13, r14, r15⟩⟩ := hw
  have hz : 0 < w.heap.size := World.block_lt_of_cell? w _ r0
  have k0 : decide (c < 0) = false := by simp; omega
  have l0 : decide (127 < c) = true := by simp; omega
  have k1 : decide (c < 128) = false := by simp; omega
  have l1 : decide (2047 < c) = true := by simp; omega
  have k2 : decide (c < 2048) = false := by simp; omega
  have l2 : decide (65535 < c) = false := by simp; omega
  have k3 : decide (c < 65536) = true := by simp; omega
  have l3 : decide (1114111 < c) = false := by simp; omega
  have q : (c / 2048 == 27) = true := by simp; omega
  go_enter Tryd.func24, Tryd.ntmps24
  go_wp2
  refine wp_loop_rounds 5 ?_
  rw [rounds_succ]
  go_wp2
  rw [rounds_succ]
  go_wp2
  rw [rounds_succ]
  go_wp2
  rw [rounds_succ]
  go_wp2
  rw [rounds_succ]
  go_wp2
  go_ret2
  exact ⟨rfl, by repeat (first | exact Below.refl _ _ | apply below_drewN | (refine Below.alloc ?_ (by simp; try omega) _) | (refine Below.setCell ?_ (by simp; try omega) _))⟩

set_option maxRecDepth 100000 in
theorem put_good0 (c : Int) (w : World) (hw : Rows w) (h1 : 0 ≤ c) (h2 : c ≤ 127) :
    Calls Tryd.prog 24 #[.int .i32 c] w fun e w' => e = .returned (.tuple #[.string (strOfNums [c]), .bool true]) ∧ Below w.heap.size w w' := by
  obtain ⟨⟨r0, r1, r2, r3⟩, ⟨r4, r5, r6, r7⟩, ⟨r8, r9, r10, r11⟩, ⟨r12, r13, r14, r15⟩⟩ := hw
  have hz : 0 < w.heap.size := World.block_lt_of_cell? w _ r0
  have k0 : decide (c < 0) = false := by simp; omega
  have l0 : decide (127 < c) = false := by simp; omega
  have q : (c / 2048 == 27) = false := by simp; omega
  have ol : bits BinOp.or IntKind.u8 0 c = c := u8_or0 (by omega) (by omega)
  have hmk : ∀ w, (Instr.makeSlice 80 (.int .i64 1) (.int .i64 1)).run Tryd.prog w = .ok (.slice (some ⟨w.heap.size, 0, none⟩) 1 1) (w.alloc (.cells #[.int .u8 0] 5)) := fun _ => by kernel_rfl
  go_enter Tryd.func24, Tryd.ntmps24
  go_wp2
  refine wp_loop_rounds 5 ?_
  rw [rounds_succ]
  go_wp2
  refine wp_loop_rounds 5 ?_
  rw [rounds_succ]
  go_wp2
  rw [run_convert_bytes_arg _ 80 5 Tryd.underlying80 Tryd.underlying5 _ 0 1 1 [c] rfl (fun i hi => by obtain rfl : i = 0 := (by omega); simp [go_sem]) 9 Tryd.underlying9]
  go_wp2
  go_ret2
  exact ⟨rfl, by repeat (first | exact Below.refl _ _ | apply below_drewN | (refine Below.alloc ?_ (by simp; try omega) _) | (refine Below.setCell ?_ (by simp; try omega) _))⟩

set_option maxRecDepth 100000 in
theorem put_good1 (c : Int) (w : World) (hw : Rows w) (h1 : 128 ≤ c) (h2 : c ≤ 2047) :
    Calls Tryd.prog 24 #[.int .i32 c] w fun e w' => e = .returned (.tuple #[.string (strOfNums [192 + c / 64, 128 + c % 64]), .bool true]) ∧ Below w.heap.size w w' := by
  obtain ⟨⟨r0, r1, r2, r3⟩, ⟨r4, r5, r6, r7⟩, ⟨r8, r9, r10, r11⟩, ⟨r12, r13, r14, r15⟩⟩ := hw
  have hz : 0 < w.heap.size := World.block_lt_of_cell? w _ r0
  have k0 : decide (c < 0) = false := by simp; omega
  have l0 : decide (127 < c) = true := by simp; omega
  have k1 : decide (c < 128) = false := by simp; omega
  have l1 : decide (2047 < c) = false := by simp; omega
  have q : (c / 2048 == 27) = false := by simp; omega
  have m0 : bits BinOp.and IntKind.i32 c 63 = c % 64 := i32_and63 (by omega) (by omega)
  have o0 : bits BinOp.or IntKind.u8 128 (c % 64) = 128 + c % 64 := u8_or128 _ (by omega) (by omega)
  have ol : bits BinOp.or IntKind.u8 192 (c / 64) = 192 + c / 64 := u8_or192 _ (by omega) (by omega)
  have hmk : ∀ w, (Instr.makeSlice 80 (.int .i64 2) (.int .i64 2)).run Tryd.prog w = .ok (.slice (some ⟨w.heap.size, 0, none⟩) 2 2) (w.alloc (.cells #[.int .u8 0, .int .u8 0] 5)) := fun _ => by kernel_rfl
  go_enter Tryd.func24, Tryd.ntmps24
  go_wp2
  refine wp_loop_rounds 5 ?_
  rw [rounds_succ]
  go_wp2
  rw [rounds_succ]
  go_wp2
  refine wp_loop_rounds 5 ?_
  rw [rounds_succ]
  go_wp2
  rw [rounds_succ]
  go_wp2
  rw [run_convert_bytes_arg _ 80 5 Tryd.underlying80 Tryd.underlying5 _ 0 2 2 [192 + c / 64, 128 + c % 64] rfl (lt2 (by simp [go_sem]) (by simp [go_sem])) 9 Tryd.underlying9]
  go_wp2
  go_ret2
  exact ⟨rfl, by repeat (first | exact Below.refl _ _ | apply below_drewN | (refine Below.alloc ?_ (by simp; try omega) _) | (refine Below.setCell ?_ (by simp; try omega) _))⟩

set_option maxRecDepth 100000 in
theorem put_good2 (c : Int) (w : World) (hw : Rows w) (h1 : 2048 ≤ c) (h2 : c ≤ 65535) (h3 : c / 2048 ≠ 27) :
    Calls Tryd.prog 24 #[.int .i32 c] w fun e w' => e = .returned (.tuple #[.string (strOfNums [224 + c / 64 / 64, 128 + c / 64 % 64, 128 + c % 64]), .bool true]) ∧ Below w.heap.size w w' := by
  obtain ⟨⟨r0, r1, r2, r3⟩, ⟨r4, r5, r6, r7⟩, ⟨r8, r9, r10, r11⟩, ⟨r12, r13, r14, r15⟩⟩ := hw
  have hz : 0 < w.heap.size := World.block_lt_of_cell? w _ r0
  have k0 : decide (c < 0) = false := by simp; omega
  have l0 : decide (127 < c) = true := by simp; omega
  have k1 : decide (c < 128) = false := by simp; omega
  have l1 : decide (2047 < c) = true := by simp; omega
  have k2 : decide (c < 2048) = false := by simp; omega
  have l2 : decide (65535 < c) = false := by simp; omega
  have q : (c / 2048 == 27) = false := by simp; omega
  clear h3
  have m0 : bits BinOp.and IntKind.i32 c 63 = c % 64 := i32_and63 (by omega) (by omega)
  have o0 : bits BinOp.or IntKind.u8 128 (c % 64) = 128 + c % 64 := u8_or128 _ (by omega) (by omega)
  have m1 : bits BinOp.and IntKind.i32 (c / 64) 63 = c / 64 % 64 := i32_and63 (by omega) (by omega)
  have o1 : bits BinOp.or IntKind.u8 128 (c / 64 % 64) = 128 + c / 64 % 64 := u8_or128 _ (by omega) (by omega)
  have ol : bits BinOp.or IntKind.u8 224 (c / 64 / 64) = 224 + c / 64 / 64 := u8_or224 _ (by omega) (by omega)
  have hmk : ∀ w, (Instr.makeSlice 80 (.int .i64 3) (.int .i64 3)).run Tryd.prog w = .ok (.slice (some ⟨w.heap.size, 0, none⟩) 3 3) (w.alloc (.cells #[.int .u8 0, .int .u8 0, .int .u8 0] 5)) := fun _ => by kernel_rfl
  go_enter Tryd.func24, Tryd.ntmps24
  go_wp2
  refine wp_loop_rounds 5 ?_
  rw [rounds_succ]
  go_wp2
  rw [rounds_succ]
  go_wp2
  rw [rounds_succ]
  go_wp2
  refine wp_loop_rounds 5 ?_
  rw [rounds_succ]
  go_wp2
  rw [rounds_succ]
  go_wp2
  rw [rounds_succ]
  go_wp2
  rw [run_convert_bytes_arg _ 80 5 Tryd.underlying80 Tryd.underlying5 _ 0 3 3 [224 + c / 64 / 64, 128 + c / 64 % 64, 128 + c % 64] rfl (lt3 (by simp [go_sem]) (by simp [go_sem]) (by simp [go_sem])) 9 Tryd.underlying9]
  go_wp2
  go_ret2
  exact ⟨rfl, by repeat (first | exact Below.refl _ _ | apply below_drewN | (refine Below.alloc ?_ (by simp; try omega) _) | (refine Below.setCell ?_ (by simp; try omega) _))⟩

set_option maxRecDepth 100000 in
theorem put_good3 (c : Int) (w : World) (hw : Rows w) (h1 : 65536 ≤ c) (h2 : c ≤ 1114111) :
    Calls Tryd.prog 24 #[.int .i32 c] w fun e w' => e = .returned (.tuple #[.string (strOfNums [240 + c / 64 / 64 / 64, 128 + c / 64 / 64 % 64, 128 + c / 64 % 64, 128 + c % 64]), .bool true]) ∧ Below w.heap.size w w' := by
  obtain ⟨⟨r0, r1, r2, r3⟩, ⟨r4, r5, r6, r7⟩, ⟨r8, r9, r10, r11⟩, ⟨r12, r13, r14, r15⟩⟩ := hw
  have hz : 0 < w.heap.size := World.block_lt_of_cell? w _ r0
  have k0 : decide (c < 0) = false := by simp; omega
  have l0 : decide (127 < c) = true := by simp; omega
  have k1 : decide (c < 128) = false := by simp; omega
  have l1 : decide (2047 < c) = true := by simp; omega
  have k2 : decide (c < 2048) = false := by simp; omega
  have l2 : decide (65535 < c) = true := by simp; omega
  have k3 : decide (c < 65536) = false := by simp; omega
  have l3 : decide (1114111 < c) = false := by simp; omega
  have q : (c / 2048 == 27) = false := by simp; omega
  have m0 : bits BinOp.and IntKind.i32 c 63 = c % 64 := i32_and63 (by omega) (by omega)
  have o0 : bits BinOp.or IntKind.u8 128 (c % 64) = 128 + c % 64 := u8_or128 _ (by omega) (by omega)
  have m1 : bits BinOp.and IntKind.i32 (c / 64) 63 = c / 64 % 64 := i32_and63 (by omega) (by omega)
  have o1 : bits BinOp.or IntKind.u8 128 (c / 64 % 64) = 128 + c / 64 % 64 := u8_or128 _ (by omega) (by omega)
  have m2 : bits BinOp.and IntKind.i32 (c / 64 / 64) 63 = c / 64 / 64 % 64 := i32_and63 (by omega) (by omega)
  have o2 : bits BinOp.or IntKind.u8 128 (c / 64 / 64 % 64) = 128 + c / 64 / 64 % 64 := u8_or128 _ (by omega) (by omega)
  have ol : bits BinOp.or IntKind.u8 240 (c / 64 / 64 / 64) = 240 + c / 64 / 64 / 64 := u8_or240 _ (by omega) (by omega)
  have hmk : ∀ w, (Instr.makeSlice 80 (.int .i64 4) (.int .i64 4)).run Tryd.prog w = .ok (.slice (some ⟨w.heap.size, 0, none⟩) 4 4) (w.alloc (.cells #[.int .u8 0, .int .u8 0, .int .u8 0, .int .u8 0] 5)) := fun _ => by kernel_rfl
  go_enter Tryd.func24, Tryd.ntmps24
  go_wp2
  refine wp_loop_rounds 5 ?_
  rw [rounds_succ]
  go_wp2
  rw [rounds_succ]
  go_wp2
  rw [rounds_succ]
  go_wp2
  rw [rounds_succ]
  go_wp2
  refine wp_loop_rounds 5 ?_
  rw [rounds_succ]
  go_wp2
  rw [rounds_succ]
  go_wp2
  rw [rounds_succ]
  go_wp2
  rw [rounds_succ]
  go_wp2
  rw [run_convert_bytes_arg _ 80 5 Tryd.underlying80 Tryd.underlying5 _ 0 4 4 [240 + c / 64 / 64 / 64, 128 + c / 64 / 64 % 64, 128 + c / 64 % 64, 128 + c % 64] rfl (lt4 (by simp [go_sem]) (by simp [go_sem]) (by simp [go_sem]) (by simp [go_sem])) 9 Tryd.underlying9]
  go_wp2
  go_ret2
  exact ⟨rfl, by repeat (first | exact Below.refl _ _ | apply below_drewN | (refine Below.alloc ?_ (by simp; try omega) _) | (refine Below.setCell ?_ (by simp; try omega) _))⟩

/-- Put: a character's bytes, or nothing. -/
theorem put_any (c : Int) (w : World) (hw : Rows w) :
    Calls Tryd.prog 24 #[.int .i32 c] w fun e w' => e = .returned (.tuple #[.string (ps c), .bool (decide (Val c))]) ∧ Below w.heap.size w w' := by
  by_cases h : Val c
  · have h' := h
    obtain ⟨v0, v1, v2⟩ := h'
    have e : ps c = strOfNums (en c) := if_pos h
    rw [e, decide_eq_true h]
    unfold en
    by_cases c1 : c < 128
    · rw [if_pos c1]
      exact put_good0 c w hw (by omega) (by omega)
    rw [if_neg c1]
    by_cases c2 : c < 2048
    · rw [if_pos c2]
      exact put_good1 c w hw (by omega) (by omega)
    rw [if_neg c2]
    by_cases c3 : c < 65536
    · rw [if_pos c3, show c / 4096 = c / 64 / 64 by omega]
      exact put_good2 c w hw (by omega) (by omega) (by omega)
    rw [if_neg c3, show c / 262144 = c / 64 / 64 / 64 by omega, show c / 4096 = c / 64 / 64 by omega]
    exact put_good3 c w hw (by omega) (by omega)
  · have e : ps c = ByteArray.empty := if_neg h
    rw [e, decide_eq_false h]
    unfold Val at h
    by_cases c1 : c < 0
    · exact put_neg c w hw c1
    by_cases c2 : 1114111 < c
    · exact put_high c w hw c2
    exact put_half c w hw (by omega) (by omega)

end Go.Proofs.YtejipknbhiokeaaDoor

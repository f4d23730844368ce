/-
  CONTRACT of indenturelaw01.wakes: it returns true.
-/
import Derived.Test.YtejipknbhiokeaaDoorUtf3
namespace Go.Proofs.YtejipknbhiokeaaDoor
open Go.RowKit Ut

theorem w_len (w : World) (hw : Rows w) : Calls Tryd.prog 19 #[.string ⟨#[195, 169]⟩, .int .i64 0] w fun e w' => e = .returned (.tuple #[.int .i64 2, .bool true]) ∧ Below w.heap.size w w' := by
  have e1 : Ln ⟨#[195, 169]⟩ 0 = 2 := by decide +kernel
  have e2 : Lb ⟨#[195, 169]⟩ 0 = true := by decide +kernel
  have := len_any ⟨#[195, 169]⟩ 0 w (by decide +kernel) hw
  rwa [e1, e2] at this
theorem w_char (w : World) (hw : Rows w) : Calls Tryd.prog 21 #[.string ⟨#[226, 130, 172]⟩, .int .i64 0] w fun e w' => e = .returned (.tuple #[.int .i32 8364, .bool true]) ∧ Below w.heap.size w w' := by
  have e1 : Cc ⟨#[226, 130, 172]⟩ 0 = 8364 := by decide +kernel
  have e2 : Lb ⟨#[226, 130, 172]⟩ 0 = true := by decide +kernel
  have := char_any ⟨#[226, 130, 172]⟩ 0 w (by decide +kernel) hw
  rwa [e1, e2] at this
theorem w_put (w : World) (hw : Rows w) : Calls Tryd.prog 24 #[.int .i32 233] w fun e w' => e = .returned (.tuple #[.string ⟨#[195, 169]⟩, .bool true]) ∧ Below w.heap.size w w' := by
  have e1 : ps 233 = ⟨#[195, 169]⟩ := by decide +kernel
  have e2 : decide (Val 233) = true := by decide +kernel
  have := put_any 233 w hw
  rwa [e1, e2] at this
theorem w_valid (w : World) (hw : Rows w) : Calls Tryd.prog 30 #[.string ⟨#[97]⟩] w fun e w' => e = .returned (.bool true) ∧ Below w.heap.size w w' := by
  have e1 : vld ⟨#[97]⟩ = true := by
    unfold vld
    have a : rb ⟨#[97]⟩ 0 = true := by decide +kernel
    have b : rn ⟨#[97]⟩ 0 = 1 := by decide +kernel
    rw [stp_in (by decide +kernel), b, stp_end (by decide +kernel), a]
    rfl
  have := valid_any ⟨#[97]⟩ w (by decide +kernel) hw
  rwa [e1] at this
theorem w_start (w : World) (hw : Rows w) : Calls Tryd.prog 26 #[.string ⟨#[195, 97]⟩, .int .i64 1] w fun e w' => e = .returned (.bool true) ∧ Below w.heap.size w w' := by
  have e1 : Sb ⟨#[195, 97]⟩ 1 = true := by decide +kernel
  have := start_any ⟨#[195, 97]⟩ 1 w (by decide +kernel) hw
  rwa [e1] at this

theorem wakes1_any (w : World) (hw : Rows w) : Calls Tryd.prog 23 #[] w fun e w' => e = .returned (.bool true) ∧ Below w.heap.size w w' := by
  go_enter Tryd.func23, Tryd.ntmps23
  go_wp2_with (fail)
  refine (w_len _ hw).mono ?_
  rintro e w1 ⟨rfl, b1⟩
  have h1 := hw.below b1 hw.size
  go_wp2_with (fail)
  refine (w_char _ h1).mono ?_
  rintro e w2 ⟨rfl, b2⟩
  have h2 := h1.below b2 h1.size
  go_wp2_with (fail)
  refine (w_put _ h2).mono ?_
  rintro e w3 ⟨rfl, b3⟩
  have h3 := h2.below b3 h2.size
  go_wp2_with (fail)
  refine (w_valid _ h3).mono ?_
  rintro e w4 ⟨rfl, b4⟩
  have h4 := h3.below b4 h3.size
  go_wp2_with (fail)
  refine (w_start _ h4).mono ?_
  rintro e w5 ⟨rfl, b5⟩
  go_wp2_with (fail)
  go_ret
  have c1 := b1.size
  have c2 := b2.size
  have c3 := b3.size
  have c4 := b4.size
  exact ⟨rfl, (((b1.trans (b2.mono (by omega))).trans (b3.mono (by omega))).trans (b4.mono (by omega))).trans (b5.mono (by omega))⟩
end Go.Proofs.YtejipknbhiokeaaDoor

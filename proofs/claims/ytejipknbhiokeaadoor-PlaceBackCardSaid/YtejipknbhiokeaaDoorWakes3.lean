/-
  CONTRACT of indenturelaw03.wakes: it returns true.
-/
import Derived.Test.YtejipknbhiokeaaDoorPlace3
namespace Go.Proofs.YtejipknbhiokeaaDoor
open Go.RowKit Rp

set_option maxRecDepth 100000 in
theorem wakes3_any (w : World) (hw : Rows w) : Calls Tryd.prog 43 #[] w (Gives (.bool true) w) := by
  have t1 : Rp.lf ((⟨#[97, 10, 195, 169, 98]⟩ : ByteArray).extract 0 5) = 1 := by decide +kernel
  have t2 : bh ⟨#[97, 10, 195, 169, 98]⟩ 1 = 2 := by decide +kernel
  have t3 : Rp.lf ⟨#[97, 10, 195, 169, 98]⟩ = 1 := by decide +kernel
  have t4 : chOff (cut (lnB ⟨#[97, 10, 195, 169, 98]⟩ 1)) 1 0 = some 2 := by decide +kernel
  have t5 : (cut (lnB ⟨#[97, 10, 195, 169, 98]⟩ 1)).size = 3 := by decide +kernel
  have h1 : ∀ W q, IsR W q ⟨#[97, 10, 195, 169, 98]⟩ → Calls Tryd.prog 45 #[.pointer q, .int .i64 5] W (Gives (.tuple #[.int .i64 1, .int .i64 3, .int .i64 0]) W) := fun W q hW => by
    have := pof_in q _ 5 W hW (by decide +kernel)
    rwa [t1, t2] at this
  have h2 : ∀ W q, IsR W q ⟨#[97, 10, 195, 169, 98]⟩ → Calls Tryd.prog 46 #[.pointer q, .int .i64 1, .int .i64 3] W (Gives (.tuple #[.int .i64 5, .int .i64 0]) W) := fun W q hW => by
    have := poff_in q _ 1 3 W hW (by rw [t3]; exact Nat.le_refl _) (by rw [t5]; exact Nat.le_refl _) (by decide)
    rwa [t2] at this
  have h3 : ∀ W q, IsR W q ⟨#[97, 10, 195, 169, 98]⟩ → Rows W → Calls Tryd.prog 51 #[.pointer q, .int .i64 1, .int .i64 1] W (Gives (.tuple #[.int .i64 4, .int .i64 0]) W) := fun W q hW hr => by
    have := pcho_in q _ 1 1 2 W hW (by rw [t3]; exact Nat.le_refl _) (by decide) hr t4
    rwa [t2] at this
  have H1 := Lib.hid h1
  have H2 := Lib.hid h2
  have H3 := Lib.hid h3
  clear h1 h2 h3 t1 t2 t3 t4 t5
  go_enter Tryd.func43, Tryd.ntmps43
  go_wp2_with (fail)
  refine (of_short ⟨#[97, 10, 195, 169, 98]⟩ _ (by decide +kernel)).mono ?_
  rintro e w1 ⟨q, rfl, i1, b1⟩
  go_wp2_with (fail)
  refine (H1.out _ q i1).mono ?_
  rintro e w2 ⟨rfl, b2⟩
  have B2 := b1.trans (b2.mono b1.size)
  have i2 := i1.below b2
  go_wp2_with (fail)
  refine (H2.out _ q i2).mono ?_
  rintro e w3 ⟨rfl, b3⟩
  have B3 := B2.trans (b3.mono B2.size)
  go_wp2_with (fail)
  refine (H3.out _ q (i2.below b3) (hw.below B3 hw.size)).mono ?_
  rintro e w4 ⟨rfl, b4⟩
  go_wp2_with (fail)
  go_ret
  exact ⟨rfl, B3.trans (b4.mono B3.size)⟩
end Go.Proofs.YtejipknbhiokeaaDoor

/-
  CONTRACT of indenturelaw02.wakes: it returns true.
-/
import Derived.Test.YtejipknbhiokeaaDoorFind
namespace Go.Proofs.YtejipknbhiokeaaDoor
open Go.RowKit Rp

theorem Gives.at {f : FuncId} {args : Array Value} {v : Value} {w0 w : World} (hB : Below w0.heap.size w0 w) (h : Calls Tryd.prog f args w (Gives v w)) :
    Calls Tryd.prog f args w fun e w' => e = .returned v ∧ Below w.heap.size w w' ∧ Below w0.heap.size w0 w' :=
  h.mono fun _ _ ⟨he, hb⟩ => ⟨he, hb, hB.trans (hb.mono hB.size)⟩

set_option maxRecDepth 100000 in
theorem wakes2_any (w : World) (hw : Rows w) : Calls Tryd.prog 42 #[] w (Gives (.bool true) w) := by
  have t1 : (⟨#[97, 10, 98, 99]⟩ : ByteArray).extract 0 1 ++ ⟨#[88]⟩ ++ (⟨#[97, 10, 98, 99]⟩ : ByteArray).extract (1 + 1) (⟨#[97, 10, 98, 99]⟩ : ByteArray).size = ⟨#[97, 88, 98, 99]⟩ := by decide +kernel
  have t2 : bh ⟨#[97, 10, 98, 99]⟩ 1 = 2 := by decide +kernel
  have t3 : lnTo ⟨#[97, 10, 98, 99]⟩ 1 = 4 := by decide +kernel
  have t4 : Rp.lf ⟨#[97, 10, 98, 99]⟩ = 1 := by decide +kernel
  have t5 : Ut.cnt ⟨#[97, 10, 98, 99]⟩ = 4 := by
    unfold Ut.cnt
    have b0 : Ut.rn ⟨#[97, 10, 98, 99]⟩ 0 = 1 := by decide +kernel
    have b1 : Ut.rn ⟨#[97, 10, 98, 99]⟩ 1 = 1 := by decide +kernel
    have b2 : Ut.rn ⟨#[97, 10, 98, 99]⟩ 2 = 1 := by decide +kernel
    have b3 : Ut.rn ⟨#[97, 10, 98, 99]⟩ 3 = 1 := by decide +kernel
    rw [Ut.stp_in (by decide +kernel), b0, Ut.stp_in (by decide +kernel), b1, Ut.stp_in (by decide +kernel), b2, Ut.stp_in (by decide +kernel), b3, Ut.stp_end (by decide +kernel)]
    rfl
  have hSt : ∀ W q, IsR W q ⟨#[97, 10, 98, 99]⟩ → Rows W → Calls Tryd.prog 40 #[.pointer q] W (Gives (.int .i64 4) W) := fun W q hW hr => by
    have := rsteps_any q _ W hW hr
    rwa [t5] at this
  have hLi : ∀ W q, IsR W q ⟨#[97, 10, 98, 99]⟩ → Calls Tryd.prog 39 #[.pointer q] W (Gives (.int .i64 2) W) := fun W q hW => by
    have := lines_any q _ W hW
    rwa [t4] at this
  have hLe : ∀ W q, IsR W q ⟨#[97, 10, 98, 99]⟩ → Calls Tryd.prog 37 #[.pointer q] W (Gives (.int .i64 4) W) := fun W q hW => rlen_any q _ W hW
  have hLn : ∀ W q, IsR W q ⟨#[97, 10, 98, 99]⟩ → Calls Tryd.prog 35 #[.pointer q, .int .i64 1] W (Gives (.tuple #[.agg #[.int .i64 2, .int .i64 4], .int .i64 0]) W) := fun W q hW => by
    have := line_in q _ 1 W hW (by rw [t4]; exact Nat.le_refl _)
    rwa [t2, t3] at this
  have hSp : ∀ W q, IsR W q ⟨#[97, 10, 98, 99]⟩ → Calls Tryd.prog 34 #[.pointer q, .agg #[.int .i64 1, .int .i64 1, .string ⟨#[88]⟩]] W fun e w' => ∃ q', e = .returned (.tuple #[.pointer q', .int .i64 0]) ∧ IsR w' q' ⟨#[97, 88, 98, 99]⟩ ∧ Below W.heap.size W w' := fun W q hW => by
    have := splice_ok q _ 1 1 ⟨#[88]⟩ W hW (by decide +kernel) (by decide +kernel) (by decide +kernel)
    rwa [t1] at this
  have HST := Lib.hid hSt
  have HLI := Lib.hid hLi
  have HLE := Lib.hid hLe
  have HLN := Lib.hid hLn
  have HSP := Lib.hid hSp
  clear hSt hLi hLe hLn hSp t1 t2 t3 t4 t5
  go_enter Tryd.func42, Tryd.ntmps42
  go_wp2_with (fail)
  refine (of_short ⟨#[97, 10, 98, 99]⟩ _ (by decide +kernel)).mono ?_
  rintro e w1 ⟨q, rfl, h1, b1⟩
  go_wp2_with (fail)
  refine (HSP.out _ q h1).mono ?_
  rintro e w2 ⟨q2, rfl, h2, b2⟩
  have B2 := b1.trans (b2.mono b1.size)
  have i2 := h1.below b2
  go_wp2_with (fail)
  refine (HLN.out _ q i2).mono ?_
  rintro e w3 ⟨rfl, b3⟩
  have B3 := B2.trans (b3.mono B2.size)
  obtain ⟨w4, hw4⟩ : ∃ w4, w3.alloc (.cells #[.int .i64 2, .int .i64 4] 45) = w4 := ⟨_, rfl⟩
  have b4 : Below w3.heap.size w3 w4 := by rw [← hw4]; exact (Below.refl _ _).alloc (Nat.le_refl _) _
  have o0 : w4.cell? ⟨w3.heap.size, 0, none⟩ = some (.int .i64 2) := by rw [← hw4]; simp [go_sem]
  have o1 : w4.cell? ⟨w3.heap.size, 1, none⟩ = some (.int .i64 4) := by rw [← hw4]; simp [go_sem]
  have l4 := World.block_lt_of_cell? w4 _ o0
  have B4 := B3.trans (b4.mono B3.size)
  have b24 := b3.trans (b4.mono b3.size)
  have i4 := i2.below b24
  have j4 := h2.below b24
  go_wp2_with (fail)
  refine (HLE.out _ q i4).mono ?_
  rintro e w5 ⟨rfl, b5⟩
  have i5 := i4.below b5
  go_wp2_with (fail)
  refine (HLI.out _ q i5).mono ?_
  rintro e w6 ⟨rfl, b6⟩
  have b46 := b5.trans (b6.mono b5.size)
  have j6 := j4.below b46
  go_wp2_with (fail)
  refine (text_any q2 _ _ j6).mono ?_
  rintro e w7 ⟨rfl, b7⟩
  have b47 := b46.trans (b7.mono b46.size)
  have i7 := i4.below b47
  go_wp2_with (fail)
  refine (text_any q _ _ i7).mono ?_
  rintro e w8 ⟨rfl, b8⟩
  have b48 := b47.trans (b8.mono b47.size)
  have p0 := (b48.cell (p := ⟨w3.heap.size, 0, none⟩) l4).trans o0
  have p1 := (b48.cell (p := ⟨w3.heap.size, 1, none⟩) l4).trans o1
  have B8 := B4.trans (b48.mono B4.size)
  go_wp2_with (fail)
  refine (HST.out _ q (i4.below b48) (hw.below B8 hw.size)).mono ?_
  rintro e w9 ⟨rfl, b9⟩
  go_wp2_with (fail)
  go_ret
  exact ⟨rfl, B8.trans (b9.mono B8.size)⟩
end Go.Proofs.YtejipknbhiokeaaDoor

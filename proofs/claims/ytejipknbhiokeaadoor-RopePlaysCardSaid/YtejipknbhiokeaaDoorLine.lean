/-
  CONTRACTS of Rope.Line, Rope.Find.
-/
import Derived.Test.YtejipknbhiokeaaDoorBehind
namespace Go.Proofs.YtejipknbhiokeaaDoor
open Go.RowKit Rp

/-- Where line k ends. -/
def lnTo (s : ByteArray) (k : Nat) : Nat := if k < Rp.lf s then bh s (k + 1) else s.size

theorem behind_all (p : Option Addr) (t : T) (k : Nat) (w : World) (h : IsN w p t) (hk : k ≤ t.lf) (hz : t.sz ≤ 1048576) : Calls Tryd.prog 64 #[.pointer p, .int .i64 k] w (Gives (.int .i64 (bh t.text k)) w) := by
  by_cases h0 : k = 0
  · subst h0
    rw [bh_zero]
    exact behind_zero p w
  · exact behind_any p t k w h (by omega) hk hz

/-- A result's cell, written. -/
theorem two_cells {W : World} {b : Nat} {a0 a1 : Value} (c0 : W.cell? ⟨b, 0, none⟩ = some a0) (c1 : W.cell? ⟨b, 1, none⟩ = some a1) (v0 v1 : Value) :
    ((W.setCell ⟨b, 0, none⟩ v0).setCell ⟨b, 1, none⟩ v1).cell? ⟨b, 0, none⟩ = some v0 ∧ ((W.setCell ⟨b, 0, none⟩ v0).setCell ⟨b, 1, none⟩ v1).cell? ⟨b, 1, none⟩ = some v1 := by
  constructor
  · rw [World.cell?_setCell_other _ _ _ _ (by simp)]
    exact World.cell?_setCell_same' _ _ _ (by rw [c0]; rfl)
  · exact World.cell?_setCell_same' _ _ _ (by rw [World.cell?_setCell_other _ _ _ _ (by simp), c1]; rfl)

theorem line_nil (k : Int) (w : World) : Calls Tryd.prog 35 #[.pointer none, .int .i64 k] w (Gives (.tuple #[.agg #[.int .i64 0, .int .i64 0], .int .i64 8]) w) := by
  go_enter Tryd.func35, Tryd.ntmps35
  go_wp2_with (fail)
  refine bodyPost_ret (v := .tuple #[.agg #[.int .i64 0, .int .i64 0], .int .i64 8]) (by simp [results, Tryd.f35, go_sem]) rfl ?_
  exact ⟨rfl, (Below.refl _ _).alloc (Nat.le_refl _) _⟩

theorem line_out (q : Option Addr) (s : ByteArray) (k : Int) (w : World) (h : IsR w q s) (hk : k < 0 ∨ (Rp.lf s : Int) < k) : Calls Tryd.prog 35 #[.pointer q, .int .i64 k] w (Gives (.tuple #[.agg #[.int .i64 0, .int .i64 0], .int .i64 5]) w) := by
  obtain ⟨w1, hw1⟩ : ∃ w1, w.alloc (.cells #[.int .i64 0, .int .i64 0] 45) = w1 := ⟨_, rfl⟩
  have hB1 : Below w.heap.size w w1 := by rw [← hw1]; exact (Below.refl _ _).alloc (Nat.le_refl _) _
  have c0 : w1.cell? ⟨w.heap.size, 0, none⟩ = some (.int .i64 0) := by rw [← hw1]; simp [go_sem]
  have c1 : w1.cell? ⟨w.heap.size, 1, none⟩ = some (.int .i64 0) := by rw [← hw1]; simp [go_sem]
  have f0 : w1.frozen? ⟨w.heap.size, 0, none⟩ = false := by rw [← hw1]; simp [go_sem]
  have f1 : w1.frozen? ⟨w.heap.size, 1, none⟩ = false := by rw [← hw1]; simp [go_sem]
  have hl := lines_any q s w1 (h.below hB1)
  have hz := lf_le s
  have hs := h.size
  have h' := h
  obtain ⟨x, _, _, rfl, -, -, -, -, -⟩ := h'
  have HL := Lib.hid hl
  clear hl h
  by_cases h0 : k < 0
  · have hd : decide (k < 0) = true := by simpa using h0
    clear hk
    obtain ⟨g0, g1⟩ := two_cells c0 c1 (.int .i64 0) (.int .i64 0)
    go_enter Tryd.func35, Tryd.ntmps35
    go_wp2_with (fail)
    refine bodyPost_ret (v := .tuple #[.agg #[.int .i64 0, .int .i64 0], .int .i64 5]) (by simp [results, Tryd.f35, go_sem, g0, g1]) rfl ?_
    exact ⟨rfl, (hB1.setCell (p := ⟨w.heap.size, 0, none⟩) (Nat.le_refl _) _).setCell (p := ⟨w.heap.size, 1, none⟩) (Nat.le_refl _) _⟩
  · have hd : decide (k < 0) = false := by simpa using h0
    have hd2 : decide ((Rp.lf s : Int) + 1 ≤ k) = true := by simp; omega
    clear hk
    have hlt := World.block_lt_of_cell? w1 _ c0
    go_enter Tryd.func35, Tryd.ntmps35
    go_wp2_with (fail)
    refine (HL.out).mono ?_
    rintro e w2 ⟨rfl, hb2⟩
    have k0 := (hb2.cell (p := ⟨w.heap.size, 0, none⟩) hlt).trans c0
    have k1 := (hb2.cell (p := ⟨w.heap.size, 1, none⟩) hlt).trans c1
    have e0 := (hb2.frozen (p := ⟨w.heap.size, 0, none⟩) hlt).trans f0
    have e1 := (hb2.frozen (p := ⟨w.heap.size, 1, none⟩) hlt).trans f1
    obtain ⟨g0, g1⟩ := two_cells k0 k1 (.int .i64 0) (.int .i64 0)
    go_wp2_with (fail)
    refine bodyPost_ret (v := .tuple #[.agg #[.int .i64 0, .int .i64 0], .int .i64 5]) (by simp [results, Tryd.f35, go_sem, g0, g1]) rfl ?_
    exact ⟨rfl, ((hB1.trans (hb2.mono hB1.size)).setCell (p := ⟨w.heap.size, 0, none⟩) (Nat.le_refl _) _).setCell (p := ⟨w.heap.size, 1, none⟩) (Nat.le_refl _) _⟩

set_option maxRecDepth 100000 in
theorem line_in (q : Option Addr) (s : ByteArray) (k : Nat) (w : World) (h : IsR w q s) (hk : k ≤ Rp.lf s) : Calls Tryd.prog 35 #[.pointer q, .int .i64 k] w (Gives (.tuple #[.agg #[.int .i64 (bh s k), .int .i64 (lnTo s k)], .int .i64 0]) w) := by
  obtain ⟨w1, hw1⟩ : ∃ w1, w.alloc (.cells #[.int .i64 0, .int .i64 0] 45) = w1 := ⟨_, rfl⟩
  have hB1 : Below w.heap.size w w1 := by rw [← hw1]; exact (Below.refl _ _).alloc (Nat.le_refl _) _
  have c0 : w1.cell? ⟨w.heap.size, 0, none⟩ = some (.int .i64 0) := by rw [← hw1]; simp [go_sem]
  have c1 : w1.cell? ⟨w.heap.size, 1, none⟩ = some (.int .i64 0) := by rw [← hw1]; simp [go_sem]
  have f0 : w1.frozen? ⟨w.heap.size, 0, none⟩ = false := by rw [← hw1]; simp [go_sem]
  have f1 : w1.frozen? ⟨w.heap.size, 1, none⟩ = false := by rw [← hw1]; simp [go_sem]
  have hlt := World.block_lt_of_cell? w1 _ c0
  have hL : ∀ W, Below w.heap.size w W → Calls Tryd.prog 39 #[.pointer q] W (Gives (.int .i64 ((Rp.lf s : Int) + 1)) W) := fun W hW => lines_any q s W (h.below hW)
  have hN : ∀ W, Below w.heap.size w W → Calls Tryd.prog 37 #[.pointer q] W (Gives (.int .i64 s.size) W) := fun W hW => rlen_any q s W (h.below hW)
  have hz := lf_le s
  have hs := h.size
  obtain ⟨x, rp, t, rfl, hxc, hn, bt, ht, -⟩ := h
  have hxl := World.block_lt_of_cell? w _ hxc
  have htl : t.lf = Rp.lf s := by rw [lf_text, ht]
  have hts : t.sz = s.size := by rw [sz_text, ht]
  have hBh : ∀ (W : World) (k : Nat), Below w.heap.size w W → k ≤ Rp.lf s → Calls Tryd.prog 64 #[.pointer rp, .int .i64 k] W (Gives (.int .i64 (bh s k)) W) := fun W k hW hk => by
    have := behind_all rp t k W (hn.below hW) (by rw [htl]; exact hk) (by rw [hts]; exact hs)
    rwa [ht] at this
  have HL := Lib.hid hL
  have HN := Lib.hid hN
  have HBH := Lib.hid hBh
  have hx1 : w1.cell? ⟨x, 0, none⟩ = some (.pointer rp) := (hB1.cell hxl).trans hxc
  clear hL hN hBh ht htl hts hn bt
  have hd : decide ((k : Int) < 0) = false := by simp
  have hd2 : decide ((Rp.lf s : Int) + 1 ≤ (k : Int)) = false := by simp; omega
  go_enter Tryd.func35, Tryd.ntmps35
  go_wp2_with (fail)
  refine (HL.out _ hB1).mono ?_
  rintro e w2 ⟨rfl, hb2⟩
  have hB2 := hB1.trans (hb2.mono hB1.size)
  have hx2 : w2.cell? ⟨x, 0, none⟩ = some (.pointer rp) := (hB2.cell hxl).trans hxc
  go_wp2_with (fail)
  refine (HBH.out _ k hB2 hk).mono ?_
  rintro e w3 ⟨rfl, hb3⟩
  have hB3 := hB2.trans (hb3.mono hB2.size)
  go_wp2_with (fail)
  refine (HN.out _ hB3).mono ?_
  rintro e w4 ⟨rfl, hb4⟩
  have hB4 := hB3.trans (hb4.mono hB3.size)
  obtain ⟨w5, hw5⟩ : ∃ w5, w4.alloc (.cells #[.int .i64 (bh s k), .int .i64 s.size] 45) = w5 := ⟨_, rfl⟩
  have hz4 := hB4.size
  have hB5 : Below w.heap.size w w5 := by rw [← hw5]; exact hB4.alloc hz4 _
  have h15 : Below w1.heap.size w1 w5 := by rw [← hw5]; exact (hb2.trans ((hb3.trans (hb4.mono hb3.size)).mono hb2.size)).alloc (hb2.trans ((hb3.trans (hb4.mono hb3.size)).mono hb2.size)).size _
  have d0 : w5.cell? ⟨w4.heap.size, 0, none⟩ = some (.int .i64 (bh s k)) := by rw [← hw5]; simp [go_sem]
  have d1 : w5.cell? ⟨w4.heap.size, 1, none⟩ = some (.int .i64 s.size) := by rw [← hw5]; simp [go_sem]
  have e1 : w5.frozen? ⟨w4.heap.size, 1, none⟩ = false := by rw [← hw5]; simp [go_sem]
  have hl5 := World.block_lt_of_cell? w5 _ d0
  have hne : w.heap.size < w4.heap.size := Nat.lt_of_lt_of_le hlt (hb2.trans ((hb3.trans (hb4.mono hb3.size)).mono hb2.size)).size
  have hx5 : w5.cell? ⟨x, 0, none⟩ = some (.pointer rp) := (hB5.cell hxl).trans hxc
  go_wp2_with (fail)
  refine (HL.out _ hB5).mono ?_
  rintro e w6 ⟨rfl, hb6⟩
  have hB6 := hB5.trans (hb6.mono hB5.size)
  have h16 := h15.trans (hb6.mono h15.size)
  have m0 := (hb6.cell (p := ⟨w4.heap.size, 0, none⟩) hl5).trans d0
  have m1 := (hb6.cell (p := ⟨w4.heap.size, 1, none⟩) hl5).trans d1
  have g1 := (hb6.frozen (p := ⟨w4.heap.size, 1, none⟩) hl5).trans e1
  have hx6 : w6.cell? ⟨x, 0, none⟩ = some (.pointer rp) := (hB6.cell hxl).trans hxc
  by_cases c : k < Rp.lf s
  · have hd3 : decide ((k : Int) + 1 < (Rp.lf s : Int) + 1) = true := by simp; omega
    have hd3' : decide (k < Rp.lf s) = true := by simp; omega
    have hln : lnTo s k = bh s (k + 1) := by unfold lnTo; rw [if_pos c]
    go_wp2_with (fail)
    have := HBH.out _ (k + 1) hB6 (by omega)
    rw [show ((k + 1 : Nat) : Int) = (k : Int) + 1 by omega] at this
    refine this.mono ?_
    clear this
    rintro e w7 ⟨rfl, hb7⟩
    have h17 := h16.trans (hb7.mono h16.size)
    have hB7 := hB6.trans (hb7.mono hB6.size)
    have hl6 : w4.heap.size < w6.heap.size := Nat.lt_of_lt_of_le hl5 hb6.size
    have r0 := (hb7.cell (p := ⟨w4.heap.size, 0, none⟩) hl6).trans m0
    have r1 := (hb7.cell (p := ⟨w4.heap.size, 1, none⟩) hl6).trans m1
    have t1 := (hb7.frozen (p := ⟨w4.heap.size, 1, none⟩) hl6).trans g1
    have k0 := (h17.cell (p := ⟨w.heap.size, 0, none⟩) hlt).trans c0
    have k1 := (h17.cell (p := ⟨w.heap.size, 1, none⟩) hlt).trans c1
    have u0 := (h17.frozen (p := ⟨w.heap.size, 0, none⟩) hlt).trans f0
    have u1 := (h17.frozen (p := ⟨w.heap.size, 1, none⟩) hlt).trans f1
    obtain ⟨w8, hw8⟩ : ∃ w8, w7.setCell ⟨w4.heap.size, 1, none⟩ (.int .i64 (bh s (k + 1))) = w8 := ⟨_, rfl⟩
    have hB8 : Below w.heap.size w w8 := by rw [← hw8]; exact hB7.setCell (p := ⟨w4.heap.size, 1, none⟩) (Nat.le_of_lt hne) _
    have a0 : w8.cell? ⟨w4.heap.size, 0, none⟩ = some (.int .i64 (bh s k)) := by rw [← hw8, World.cell?_setCell_other _ _ _ _ (by simp)]; exact r0
    have a1 : w8.cell? ⟨w4.heap.size, 1, none⟩ = some (.int .i64 (bh s (k + 1))) := by rw [← hw8]; exact World.cell?_setCell_same' _ _ _ (by rw [r1]; rfl)
    have b0 : w8.cell? ⟨w.heap.size, 0, none⟩ = some (.int .i64 0) := by rw [← hw8, World.cell?_setCell_other _ _ _ _ (by simp)]; exact k0
    have b1 : w8.cell? ⟨w.heap.size, 1, none⟩ = some (.int .i64 0) := by rw [← hw8, World.cell?_setCell_other _ _ _ _ (by simp <;> omega)]; exact k1
    have x0 : w8.frozen? ⟨w.heap.size, 0, none⟩ = false := by rw [← hw8, World.frozen?_setCell]; exact u0
    have x1 : w8.frozen? ⟨w.heap.size, 1, none⟩ = false := by rw [← hw8, World.frozen?_setCell]; exact u1
    obtain ⟨y0, y1⟩ := two_cells b0 b1 (.int .i64 (bh s k)) (.int .i64 (bh s (k + 1)))
    go_wp2_with (fail)
    refine bodyPost_ret (v := .tuple #[.agg #[.int .i64 (bh s k), .int .i64 (bh s (k + 1))], .int .i64 0]) (by simp [results, Tryd.f35, go_sem, y0, y1]) rfl ?_
    exact ⟨by rw [hln], (hB8.setCell (p := ⟨w.heap.size, 0, none⟩) (Nat.le_refl _) _).setCell (p := ⟨w.heap.size, 1, none⟩) (Nat.le_refl _) _⟩
  · have hd3 : decide ((k : Int) + 1 < (Rp.lf s : Int) + 1) = false := by simp; omega
    have hd3' : decide (k < Rp.lf s) = false := by simp; omega
    have hln : lnTo s k = s.size := by unfold lnTo; rw [if_neg c]
    have k0 := (h16.cell (p := ⟨w.heap.size, 0, none⟩) hlt).trans c0
    have k1 := (h16.cell (p := ⟨w.heap.size, 1, none⟩) hlt).trans c1
    have u0 := (h16.frozen (p := ⟨w.heap.size, 0, none⟩) hlt).trans f0
    have u1 := (h16.frozen (p := ⟨w.heap.size, 1, none⟩) hlt).trans f1
    obtain ⟨y0, y1⟩ := two_cells k0 k1 (.int .i64 (bh s k)) (.int .i64 s.size)
    go_wp2_with (fail)
    refine bodyPost_ret (v := .tuple #[.agg #[.int .i64 (bh s k), .int .i64 s.size], .int .i64 0]) (by simp [results, Tryd.f35, go_sem, y0, y1]) rfl ?_
    exact ⟨by rw [hln], (hB6.setCell (p := ⟨w.heap.size, 0, none⟩) (Nat.le_refl _) _).setCell (p := ⟨w.heap.size, 1, none⟩) (Nat.le_refl _) _⟩
end Go.Proofs.YtejipknbhiokeaaDoor

/-
  CONTRACT of the second reference's Line.
-/
import Derived.Test.YtejipknbhiokeaaDoorRef2c
import Derived.Test.YtejipknbhiokeaaDoorEdits
namespace Go.Proofs.YtejipknbhiokeaaDoor
open Go.RowKit Rp

theorem refline_out (s : ByteArray) (k : Int) (w : World) (hs : s.size ≤ 1048576) (hk : k < 0 ∨ (Rp.lf s : Int) < k) : Calls Tryd.prog 71 #[.string s, .int .i64 k] w (Gives (.tuple #[.agg #[.int .i64 0, .int .i64 0], .int .i64 5]) w) := by
  obtain ⟨w1, hw1, B1, c0, c1, l1⟩ := range_new w 0 0
  have f0 : w1.frozen? ⟨w.heap.size, 0, none⟩ = false := by rw [← hw1]; simp [go_sem]
  have f1 : w1.frozen? ⟨w.heap.size, 1, none⟩ = false := by rw [← hw1]; simp [go_sem]
  have HL := Lib.hid (reflines_any s w1 hs)
  have hlf := lf_le s
  go_enter Tryd.func71, Tryd.ntmps71
  go_wp2_with (fail)
  refine (HL.out).mono ?_
  rintro e w2 ⟨v, rfl, hown, b2⟩
  have k0 := (b2.cell (p := ⟨w.heap.size, 0, none⟩) l1).trans c0
  have k1 := (b2.cell (p := ⟨w.heap.size, 1, none⟩) l1).trans c1
  have e0 := (b2.frozen (p := ⟨w.heap.size, 0, none⟩) l1).trans f0
  have e1 := (b2.frozen (p := ⟨w.heap.size, 1, none⟩) l1).trans f1
  obtain ⟨g0, g1⟩ := two_cells k0 k1 (.int .i64 0) (.int .i64 0)
  obtain ⟨hlen, hown2⟩ := hown
  rcases hown2 with ⟨rfl, h0⟩ | ⟨g, cap, cur, rfl, hr⟩
  · omega
  clear hr
  have hB : Below w.heap.size w ((w2.setCell ⟨w.heap.size, 0, none⟩ (.int .i64 0)).setCell ⟨w.heap.size, 1, none⟩ (.int .i64 0)) :=
    ((B1.trans (b2.mono B1.size)).setCell (p := ⟨w.heap.size, 0, none⟩) (Nat.le_refl _) _).setCell (p := ⟨w.heap.size, 1, none⟩) (Nat.le_refl _) _
  by_cases h0 : k < 0
  · have hd : decide (k < 0) = true := by simpa using h0
    clear hk
    go_wp2_with (fail)
    refine bodyPost_ret (v := .tuple #[.agg #[.int .i64 0, .int .i64 0], .int .i64 5]) (by simp [results, Tryd.f71, go_sem, g0, g1]) rfl ?_
    exact ⟨rfl, hB⟩
  · have hd : decide (k < 0) = false := by simpa using h0
    have hd2 : decide (((Rp.lf s + 1 : Nat) : Int) ≤ k) = true := by simp; omega
    have hd2' : decide ((Rp.lf s : Int) + 1 ≤ k) = true := by simp; omega
    clear hk
    go_wp2_with (fail)
    refine bodyPost_ret (v := .tuple #[.agg #[.int .i64 0, .int .i64 0], .int .i64 5]) (by simp [results, Tryd.f71, go_sem, g0, g1]) rfl ?_
    exact ⟨rfl, hB⟩

set_option maxRecDepth 100000 in
theorem refline_in (s : ByteArray) (k : Nat) (w : World) (hs : s.size ≤ 1048576) (hk : k ≤ Rp.lf s) : Calls Tryd.prog 71 #[.string s, .int .i64 k] w (Gives (.tuple #[.agg #[.int .i64 (bh s k), .int .i64 (lnTo s k)], .int .i64 0]) w) := by
  obtain ⟨w1, hw1, B1, c0, c1, l1⟩ := range_new w 0 0
  have f0 : w1.frozen? ⟨w.heap.size, 0, none⟩ = false := by rw [← hw1]; simp [go_sem]
  have f1 : w1.frozen? ⟨w.heap.size, 1, none⟩ = false := by rw [← hw1]; simp [go_sem]
  have HL := Lib.hid (reflines_any s w1 hs)
  have hlf := lf_le s
  go_enter Tryd.func71, Tryd.ntmps71
  go_wp2_with (fail)
  refine (HL.out).mono ?_
  rintro e w2 ⟨v, rfl, hown, b2⟩
  have k0 := (b2.cell (p := ⟨w.heap.size, 0, none⟩) l1).trans c0
  have k1 := (b2.cell (p := ⟨w.heap.size, 1, none⟩) l1).trans c1
  have e0 := (b2.frozen (p := ⟨w.heap.size, 0, none⟩) l1).trans f0
  have e1 := (b2.frozen (p := ⟨w.heap.size, 1, none⟩) l1).trans f1
  obtain ⟨g0, g1⟩ := two_cells k0 k1 (.int .i64 (bh s k)) (.int .i64 (lnTo s k))
  obtain ⟨r0, r1⟩ := rows_get s (show k < Rp.lf s + 1 by omega)
  have hcs := hown
  obtain ⟨hlen, hown2⟩ := hown
  rcases hown2 with ⟨rfl, h0⟩ | ⟨g, cap, cur, rfl, hr⟩
  · omega
  clear hr
  have q0 := hcs.cells (g := g) rfl _ _ r0
  have q1 := hcs.cells (g := g) rfl _ _ r1
  rw [add_none, Nat.zero_add] at q0 q1
  clear hcs r0 r1 hlen
  have hB : Below w.heap.size w ((w2.setCell ⟨w.heap.size, 0, none⟩ (.int .i64 (bh s k))).setCell ⟨w.heap.size, 1, none⟩ (.int .i64 (lnTo s k))) :=
    ((B1.trans (b2.mono B1.size)).setCell (p := ⟨w.heap.size, 0, none⟩) (Nat.le_refl _) _).setCell (p := ⟨w.heap.size, 1, none⟩) (Nat.le_refl _) _
  have hd : decide ((k : Int) < 0) = false := by simp
  have hd2 : decide (((Rp.lf s + 1 : Nat) : Int) ≤ (k : Int)) = false := by simp; omega
  have hd2' : decide ((Rp.lf s : Int) + 1 ≤ (k : Int)) = false := by simp; omega
  have hd2'' : decide (Rp.lf s + 1 ≤ k) = false := by simp; omega
  have hkk : k < Rp.lf s + 1 := by omega
  go_wp2_with (fail)
  refine bodyPost_ret (v := .tuple #[.agg #[.int .i64 (bh s k), .int .i64 (lnTo s k)], .int .i64 0]) (by simp [results, Tryd.f71, go_sem, g0, g1]) rfl ?_
  exact ⟨rfl, hB⟩
end Go.Proofs.YtejipknbhiokeaaDoor

/-
  CONTRACT of indenturelaw02.tells: a rope of s tells what is told of s.
-/
import Derived.Test.YtejipknbhiokeaaDoorRef2d
namespace Go.Proofs.YtejipknbhiokeaaDoor
open Go.RowKit Rp

/-- What is told of a line, by both. -/
theorem line_both (q : Option Addr) (s : ByteArray) (k : Int) (w : World) (h : IsR w q s) : ∃ a b e : Int,
    (∀ W, Below w.heap.size w W → Calls Tryd.prog 35 #[.pointer q, .int .i64 k] W (Gives (.tuple #[.agg #[.int .i64 a, .int .i64 b], .int .i64 e]) W)) ∧
    (∀ W, Calls Tryd.prog 71 #[.string s, .int .i64 k] W (Gives (.tuple #[.agg #[.int .i64 a, .int .i64 b], .int .i64 e]) W)) := by
  by_cases hk : k < 0 ∨ (Rp.lf s : Int) < k
  · exact ⟨0, 0, 5, fun W hW => line_out q s k W (h.below hW) hk, fun W => refline_out s k W h.size hk⟩
  · obtain ⟨j, rfl⟩ := Int.eq_ofNat_of_zero_le (show 0 ≤ k by omega)
    exact ⟨bh s j, lnTo s j, 0, fun W hW => line_in q s j W (h.below hW) (by omega), fun W => refline_in s j W h.size (by omega)⟩
theorem find_both (q : Option Addr) (s : ByteArray) (i : Int) (w : World) (h : IsR w q s) : ∃ n e : Int,
    (∀ W, Below w.heap.size w W → Calls Tryd.prog 36 #[.pointer q, .int .i64 i] W (Gives (.tuple #[.int .i64 n, .int .i64 e]) W)) ∧
    (∀ W, Calls Tryd.prog 75 #[.string s, .int .i64 i] W (Gives (.tuple #[.int .i64 n, .int .i64 e]) W)) := by
  by_cases hk : i < 0 ∨ (s.size : Int) < i
  · exact ⟨0, 5, fun W hW => find_out q s i W (h.below hW) hk, fun W => reffind_out s i W hk⟩
  · obtain ⟨j, rfl⟩ := Int.eq_ofNat_of_zero_le (show 0 ≤ i by omega)
    exact ⟨Rp.lf (s.extract 0 j), 0, fun W hW => find_in q s j W (h.below hW) (by omega), fun W => reffind_in s j W h.size (by omega)⟩

set_option maxRecDepth 100000 in
set_option maxHeartbeats 4000000 in
theorem tells_any (q : Option Addr) (s : ByteArray) (at' k a c : Int) (w : World) (h : IsR w q s) : Calls Tryd.prog 53 #[.pointer q, .string s, .int .i64 at', .int .i64 k, .int .i64 a, .int .i64 c] w (Gives (.bool true) w) := by
  have hs := h.size
  have hlf := lf_le s
  have hdg := dig_le s.size
  obtain ⟨la, lb, le, hl1, hl2⟩ := line_both q s k w h
  obtain ⟨fn, fe, hf1, hf2⟩ := find_both q s at' w h
  have H := Lib.hid h
  have L1 := Lib.hid hl1
  have L2 := Lib.hid hl2
  have F1 := Lib.hid hf1
  have F2 := Lib.hid hf2
  clear hl1 hl2 hf1 hf2 h
  go_enter Tryd.func53, Tryd.ntmps53
  go_wp2_with (fail)
  refine (rlen_any q s _ H.out).mono ?_
  rintro e w1 ⟨rfl, b1⟩
  go_wp2_with (fail)
  refine (text_any q s _ (H.out.below b1)).mono ?_
  rintro e w2 ⟨rfl, b2⟩
  have B2 := b1.trans (b2.mono b1.size)
  go_wp2_with (fail)
  refine (lines_any q s _ (H.out.below B2)).mono ?_
  rintro e w3 ⟨rfl, b3⟩
  have B3 := B2.trans (b3.mono B2.size)
  go_wp2_with (fail)
  refine (reflines_any s _ hs).mono ?_
  rintro e w4 ⟨v, rfl, ⟨hlen, hown⟩, b4⟩
  have B4 := B3.trans (b4.mono B3.size)
  rcases hown with ⟨rfl, h0⟩ | ⟨g, cap, cur, rfl, hr⟩
  · omega
  clear hr hlen
  go_wp2_with (fail)
  refine (depth_any q s _ (H.out.below B4)).mono ?_
  rintro e w5 ⟨d1, rfl, -, b5⟩
  have B5 := B4.trans (b5.mono B4.size)
  have hd1 : decide ((d1 : Int) < 0) = false := by simp
  go_wp2_with (fail)
  refine (depth_any q s _ (H.out.below B5)).mono ?_
  rintro e w6 ⟨d2, rfl, hdp, b6⟩
  have B6 := B5.trans (b6.mono B5.size)
  have hdd := deep_dig hdp
  clear hdp
  have hd2 : decide (2 * (dig s.size : Int) + 2 < (d2 : Int)) = false := by simp; omega
  go_wp2_with (fail)
  refine (digits_any s.size _ hs).mono ?_
  rintro e w7 ⟨rfl, b7⟩
  have B7 := B6.trans (b7.mono B6.size)
  go_wp2_with (fail)
  refine (L1.out _ B7).mono ?_
  rintro e w8 ⟨rfl, b8⟩
  have B8 := B7.trans (b8.mono B7.size)
  obtain ⟨w9, hw9, b9, o0, o1, l9⟩ := range_new w8 la lb
  have B9 := B8.trans (b9.mono B8.size)
  go_wp2_with (fail)
  refine (L2.out _).mono ?_
  rintro e w10 ⟨rfl, b10⟩
  have b910 := b10
  have B10 := B9.trans (b10.mono B9.size)
  obtain ⟨w11, hw11, b11, p0, p1, l11⟩ := range_new w10 la lb
  have B11 := B10.trans (b11.mono B10.size)
  have b911 := b910.trans (b11.mono b910.size)
  go_wp2_with (fail)
  refine (F1.out _ B11).mono ?_
  rintro e w12 ⟨rfl, b12⟩
  have B12 := B11.trans (b12.mono B11.size)
  go_wp2_with (fail)
  refine (F2.out _).mono ?_
  rintro e w13 ⟨rfl, b13⟩
  have b1113 := b12.trans (b13.mono b12.size)
  have B13 := B12.trans (b13.mono B12.size)
  have b913 := b911.trans (b1113.mono b911.size)
  have r0 := (b913.cell (p := ⟨w8.heap.size, 0, none⟩) l9).trans o0
  have r1 := (b913.cell (p := ⟨w8.heap.size, 1, none⟩) l9).trans o1
  have s0 := (b1113.cell (p := ⟨w10.heap.size, 0, none⟩) l11).trans p0
  have s1 := (b1113.cell (p := ⟨w10.heap.size, 1, none⟩) l11).trans p1
  go_wp2_with (fail)
  have hget := Ut.get_bt s
  clear b1 b2 b3 b4 b5 b6 b7 b8 b9 b10 b11 b12 b13 B2 B3 B4 B5 B6 B7 B8 B9 B10 B11 B12 o0 o1 p0 p1 r0 r1 s0 s1 hw9 hw11 b910 b911 b913 b1113 l9 l11 L1 L2 F1 F2 hd1 hd2 hdd
  by_cases z0 : at' < 0
  · have u0 : decide (at' < 0) = true := decide_eq_true z0
    have u1 : decide (0 ≤ at') = false := decide_eq_false (by omega)
    refine (byte_out q s at' _ (H.out.below B13) (.inl z0)).mono ?_
    rintro e w14 ⟨rfl, b14⟩
    have B14 := B13.trans (b14.mono B13.size)
    clear z0
    by_cases x0 : a < 0
    · have y0 : decide (a < 0) = true := decide_eq_true x0
      go_wp2_with (fail)
      refine (rslice_out q s a c _ (H.out.below B14) (.inl x0)).mono ?_
      rintro e w15 ⟨rfl, b15⟩
      go_wp2_with (fail)
      go_ret
      exact ⟨rfl, B14.trans (b15.mono B14.size)⟩
    · have y0 : decide (a < 0) = false := decide_eq_false x0
      by_cases x1 : (s.size : Int) < c
      · have y1 : decide ((s.size : Int) < c) = true := decide_eq_true x1
        go_wp2_with (fail)
        refine (rslice_out q s a c _ (H.out.below B14) (.inr (.inl x1))).mono ?_
        rintro e w15 ⟨rfl, b15⟩
        go_wp2_with (fail)
        go_ret
        exact ⟨rfl, B14.trans (b15.mono B14.size)⟩
      · have y1 : decide ((s.size : Int) < c) = false := decide_eq_false x1
        by_cases x2 : c < a
        · have y2 : decide (c < a) = true := decide_eq_true x2
          go_wp2_with (fail)
          refine (rslice_out q s a c _ (H.out.below B14) (.inr (.inr x2))).mono ?_
          rintro e w15 ⟨rfl, b15⟩
          go_wp2_with (fail)
          go_ret
          exact ⟨rfl, B14.trans (b15.mono B14.size)⟩
        · have y2 : decide (c < a) = false := decide_eq_false x2
          obtain ⟨a, rfl⟩ := Int.eq_ofNat_of_zero_le (show 0 ≤ a by omega)
          obtain ⟨c, rfl⟩ := Int.eq_ofNat_of_zero_le (show 0 ≤ c by omega)
          have y1' : decide (s.size < c) = false := decide_eq_false (by omega)
          have y2' : decide (c < a) = false := decide_eq_false (by omega)
          have hsl : ∀ W, (Instr.slice 9 (.string s) (some (.int .i64 a)) (some (.int .i64 c)) none).run Tryd.prog W = .ok (.string (s.extract a c)) W := fun W => run_slice_string (P := Tryd.prog) W 9 s .i64 .i64 a c Tryd.underlying9 (by omega) (by omega) (by omega)
          have ha2 : a ≤ c := by omega
          have hc2 : c ≤ s.size := by omega
          obtain ⟨sl, hsl2⟩ : ∃ sl, s.extract a c = sl := ⟨_, rfl⟩
          have HSL := Lib.hid (rslice_in q s a c _ (H.out.below B14) hc2 ha2)
          rw [hsl2] at hsl HSL
          clear hsl2 x0 x1 x2
          go_wp2_with (fail)
          refine HSL.out.mono ?_
          rintro e w15 ⟨rfl, b15⟩
          go_wp2_with (fail)
          go_ret
          exact ⟨rfl, B14.trans (b15.mono B14.size)⟩
  · have u0 : decide (at' < 0) = false := decide_eq_false z0
    have u1 : decide (0 ≤ at') = true := decide_eq_true (by omega)
    by_cases z1 : at' < (s.size : Int)
    · obtain ⟨i, rfl⟩ := Int.eq_ofNat_of_zero_le (show 0 ≤ at' by omega)
      have u2 : decide ((i : Int) < (s.size : Int)) = true := decide_eq_true z1
      have u3 : decide ((s.size : Int) ≤ (i : Int)) = false := decide_eq_false (by omega)
      have hi : i < s.size := by omega
      have u2' : decide (i < s.size) = true := decide_eq_true hi
      have u3' : decide (s.size ≤ i) = false := decide_eq_false (by omega)
      refine (byte_in q s i _ (H.out.below B13) hi).mono ?_
      rintro e w14 ⟨rfl, b14⟩
      have B14 := B13.trans (b14.mono B13.size)
      clear z0 z1
      by_cases x0 : a < 0
      · have y0 : decide (a < 0) = true := decide_eq_true x0
        go_wp2_with (fail)
        refine (rslice_out q s a c _ (H.out.below B14) (.inl x0)).mono ?_
        rintro e w15 ⟨rfl, b15⟩
        go_wp2_with (fail)
        go_ret
        exact ⟨rfl, B14.trans (b15.mono B14.size)⟩
      · have y0 : decide (a < 0) = false := decide_eq_false x0
        by_cases x1 : (s.size : Int) < c
        · have y1 : decide ((s.size : Int) < c) = true := decide_eq_true x1
          go_wp2_with (fail)
          refine (rslice_out q s a c _ (H.out.below B14) (.inr (.inl x1))).mono ?_
          rintro e w15 ⟨rfl, b15⟩
          go_wp2_with (fail)
          go_ret
          exact ⟨rfl, B14.trans (b15.mono B14.size)⟩
        · have y1 : decide ((s.size : Int) < c) = false := decide_eq_false x1
          by_cases x2 : c < a
          · have y2 : decide (c < a) = true := decide_eq_true x2
            go_wp2_with (fail)
            refine (rslice_out q s a c _ (H.out.below B14) (.inr (.inr x2))).mono ?_
            rintro e w15 ⟨rfl, b15⟩
            go_wp2_with (fail)
            go_ret
            exact ⟨rfl, B14.trans (b15.mono B14.size)⟩
          · have y2 : decide (c < a) = false := decide_eq_false x2
            obtain ⟨a, rfl⟩ := Int.eq_ofNat_of_zero_le (show 0 ≤ a by omega)
            obtain ⟨c, rfl⟩ := Int.eq_ofNat_of_zero_le (show 0 ≤ c by omega)
            have y1' : decide (s.size < c) = false := decide_eq_false (by omega)
            have y2' : decide (c < a) = false := decide_eq_false (by omega)
            have hsl : ∀ W, (Instr.slice 9 (.string s) (some (.int .i64 a)) (some (.int .i64 c)) none).run Tryd.prog W = .ok (.string (s.extract a c)) W := fun W => run_slice_string (P := Tryd.prog) W 9 s .i64 .i64 a c Tryd.underlying9 (by omega) (by omega) (by omega)
            have ha2 : a ≤ c := by omega
            have hc2 : c ≤ s.size := by omega
            obtain ⟨sl, hsl2⟩ : ∃ sl, s.extract a c = sl := ⟨_, rfl⟩
            have HSL := Lib.hid (rslice_in q s a c _ (H.out.below B14) hc2 ha2)
            rw [hsl2] at hsl HSL
            clear hsl2 x0 x1 x2
            go_wp2_with (fail)
            refine HSL.out.mono ?_
            rintro e w15 ⟨rfl, b15⟩
            go_wp2_with (fail)
            go_ret
            exact ⟨rfl, B14.trans (b15.mono B14.size)⟩
    · have u2 : decide (at' < (s.size : Int)) = false := decide_eq_false z1
      have u3 : decide ((s.size : Int) ≤ at') = true := decide_eq_true (by omega)
      refine (byte_out q s at' _ (H.out.below B13) (.inr (by omega))).mono ?_
      rintro e w14 ⟨rfl, b14⟩
      have B14 := B13.trans (b14.mono B13.size)
      clear z0 z1
      by_cases x0 : a < 0
      · have y0 : decide (a < 0) = true := decide_eq_true x0
        go_wp2_with (fail)
        refine (rslice_out q s a c _ (H.out.below B14) (.inl x0)).mono ?_
        rintro e w15 ⟨rfl, b15⟩
        go_wp2_with (fail)
        go_ret
        exact ⟨rfl, B14.trans (b15.mono B14.size)⟩
      · have y0 : decide (a < 0) = false := decide_eq_false x0
        by_cases x1 : (s.size : Int) < c
        · have y1 : decide ((s.size : Int) < c) = true := decide_eq_true x1
          go_wp2_with (fail)
          refine (rslice_out q s a c _ (H.out.below B14) (.inr (.inl x1))).mono ?_
          rintro e w15 ⟨rfl, b15⟩
          go_wp2_with (fail)
          go_ret
          exact ⟨rfl, B14.trans (b15.mono B14.size)⟩
        · have y1 : decide ((s.size : Int) < c) = false := decide_eq_false x1
          by_cases x2 : c < a
          · have y2 : decide (c < a) = true := decide_eq_true x2
            go_wp2_with (fail)
            refine (rslice_out q s a c _ (H.out.below B14) (.inr (.inr x2))).mono ?_
            rintro e w15 ⟨rfl, b15⟩
            go_wp2_with (fail)
            go_ret
            exact ⟨rfl, B14.trans (b15.mono B14.size)⟩
          · have y2 : decide (c < a) = false := decide_eq_false x2
            obtain ⟨a, rfl⟩ := Int.eq_ofNat_of_zero_le (show 0 ≤ a by omega)
            obtain ⟨c, rfl⟩ := Int.eq_ofNat_of_zero_le (show 0 ≤ c by omega)
            have y1' : decide (s.size < c) = false := decide_eq_false (by omega)
            have y2' : decide (c < a) = false := decide_eq_false (by omega)
            have hsl : ∀ W, (Instr.slice 9 (.string s) (some (.int .i64 a)) (some (.int .i64 c)) none).run Tryd.prog W = .ok (.string (s.extract a c)) W := fun W => run_slice_string (P := Tryd.prog) W 9 s .i64 .i64 a c Tryd.underlying9 (by omega) (by omega) (by omega)
            have ha2 : a ≤ c := by omega
            have hc2 : c ≤ s.size := by omega
            obtain ⟨sl, hsl2⟩ : ∃ sl, s.extract a c = sl := ⟨_, rfl⟩
            have HSL := Lib.hid (rslice_in q s a c _ (H.out.below B14) hc2 ha2)
            rw [hsl2] at hsl HSL
            clear hsl2 x0 x1 x2
            go_wp2_with (fail)
            refine HSL.out.mono ?_
            rintro e w15 ⟨rfl, b15⟩
            go_wp2_with (fail)
            go_ret
            exact ⟨rfl, B14.trans (b15.mono B14.size)⟩
end Go.Proofs.YtejipknbhiokeaaDoor

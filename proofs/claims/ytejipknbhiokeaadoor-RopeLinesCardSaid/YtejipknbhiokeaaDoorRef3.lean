/-
  CONTRACTS of the third reference: Of, line, Offset.
-/
import Derived.Test.YtejipknbhiokeaaDoorRef2d
namespace Go.Proofs.YtejipknbhiokeaaDoor
open Go.RowKit Rp

theorem ref3of_out (s : ByteArray) (i : Int) (w : World) (hi : i < 0 ∨ (s.size : Int) < i) : Calls Tryd.prog 47 #[.string s, .int .i64 i] w (Gives (.tuple #[.int .i64 0, .int .i64 0, .int .i64 5]) w) := by
  by_cases h0 : i < 0
  · have hd : decide (i < 0) = true := by simpa using h0
    go_enter Tryd.func47, Tryd.ntmps47
    go_wp2_with (fail)
    refine bodyPost_ret (results_tmp3 rfl _ _ _) rfl ?_
    exact ⟨rfl, Below.refl _ _⟩
  · have hd : decide (i < 0) = false := by simpa using h0
    have hd2 : decide ((s.size : Int) < i) = true := by simp; omega
    go_enter Tryd.func47, Tryd.ntmps47
    go_wp2_with (fail)
    refine bodyPost_ret (results_tmp3 rfl _ _ _) rfl ?_
    exact ⟨rfl, Below.refl _ _⟩

set_option maxRecDepth 100000 in
theorem ref3of_in (s : ByteArray) (i : Nat) (w : World) (hs : s.size ≤ 1048576) (hi : i ≤ s.size) :
    Calls Tryd.prog 47 #[.string s, .int .i64 i] w (Gives (.tuple #[.int .i64 (Rp.lf (s.extract 0 i)), .int .i64 ((i : Int) - (bh s (Rp.lf (s.extract 0 i)) : Int)), .int .i64 0]) w) := by
  have hd : decide ((i : Int) < 0) = false := by simp
  have hd2 : decide ((s.size : Int) < (i : Int)) = false := by simp; omega
  have hd2' : decide (s.size < i) = false := by simp; omega
  rw [lf_take]
  go_enter Tryd.func47, Tryd.ntmps47
  go_wp2_with (fail)
  go_loopw [7, 8, 9] (fun vn vf vj wr => ∃ j n : Nat, vj = .int .i64 j ∧ vn = .int .i64 n ∧ vf = .int .i64 (bh s n) ∧ j ≤ i ∧ n ≤ j ∧ n = (s.data.toList.take j).count 10 ∧ wr = w) (fun _ _ vj _ => i - (intOf vj).toNat)
  case atStart => exact ⟨0, 0, rfl, rfl, by rw [bh_zero]; rfl, Nat.zero_le _, Nat.le_refl _, rfl, rfl⟩
  case round =>
    obtain ⟨j, n, rfl, rfl, rfl, hj, hnj, hE, rfl⟩ := hrel
    have HE := Lib.hid hE
    clear hE
    have hbn := bh_le s n
    by_cases hlt : j < i
    · have hjs : j < s.size := by omega
      have hlt1 : decide ((j : Int) < (i : Int)) = true := by simp; omega
      have hlt2 : decide (j < i) = true := by simp; omega
      have hc := Lib.hid (count_take_succ s hjs)
      have hget := Ut.get_bt s
      by_cases hb : Ut.bt s j = 10
      · have hba := bh_at hjs hb
        rw [← HE.out] at hba
        have HBA := Lib.hid hba
        clear hba
        go_wp2_with (fail)
        go_roundw
        case rel =>
          refine ⟨j + 1, n + 1, by go_num, by go_num, by rw [HBA.out]; go_num, by omega, by omega, ?_, trivial⟩
          rw [hc.out, if_pos hb, HE.out]
        case measure => simp [intOf]; omega
      · go_wp2_with (fail)
        go_roundw
        case rel =>
          refine ⟨j + 1, n, by go_num, rfl, rfl, by omega, by omega, ?_, trivial⟩
          rw [hc.out, if_neg hb, HE.out]; rfl
        case measure => simp [intOf]; omega
    · obtain rfl : j = i := by omega
      have hlt1 : decide ((j : Int) < (j : Int)) = false := by simp
      have hw0 : IntKind.i64.wrap ((j : Int) - (bh s n : Int)) = (j : Int) - (bh s n : Int) := w64 (by omega) (by omega)
      go_wp2_with (fail)
      refine bodyPost_ret (results_tmp3 rfl _ _ _) rfl ?_
      refine ⟨?_, Below.refl _ _⟩
      rw [← HE.out]
      rfl

theorem ref3line_out (s : ByteArray) (k : Int) (w : World) (hs : s.size ≤ 1048576) (hk : k < 0 ∨ (Rp.lf s : Int) < k) : Calls Tryd.prog 70 #[.string s, .int .i64 k] w (Gives (.tuple #[.int .i64 0, .int .i64 0, .bool false]) w) := by
  have HL := Lib.hid (fun W => refline_out s k W hs hk)
  clear hk
  go_enter Tryd.func70, Tryd.ntmps70
  go_wp2_with (fail)
  refine (HL.out _).mono ?_
  rintro e w1 ⟨rfl, b1⟩
  have B : Below w.heap.size w (w1.alloc (.cells #[.int .i64 0, .int .i64 0] 45)) := b1.alloc b1.size _
  go_wp2_with (fail)
  refine bodyPost_ret (results_tmp3 rfl _ _ _) rfl ?_
  exact ⟨rfl, B⟩

set_option maxRecDepth 100000 in
theorem ref3line_in (s : ByteArray) (k : Nat) (w : World) (hs : s.size ≤ 1048576) (hk : k ≤ Rp.lf s) :
    Calls Tryd.prog 70 #[.string s, .int .i64 k] w (Gives (.tuple #[.int .i64 (bh s k), .int .i64 ((bh s k : Int) + ((cut (lnB s k)).size : Int)), .bool true]) w) := by
  obtain ⟨hb1, hb2⟩ := bh_lnTo (s := s) (k := k)
  have HL := Lib.hid (fun W => refline_in s k W hs hk)
  have hz : (lnB s k).size = lnTo s k - bh s k := by unfold lnB; rw [ByteArray.size_extract]; omega
  clear hk
  go_enter Tryd.func70, Tryd.ntmps70
  go_wp2_with (fail)
  refine (HL.out _).mono ?_
  rintro e w1 ⟨rfl, b1⟩
  obtain ⟨w2, hw2, b2, o0, o1, l2⟩ := range_new w1 (bh s k) (lnTo s k)
  have B2 := b1.trans (b2.mono b1.size)
  by_cases h0 : bh s k < lnTo s k
  · have hd : decide ((bh s k : Int) < (lnTo s k : Int)) = true := decide_eq_true (by omega)
    have hd' : decide (bh s k < lnTo s k) = true := decide_eq_true h0
    have hw0 : IntKind.i64.wrap ((lnTo s k : Int) - 1) = ((lnTo s k - 1 : Nat) : Int) := (w64 (by omega) (by omega)).trans (by omega)
    have hlt : lnTo s k - 1 < s.size := by omega
    have hix : ∀ W, (Instr.index 9 (.string s) (.int .i64 ((lnTo s k - 1 : Nat) : Int))).run Tryd.prog W = .ok (.int .u8 (Ut.bt s (lnTo s k - 1))) W := by
      intro W
      rw [run_index_string W 9 s .i64 ((lnTo s k - 1 : Nat) : Int) Tryd.underlying9, dif_pos (by omega), Ut.bt_at s hlt]
      rfl
    have hbt : Ut.bt (lnB s k) ((lnB s k).size - 1) = Ut.bt s (lnTo s k - 1) := by
      unfold lnB
      rw [Ut.bt_extract s _ _ _ hb2 (by rw [ByteArray.size_extract]; omega), ByteArray.size_extract]
      congr 1; omega
    by_cases h1 : Ut.bt s (lnTo s k - 1) = 10
    · have hc : (cut (lnB s k)).size = lnTo s k - 1 - bh s k := by
        unfold cut; rw [if_pos ⟨by omega, by rw [hbt]; exact h1⟩, ByteArray.size_extract]; omega
      have HC := Lib.hid hc
      clear hc hz hbt
      go_wp2_with (fail)
      go_quiet (fail)
      go_wp2_with (fail)
      refine bodyPost_ret (results_tmp3 rfl _ _ _) rfl ?_
      refine ⟨?_, below_drewN B2 _⟩
      rw [HC.out, show ((bh s k : Int) + ((lnTo s k - 1 - bh s k : Nat) : Int)) = ((lnTo s k - 1 : Nat) : Int) by omega]
      rfl
    · have hc : (cut (lnB s k)).size = lnTo s k - bh s k := by
        unfold cut; rw [if_neg (fun h => h1 (by rw [← hbt]; exact h.2)), hz]
      have HC := Lib.hid hc
      clear hc hz hbt
      go_wp2_with (fail)
      go_quiet (fail)
      go_wp2_with (fail)
      refine bodyPost_ret (results_tmp3 rfl _ _ _) rfl ?_
      refine ⟨?_, below_drewN B2 _⟩
      rw [HC.out, show ((bh s k : Int) + ((lnTo s k - bh s k : Nat) : Int)) = (lnTo s k : Int) by omega]
      rfl
  · have hd : decide ((bh s k : Int) < (lnTo s k : Int)) = false := decide_eq_false (by omega)
    have hd' : decide (bh s k < lnTo s k) = false := decide_eq_false h0
    have hc : (cut (lnB s k)).size = lnTo s k - bh s k := by
      unfold cut; rw [if_neg (by omega), hz]
    have HC := Lib.hid hc
    clear hc hz
    go_wp2_with (fail)
    go_quiet (fail)
    go_wp2_with (fail)
    refine bodyPost_ret (results_tmp3 rfl _ _ _) rfl ?_
    refine ⟨?_, below_drewN B2 _⟩
    rw [HC.out, show ((bh s k : Int) + ((lnTo s k - bh s k : Nat) : Int)) = (lnTo s k : Int) by omega]
    rfl
end Go.Proofs.YtejipknbhiokeaaDoor

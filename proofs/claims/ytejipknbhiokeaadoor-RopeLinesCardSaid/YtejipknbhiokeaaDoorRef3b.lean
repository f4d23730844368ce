/-
  CONTRACTS of the third reference: Offset, Char, CharOffset.
-/
import Derived.Test.YtejipknbhiokeaaDoorRef3
namespace Go.Proofs.YtejipknbhiokeaaDoor
open Go.RowKit Rp

theorem lnB_le (s : ByteArray) (k : Nat) : (lnB s k).size ≤ s.size := by unfold lnB; rw [ByteArray.size_extract]; omega
/-- The line without its LF, as bytes of the text. -/
theorem cut_ext (s : ByteArray) (k : Nat) : s.extract (bh s k) (bh s k + (cut (lnB s k)).size) = cut (lnB s k) := by
  obtain ⟨hb1, hb2⟩ := bh_lnTo (s := s) (k := k)
  have hz : (lnB s k).size = lnTo s k - bh s k := by unfold lnB; rw [ByteArray.size_extract]; omega
  unfold cut
  split
  · rename_i h
    rw [ByteArray.size_extract]
    unfold lnB at hz ⊢
    rw [ByteArray.extract_extract]
    congr 1 <;> omega
  · rw [hz]
    unfold lnB
    congr 1; omega

theorem ref3off_out (s : ByteArray) (k col : Int) (w : World) (hs : s.size ≤ 1048576) (hk : k < 0 ∨ (Rp.lf s : Int) < k) : Calls Tryd.prog 48 #[.string s, .int .i64 k, .int .i64 col] w (Gives (.tuple #[.int .i64 0, .int .i64 5]) w) := by
  have HL := Lib.hid (fun W => ref3line_out s k W hs hk)
  clear hk
  go_enter Tryd.func48, Tryd.ntmps48
  go_wp2_with (fail)
  refine (HL.out _).mono ?_
  rintro e w1 ⟨rfl, b1⟩
  go_wp2_with (fail)
  go_ret2
  exact ⟨rfl, b1⟩

set_option maxRecDepth 100000 in
theorem ref3off_bad (s : ByteArray) (k : Nat) (col : Int) (w : World) (hs : s.size ≤ 1048576) (hk : k ≤ Rp.lf s) (hc : ¬ (0 ≤ col ∧ col ≤ (cut (lnB s k)).size)) : Calls Tryd.prog 48 #[.string s, .int .i64 k, .int .i64 col] w (Gives (.tuple #[.int .i64 0, .int .i64 5]) w) := by
  have hb := bh_le s k
  have hz := cut_le (lnB s k)
  have hz2 := lnB_le s k
  have HL := Lib.hid (fun W => ref3line_in s k W hs hk)
  obtain ⟨m, hm⟩ : ∃ m, (cut (lnB s k)).size = m := ⟨_, rfl⟩
  rw [hm] at HL hz hc
  have hw0 : IntKind.i64.wrap (((bh s k : Int) + (m : Int)) - (bh s k : Int)) = (m : Int) := (w64 (by omega) (by omega)).trans (by omega)
  by_cases h0 : col < 0
  · have hd : decide (col < 0) = true := decide_eq_true h0
    clear hc hk
    go_enter Tryd.func48, Tryd.ntmps48
    go_wp2_with (fail)
    refine (HL.out _).mono ?_
    rintro e w1 ⟨rfl, b1⟩
    go_wp2_with (fail)
    go_ret2
    exact ⟨rfl, b1⟩
  · have hd : decide (col < 0) = false := decide_eq_false h0
    have hd2 : decide ((m : Int) < col) = true := decide_eq_true (by omega)
    clear hc hk
    go_enter Tryd.func48, Tryd.ntmps48
    go_wp2_with (fail)
    refine (HL.out _).mono ?_
    rintro e w1 ⟨rfl, b1⟩
    go_wp2_with (fail)
    go_ret2
    exact ⟨rfl, b1⟩

set_option maxRecDepth 100000 in
theorem ref3off_in (s : ByteArray) (k n : Nat) (w : World) (hs : s.size ≤ 1048576) (hk : k ≤ Rp.lf s) (hc : n ≤ (cut (lnB s k)).size) :
    Calls Tryd.prog 48 #[.string s, .int .i64 k, .int .i64 n] w (Gives (.tuple #[.int .i64 ((bh s k : Int) + (n : Int)), .int .i64 0]) w) := by
  have hb := bh_le s k
  have hz := cut_le (lnB s k)
  have hz2 := lnB_le s k
  have HL := Lib.hid (fun W => ref3line_in s k W hs hk)
  obtain ⟨m, hm⟩ : ∃ m, (cut (lnB s k)).size = m := ⟨_, rfl⟩
  rw [hm] at HL hz hc
  have hw0 : IntKind.i64.wrap (((bh s k : Int) + (m : Int)) - (bh s k : Int)) = (m : Int) := (w64 (by omega) (by omega)).trans (by omega)
  have hd : decide ((n : Int) < 0) = false := by simp
  have hd2 : decide ((m : Int) < (n : Int)) = false := decide_eq_false (by omega)
  have hd2' : decide (m < n) = false := decide_eq_false (by omega)
  clear hk
  go_enter Tryd.func48, Tryd.ntmps48
  go_wp2_with (fail)
  refine (HL.out _).mono ?_
  rintro e w1 ⟨rfl, b1⟩
  go_wp2_with (fail)
  go_ret2
  exact ⟨rfl, b1⟩

theorem ref3char_out (s : ByteArray) (i : Int) (w : World) (hi : i < 0 ∨ (s.size : Int) < i) : Calls Tryd.prog 50 #[.string s, .int .i64 i] w (Gives (.tuple #[.int .i64 0, .int .i64 5]) w) := by
  have HL := Lib.hid (fun W => ref3of_out s i W hi)
  clear hi
  go_enter Tryd.func50, Tryd.ntmps50
  go_wp2_with (fail)
  refine (HL.out _).mono ?_
  rintro e w1 ⟨rfl, b1⟩
  go_wp2_with (fail)
  go_ret2
  exact ⟨rfl, b1⟩

set_option maxRecDepth 100000 in
set_option maxHeartbeats 1000000 in
theorem ref3char_in (s : ByteArray) (i : Nat) (w : World) (hs : s.size ≤ 1048576) (hi : i ≤ s.size) :
    Calls Tryd.prog 50 #[.string s, .int .i64 i] w (Gives (.tuple #[.int .i64 (chn (lnB s (Rp.lf (s.extract 0 i))) (i - bh s (Rp.lf (s.extract 0 i))) 0), .int .i64 0]) w) := by
  have hl := fun W => ref3of_in s i W hs hi
  obtain ⟨hlf, hg1, hg2⟩ := in_line hi
  obtain ⟨k, hk⟩ : ∃ k, Rp.lf (s.extract 0 i) = k := ⟨_, rfl⟩
  rw [hk] at hl hlf hg1 hg2 ⊢
  obtain ⟨hb1, hb2⟩ := bh_lnTo (s := s) (k := k)
  have hln := fun W => refline_in s k W hs hlf
  have hz : (lnB s k).size = lnTo s k - bh s k := by unfold lnB; rw [ByteArray.size_extract]; omega
  have hsl : ∀ W, (Instr.slice 9 (.string s) (some (.int .i64 (bh s k))) (some (.int .i64 (lnTo s k))) none).run Tryd.prog W = .ok (.string (lnB s k)) W := fun W =>
    run_slice_string (P := Tryd.prog) W 9 s .i64 .i64 (bh s k) (lnTo s k) Tryd.underlying9 (by omega) (by omega) (by omega)
  obtain ⟨t, ht⟩ : ∃ t, lnB s k = t := ⟨_, rfl⟩
  rw [ht] at hz hsl ⊢
  have HL := Lib.hid hl
  have HN := Lib.hid hln
  clear hl hln hk hlf ht
  have hsub : IntKind.i64.wrap ((i : Int) - (bh s k : Int)) = ((i - bh s k : Nat) : Int) := (w64 (by omega) (by omega)).trans (by omega)
  obtain ⟨lim, hlim⟩ : ∃ lim, i - bh s k = lim := ⟨_, rfl⟩
  rw [hlim] at hsub ⊢
  have hlt : lim ≤ t.size := by omega
  have htz : t.size ≤ 1048576 := by omega
  go_enter Tryd.func50, Tryd.ntmps50
  go_wp2_with (fail)
  refine (HL.out _).mono ?_
  rintro e w1 ⟨rfl, b1⟩
  go_wp2_with (fail)
  refine (HN.out _).mono ?_
  rintro e w2 ⟨rfl, b2⟩
  have B2 := b1.trans (b2.mono b1.size)
  obtain ⟨w3, hw3, b3, o0, o1, l3⟩ := range_new w2 (bh s k) (lnTo s k)
  have B3 := B2.trans (b3.mono B2.size)
  clear hz hg1 hg2 hb1 hb2 hlim
  go_wp2_with (fail)
  go_loopw [12, 13] (fun vn va wr => ∃ n a : Nat, vn = .int .i64 n ∧ va = .int .i64 a ∧ a ≤ t.size ∧ n + chn t lim a = chn t lim 0 ∧ Below w3.heap.size w3 wr) (fun _ va _ => t.size - (intOf va).toNat)
  case atStart => exact ⟨0, 0, rfl, rfl, Nat.zero_le _, by omega, Below.refl _ _⟩
  case round =>
    obtain ⟨n, a, rfl, rfl, ha, hE, hB⟩ := hrel
    have r0 := (hB.cell (p := ⟨w2.heap.size, 0, none⟩) l3).trans o0
    have B5 := B3.trans (hB.mono B3.size)
    have hnb := chn_le t lim t.size 0 (by omega)
    by_cases h1 : a < lim
    · have hd : decide ((a : Int) < (lim : Int)) = true := by simp; omega
      have hd' : decide (a < lim) = true := by simp; omega
      have h2 : a < t.size := by omega
      have hl := reflen_any t a wr (by unfold maxLen; omega)
      have e1 : Ut.Ln t a = (Ut.rn t a : Int) := by unfold Ut.Ln; rw [if_pos (by omega)]; simp
      rw [e1] at hl
      have hrn := Ut.rn_bd h2
      rw [chn_in h1 h2] at hE
      have HE := Lib.hid hE
      have hnn : n ≤ 1048576 := by omega
      have HLL := Lib.hid hl
      clear hl hE hnb hw3
      go_wp2_with (fail)
      refine (HLL.out).mono ?_
      rintro e w6 ⟨rfl, b6⟩
      go_wp2_with (fail)
      go_roundw
      case rel =>
        refine ⟨n + 1, a + Ut.rn t a, by go_num, by go_num, by omega, ?_, hB.trans (b6.mono hB.size)⟩
        have := HE.out
        omega
      case measure => simp [intOf]; omega
    · have hd : decide ((a : Int) < (lim : Int)) = false := by simp; omega
      have hd' : decide (a < lim) = false := by simp; omega
      rw [chn_end (by omega)] at hE
      have HE := Lib.hid hE
      clear hE hnb hw3
      go_wp2_with (fail)
      go_ret2
      refine ⟨?_, B5⟩
      rw [← HE.out]
      rfl

theorem ref3ch_out (s : ByteArray) (k col : Int) (w : World) (hs : s.size ≤ 1048576) (hk : k < 0 ∨ (Rp.lf s : Int) < k) : Calls Tryd.prog 52 #[.string s, .int .i64 k, .int .i64 col] w (Gives (.tuple #[.int .i64 0, .int .i64 5]) w) := by
  have HL := Lib.hid (fun W => ref3line_out s k W hs hk)
  clear hk
  go_enter Tryd.func52, Tryd.ntmps52
  go_wp2_with (fail)
  refine (HL.out _).mono ?_
  rintro e w1 ⟨rfl, b1⟩
  go_wp2_with (fail)
  go_ret2
  exact ⟨rfl, b1⟩

theorem ref3ch_neg (s : ByteArray) (k : Nat) (col : Int) (w : World) (hs : s.size ≤ 1048576) (hk : k ≤ Rp.lf s) (hc : col < 0) : Calls Tryd.prog 52 #[.string s, .int .i64 k, .int .i64 col] w (Gives (.tuple #[.int .i64 0, .int .i64 5]) w) := by
  have HL := Lib.hid (fun W => ref3line_in s k W hs hk)
  have hd : decide (col < 0) = true := decide_eq_true hc
  clear hk hc
  go_enter Tryd.func52, Tryd.ntmps52
  go_wp2_with (fail)
  refine (HL.out _).mono ?_
  rintro e w1 ⟨rfl, b1⟩
  go_wp2_with (fail)
  go_ret2
  exact ⟨rfl, b1⟩

set_option maxRecDepth 100000 in
set_option maxHeartbeats 1000000 in
theorem ref3ch_any (s : ByteArray) (k n : Nat) (w : World) (hs : s.size ≤ 1048576) (hk : k ≤ Rp.lf s) (hn : n ≤ 9223372036854775807) :
    Calls Tryd.prog 52 #[.string s, .int .i64 k, .int .i64 n] w fun e w' => (chOff (cut (lnB s k)) n 0 = none → e = .returned (.tuple #[.int .i64 0, .int .i64 5])) ∧ (∀ a, chOff (cut (lnB s k)) n 0 = some a → e = .returned (.tuple #[.int .i64 ((bh s k : Int) + (a : Int)), .int .i64 0])) ∧ Below w.heap.size w w' := by
  have hb := bh_le s k
  have hz := cut_le (lnB s k)
  have hz2 := lnB_le s k
  have hce := cut_ext s k
  have HL := Lib.hid (fun W => ref3line_in s k W hs hk)
  have hbz : bh s k + (cut (lnB s k)).size ≤ s.size := by
    obtain ⟨hb1, hb2⟩ := bh_lnTo (s := s) (k := k)
    have : (lnB s k).size = lnTo s k - bh s k := by unfold lnB; rw [ByteArray.size_extract]; omega
    omega
  have hsl : ∀ W, (Instr.slice 9 (.string s) (some (.int .i64 (bh s k))) (some (.int .i64 ((bh s k : Int) + ((cut (lnB s k)).size : Int)))) none).run Tryd.prog W = .ok (.string (cut (lnB s k))) W := fun W => by
    have := run_slice_string (P := Tryd.prog) W 9 s .i64 .i64 (bh s k) ((bh s k : Int) + ((cut (lnB s k)).size : Int)) Tryd.underlying9 (by omega) (by omega) (by omega)
    rw [Int.toNat_natCast, show ((bh s k : Int) + ((cut (lnB s k)).size : Int)).toNat = bh s k + (cut (lnB s k)).size by omega, hce] at this
    exact this
  obtain ⟨t, ht⟩ : ∃ t, cut (lnB s k) = t := ⟨_, rfl⟩
  rw [ht] at HL hsl hz hbz ⊢
  have htz : t.size ≤ 1048576 := by omega
  have hd : decide ((n : Int) < 0) = false := by simp
  clear hk hce ht hz hz2
  go_enter Tryd.func52, Tryd.ntmps52
  go_wp2_with (fail)
  refine (HL.out _).mono ?_
  rintro e w1 ⟨rfl, b1⟩
  go_wp2_with (fail)
  go_loopw [12, 13] (fun va vi wr => ∃ i a : Nat, va = .int .i64 a ∧ vi = .int .i64 i ∧ i ≤ n ∧ a ≤ t.size ∧ chOff t (n - i) a = chOff t n 0 ∧ Below w.heap.size w wr) (fun _ vi _ => n - (intOf vi).toNat)
  case atStart => exact ⟨0, 0, rfl, rfl, Nat.zero_le _, Nat.zero_le _, rfl, b1⟩
  case round =>
    obtain ⟨i, a, rfl, rfl, hi, ha, hE, hB⟩ := hrel
    have HE := Lib.hid hE
    clear hE
    by_cases h1 : i < n
    · have hd1 : decide ((i : Int) < (n : Int)) = true := by simp; omega
      have hd1' : decide (i < n) = true := by simp; omega
      have hl := reflen_any t a wr (by unfold maxLen; omega)
      by_cases h2 : a < t.size
      · have e1 : Ut.Ln t a = (Ut.rn t a : Int) := by unfold Ut.Ln; rw [if_pos (by omega)]; simp
        rw [e1] at hl
        have hrn := Ut.rn_bd h2
        have hne : ((Ut.rn t a : Int) == 0) = false := by simp; omega
        have hne' : (Ut.rn t a == 0) = false := by simp; omega
        have HLL := Lib.hid hl
        clear hl
        go_wp2_with (fail)
        refine (HLL.out).mono ?_
        rintro e w2 ⟨rfl, b2⟩
        go_wp2_with (fail)
        go_roundw
        case rel =>
          refine ⟨i + 1, a + Ut.rn t a, by go_num, by go_num, by omega, by omega, ?_, hB.trans (b2.mono hB.size)⟩
          rw [← HE.out, show n - i = (n - (i + 1)) + 1 by omega, chOff, if_pos h2]
        case measure => simp [intOf]; omega
      · have e1 : Ut.Ln t a = 0 := by unfold Ut.Ln; rw [if_neg (by omega)]
        rw [e1] at hl
        have HLL := Lib.hid hl
        clear hl
        have hno : chOff t n 0 = none := by rw [← HE.out, show n - i = (n - (i + 1)) + 1 by omega, chOff, if_neg h2]
        have HNO := Lib.hid hno
        clear hno
        go_wp2_with (fail)
        refine (HLL.out).mono ?_
        rintro e w2 ⟨rfl, b2⟩
        go_wp2_with (fail)
        go_ret2
        exact ⟨fun _ => rfl, fun a h => (by rw [HNO.out] at h; cases h), hB.trans (b2.mono hB.size)⟩
    · obtain rfl : i = n := by omega
      have hd1 : decide ((i : Int) < (i : Int)) = false := by simp
      have hso : chOff t i 0 = some a := by rw [← HE.out, Nat.sub_self]; rfl
      have HSO := Lib.hid hso
      clear hso
      go_wp2_with (fail)
      go_ret2
      refine ⟨fun h => (by rw [HSO.out] at h; cases h), fun a' h => ?_, hB⟩
      rw [HSO.out] at h
      obtain rfl := Option.some.inj h
      rfl
end Go.Proofs.YtejipknbhiokeaaDoor

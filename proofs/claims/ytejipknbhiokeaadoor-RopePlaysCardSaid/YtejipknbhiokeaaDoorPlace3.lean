/-
  CONTRACTS of package place, on: CharOffset, Char; indenturelaw03.wakes.
-/
import Derived.Test.YtejipknbhiokeaaDoorPlace2
namespace Go.Proofs.YtejipknbhiokeaaDoor
open Go.RowKit Rp

theorem chOff_le (t : ByteArray) : ∀ n i a, i ≤ t.size → chOff t n i = some a → a ≤ t.size := by
  intro n
  induction n with
  | zero => intro i a hi h; simp only [chOff, Option.some.injEq] at h; omega
  | succ n ih =>
    intro i a hi h
    rw [chOff] at h
    split at h
    · rename_i hlt
      have := Ut.rn_bd hlt
      exact ih _ _ (by omega) h
    · cases h

theorem pcho_nil (k col : Int) (w : World) : Calls Tryd.prog 51 #[.pointer none, .int .i64 k, .int .i64 col] w (Gives (.tuple #[.int .i64 0, .int .i64 8]) w) := by
  obtain ⟨w1, hw1, B1, c0, l1⟩ := box1 w col
  go_enter Tryd.func51, Tryd.ntmps51
  go_wp2_with (fail)
  refine (pwalk_nil k _ _).mono ?_
  rintro e w2 ⟨rfl, b2⟩
  go_wp2_with (fail)
  go_ret2
  exact ⟨rfl, B1.trans (b2.mono B1.size)⟩

theorem pcho_out (q : Option Addr) (s : ByteArray) (k col : Int) (w : World) (h : IsR w q s) (hk : k < 0 ∨ (Rp.lf s : Int) < k) : Calls Tryd.prog 51 #[.pointer q, .int .i64 k, .int .i64 col] w (Gives (.tuple #[.int .i64 0, .int .i64 5]) w) := by
  obtain ⟨w1, hw1, B1, c0, l1⟩ := box1 w col
  have HL := Lib.hid (fun f => pwalk_out q s k f w1 (h.below B1) hk)
  clear hk
  go_enter Tryd.func51, Tryd.ntmps51
  go_wp2_with (fail)
  refine (HL.out _).mono ?_
  rintro e w2 ⟨rfl, b2⟩
  go_wp2_with (fail)
  go_ret2
  exact ⟨rfl, B1.trans (b2.mono B1.size)⟩

theorem cut_le (t : ByteArray) : (cut t).size ≤ t.size := by
  unfold cut
  split
  · rw [ByteArray.size_extract]; omega
  · exact Nat.le_refl _
theorem cutB_le {w : World} {q : Option Addr} {s : ByteArray} (h : IsR w q s) (k : Nat) : (cut (lnB s k)).size ≤ 1048576 := by
  have h1 := cut_le (lnB s k)
  have h2 : (lnB s k).size ≤ s.size := by unfold lnB; rw [ByteArray.size_extract]; omega
  have := h.size
  omega

theorem pcho_bad (q : Option Addr) (s : ByteArray) (k : Nat) (n : Int) (w : World) (h : IsR w q s) (hk : k ≤ Rp.lf s) (hn : n ≤ 9223372036854775807) (hw : Rows w)
    (hc : n < 0 ∨ chOff (cut (lnB s k)) n.toNat 0 = none) : Calls Tryd.prog 51 #[.pointer q, .int .i64 k, .int .i64 n] w (Gives (.tuple #[.int .i64 0, .int .i64 5]) w) := by
  obtain ⟨w1, hw1, B1, c0, l1⟩ := box1 w n
  have hf : ∀ W, Below w1.heap.size w1 W → Calls Tryd.prog 72 #[.string (cut (lnB s k)), .pointer (some ⟨w.heap.size, 0, none⟩)] W fun e W' => ∃ a : Int, e = .returned (.tuple #[.int .i64 a, .bool false]) ∧ Below W.heap.size W W' := fun W hW => by
    have hcell := (hW.cell (p := ⟨w.heap.size, 0, none⟩) l1).trans c0
    have hwW := hw.below (B1.trans (hW.mono B1.size)) hw.size
    by_cases h0 : n < 0
    · exact (ch_neg (cut (lnB s k)) w.heap.size n W hcell h0).mono fun _ _ ⟨he, hb⟩ => ⟨_, he, hb⟩
    · obtain ⟨m, rfl⟩ := Int.eq_ofNat_of_zero_le (show 0 ≤ n by omega)
      have hno : chOff (cut (lnB s k)) m 0 = none := by simpa using hc.resolve_left h0
      have := ch_any (cut (lnB s k)) w.heap.size m W hcell (by omega) (cutB_le h k) hwW
      rw [hno] at this
      exact this.mono fun _ _ ⟨he, hb⟩ => ⟨_, he, hb⟩
  have HL := Lib.hid (pwalk_none q s k 72 (enters_of Tryd.func72 (by kernel_rfl) rfl) w.heap.size w1 (h.below B1) hk hf)
  clear hk hf hc
  go_enter Tryd.func51, Tryd.ntmps51
  go_wp2_with (fail)
  refine (HL.out).mono ?_
  rintro e w2 ⟨rfl, b2⟩
  go_wp2_with (fail)
  go_ret2
  exact ⟨rfl, B1.trans (b2.mono B1.size)⟩

theorem pcho_in (q : Option Addr) (s : ByteArray) (k n a : Nat) (w : World) (h : IsR w q s) (hk : k ≤ Rp.lf s) (hn : n ≤ 9223372036854775807) (hw : Rows w)
    (hc : chOff (cut (lnB s k)) n 0 = some a) : Calls Tryd.prog 51 #[.pointer q, .int .i64 k, .int .i64 n] w (Gives (.tuple #[.int .i64 ((bh s k : Int) + (a : Int)), .int .i64 0]) w) := by
  obtain ⟨w1, hw1, B1, c0, l1⟩ := box1 w n
  have ha := chOff_le _ _ _ _ (Nat.zero_le _) hc
  have hcb := cutB_le h k
  have hf : ∀ W, Below w1.heap.size w1 W → Calls Tryd.prog 72 #[.string (cut (lnB s k)), .pointer (some ⟨w.heap.size, 0, none⟩)] W fun e W' => e = .returned (.tuple #[.int .i64 a, .bool true]) ∧ Below W.heap.size W W' := fun W hW => by
    have hcell := (hW.cell (p := ⟨w.heap.size, 0, none⟩) l1).trans c0
    have hwW := hw.below (B1.trans (hW.mono B1.size)) hw.size
    have := ch_any (cut (lnB s k)) w.heap.size n W hcell hn hcb hwW
    rw [hc] at this
    exact this
  have HL := Lib.hid (pwalk_some q s k 72 (enters_of Tryd.func72 (by kernel_rfl) rfl) w.heap.size a w1 (h.below B1) hk (by omega) hf)
  clear hk hf hc
  go_enter Tryd.func51, Tryd.ntmps51
  go_wp2_with (fail)
  refine (HL.out).mono ?_
  rintro e w2 ⟨rfl, b2⟩
  go_wp2_with (fail)
  go_ret2
  exact ⟨rfl, B1.trans (b2.mono B1.size)⟩

/-! Char -/
/-- How many steps to place lim. -/
def chn (t : ByteArray) (lim i : Nat) : Nat := if _h : i < lim ∧ i < t.size then chn t lim (i + Ut.rn t i) + 1 else 0
termination_by t.size - i
decreasing_by have := Ut.rn_bd _h.2; omega
theorem chn_in {t : ByteArray} {lim i : Nat} (h : i < lim) (h2 : i < t.size) : chn t lim i = chn t lim (i + Ut.rn t i) + 1 := by rw [chn, dif_pos ⟨h, h2⟩]
theorem chn_end {t : ByteArray} {lim i : Nat} (h : lim ≤ i) : chn t lim i = 0 := by rw [chn, dif_neg (by omega)]
theorem chn_le (t : ByteArray) (lim : Nat) : ∀ m i, t.size - i ≤ m → chn t lim i ≤ t.size - i := by
  intro m
  induction m with
  | zero => intro i h; rw [chn, dif_neg (by omega)]; omega
  | succ m ih =>
    intro i h
    by_cases hc : i < lim ∧ i < t.size
    · rw [chn_in hc.1 hc.2]
      have := Ut.rn_bd hc.2
      have := ih (i + Ut.rn t i) (by omega)
      omega
    · rw [chn, dif_neg hc]; omega

theorem pchar_nil (i : Int) (w : World) : Calls Tryd.prog 49 #[.pointer none, .int .i64 i] w (Gives (.tuple #[.int .i64 0, .int .i64 8]) w) := by
  go_enter Tryd.func49, Tryd.ntmps49
  go_wp2_with (fail)
  refine (find_nil i _).mono ?_
  rintro e w2 ⟨rfl, b2⟩
  go_wp2_with (fail)
  go_ret2
  exact ⟨rfl, b2⟩

theorem pchar_out (q : Option Addr) (s : ByteArray) (i : Int) (w : World) (h : IsR w q s) (hi : i < 0 ∨ (s.size : Int) < i) : Calls Tryd.prog 49 #[.pointer q, .int .i64 i] w (Gives (.tuple #[.int .i64 0, .int .i64 5]) w) := by
  have HL := Lib.hid (find_out q s i w h hi)
  clear hi
  go_enter Tryd.func49, Tryd.ntmps49
  go_wp2_with (fail)
  refine (HL.out).mono ?_
  rintro e w2 ⟨rfl, b2⟩
  go_wp2_with (fail)
  go_ret2
  exact ⟨rfl, b2⟩

set_option maxRecDepth 100000 in
set_option maxHeartbeats 1000000 in
theorem pchar_in (q : Option Addr) (s : ByteArray) (i : Nat) (w : World) (h : IsR w q s) (hi : i ≤ s.size) (hw : Rows w) :
    Calls Tryd.prog 49 #[.pointer q, .int .i64 i] w (Gives (.tuple #[.int .i64 (chn (lnB s (Rp.lf (s.extract 0 i))) (i - bh s (Rp.lf (s.extract 0 i))) 0), .int .i64 0]) w) := by
  have hl := find_in q s i w h hi
  have hs := h.size
  obtain ⟨hlf, hg1, hg2⟩ := in_line hi
  obtain ⟨k, hk⟩ : ∃ k, Rp.lf (s.extract 0 i) = k := ⟨_, rfl⟩
  rw [hk] at hl hlf hg1 hg2 ⊢
  obtain ⟨hb1, hb2⟩ := bh_lnTo (s := s) (k := k)
  have hln : ∀ W, Below w.heap.size w W → Calls Tryd.prog 35 #[.pointer q, .int .i64 k] W (Gives (.tuple #[.agg #[.int .i64 (bh s k), .int .i64 (lnTo s k)], .int .i64 0]) W) := fun W hW => line_in q s k W (h.below hW) hlf
  have hsl : ∀ W, Below w.heap.size w W → Calls Tryd.prog 33 #[.pointer q, .int .i64 (bh s k), .int .i64 (lnTo s k)] W (Gives (.tuple #[.string (lnB s k), .int .i64 0]) W) := fun W hW => rslice_in q s _ _ W (h.below hW) hb2 hb1
  have hz : (lnB s k).size = lnTo s k - bh s k := by unfold lnB; rw [ByteArray.size_extract]; omega
  obtain ⟨t, ht⟩ : ∃ t, lnB s k = t := ⟨_, rfl⟩
  rw [ht] at hsl hz ⊢
  have HL := Lib.hid hl
  have HN := Lib.hid hln
  have HS := Lib.hid hsl
  clear hl hln hsl hk hlf ht
  have hsub : IntKind.i64.wrap ((i : Int) - (bh s k : Int)) = ((i - bh s k : Nat) : Int) := (w64 (by omega) (by omega)).trans (by omega)
  obtain ⟨lim, hlim⟩ : ∃ lim, i - bh s k = lim := ⟨_, rfl⟩
  rw [hlim] at hsub ⊢
  have hlt : lim ≤ t.size := by omega
  have htz : t.size ≤ 1048576 := by omega
  go_enter Tryd.func49, Tryd.ntmps49
  go_wp2_with (fail)
  refine (HL.out).mono ?_
  rintro e w1 ⟨rfl, b1⟩
  go_wp2_with (fail)
  refine (HN.out _ b1).mono ?_
  rintro e w2 ⟨rfl, b2⟩
  have B2 := b1.trans (b2.mono b1.size)
  obtain ⟨w3, hw3, b3, o0, o1, l3⟩ := range_new w2 (bh s k) (lnTo s k)
  have B3 := B2.trans (b3.mono B2.size)
  go_wp2_with (fail)
  refine (HS.out _ B3).mono ?_
  rintro e w4 ⟨rfl, b4⟩
  have B4 := B3.trans (b4.mono B3.size)
  have p0 := (b4.cell (p := ⟨w2.heap.size, 0, none⟩) l3).trans o0
  have l4 := World.block_lt_of_cell? w4 _ p0
  clear hz hg1 hg2 hb1 hb2 hlim
  go_wp2_with (fail)
  go_loopw [12, 13] (fun vn va wr => ∃ n a : Nat, vn = .int .i64 n ∧ va = .int .i64 a ∧ a ≤ t.size ∧ n + chn t lim a = chn t lim 0 ∧ Below w4.heap.size w4 wr) (fun _ va _ => t.size - (intOf va).toNat)
  case atStart => exact ⟨0, 0, rfl, rfl, Nat.zero_le _, by omega, Below.refl _ _⟩
  case round =>
    obtain ⟨n, a, rfl, rfl, ha, hE, hB⟩ := hrel
    have r0 := (hB.cell (p := ⟨w2.heap.size, 0, none⟩) l4).trans p0
    have B5 := B4.trans (hB.mono B4.size)
    have hwr := hw.below B5 hw.size
    have hnb := chn_le t lim t.size 0 (by omega)
    by_cases h1 : a < lim
    · have hd : decide ((a : Int) < (lim : Int)) = true := by simp; omega
      have hd' : decide (a < lim) = true := by simp; omega
      have h2 : a < t.size := by omega
      have hl := len_any t a wr (by unfold maxLen; omega) hwr
      have e1 : Ut.Ln t a = (Ut.rn t a : Int) := by unfold Ut.Ln; rw [if_pos (by omega)]; simp
      rw [e1] at hl
      have hrn := Ut.rn_bd h2
      rw [chn_in h1 h2] at hE
      have HE := Lib.hid hE
      have hnn : n ≤ 1048576 := by omega
      have HLL := Lib.hid hl
      clear hl hE hnb
      go_wp2_with (fail)
      refine (HLL.out).mono ?_
      rintro e w6 ⟨rfl, b6⟩
      go_wp2_with (fail)
      go_roundw
      case rel =>
        refine ⟨n + 1, a + Ut.rn t a, by go_num, by go_num, by omega, ?_, hB.trans (b6.mono hB.size)⟩
        have := HE.out
        omega
      case measure => simp [intOf]; omega
    · have hd : decide ((a : Int) < (lim : Int)) = false := by simp; omega
      have hd' : decide (a < lim) = false := by simp; omega
      rw [chn_end (by omega)] at hE
      have HE := Lib.hid hE
      clear hE hnb
      go_wp2_with (fail)
      go_ret2
      refine ⟨?_, B5⟩
      rw [← HE.out]
      rfl
end Go.Proofs.YtejipknbhiokeaaDoor

/-
  CONTRACTS of package place, on: Offset, CharOffset, Char.
-/
import Derived.Test.YtejipknbhiokeaaDoorPlace
namespace Go.Proofs.YtejipknbhiokeaaDoor
open Go.RowKit Rp

theorem lf_take (s : ByteArray) (i : Nat) : Rp.lf (s.extract 0 i) = (s.data.toList.take i).count 10 := by
  unfold Rp.lf
  simp [ByteArray.data_extract]
theorem bhL_take (l : List UInt8) : ∀ i, bhL l ((l.take i).count 10) ≤ i := by
  induction l with
  | nil => intro i; simp [bhL]
  | cons c l ih =>
    intro i
    cases i with
    | zero => simp [bhL_zero]
    | succ i =>
      rw [List.take_succ_cons, List.count_cons]
      have := ih i
      by_cases hc : c = 10
      · subst hc
        simp only [beq_self_eq_true, if_true, bhL]
        omega
      · simp only [beq_iff_eq, hc, if_false, Nat.add_zero]
        cases hm : (l.take i).count 10 with
        | zero => rw [bhL_zero]; omega
        | succ m => rw [hm] at this; simp only [bhL, hc, if_false]; omega
theorem count_take_mono (l : List UInt8) {i j : Nat} (h : i ≤ j) : (l.take i).count 10 ≤ (l.take j).count 10 := by
  have : l.take i = (l.take j).take i := by rw [List.take_take, Nat.min_eq_left h]
  rw [this]
  exact (List.take_sublist _ _).count_le _
/-- A place lies in its line. -/
theorem in_line {s : ByteArray} {i : Nat} (hi : i ≤ s.size) : Rp.lf (s.extract 0 i) ≤ Rp.lf s ∧ bh s (Rp.lf (s.extract 0 i)) ≤ i ∧ i ≤ lnTo s (Rp.lf (s.extract 0 i)) := by
  have h1 : Rp.lf (s.extract 0 i) ≤ Rp.lf s := by
    rw [lf_take]; unfold Rp.lf
    exact (List.take_sublist _ _).count_le _
  refine ⟨h1, ?_, ?_⟩
  · rw [lf_take]; exact bhL_take _ _
  · unfold lnTo
    split
    · rename_i h
      rcases Nat.lt_or_ge i (bh s (Rp.lf (s.extract 0 i) + 1)) with h2 | h2
      · omega
      · exfalso
        have h3 := count_take_mono s.data.toList h2
        have h4 := bhL_count s.data.toList (Rp.lf (s.extract 0 i) + 1) h
        unfold bh at h3
        rw [h4, ← lf_take] at h3
        omega
    · exact hi

/-! Offset -/
theorem off_cl (t : ByteArray) (b : Nat) (col : Int) (W : World) (hc : W.cell? ⟨b, 0, none⟩ = some (.int .i64 col)) :
    Calls Tryd.prog 69 #[.string t, .pointer (some ⟨b, 0, none⟩)] W (Gives (.tuple #[.int .i64 col, .bool (decide (0 ≤ col ∧ col ≤ t.size))]) W) := by
  by_cases h0 : 0 ≤ col
  · have hd : decide (0 ≤ col) = true := by simpa using h0
    by_cases h1 : col ≤ t.size
    · have hd1 : decide (col ≤ (t.size : Int)) = true := by simpa using h1
      have hr : decide (0 ≤ col ∧ col ≤ t.size) = true := by simp; omega
      rw [hr]
      go_enter Tryd.func69, Tryd.ntmps69
      go_wp2_with (fail)
      go_quiet (fail)
      go_wp2_with (fail)
      go_ret2
      exact ⟨rfl, below_drewN (Below.refl _ _) _⟩
    · have hd1 : decide (col ≤ (t.size : Int)) = false := by simpa using h1
      have hr : decide (0 ≤ col ∧ col ≤ t.size) = false := by simp; omega
      rw [hr]
      go_enter Tryd.func69, Tryd.ntmps69
      go_wp2_with (fail)
      go_quiet (fail)
      go_wp2_with (fail)
      go_ret2
      exact ⟨rfl, below_drewN (Below.refl _ _) _⟩
  · have hd : decide (0 ≤ col) = false := by simpa using h0
    have hr : decide (0 ≤ col ∧ col ≤ t.size) = false := by simp; omega
    rw [hr]
    go_enter Tryd.func69, Tryd.ntmps69
    go_wp2_with (fail)
    go_quiet (fail)
    go_wp2_with (fail)
    go_ret2
    exact ⟨rfl, below_drewN (Below.refl _ _) _⟩

theorem box1 (w : World) (n : Int) : ∃ w', w.alloc (.cells #[.int .i64 n] 3) = w' ∧ Below w.heap.size w w' ∧ w'.cell? ⟨w.heap.size, 0, none⟩ = some (.int .i64 n) ∧ w.heap.size < w'.heap.size :=
  ⟨_, rfl, (Below.refl _ _).alloc (Nat.le_refl _) _, by simp [go_sem], by simp⟩

theorem poff_nil (k col : Int) (w : World) : Calls Tryd.prog 46 #[.pointer none, .int .i64 k, .int .i64 col] w (Gives (.tuple #[.int .i64 0, .int .i64 8]) w) := by
  obtain ⟨w1, hw1, B1, c0, l1⟩ := box1 w col
  go_enter Tryd.func46, Tryd.ntmps46
  go_wp2_with (fail)
  refine (pwalk_nil k _ _).mono ?_
  rintro e w2 ⟨rfl, b2⟩
  go_wp2_with (fail)
  go_ret2
  exact ⟨rfl, B1.trans (b2.mono B1.size)⟩

theorem poff_out (q : Option Addr) (s : ByteArray) (k col : Int) (w : World) (h : IsR w q s) (hk : k < 0 ∨ (Rp.lf s : Int) < k) : Calls Tryd.prog 46 #[.pointer q, .int .i64 k, .int .i64 col] w (Gives (.tuple #[.int .i64 0, .int .i64 5]) w) := by
  obtain ⟨w1, hw1, B1, c0, l1⟩ := box1 w col
  have HL := Lib.hid (fun f => pwalk_out q s k f w1 (h.below B1) hk)
  clear hk
  go_enter Tryd.func46, Tryd.ntmps46
  go_wp2_with (fail)
  refine (HL.out _).mono ?_
  rintro e w2 ⟨rfl, b2⟩
  go_wp2_with (fail)
  go_ret2
  exact ⟨rfl, B1.trans (b2.mono B1.size)⟩

theorem poff_bad (q : Option Addr) (s : ByteArray) (k : Nat) (col : Int) (w : World) (h : IsR w q s) (hk : k ≤ Rp.lf s) (hc : ¬ (0 ≤ col ∧ col ≤ (cut (lnB s k)).size)) : Calls Tryd.prog 46 #[.pointer q, .int .i64 k, .int .i64 col] w (Gives (.tuple #[.int .i64 0, .int .i64 5]) w) := by
  obtain ⟨w1, hw1, B1, c0, l1⟩ := box1 w col
  have hf : ∀ W, Below w1.heap.size w1 W → Calls Tryd.prog 69 #[.string (cut (lnB s k)), .pointer (some ⟨w.heap.size, 0, none⟩)] W fun e W' => ∃ a : Int, e = .returned (.tuple #[.int .i64 a, .bool false]) ∧ Below W.heap.size W W' := fun W hW => by
    have := off_cl (cut (lnB s k)) w.heap.size col W ((hW.cell (p := ⟨w.heap.size, 0, none⟩) l1).trans c0)
    rw [decide_eq_false hc] at this
    exact this.mono fun _ _ ⟨he, hb⟩ => ⟨_, he, hb⟩
  have HL := Lib.hid (pwalk_none q s k 69 (enters_of Tryd.func69 (by kernel_rfl) rfl) w.heap.size w1 (h.below B1) hk hf)
  clear hk hf hc
  go_enter Tryd.func46, Tryd.ntmps46
  go_wp2_with (fail)
  refine (HL.out).mono ?_
  rintro e w2 ⟨rfl, b2⟩
  go_wp2_with (fail)
  go_ret2
  exact ⟨rfl, B1.trans (b2.mono B1.size)⟩

theorem poff_in (q : Option Addr) (s : ByteArray) (k n : Nat) (w : World) (h : IsR w q s) (hk : k ≤ Rp.lf s) (hc : n ≤ (cut (lnB s k)).size) (hn : n ≤ 1099511627776) :
    Calls Tryd.prog 46 #[.pointer q, .int .i64 k, .int .i64 n] w (Gives (.tuple #[.int .i64 ((bh s k : Int) + (n : Int)), .int .i64 0]) w) := by
  obtain ⟨w1, hw1, B1, c0, l1⟩ := box1 w n
  have hf : ∀ W, Below w1.heap.size w1 W → Calls Tryd.prog 69 #[.string (cut (lnB s k)), .pointer (some ⟨w.heap.size, 0, none⟩)] W fun e W' => e = .returned (.tuple #[.int .i64 n, .bool true]) ∧ Below W.heap.size W W' := fun W hW => by
    have := off_cl (cut (lnB s k)) w.heap.size n W ((hW.cell (p := ⟨w.heap.size, 0, none⟩) l1).trans c0)
    rwa [decide_eq_true (by omega)] at this
  have HL := Lib.hid (pwalk_some q s k 69 (enters_of Tryd.func69 (by kernel_rfl) rfl) w.heap.size n w1 (h.below B1) hk hn hf)
  clear hk hf hc
  go_enter Tryd.func46, Tryd.ntmps46
  go_wp2_with (fail)
  refine (HL.out).mono ?_
  rintro e w2 ⟨rfl, b2⟩
  go_wp2_with (fail)
  go_ret2
  exact ⟨rfl, B1.trans (b2.mono B1.size)⟩

/-! CharOffset -/
/-- Behind so many steps. -/
def chOff (t : ByteArray) : Nat → Nat → Option Nat
  | 0, i => some i
  | n + 1, i => if i < t.size then chOff t n (i + Ut.rn t i) else none

theorem ch_neg (t : ByteArray) (b : Nat) (char : Int) (W : World) (hc : W.cell? ⟨b, 0, none⟩ = some (.int .i64 char)) (h0 : char < 0) :
    Calls Tryd.prog 72 #[.string t, .pointer (some ⟨b, 0, none⟩)] W (Gives (.tuple #[.int .i64 0, .bool false]) W) := by
  have hd : decide (0 < char) = false := by simp; omega
  have hd1 : decide (0 ≤ char) = false := by simp; omega
  go_enter Tryd.func72, Tryd.ntmps72
  go_wp2_with (fail)
  go_loopw [5, 6] (fun va vi wr => va = .int .i64 0 ∧ vi = .int .i64 0 ∧ wr = W) (fun _ _ _ => 0)
  case atStart => exact ⟨rfl, rfl, rfl⟩
  case round =>
    obtain ⟨rfl, rfl, rfl⟩ := hrel
    go_wp2_with (fail)
    go_quiet (fail)
    go_wp2_with (fail)
    go_ret2
    exact ⟨rfl, below_drewN (Below.refl _ _) _⟩

set_option maxRecDepth 100000 in
theorem ch_any (t : ByteArray) (b : Nat) (n : Nat) (W : World) (hc : W.cell? ⟨b, 0, none⟩ = some (.int .i64 n)) (hn : n ≤ 9223372036854775807) (ht : t.size ≤ 1048576) (hw : Rows W) :
    Calls Tryd.prog 72 #[.string t, .pointer (some ⟨b, 0, none⟩)] W fun e W' => e = .returned (.tuple #[.int .i64 (((chOff t n 0).getD 0 : Nat) : Int), .bool (chOff t n 0).isSome]) ∧ Below W.heap.size W W' := by
  have hbl := World.block_lt_of_cell? W _ hc
  go_enter Tryd.func72, Tryd.ntmps72
  go_wp2_with (fail)
  go_loopw [5, 6] (fun va vi wr => ∃ i a : Nat, va = .int .i64 a ∧ vi = .int .i64 i ∧ i ≤ n ∧ a ≤ t.size ∧ chOff t (n - i) a = chOff t n 0 ∧ Below W.heap.size W wr) (fun _ vi _ => n - (intOf vi).toNat)
  case atStart => exact ⟨0, 0, rfl, rfl, Nat.zero_le _, Nat.zero_le _, rfl, Below.refl _ _⟩
  case round =>
    obtain ⟨i, a, rfl, rfl, hi, ha, hE, hB⟩ := hrel
    have hc' := (hB.cell (p := ⟨b, 0, none⟩) hbl).trans hc
    have hwr := hw.below hB hw.size
    have HE := Lib.hid hE
    clear hE
    have hda : decide ((a : Int) ≤ (t.size : Int)) = true := by simp; omega
    have hda' : decide (a ≤ t.size) = true := by simp; omega
    by_cases h1 : i < n
    · have hd : decide ((i : Int) < (n : Int)) = true := by simp; omega
      have hd' : decide (i < n) = true := by simp; omega
      have hl := len_any t a wr (by unfold maxLen; omega) hwr
      by_cases h2 : a < t.size
      · have e1 : Ut.Ln t a = (Ut.rn t a : Int) := by unfold Ut.Ln; rw [if_pos (by omega)]; simp
        rw [e1] at hl
        have hrn := Ut.rn_bd h2
        have hne : ((Ut.rn t a : Int) == 0) = false := by simp; omega
        have hne' : (Ut.rn t a == 0) = false := by simp; omega
        have HL := Lib.hid hl
        clear hl
        go_wp2_with (fail)
        refine (HL.out).mono ?_
        rintro e w2 ⟨rfl, b2⟩
        go_wp2_with (fail)
        go_roundw
        case rel =>
          refine ⟨i + 1, a + Ut.rn t a, by go_num, by go_num, by omega, by omega, ?_, hB.trans (b2.mono hB.size)⟩
          rw [← HE.out, show n - i = (n - (i + 1)) + 1 by omega, chOff, if_pos h2]
        case measure => simp [intOf]; omega
      · have e1 : Ut.Ln t a = 0 := by unfold Ut.Ln; rw [if_neg (by omega)]
        rw [e1] at hl
        have HL := Lib.hid hl
        clear hl
        have hno : chOff t n 0 = none := by rw [← HE.out, show n - i = (n - (i + 1)) + 1 by omega, chOff, if_neg h2]
        go_wp2_with (fail)
        refine (HL.out).mono ?_
        rintro e w2 ⟨rfl, b2⟩
        go_wp2_with (fail)
        go_ret2
        exact ⟨by rw [hno]; rfl, hB.trans (b2.mono hB.size)⟩
    · obtain rfl : i = n := by omega
      have hd : decide ((i : Int) < (i : Int)) = false := by simp
      have hd1 : decide ((0 : Int) ≤ (i : Int)) = true := by simp
      have hso : chOff t i 0 = some a := by rw [← HE.out, Nat.sub_self]; rfl
      go_wp2_with (fail)
      go_quiet (fail)
      go_wp2_with (fail)
      go_ret2
      exact ⟨by rw [hso]; rfl, below_drewN hB _⟩
end Go.Proofs.YtejipknbhiokeaaDoor

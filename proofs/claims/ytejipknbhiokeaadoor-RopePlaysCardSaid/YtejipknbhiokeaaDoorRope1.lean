/-
  CONTRACTS of the ropes' own methods, in terms of the text alone: Of, Len, slice, Text, Byte, Slice, Lines, Depth.
-/
import Derived.Test.YtejipknbhiokeaaDoorSlice
import Derived.Test.YtejipknbhiokeaaDoorUtf3
namespace Go.Proofs.YtejipknbhiokeaaDoor
open Go.RowKit Rp

/-- A rope of the text s lies where q points. -/
def IsR (w : World) (q : Option Addr) (s : ByteArray) : Prop :=
  ∃ x p t, q = some ⟨x, 0, none⟩ ∧ w.cell? ⟨x, 0, none⟩ = some (.pointer p) ∧ IsN w p t ∧ t.Bal ∧ t.text = s ∧ s.size ≤ 1048576

theorem IsR.below {w w' : World} {q : Option Addr} {s : ByteArray} (h : IsR w q s) (hb : Below w.heap.size w w') : IsR w' q s := by
  obtain ⟨x, p, t, hq, hc, hn, hB, ht, hs⟩ := h
  exact ⟨x, p, t, hq, (hb.cell (World.block_lt_of_cell? w _ hc)).trans hc, hn.below hb, hB, ht, hs⟩
theorem IsR.size {w : World} {q : Option Addr} {s : ByteArray} (h : IsR w q s) : s.size ≤ 1048576 := by
  obtain ⟨x, p, t, hq, hc, hn, hB, ht, hs⟩ := h
  exact hs

/-- A value that is a letter has come back. -/
def Gives (v : Value) (w : World) (e : Ending) (w' : World) : Prop := e = .returned v ∧ Below w.heap.size w w'

theorem of_long (s : ByteArray) (w : World) (h : 1048576 < s.size) : Calls Tryd.prog 44 #[.string s] w (Gives (.pointer none) w) := by
  have hd : decide ((1048576 : Int) < (s.size : Int)) = true := by simp; omega
  go_enter Tryd.func44, Tryd.ntmps44
  go_wp2_with (fail)
  go_ret
  exact ⟨rfl, Below.refl _ _⟩

theorem of_short (s : ByteArray) (w : World) (h : s.size ≤ 1048576) : Calls Tryd.prog 44 #[.string s] w fun e w' => ∃ q, e = .returned (.pointer q) ∧ IsR w' q s ∧ Below w.heap.size w w' := by
  have hd : decide ((1048576 : Int) < (s.size : Int)) = false := by simp; omega
  go_enter Tryd.func44, Tryd.ntmps44
  go_wp2_with (go_at_call 63; refine (made_any none none .nil .nil s w rfl rfl trivial trivial (by simp only [T.sz]; omega)).mono ?_; rintro e w1 ⟨p, t, rfl, hn, hb, ht, hB⟩)
  go_ret
  rw [text_nil, ByteArray.empty_append, ByteArray.append_empty] at ht
  have hB2 : Below w1.heap.size w1 (w1.alloc (.cells #[.pointer p] 89)) := (Below.refl _ _).alloc (Nat.le_refl _) _
  exact ⟨_, rfl, ⟨w1.heap.size, p, t, rfl, by simp [go_sem], hn.below hB2, hb, ht, h⟩, hB.trans (hB2.mono hB.size)⟩

theorem rlen_nil (w : World) : Calls Tryd.prog 37 #[.pointer none] w (Gives (.int .i64 0) w) := by
  go_enter Tryd.func37, Tryd.ntmps37
  go_wp2_with (fail)
  go_ret
  exact ⟨rfl, Below.refl _ _⟩

theorem rlen_any (q : Option Addr) (s : ByteArray) (w : World) (h : IsR w q s) : Calls Tryd.prog 37 #[.pointer q] w (Gives (.int .i64 s.size) w) := by
  obtain ⟨x, p, t, rfl, hc, hn, hB, rfl, hs⟩ := h
  cases t with
  | nil =>
    obtain rfl : p = none := hn
    go_enter Tryd.func37, Tryd.ntmps37
    go_wp2_with (fail)
    go_ret
    exact ⟨rfl, Below.refl _ _⟩
  | node l s r =>
    rw [← sz_text] at hs ⊢
    obtain ⟨y, pl, pr, rfl, ⟨c0, -⟩, -, -⟩ := hn
    go_enter Tryd.func37, Tryd.ntmps37
    go_wp2_with (fail)
    go_ret
    exact ⟨rfl, Below.refl _ _⟩

theorem lines_nil (w : World) : Calls Tryd.prog 39 #[.pointer none] w (Gives (.int .i64 0) w) := by
  go_enter Tryd.func39, Tryd.ntmps39
  go_wp2_with (fail)
  go_ret
  exact ⟨rfl, Below.refl _ _⟩

theorem lines_any (q : Option Addr) (s : ByteArray) (w : World) (h : IsR w q s) : Calls Tryd.prog 39 #[.pointer q] w (Gives (.int .i64 ((Rp.lf s : Int) + 1)) w) := by
  obtain ⟨x, p, t, rfl, hc, hn, hB, rfl, hs⟩ := h
  have hle := lf_le t.text
  rw [← lf_text] at hle ⊢
  have hfl : ∀ (w : World) (a b : Int), (Instr.field 95 (.agg #[.int .i64 a, .int .i64 b]) 1).run Tryd.prog w = .ok (.int .i64 b) w := fun _ _ _ => by kernel_rfl
  go_enter Tryd.func39, Tryd.ntmps39
  go_wp2_with (fail)
  refine (all_any p t _ hn).mono ?_
  rintro e w1 ⟨rfl, hb1⟩
  go_wp2_with (fail)
  go_ret
  exact ⟨rfl, hb1⟩

theorem depth_nil (w : World) : Calls Tryd.prog 41 #[.pointer none] w (Gives (.int .i64 0) w) := by
  go_enter Tryd.func41, Tryd.ntmps41
  go_wp2_with (fail)
  go_ret
  exact ⟨rfl, Below.refl _ _⟩

theorem depth_any (q : Option Addr) (s : ByteArray) (w : World) (h : IsR w q s) : Calls Tryd.prog 41 #[.pointer q] w fun e w' => ∃ d : Nat, e = .returned (.int .i64 d) ∧ 2 ^ ((d + 1) / 2) ≤ s.size + 1 ∧ Below w.heap.size w w' := by
  obtain ⟨x, p, t, rfl, hc, hn, hB, rfl, hs⟩ := h
  have hd := deep_sz _ t hB rfl
  rw [sz_text] at hd
  have HD := Lib.hid hd
  clear hd
  go_enter Tryd.func41, Tryd.ntmps41
  go_wp2_with (fail)
  refine (deep_any p t _ hn).mono ?_
  rintro e w1 ⟨rfl, rfl⟩
  go_wp2_with (fail)
  go_ret
  exact ⟨t.d, rfl, HD.out, Below.refl _ _⟩

theorem slice_any (q : Option Addr) (s : ByteArray) (a c : Nat) (w : World) (h : IsR w q s) (hc : c ≤ s.size) : Calls Tryd.prog 59 #[.pointer q, .int .i64 a, .int .i64 c] w (Gives (.string (s.extract a c)) w) := by
  obtain ⟨x, p, t, rfl, hcx, hn, hB, rfl, hs⟩ := h
  obtain ⟨w1, hw1⟩ : ∃ w1, w.alloc (.cells #[.pointer none, .slice none 0 0] 111) = w1 := ⟨_, rfl⟩
  have hB1 : Below w.heap.size w w1 := by rw [← hw1]; exact (Below.refl _ _).alloc (Nat.le_refl _) _
  have hb1 : Bld w.heap.size w.heap.size ByteArray.empty w1 := by rw [← hw1]; exact Lib.fresh_isBuilder 111 5 w
  have ho := over_any w w.heap.size t p a c ByteArray.empty w1 hn hB1 hb1 (by rw [sz_text]; have : ByteArray.empty.size = 0 := rfl; omega) (by omega)
  rw [ByteArray.empty_append] at ho
  have HO := Lib.hid ho
  clear ho
  have hc1 : w1.cell? ⟨x, 0, none⟩ = some (.pointer p) := (hB1.cell (World.block_lt_of_cell? w _ hcx)).trans hcx
  go_enter Tryd.func59, Tryd.ntmps59
  go_wp2_with (fail)
  refine (HO.out).mono ?_
  rintro e w2 ⟨⟨v, rfl⟩, hb2, hB2⟩
  have hst := Tryd.Builder_String_any w.heap.size w.heap.size (t.text.extract a c).data.toList w2 hb2 (Nat.le_trans hB1.size hB2.size)
  rw [show (⟨(t.text.extract a c).data.toList.toArray⟩ : ByteArray) = t.text.extract a c from congrArg ByteArray.mk (Array.toArray_toList ..)] at hst
  have HST := Lib.hid hst
  clear hst
  obtain ⟨str, hstr⟩ : ∃ str, t.text.extract a c = str := ⟨_, rfl⟩
  rw [hstr] at HST
  go_wp2_with (fail)
  refine (HST.out).mono ?_
  rintro e w3 ⟨rfl, hB3⟩
  go_wp2_with (fail)
  go_ret
  refine ⟨?_, (hB1.trans hB2).trans hB3⟩
  rw [hstr]
  rfl

theorem text_rnil (w : World) : Calls Tryd.prog 38 #[.pointer none] w (Gives (.string ByteArray.empty) w) := by
  go_enter Tryd.func38, Tryd.ntmps38
  go_wp2_with (fail)
  go_ret
  exact ⟨rfl, Below.refl _ _⟩

theorem text_any (q : Option Addr) (s : ByteArray) (w : World) (h : IsR w q s) : Calls Tryd.prog 38 #[.pointer q] w (Gives (.string s) w) := by
  have h' := h
  obtain ⟨x, _, _, rfl, -, -, -, -, -⟩ := h'
  go_enter Tryd.func38, Tryd.ntmps38
  go_wp2_with (fail)
  refine (rlen_any _ s _ h).mono ?_
  rintro e w1 ⟨rfl, hb1⟩
  go_wp2_with (fail)
  refine (slice_any _ s 0 s.size _ (h.below hb1) (Nat.le_refl _)).mono ?_
  rintro e w2 ⟨rfl, hb2⟩
  rw [ext_all s (Nat.le_refl _)]
  go_wp2_with (fail)
  go_ret
  exact ⟨rfl, hb1.trans (hb2.mono hb1.size)⟩

theorem byte_nil (i : Int) (w : World) : Calls Tryd.prog 32 #[.pointer none, .int .i64 i] w (Gives (.tuple #[.int .u8 0, .int .i64 8]) w) := by
  go_enter Tryd.func32, Tryd.ntmps32
  go_wp2_with (fail)
  go_ret2
  exact ⟨rfl, Below.refl _ _⟩

theorem byte_out (q : Option Addr) (s : ByteArray) (i : Int) (w : World) (h : IsR w q s) (hi : i < 0 ∨ (s.size : Int) ≤ i) : Calls Tryd.prog 32 #[.pointer q, .int .i64 i] w (Gives (.tuple #[.int .u8 0, .int .i64 5]) w) := by
  have h' := h
  obtain ⟨x, _, _, rfl, -, -, -, -, -⟩ := h'
  by_cases h0 : i < 0
  · have hd : decide (i < 0) = true := by simpa using h0
    go_enter Tryd.func32, Tryd.ntmps32
    go_wp2_with (fail)
    go_ret2
    exact ⟨rfl, Below.refl _ _⟩
  · have hd : decide (i < 0) = false := by simpa using h0
    have hd2 : decide ((s.size : Int) ≤ i) = true := by simp; omega
    go_enter Tryd.func32, Tryd.ntmps32
    go_wp2_with (fail)
    refine (rlen_any _ s _ h).mono ?_
    rintro e w1 ⟨rfl, hb1⟩
    go_wp2_with (fail)
    go_ret2
    exact ⟨rfl, hb1⟩

theorem byte_in (q : Option Addr) (s : ByteArray) (i : Nat) (w : World) (h : IsR w q s) (hi : i < s.size) : Calls Tryd.prog 32 #[.pointer q, .int .i64 i] w (Gives (.tuple #[.int .u8 (Ut.bt s i), .int .i64 0]) w) := by
  have h' := h
  obtain ⟨x, _, _, rfl, -, -, -, -, -⟩ := h'
  have hz := h.size
  have hd : decide ((i : Int) < 0) = false := by simp
  have hd2 : decide ((s.size : Int) ≤ (i : Int)) = false := by simp; omega
  have hd3 : decide (s.size ≤ i) = false := by simp; omega
  have hsz : (s.extract i (i + 1)).size = 1 := by rw [ByteArray.size_extract]; omega
  have hbt : ((s.extract i (i + 1))[0]'(by omega)).toNat = (s[i]).toNat := by rw [ByteArray.getElem_extract]; rfl
  have hix : ∀ W, (Instr.index 9 (.string (s.extract i (i + 1))) (.int .i64 0)).run Tryd.prog W = .ok (.int .u8 (Ut.bt s i)) W := by
    intro W
    rw [run_index_string W 9 _ .i64 0 Tryd.underlying9, dif_pos (by omega), Ut.bt_at s hi, ← hbt]
    rfl
  go_enter Tryd.func32, Tryd.ntmps32
  go_wp2_with (fail)
  refine (rlen_any _ s _ h).mono ?_
  rintro e w1 ⟨rfl, hb1⟩
  go_wp2_with (fail)
  have := (slice_any _ s i (i + 1) _ (h.below hb1) (by omega))
  rw [show ((i + 1 : Nat) : Int) = (i : Int) + 1 by omega] at this
  refine this.mono ?_
  clear this
  rintro e w2 ⟨rfl, hb2⟩
  go_wp2_with (fail)
  go_ret2
  exact ⟨rfl, hb1.trans (hb2.mono hb1.size)⟩

theorem rslice_nil (a c : Int) (w : World) : Calls Tryd.prog 33 #[.pointer none, .int .i64 a, .int .i64 c] w (Gives (.tuple #[.string ByteArray.empty, .int .i64 8]) w) := by
  go_enter Tryd.func33, Tryd.ntmps33
  go_wp2_with (fail)
  go_ret2
  exact ⟨rfl, Below.refl _ _⟩

theorem rslice_out (q : Option Addr) (s : ByteArray) (a c : Int) (w : World) (h : IsR w q s) (hi : a < 0 ∨ (s.size : Int) < c ∨ c < a) : Calls Tryd.prog 33 #[.pointer q, .int .i64 a, .int .i64 c] w (Gives (.tuple #[.string ByteArray.empty, .int .i64 5]) w) := by
  have h' := h
  obtain ⟨x, _, _, rfl, -, -, -, -, -⟩ := h'
  by_cases h0 : a < 0
  · have hd : decide (a < 0) = true := by simpa using h0
    go_enter Tryd.func33, Tryd.ntmps33
    go_wp2_with (fail)
    go_ret2
    exact ⟨rfl, Below.refl _ _⟩
  · have hd : decide (a < 0) = false := by simpa using h0
    by_cases h1 : (s.size : Int) < c
    · have hd2 : decide ((s.size : Int) < c) = true := by simpa using h1
      go_enter Tryd.func33, Tryd.ntmps33
      go_wp2_with (fail)
      refine (rlen_any _ s _ h).mono ?_
      rintro e w1 ⟨rfl, hb1⟩
      go_wp2_with (fail)
      go_ret2
      exact ⟨rfl, hb1⟩
    · have hd2 : decide ((s.size : Int) < c) = false := by simpa using h1
      have hd3 : decide (c < a) = true := by simp; omega
      go_enter Tryd.func33, Tryd.ntmps33
      go_wp2_with (fail)
      refine (rlen_any _ s _ h).mono ?_
      rintro e w1 ⟨rfl, hb1⟩
      go_wp2_with (fail)
      go_ret2
      exact ⟨rfl, hb1⟩

theorem rslice_in (q : Option Addr) (s : ByteArray) (a c : Nat) (w : World) (h : IsR w q s) (h1 : c ≤ s.size) (h2 : a ≤ c) : Calls Tryd.prog 33 #[.pointer q, .int .i64 a, .int .i64 c] w (Gives (.tuple #[.string (s.extract a c), .int .i64 0]) w) := by
  have h' := h
  obtain ⟨x, _, _, rfl, -, -, -, -, -⟩ := h'
  have hd : decide ((a : Int) < 0) = false := by simp
  have hd2 : decide ((s.size : Int) < (c : Int)) = false := by simp; omega
  have hd2' : decide (s.size < c) = false := by simp; omega
  have hd3 : decide ((c : Int) < (a : Int)) = false := by simp; omega
  have hd3' : decide (c < a) = false := by simp; omega
  go_enter Tryd.func33, Tryd.ntmps33
  go_wp2_with (fail)
  refine (rlen_any _ s _ h).mono ?_
  rintro e w1 ⟨rfl, hb1⟩
  go_wp2_with (fail)
  refine (slice_any _ s a c _ (h.below hb1) h1).mono ?_
  rintro e w2 ⟨rfl, hb2⟩
  go_wp2_with (fail)
  go_ret2
  exact ⟨rfl, hb1.trans (hb2.mono hb1.size)⟩

theorem rsteps_nil (w : World) (hw : Rows w) : Calls Tryd.prog 40 #[.pointer none] w (Gives (.int .i64 0) w) := by
  go_enter Tryd.func40, Tryd.ntmps40
  go_wp2_with (fail)
  refine (text_rnil _).mono ?_
  rintro e w1 ⟨rfl, hb1⟩
  go_wp2_with (fail)
  have hc := count_any ByteArray.empty w1 (by decide) (hw.below hb1 hw.size)
  rw [show Ut.cnt ByteArray.empty = 0 from by unfold Ut.cnt; rw [Ut.stp_end (show ByteArray.empty.size ≤ 0 from Nat.le_refl _)]; rfl] at hc
  refine hc.mono ?_
  clear hc
  rintro e w2 ⟨rfl, hb2⟩
  go_wp2_with (fail)
  go_ret
  exact ⟨rfl, hb1.trans (hb2.mono hb1.size)⟩

theorem rsteps_any (q : Option Addr) (s : ByteArray) (w : World) (h : IsR w q s) (hw : Rows w) : Calls Tryd.prog 40 #[.pointer q] w (Gives (.int .i64 (Ut.cnt s)) w) := by
  have h' := h
  obtain ⟨x, _, _, rfl, -, -, -, -, -⟩ := h'
  have hz := h.size
  go_enter Tryd.func40, Tryd.ntmps40
  go_wp2_with (fail)
  refine (text_any _ s _ h).mono ?_
  rintro e w1 ⟨rfl, hb1⟩
  go_wp2_with (fail)
  refine (count_any s _ (by unfold maxLen; omega) (hw.below hb1 hw.size)).mono ?_
  rintro e w2 ⟨rfl, hb2⟩
  go_wp2_with (fail)
  go_ret
  exact ⟨rfl, hb1.trans (hb2.mono hb1.size)⟩
end Go.Proofs.YtejipknbhiokeaaDoor

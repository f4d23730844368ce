/-
  CONTRACTS of package place: Of, line, walk.
-/
import Derived.Test.YtejipknbhiokeaaDoorWakes2
namespace Go.Proofs.YtejipknbhiokeaaDoor
open Go.RowKit Rp

/-- A line's bytes with its LF; without it. -/
def lnB (s : ByteArray) (k : Nat) : ByteArray := s.extract (bh s k) (lnTo s k)
def cut (t : ByteArray) : ByteArray := if 0 < t.size ∧ Ut.bt t (t.size - 1) = 10 then t.extract 0 (t.size - 1) else t

theorem bhL_count (l : List UInt8) : ∀ k, k ≤ l.count 10 → (l.take (bhL l k)).count 10 = k := by
  induction l with
  | nil => intro k h; obtain rfl : k = 0 := by simpa using h
           rfl
  | cons c l ih =>
    intro k h
    cases k with
    | zero => rw [bhL_zero]; rfl
    | succ k =>
      rw [List.count_cons] at h
      simp only [bhL]
      rw [Nat.add_comm 1, List.take_succ_cons, List.count_cons]
      by_cases hc : c = 10
      · subst hc
        simp only [beq_self_eq_true, if_true] at h ⊢
        rw [ih k (by omega)]
      · simp only [beq_iff_eq, hc, if_false] at h ⊢
        rw [ih (k + 1) (by omega)]
theorem bhL_mono (l : List UInt8) : ∀ k j, k ≤ j → j ≤ l.count 10 → bhL l k ≤ bhL l j := by
  induction l with
  | nil => intro k j _ h; obtain rfl : j = 0 := by simpa using h
           obtain rfl : k = 0 := by omega
           exact Nat.le_refl _
  | cons c l ih =>
    intro k j h1 h2
    cases k with
    | zero => rw [bhL_zero]; omega
    | succ k =>
      cases j with
      | zero => omega
      | succ j =>
        rw [List.count_cons] at h2
        simp only [bhL]
        by_cases hc : c = 10
        · subst hc
          simp only [beq_self_eq_true, if_true] at h2 ⊢
          have := ih k j (by omega) (by omega)
          omega
        · simp only [beq_iff_eq, hc, if_false] at h2 ⊢
          have := ih (k + 1) (j + 1) (by omega) (by omega)
          omega
theorem bh_mono {s : ByteArray} {k j : Nat} (h : k ≤ j) (h2 : j ≤ Rp.lf s) : bh s k ≤ bh s j := bhL_mono _ _ _ h h2
theorem bh_lnTo {s : ByteArray} {k : Nat} : bh s k ≤ lnTo s k ∧ lnTo s k ≤ s.size := by
  unfold lnTo
  split
  · exact ⟨bh_mono (Nat.le_succ _) (by omega), bh_le _ _⟩
  · exact ⟨bh_le _ _, Nat.le_refl _⟩

/-- Two numbers of a range, laid anew. -/
theorem range_new (W : World) (a b : Int) : ∃ W', W.alloc (.cells #[.int .i64 a, .int .i64 b] 45) = W' ∧ Below W.heap.size W W' ∧ W'.cell? ⟨W.heap.size, 0, none⟩ = some (.int .i64 a) ∧ W'.cell? ⟨W.heap.size, 1, none⟩ = some (.int .i64 b) ∧ W.heap.size < W'.heap.size :=
  ⟨_, rfl, (Below.refl _ _).alloc (Nat.le_refl _) _, by simp [go_sem], by simp [go_sem], by simp⟩

theorem pline_nil (k : Int) (w : World) : Calls Tryd.prog 87 #[.pointer none, .int .i64 k] w (Gives (.tuple #[.int .i64 0, .string ByteArray.empty, .int .i64 8]) w) := by
  go_enter Tryd.func87, Tryd.ntmps87
  go_wp2_with (fail)
  refine (line_nil k _).mono ?_
  rintro e w1 ⟨rfl, b1⟩
  have B : Below w.heap.size w (w1.alloc (.cells #[.int .i64 0, .int .i64 0] 45)) := b1.alloc b1.size _
  go_wp2_with (fail)
  refine bodyPost_ret (results_tmp3 rfl _ _ _) rfl ?_
  exact ⟨rfl, B⟩

theorem pline_out (q : Option Addr) (s : ByteArray) (k : Int) (w : World) (h : IsR w q s) (hk : k < 0 ∨ (Rp.lf s : Int) < k) : Calls Tryd.prog 87 #[.pointer q, .int .i64 k] w (Gives (.tuple #[.int .i64 0, .string ByteArray.empty, .int .i64 5]) w) := by
  have hl := line_out q s k w h hk
  have HL := Lib.hid hl
  clear hl hk
  go_enter Tryd.func87, Tryd.ntmps87
  go_wp2_with (fail)
  refine (HL.out).mono ?_
  rintro e w1 ⟨rfl, b1⟩
  have B : Below w.heap.size w (w1.alloc (.cells #[.int .i64 0, .int .i64 0] 45)) := b1.alloc b1.size _
  go_wp2_with (fail)
  refine bodyPost_ret (results_tmp3 rfl _ _ _) rfl ?_
  exact ⟨rfl, B⟩

set_option maxRecDepth 100000 in
theorem pline_in (q : Option Addr) (s : ByteArray) (k : Nat) (w : World) (h : IsR w q s) (hk : k ≤ Rp.lf s) : Calls Tryd.prog 87 #[.pointer q, .int .i64 k] w (Gives (.tuple #[.int .i64 (bh s k), .string (cut (lnB s k)), .int .i64 0]) w) := by
  obtain ⟨hb1, hb2⟩ := bh_lnTo (s := s) (k := k)
  have hs := h.size
  have hl := line_in q s k w h hk
  have hsl : ∀ W, Below w.heap.size w W → Calls Tryd.prog 33 #[.pointer q, .int .i64 (bh s k), .int .i64 (lnTo s k)] W (Gives (.tuple #[.string (lnB s k), .int .i64 0]) W) := fun W hW => rslice_in q s _ _ W (h.below hW) hb2 hb1
  have hz : (lnB s k).size ≤ 1048576 := by unfold lnB; rw [ByteArray.size_extract]; omega
  obtain ⟨t, ht⟩ : ∃ t, lnB s k = t := ⟨_, rfl⟩
  rw [ht] at hsl hz ⊢
  have HL := Lib.hid hl
  have HS := Lib.hid hsl
  clear hl hsl hk ht
  go_enter Tryd.func87, Tryd.ntmps87
  go_wp2_with (fail)
  refine (HL.out).mono ?_
  rintro e w1 ⟨rfl, b1⟩
  obtain ⟨w2, hw2, b2, o0, o1, l2⟩ := range_new w1 (bh s k) (lnTo s k)
  have B2 := b1.trans (b2.mono b1.size)
  go_wp2_with (fail)
  refine (HS.out _ B2).mono ?_
  rintro e w3 ⟨rfl, b3⟩
  have B3 := B2.trans (b3.mono B2.size)
  have p0 := (b3.cell (p := ⟨w1.heap.size, 0, none⟩) l2).trans o0
  have hget := Ut.get_bt t
  by_cases h0 : t.size = 0
  · have hd : decide (0 < t.size) = false := decide_eq_false (by omega)
    have hd' : decide ((0 : Int) < (t.size : Int)) = false := decide_eq_false (by omega)
    have hc : cut t = t := by unfold cut; rw [if_neg (by omega)]
    go_wp2_with (fail)
    refine bodyPost_ret (results_tmp3 rfl _ _ _) rfl ?_
    exact ⟨by rw [hc]; rfl, B3⟩
  · have hd : decide (0 < t.size) = true := decide_eq_true (by omega)
    have hd' : decide ((0 : Int) < (t.size : Int)) = true := decide_eq_true (by omega)
    have hw0 : IntKind.i64.wrap ((t.size : Int) - 1) = ((t.size - 1 : Nat) : Int) := (w64 (by omega) (by omega)).trans (by omega)
    have hix : ∀ W, (Instr.index 9 (.string t) (.int .i64 ((t.size - 1 : Nat) : Int))).run Tryd.prog W = .ok (.int .u8 (Ut.bt t (t.size - 1))) W := by
      intro W
      have hlt : t.size - 1 < t.size := by omega
      rw [run_index_string W 9 t .i64 ((t.size - 1 : Nat) : Int) Tryd.underlying9, dif_pos (by omega), Ut.bt_at t hlt]
      rfl
    have hsl2 : ∀ W, (Instr.slice 9 (.string t) none (some (.int .i64 ((t.size - 1 : Nat) : Int))) none).run Tryd.prog W = .ok (.string (t.extract 0 (t.size - 1))) W := by
      intro W
      have := run_slice_string_h (P := Tryd.prog) W 9 t Tryd.underlying9 .i64 ((t.size - 1 : Nat) : Int) (by omega) (by omega)
      simpa using this
    by_cases h1 : Ut.bt t (t.size - 1) = 10
    · have hc : cut t = t.extract 0 (t.size - 1) := by unfold cut; rw [if_pos ⟨by omega, h1⟩]
      go_wp2_with (fail)
      refine bodyPost_ret (results_tmp3 rfl _ _ _) rfl ?_
      exact ⟨by rw [hc]; rfl, B3⟩
    · have hc : cut t = t := by unfold cut; rw [if_neg (fun h => h1 h.2)]
      go_wp2_with (fail)
      refine bodyPost_ret (results_tmp3 rfl _ _ _) rfl ?_
      exact ⟨by rw [hc]; rfl, B3⟩

theorem pof_nil (k : Int) (w : World) : Calls Tryd.prog 45 #[.pointer none, .int .i64 k] w (Gives (.tuple #[.int .i64 0, .int .i64 0, .int .i64 8]) w) := by
  go_enter Tryd.func45, Tryd.ntmps45
  go_wp2_with (fail)
  refine (find_nil k _).mono ?_
  rintro e w1 ⟨rfl, b1⟩
  go_wp2_with (fail)
  refine bodyPost_ret (results_tmp3 rfl _ _ _) rfl ?_
  exact ⟨rfl, b1⟩

theorem pof_out (q : Option Addr) (s : ByteArray) (i : Int) (w : World) (h : IsR w q s) (hi : i < 0 ∨ (s.size : Int) < i) : Calls Tryd.prog 45 #[.pointer q, .int .i64 i] w (Gives (.tuple #[.int .i64 0, .int .i64 0, .int .i64 5]) w) := by
  have hl := find_out q s i w h hi
  have HL := Lib.hid hl
  clear hl hi
  go_enter Tryd.func45, Tryd.ntmps45
  go_wp2_with (fail)
  refine (HL.out).mono ?_
  rintro e w1 ⟨rfl, b1⟩
  go_wp2_with (fail)
  refine bodyPost_ret (results_tmp3 rfl _ _ _) rfl ?_
  exact ⟨rfl, b1⟩

set_option maxRecDepth 100000 in
theorem pof_in (q : Option Addr) (s : ByteArray) (i : Nat) (w : World) (h : IsR w q s) (hi : i ≤ s.size) :
    Calls Tryd.prog 45 #[.pointer q, .int .i64 i] w (Gives (.tuple #[.int .i64 (Rp.lf (s.extract 0 i)), .int .i64 ((i : Int) - (bh s (Rp.lf (s.extract 0 i)) : Int)), .int .i64 0]) w) := by
  have hl := find_in q s i w h hi
  have hs := h.size
  have hlf : Rp.lf (s.extract 0 i) ≤ Rp.lf s := by
    have e : s = s.extract 0 i ++ s.extract i s.size := by
      rw [← ByteArray.extract_eq_extract_append_extract i (by omega) hi]; exact (ext_all s (Nat.le_refl _)).symm
    rw [congrArg Rp.lf e, lf_app]; omega
  obtain ⟨k, hk⟩ : ∃ k, Rp.lf (s.extract 0 i) = k := ⟨_, rfl⟩
  rw [hk] at hl hlf ⊢
  have hb := bh_le s k
  have hln : ∀ W, Below w.heap.size w W → Calls Tryd.prog 35 #[.pointer q, .int .i64 k] W (Gives (.tuple #[.agg #[.int .i64 (bh s k), .int .i64 (lnTo s k)], .int .i64 0]) W) := fun W hW => line_in q s k W (h.below hW) hlf
  have HL := Lib.hid hl
  have HN := Lib.hid hln
  clear hl hln hk hlf
  go_enter Tryd.func45, Tryd.ntmps45
  go_wp2_with (fail)
  refine (HL.out).mono ?_
  rintro e w1 ⟨rfl, b1⟩
  go_wp2_with (fail)
  refine (HN.out _ b1).mono ?_
  rintro e w2 ⟨rfl, b2⟩
  have B2 := b1.trans (b2.mono b1.size)
  obtain ⟨w3, hw3, b3, o0, o1, l3⟩ := range_new w2 (bh s k) (lnTo s k)
  have B3 := B2.trans (b3.mono B2.size)
  have hw0 : IntKind.i64.wrap ((i : Int) - (bh s k : Int)) = (i : Int) - (bh s k : Int) := w64 (by omega) (by omega)
  go_wp2_with (fail)
  go_quiet (fail)
  go_wp2_with (fail)
  refine bodyPost_ret (results_tmp3 rfl _ _ _) rfl ?_
  exact ⟨rfl, below_drewN B3 _⟩

/-! walk, with whatever function. -/
theorem pwalk_nil (k : Int) (f : Value) (w : World) : Calls Tryd.prog 68 #[.pointer none, .int .i64 k, f] w (Gives (.tuple #[.int .i64 0, .int .i64 8]) w) := by
  go_enter Tryd.func68, Tryd.ntmps68
  go_wp2_with (fail)
  refine (pline_nil k _).mono ?_
  rintro e w1 ⟨rfl, b1⟩
  go_wp2_with (fail)
  go_ret2
  exact ⟨rfl, b1⟩

theorem pwalk_out (q : Option Addr) (s : ByteArray) (k : Int) (f : Value) (w : World) (h : IsR w q s) (hk : k < 0 ∨ (Rp.lf s : Int) < k) : Calls Tryd.prog 68 #[.pointer q, .int .i64 k, f] w (Gives (.tuple #[.int .i64 0, .int .i64 5]) w) := by
  have hl := pline_out q s k w h hk
  have HL := Lib.hid hl
  clear hl hk
  go_enter Tryd.func68, Tryd.ntmps68
  go_wp2_with (fail)
  refine (HL.out).mono ?_
  rintro e w1 ⟨rfl, b1⟩
  go_wp2_with (fail)
  go_ret2
  exact ⟨rfl, b1⟩

set_option maxRecDepth 100000 in
theorem pwalk_none (q : Option Addr) (s : ByteArray) (k : Nat) (g : FuncId) (eg : ∀ args w, (callFunc g args).run Tryd.prog w = .ok (.enter g args) w) (b : Nat) (w : World) (h : IsR w q s) (hk : k ≤ Rp.lf s)
    (HF : ∀ W, Below w.heap.size w W → Calls Tryd.prog g #[.string (cut (lnB s k)), .pointer (some ⟨b, 0, none⟩)] W fun e W' => ∃ a : Int, e = .returned (.tuple #[.int .i64 a, .bool false]) ∧ Below W.heap.size W W') :
    Calls Tryd.prog 68 #[.pointer q, .int .i64 k, .func (.func g) #[] #[.pointer (some ⟨b, 0, none⟩)]] w (Gives (.tuple #[.int .i64 0, .int .i64 5]) w) := by
  have hl := pline_in q s k w h hk
  have HL := Lib.hid hl
  have HFF := Lib.hid HF
  clear hl HF hk
  go_enter Tryd.func68, Tryd.ntmps68
  go_wp2_with (fail)
  refine (HL.out).mono ?_
  rintro e w1 ⟨rfl, b1⟩
  go_wp2_with (fail)
  refine (HFF.out _ b1).mono ?_
  rintro e w2 ⟨a, rfl, b2⟩
  go_wp2_with (fail)
  go_ret2
  exact ⟨rfl, b1.trans (b2.mono b1.size)⟩

set_option maxRecDepth 100000 in
theorem pwalk_some (q : Option Addr) (s : ByteArray) (k : Nat) (g : FuncId) (eg : ∀ args w, (callFunc g args).run Tryd.prog w = .ok (.enter g args) w) (b : Nat) (n : Nat) (w : World) (h : IsR w q s) (hk : k ≤ Rp.lf s) (hn : n ≤ 1099511627776)
    (HF : ∀ W, Below w.heap.size w W → Calls Tryd.prog g #[.string (cut (lnB s k)), .pointer (some ⟨b, 0, none⟩)] W fun e W' => e = .returned (.tuple #[.int .i64 n, .bool true]) ∧ Below W.heap.size W W') :
    Calls Tryd.prog 68 #[.pointer q, .int .i64 k, .func (.func g) #[] #[.pointer (some ⟨b, 0, none⟩)]] w (Gives (.tuple #[.int .i64 ((bh s k : Int) + (n : Int)), .int .i64 0]) w) := by
  have hl := pline_in q s k w h hk
  have hb := bh_le s k
  have hs := h.size
  have HL := Lib.hid hl
  have HFF := Lib.hid HF
  clear hl HF hk
  go_enter Tryd.func68, Tryd.ntmps68
  go_wp2_with (fail)
  refine (HL.out).mono ?_
  rintro e w1 ⟨rfl, b1⟩
  go_wp2_with (fail)
  refine (HFF.out _ b1).mono ?_
  rintro e w2 ⟨rfl, b2⟩
  go_wp2_with (fail)
  go_ret2
  exact ⟨rfl, b1.trans (b2.mono b1.size)⟩
end Go.Proofs.YtejipknbhiokeaaDoor

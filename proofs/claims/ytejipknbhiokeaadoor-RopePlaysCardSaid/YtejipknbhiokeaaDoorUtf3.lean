/-
  CONTRACTS of package utf and of its reference, on: Start, Count, Valid of the reference; Start.
-/
import Derived.Test.YtejipknbhiokeaaDoorUtf2
namespace Go.Proofs.YtejipknbhiokeaaDoor
open Go.RowKit Ut

theorem ret_bool {a b : Bool} (h : a = b) : Ending.returned (.bool a) = .returned (.bool b) := by rw [h]
theorem ret_int {k : IntKind} {a b : Int} (h : a = b) : Ending.returned (.int k a) = .returned (.int k b) := by rw [h]

theorem beq_dec (a b : Int) : (a == b) = decide (a = b) := rfl

theorem refstart_any (s : ByteArray) (k : Int) (w : World) (hs : s.size ≤ maxLen) :
    Calls Tryd.prog 27 #[.string s, .int .i64 k] w fun e w' => e = .returned (.bool (Sb s k)) ∧ Below w.heap.size w w' := by
  have hs' := hs
  unfold maxLen at hs'
  rw [← goto_Sb]
  go_enter Tryd.func27, Tryd.ntmps27
  go_wp2
  go_loopw [5] (fun v wr => ∃ i : Nat, v = .int .i64 i ∧ i ≤ s.size ∧ goto s k.toNat i = goto s k.toNat 0 ∧ Below w.heap.size w wr) (fun v _ => s.size - (intOf v).toNat)
  case atStart => exact ⟨0, rfl, by omega, rfl, Below.refl _ _⟩
  case round =>
    obtain ⟨i, rfl, hi, hg, hB⟩ := hrel
    have HG := Lib.hid hg
    clear hg
    by_cases h1 : (i : Int) < k
    · by_cases h2 : i < s.size
      · have hr := rn_bd h2
        go_wp2_with (go_at_call 20; refine (reflen_in s i _ hs h2).mono ?_; rintro e w' ⟨rfl, hB'⟩)
        go_roundw
        case rel => exact ⟨i + rn s i, by go_num, by omega, by rw [← HG.out, goto_in (by omega) h2], hB.trans (hB'.mono hB.size)⟩
        case measure => simp [intOf]; omega
      · have h0 : 0 ≤ k := by omega
        have hf : decide (s.size ≤ i) = true := by simp; omega
        go_wp2
        go_ret
        refine ⟨ret_bool ?_, hB⟩
        have := goto_end (s := s) (k := k.toNat) (i := i) (by omega)
        rw [← HG.out, this]
        simp [h0, beq_dec]
    · by_cases h0 : 0 ≤ k
      · go_wp2
        go_ret
        refine ⟨ret_bool ?_, hB⟩
        have := goto_end (s := s) (k := k.toNat) (i := i) (by omega)
        rw [← HG.out, this]
        simp [beq_dec]
      · have h3 : ¬ 0 ≤ k := h0
        have H3 := Lib.hid h3
        clear h3
        go_wp2
        go_ret
        refine ⟨ret_bool ?_, hB⟩
        rw [decide_eq_false (show ¬ 0 ≤ k by have := H3.out; omega)]
        rfl

theorem refcount_any (s : ByteArray) (w : World) (hs : s.size ≤ maxLen) :
    Calls Tryd.prog 29 #[.string s] w fun e w' => e = .returned (.int .i64 (cnt s)) ∧ Below w.heap.size w w' := by
  have hs' := hs
  unfold maxLen at hs'
  have hcl := cnt_le s
  unfold cnt at hcl ⊢
  go_enter Tryd.func29, Tryd.ntmps29
  go_wp2
  go_loopw [3, 4] (fun c v wr => ∃ i j : Nat, v = .int .i64 i ∧ c = .int .i64 j ∧ i ≤ s.size ∧ (stp s 0).length = j + (stp s i).length ∧ Below w.heap.size w wr) (fun _ v _ => s.size - (intOf v).toNat)
  case atStart => exact ⟨0, 0, rfl, rfl, by omega, by simp, Below.refl _ _⟩
  case round =>
    obtain ⟨i, j, rfl, rfl, hi, hg, hB⟩ := hrel
    have HG := Lib.hid hg
    clear hg
    by_cases h2 : i < s.size
    · have hr := rn_bd h2
      have hj : j + 1 ≤ s.size := by
        have := HG.out
        rw [stp_in h2, List.length_cons] at this
        omega
      go_wp2_with (go_at_call 20; refine (reflen_in s i _ hs h2).mono ?_; rintro e w' ⟨rfl, hB'⟩)
      go_roundw
      case rel => exact ⟨i + rn s i, j + 1, by go_num, by go_num, by omega, by rw [HG.out, stp_in h2, List.length_cons]; omega, hB.trans (hB'.mono hB.size)⟩
      case measure => simp [intOf]; omega
    · go_wp2
      go_ret
      refine ⟨ret_int ?_, hB⟩
      rw [HG.out, stp_end (i := i) (by omega)]
      simp

theorem refvalid_any (s : ByteArray) (w : World) (hs : s.size ≤ maxLen) :
    Calls Tryd.prog 31 #[.string s] w fun e w' => e = .returned (.bool (vld s)) ∧ Below w.heap.size w w' := by
  have hs' := hs
  unfold maxLen at hs'
  unfold vld
  go_enter Tryd.func31, Tryd.ntmps31
  go_wp2
  go_loopw [3] (fun v wr => ∃ i : Nat, v = .int .i64 i ∧ i ≤ s.size ∧ (stp s 0).all (·.2) = (stp s i).all (·.2) ∧ Below w.heap.size w wr) (fun v _ => s.size - (intOf v).toNat)
  case atStart => exact ⟨0, rfl, by omega, rfl, Below.refl _ _⟩
  case round =>
    obtain ⟨i, rfl, hi, hg, hB⟩ := hrel
    have HG := Lib.hid hg
    clear hg
    by_cases h2 : i < s.size
    · have hr := rn_bd h2
      cases hb : rb s i with
      | true =>
        have hl := fun w => reflen_in s i w hs h2
        rw [hb] at hl
        have HL := Lib.hid hl
        have HB := Lib.hid hb
        clear hl hb
        go_wp2_with (go_at_call 20; refine (HL.out _).mono ?_; rintro e w' ⟨rfl, hB'⟩)
        go_roundw
        case rel => exact ⟨i + rn s i, by go_num, by omega, by rw [HG.out, stp_in h2, List.all_cons, HB.out]; rfl, hB.trans (hB'.mono hB.size)⟩
        case measure => simp [intOf]; omega
      | false =>
        have hl := fun w => reflen_in s i w hs h2
        rw [hb] at hl
        have HL := Lib.hid hl
        have HB := Lib.hid hb
        clear hl hb
        go_wp2_with (go_at_call 20; refine (HL.out _).mono ?_; rintro e w' ⟨rfl, hB'⟩)
        go_ret
        exact ⟨ret_bool (by rw [HG.out, stp_in h2, List.all_cons, HB.out]; rfl), hB.trans (hB'.mono hB.size)⟩
    · go_wp2
      go_ret
      refine ⟨ret_bool ?_, hB⟩
      rw [HG.out, stp_end (i := i) (by omega)]
      rfl

theorem start_in (s : ByteArray) (k : Nat) (w : World) (hs : s.size ≤ maxLen) (hk : k ≤ s.size) (hw : Rows w) :
    Calls Tryd.prog 26 #[.string s, .int .i64 k] w fun e w' => e = .returned (.bool (st s k)) ∧ Below w.heap.size w w' := by
  have hs' := hs
  unfold maxLen at hs'
  have d1 : decide ((k : Int) < 0) = false := by simp
  have d2 : decide ((s.size : Int) < (k : Int)) = false := by simp; omega
  have d3 : decide (s.size < k) = false := by simp; omega
  have hz := hw.size
  by_cases hk3 : (k : Int) ≤ 3
  all_goals
    go_enter Tryd.func26, Tryd.ntmps26
    go_wp2
    go_loopw [5] (fun v wr => ∃ i : Nat, v = .int .i64 i ∧ (∀ j, j < i → k ≤ j + 3 → rb s j = true → j + rn s j ≤ k) ∧ Rows wr ∧ Below w.heap.size w wr) (fun v _ => s.size - (intOf v).toNat)
    case atStart =>
      first
        | exact ⟨0, rfl, fun j h => by omega, hw, Below.refl _ _⟩
        | exact ⟨k - 3, by rw [show ((k - 3 : Nat) : Int) = (k : Int) - 3 by omega], fun j h => by omega, hw, Below.refl _ _⟩
    case round =>
      obtain ⟨i, rfl, hg, hr, hB⟩ := hrel
      have HG := Lib.hid hg
      clear hg
      by_cases h2 : i < k
      · have hrn := rn_bd (s := s) (i := i) (by omega)
        have hl := fun w h => read_any s i w hs (by omega) h
        cases hb : rb s i with
        | false =>
          rw [hb] at hl
          have HL := Lib.hid hl
          have HB := Lib.hid hb
          clear hl hb
          go_wp2_with (go_at_call 56; refine (HL.out _ hr).mono ?_; rintro e w' ⟨rfl, hB'⟩)
          go_roundw
          case rel => exact ⟨i + 1, by go_num, fun j h1 h2 h3 => by
            by_cases e : j = i
            · subst e; rw [HB.out] at h3; cases h3
            · exact HG.out j (by omega) h2 h3, hr.below hB' hr.size, hB.trans (hB'.mono hB.size)⟩
          case measure => simp [intOf]; omega
        | true =>
          rw [hb] at hl
          have HL := Lib.hid hl
          have HB := Lib.hid hb
          clear hl hb
          by_cases h4 : (k : Int) < (i : Int) + rn s i
          · go_wp2_with (go_at_call 56; refine (HL.out _ hr).mono ?_; rintro e w' ⟨rfl, hB'⟩)
            go_ret
            refine ⟨ret_bool ?_, hB.trans (hB'.mono hB.size)⟩
            cases hst : st s k with
            | false => rfl
            | true => have := st_iff.1 hst i h2 (by omega) HB.out; omega
          · go_wp2_with (go_at_call 56; refine (HL.out _ hr).mono ?_; rintro e w' ⟨rfl, hB'⟩)
            go_roundw
            case rel => exact ⟨i + 1, by go_num, fun j h1 h2 h3 => by
              by_cases e : j = i
              · subst e; omega
              · exact HG.out j (by omega) h2 h3, hr.below hB' hr.size, hB.trans (hB'.mono hB.size)⟩
            case measure => simp [intOf]; omega
      · go_wp2
        go_ret
        refine ⟨ret_bool ?_, hB⟩
        exact (st_iff.2 (fun j h1 h2 h3 => HG.out j (by omega) h2 h3)).symm

theorem start_any (s : ByteArray) (k : Int) (w : World) (hs : s.size ≤ maxLen) (hw : Rows w) :
    Calls Tryd.prog 26 #[.string s, .int .i64 k] w fun e w' => e = .returned (.bool (Sb s k)) ∧ Below w.heap.size w w' := by
  by_cases h : 0 ≤ k ∧ k ≤ s.size
  · obtain ⟨i, rfl⟩ := Int.eq_ofNat_of_zero_le h.1
    have e1 : Sb s i = st s i := by unfold Sb; rw [if_pos h]; simp
    rw [e1]
    exact start_in s i w hs (by omega) hw
  · have e1 : Sb s k = false := by unfold Sb; rw [if_neg h]
    rw [e1]
    clear e1
    by_cases h0 : k < 0
    · go_enter Tryd.func26, Tryd.ntmps26
      go_wp2
      go_ret
      exact ⟨rfl, Below.refl _ _⟩
    · have h1 : (s.size : Int) < k := by omega
      go_enter Tryd.func26, Tryd.ntmps26
      go_wp2
      go_ret
      exact ⟨rfl, Below.refl _ _⟩
end Go.Proofs.YtejipknbhiokeaaDoor

/-
  PROVED HERE: the statement Rows.PlaceBackCardSaid: places on one side, lines and columns on the other are each other's. No condition beyond the row's own.
-/
import Derived.Test.YtejipknbhiokeaaDoorEdits2
import Derived.Test.YtejipknbhiokeaaDoorPlain8
import Derived.Test.YtejipknbhiokeaaDoorWakes3
import Derived.Test.YtejipknbhiokeaaDoorCards
import Derived.Test.YtejipknbhiokeaaDoorTie
namespace Go.Proofs.YtejipknbhiokeaaDoor.LawPlaceBack
open Go.ChangeShapes Go.WideShapes Go.ChangeAt Go.RowKit
open Go.ChangeMaps (open_string shut_string)

/-- A place's column is one of its line, the LF not counted. -/
theorem in_cut {s : ByteArray} {j : Nat} (hj : j ≤ s.size) : j - Rp.bh s (Rp.lf (s.extract 0 j)) ≤ (cut (lnB s (Rp.lf (s.extract 0 j)))).size := by
  obtain ⟨h1, h2, h3⟩ := in_line hj
  obtain ⟨n, hn⟩ : ∃ n, Rp.lf (s.extract 0 j) = n := ⟨_, rfl⟩
  rw [hn] at h1 h2 h3 ⊢
  obtain ⟨hb1, hb2⟩ := bh_lnTo (s := s) (k := n)
  have hz : (lnB s n).size = lnTo s n - Rp.bh s n := by unfold lnB; rw [ByteArray.size_extract]; omega
  unfold cut
  split
  · rename_i h
    rw [ByteArray.size_extract]
    rcases Nat.lt_or_ge j (lnTo s n) with hlt | hge
    · omega
    · exfalso
      obtain rfl : j = lnTo s n := by omega
      have hb : Ut.bt s (lnTo s n - 1) = 10 := by
        have := h.2
        unfold lnB at this
        rw [ByteArray.size_extract, Ut.bt_extract s _ _ _ hb2 (by omega)] at this
        rwa [show Rp.bh s n + (min (lnTo s n) s.size - Rp.bh s n - 1) = lnTo s n - 1 by omega] at this
      have hc := count_take_succ s (show lnTo s n - 1 < s.size by omega)
      rw [if_pos hb, show lnTo s n - 1 + 1 = lnTo s n by omega] at hc
      rw [lf_take] at hn
      have e1 := bhL_count s.data.toList n h1
      have e2 := count_take_mono s.data.toList (show Rp.bhL s.data.toList n ≤ lnTo s n - 1 by
        have : Rp.bhL s.data.toList n = Rp.bh s n := rfl
        omega)
      omega
  · omega

theorem off_of (q : Option Addr) (s : ByteArray) (k c : Int) (w : World) (h : IsR w q s) :
    (∀ W, Below w.heap.size w W → Calls Tryd.prog 46 #[.pointer q, .int .i64 k, .int .i64 c] W (Gives (.tuple #[.int .i64 0, .int .i64 5]) W)) ∨
    (∃ j n : Nat, k = j ∧ c = n ∧ j ≤ Rp.lf s ∧ n ≤ (cut (lnB s j)).size ∧ ∀ W, Below w.heap.size w W → Calls Tryd.prog 46 #[.pointer q, .int .i64 j, .int .i64 n] W (Gives (.tuple #[.int .i64 ((Rp.bh s j + n : Nat) : Int), .int .i64 0]) W)) := by
  by_cases hk : k < 0 ∨ (Rp.lf s : Int) < k
  · exact .inl fun W hW => poff_out q s k c W (h.below hW) hk
  · obtain ⟨j, rfl⟩ := Int.eq_ofNat_of_zero_le (show 0 ≤ k by omega)
    by_cases hc : 0 ≤ c ∧ c ≤ (cut (lnB s j)).size
    · obtain ⟨n, rfl⟩ := Int.eq_ofNat_of_zero_le hc.1
      have hz := cutB_le h j
      exact .inr ⟨j, n, rfl, rfl, by omega, by omega, fun W hW => by
        have := poff_in q s j n W (h.below hW) (by omega) (by omega) (by omega)
        rwa [show (Rp.bh s j : Int) + (n : Int) = ((Rp.bh s j + n : Nat) : Int) by omega] at this⟩
    · exact .inl fun W hW => poff_bad q s j c W (h.below hW) (by omega) hc

set_option maxRecDepth 100000 in
set_option maxHeartbeats 8000000 in
theorem walk (s : ByteArray) (v : Value) (l : List (Int × Int × ByteArray)) (line col : Int) (w : World) (_ : s.size ≤ maxLen) (hx : IsEdits w v l) (_ : -9223372036854775808 ≤ line ∧ line ≤ 9223372036854775807) (_ : -9223372036854775808 ≤ col ∧ col ≤ 9223372036854775807) (hw : Rows w) :
    Calls Tryd.prog 9 #[.string s, v, .int .i64 line, .int .i64 col] w fun e w' => e = .returned (.bool true) ∧ Below w.heap.size w w' := by
  obtain ⟨p, cap, rfl, hv⟩ := edits_view hx
  obtain ⟨n, hn⟩ : ∃ n, l.length = n := ⟨_, rfl⟩
  rw [hn] at hv ⊢
  clear hx
  have HV := Lib.hid hv
  clear hv
  have stop : ∀ (W : World), Below w.heap.size w W → Calls Tryd.prog 43 #[] W (Gives (.bool true) W) := fun W hW => wakes3_any W (hw.below hW hw.size)
  have STOP := Lib.hid stop
  clear stop
  by_cases h0 : 4096 < s.size
  · have hd : decide ((4096 : Int) < (s.size : Int)) = true := decide_eq_true (by omega)
    have hd' : decide (4096 < s.size) = true := decide_eq_true h0
    go_enter Tryd.func9, Tryd.ntmps9
    go_wp2_with (fail)
    refine (STOP.out _ (Below.refl _ _)).mono ?_
    rintro e w2 ⟨rfl, b2⟩
    go_wp2_with (fail)
    go_ret
    exact ⟨rfl, b2⟩
  · have hd : decide ((4096 : Int) < (s.size : Int)) = false := decide_eq_false (by omega)
    have hd' : decide (4096 < s.size) = false := decide_eq_false h0
    by_cases h1 : 20 < n
    · have hd1 : decide ((20 : Int) < (n : Int)) = true := decide_eq_true (by omega)
      have hd1' : decide (20 < n) = true := decide_eq_true h1
      go_enter Tryd.func9, Tryd.ntmps9
      go_wp2_with (fail)
      refine (STOP.out _ (Below.refl _ _)).mono ?_
      rintro e w2 ⟨rfl, b2⟩
      go_wp2_with (fail)
      go_ret
      exact ⟨rfl, b2⟩
    · have hd1 : decide ((20 : Int) < (n : Int)) = false := decide_eq_false (by omega)
      have hd1' : decide (20 < n) = false := decide_eq_false h1
      go_enter Tryd.func9, Tryd.ntmps9
      go_wp2_with (fail)
      refine (of_short s _ (by omega)).mono ?_
      rintro e w1 ⟨q, rfl, i1, b1⟩
      go_wp2_with (fail)
      go_loopw [9, 10] (fun vr vi wr => ∃ (r : Option Addr) (i : Nat) (t : ByteArray), vr = .pointer r ∧ vi = .int .i64 i ∧ i ≤ n ∧ IsR wr r t ∧ Below w.heap.size w wr) (fun _ vi _ => n - (intOf vi).toNat)
      case atStart => exact ⟨q, 0, s, rfl, rfl, Nat.zero_le _, i1, b1⟩
      case round =>
        obtain ⟨r, i, t, rfl, rfl, hi, hr, hB⟩ := hrel
        clear i1 b1
        have HRR := Lib.hid hr
        clear hr
        by_cases hlt : i < n
        · have e1 : decide ((i : Int) < (n : Int)) = true := decide_eq_true (by omega)
          have e1' : decide (i < n) = true := decide_eq_true hlt
          obtain ⟨b, o, pos, del, ins, rfl, hcap, hbb, -, hok, c0, c1, c2⟩ := HV.out i hlt
          have k0 := (hB.cell (p := ⟨b, o + i * 3, none⟩) hbb).trans c0
          have k1 := (hB.cell (p := ⟨b, o + i * 3 + 1, none⟩) hbb).trans c1
          have k2 := (hB.cell (p := ⟨b, o + i * 3 + 2, none⟩) hbb).trans c2
          have hm := hok.2.2
          dsimp only at hm
          have SP := Lib.hid (splice_gen r t pos del ins wr HRR.out hok)
          unfold ed at SP
          clear hok c0 c1 c2
          by_cases h2 : 4096 < ins.size
          · have e2 : decide ((4096 : Int) < (ins.size : Int)) = true := decide_eq_true (by omega)
            have e2' : decide (4096 < ins.size) = true := decide_eq_true h2
            go_wp2_with (fail)
            refine (STOP.out _ hB).mono ?_
            rintro e w2 ⟨rfl, b2⟩
            go_wp2_with (fail)
            go_ret
            exact ⟨rfl, hB.trans (b2.mono hB.size)⟩
          · have e2 : decide ((4096 : Int) < (ins.size : Int)) = false := decide_eq_false (by omega)
            have e2' : decide (4096 < ins.size) = false := decide_eq_false h2
            go_wp2_with (fail)
            refine (SP.out).mono ?_
            rintro e w2 (⟨cd, hcd, rfl, b2⟩ | ⟨q', t', rfl, hr2, b2⟩)
            · have e3 : (cd == 0) = false := by simpa using hcd
              have i2 := HRR.out.below b2
              go_wp2_with (fail)
              go_roundw
              case rel => exact ⟨r, i + 1, t, rfl, by go_num, by omega, i2, hB.trans (b2.mono hB.size)⟩
              case measure => simp [intOf]; omega
            · go_wp2_with (fail)
              go_roundw
              case rel => exact ⟨q', i + 1, t', rfl, by go_num, by omega, hr2, hB.trans (b2.mono hB.size)⟩
              case measure => simp [intOf]; omega
        · obtain rfl : i = n := by omega
          have e1 : decide ((i : Int) < (i : Int)) = false := by simp
          have hts := HRR.out.size
          go_wp2_with (fail)
          refine (text_any r t _ HRR.out).mono ?_
          rintro e w2 ⟨rfl, b2⟩
          have B2 := hB.trans (b2.mono hB.size)
          have R := Lib.hid (HRR.out.below b2)
          clear HRR HV b2 hB
          go_wp2_with (fail)
          go_loopw [14, 15, 16] (fun vn vf vj wx => ∃ j m : Nat, vj = .int .i64 j ∧ vn = .int .i64 m ∧ vf = .int .i64 (Rp.bh t m) ∧ j ≤ t.size + 1 ∧ m ≤ j ∧ m = (t.data.toList.take j).count 10 ∧ Below w2.heap.size w2 wx) (fun _ _ vj _ => t.size + 1 - (intOf vj).toNat)
          case atStart => exact ⟨0, 0, rfl, rfl, by rw [Rp.bh_zero]; rfl, Nat.zero_le _, Nat.le_refl _, rfl, Below.refl _ _⟩
          case round =>
            obtain ⟨j, m, rfl, rfl, rfl, hj, hmj, hm, hx2⟩ := hrel
            have HM := Lib.hid hm
            have HX := Lib.hid hx2
            clear hm hx2
            have hget := Ut.get_bt t
            have hbm := Rp.bh_le t m
            by_cases hle : j ≤ t.size
            · have u0 : decide ((j : Int) ≤ (t.size : Int)) = true := decide_eq_true (by omega)
              have u0' : decide (j ≤ t.size) = true := decide_eq_true hle
              obtain ⟨v1, v2, v3⟩ := in_line hle
              have v4 := in_cut hle
              have hlf : Rp.lf (t.extract 0 j) = m := by rw [lf_take]; exact HM.out.symm
              rw [hlf] at v1 v2 v3 v4
              have hof := fun W (hW : Below w2.heap.size w2 W) => pof_in r t j W (R.out.below hW) hle
              rw [hlf] at hof
              have hoff : ∀ W, Below w2.heap.size w2 W → Calls Tryd.prog 46 #[.pointer r, .int .i64 m, .int .i64 ((j : Int) - (Rp.bh t m : Int))] W (Gives (.tuple #[.int .i64 j, .int .i64 0]) W) := fun W hW => by
                have := poff_in r t m (j - Rp.bh t m) W (R.out.below hW) v1 v4 (by omega)
                rwa [show ((j - Rp.bh t m : Nat) : Int) = (j : Int) - (Rp.bh t m : Int) by omega, show (Rp.bh t m : Int) + ((j : Int) - (Rp.bh t m : Int)) = (j : Int) by omega] at this
              have OF := Lib.hid hof
              have OFF := Lib.hid hoff
              have hw0 : IntKind.i64.wrap ((j : Int) - (Rp.bh t m : Int)) = (j : Int) - (Rp.bh t m : Int) := w64 (by omega) (by omega)
              have hba := fun (h1 : j < t.size) (h2 : Ut.bt t j = 10) => bh_at h1 h2
              rw [← HM.out] at hba
              have HBA := Lib.hid hba
              have HCT := Lib.hid (fun (h1 : j < t.size) => count_take_succ t h1)
              have hend : j = t.size → (t.data.toList.take (j + 1)).count 10 = (t.data.toList.take j).count 10 := fun h => by rw [List.take_of_length_le (by simp; omega), List.take_of_length_le (by simp; omega)]
              have HEND := Lib.hid hend
              clear hof hoff hba hend v1 v2 v3 v4 hlf
              by_cases x5 : j % 5 = 0
              · have x5a : ((j : Int) % 5 == 0) = true := by simp; omega
                have x5b : ((j : Int).tmod 5 == 0) = true := by rw [Int.tmod_eq_emod_of_nonneg (by omega)]; exact x5a
                have x5c : (j % 5 == 0) = true := by simpa using x5
                by_cases y0 : j < t.size
                · have z0 : decide ((j : Int) < (t.size : Int)) = true := decide_eq_true (by omega)
                  have z0' : decide (j < t.size) = true := decide_eq_true y0
                  have z1 : decide ((t.size : Int) ≤ (j : Int)) = false := decide_eq_false (by omega)
                  have z1' : decide (t.size ≤ j) = false := decide_eq_false (by omega)
                  by_cases y1 : Ut.bt t j = 10
                  · have z2 : (Ut.bt t j == 10) = true := by simpa using y1
                    go_wp2_with (fail)
                    refine (OF.out _ HX.out).mono ?_
                    rintro e w3 ⟨rfl, b3⟩
                    have B3 := HX.out.trans (b3.mono HX.out.size)
                    go_wp2_with (fail)
                    refine (OFF.out _ B3).mono ?_
                    rintro e w4 ⟨rfl, b4⟩
                    have B4 := B3.trans (b4.mono B3.size)
                    go_wp2_with (fail)
                    go_roundw
                    case rel =>
                      refine ⟨j + 1, m + 1, by go_num, by go_num, by rw [HBA.out y0 y1]; go_num, by omega, by omega, ?_, B4⟩
                      rw [HCT.out y0, if_pos y1, HM.out]
                    case measure => simp [intOf]; omega
                  · have z2 : (Ut.bt t j == 10) = false := by simpa using y1
                    go_wp2_with (fail)
                    refine (OF.out _ HX.out).mono ?_
                    rintro e w3 ⟨rfl, b3⟩
                    have B3 := HX.out.trans (b3.mono HX.out.size)
                    go_wp2_with (fail)
                    refine (OFF.out _ B3).mono ?_
                    rintro e w4 ⟨rfl, b4⟩
                    have B4 := B3.trans (b4.mono B3.size)
                    go_wp2_with (fail)
                    go_roundw
                    case rel =>
                      refine ⟨j + 1, m, by go_num, rfl, rfl, by omega, by omega, ?_, B4⟩
                      rw [HCT.out y0, if_neg y1, HM.out]; rfl
                    case measure => simp [intOf]; omega
                · have z0 : decide ((j : Int) < (t.size : Int)) = false := decide_eq_false (by omega)
                  have z0' : decide (j < t.size) = false := decide_eq_false y0
                  have z1 : decide ((t.size : Int) ≤ (j : Int)) = true := decide_eq_true (by omega)
                  have z1' : decide (t.size ≤ j) = true := decide_eq_true (by omega)
                  go_wp2_with (fail)
                  refine (OF.out _ HX.out).mono ?_
                  rintro e w3 ⟨rfl, b3⟩
                  have B3 := HX.out.trans (b3.mono HX.out.size)
                  go_wp2_with (fail)
                  refine (OFF.out _ B3).mono ?_
                  rintro e w4 ⟨rfl, b4⟩
                  have B4 := B3.trans (b4.mono B3.size)
                  go_wp2_with (fail)
                  go_roundw
                  case rel =>
                    refine ⟨j + 1, m, by go_num, rfl, rfl, by omega, by omega, ?_, B4⟩
                    rw [HEND.out (by omega), HM.out]
                  case measure => simp [intOf]; omega
              · have x5a : ((j : Int) % 5 == 0) = false := by simp; omega
                have x5b : ((j : Int).tmod 5 == 0) = false := by rw [Int.tmod_eq_emod_of_nonneg (by omega)]; exact x5a
                have x5c : (j % 5 == 0) = false := by simpa using x5
                by_cases x6 : j = Rp.bh t m
                · have x6a : ((j : Int) == (Rp.bh t m : Int)) = true := by simp; omega
                  have x6b : (j == Rp.bh t m) = true := by simpa using x6
                  have X6 := Lib.hid x6
                  clear x6
                  by_cases y0 : j < t.size
                  · have z0 : decide ((j : Int) < (t.size : Int)) = true := decide_eq_true (by omega)
                    have z0' : decide (j < t.size) = true := decide_eq_true y0
                    have z1 : decide ((t.size : Int) ≤ (j : Int)) = false := decide_eq_false (by omega)
                    have z1' : decide (t.size ≤ j) = false := decide_eq_false (by omega)
                    by_cases y1 : Ut.bt t j = 10
                    · have z2 : (Ut.bt t j == 10) = true := by simpa using y1
                      go_wp2_with (fail)
                      refine (OF.out _ HX.out).mono ?_
                      rintro e w3 ⟨rfl, b3⟩
                      have B3 := HX.out.trans (b3.mono HX.out.size)
                      go_wp2_with (fail)
                      refine (OFF.out _ B3).mono ?_
                      rintro e w4 ⟨rfl, b4⟩
                      have B4 := B3.trans (b4.mono B3.size)
                      go_wp2_with (fail)
                      go_roundw
                      case rel =>
                        refine ⟨j + 1, m + 1, by go_num, by go_num, by rw [HBA.out y0 y1]; go_num, by omega, by omega, ?_, B4⟩
                        rw [HCT.out y0, if_pos y1, HM.out]
                      case measure => simp [intOf]; omega
                    · have z2 : (Ut.bt t j == 10) = false := by simpa using y1
                      go_wp2_with (fail)
                      refine (OF.out _ HX.out).mono ?_
                      rintro e w3 ⟨rfl, b3⟩
                      have B3 := HX.out.trans (b3.mono HX.out.size)
                      go_wp2_with (fail)
                      refine (OFF.out _ B3).mono ?_
                      rintro e w4 ⟨rfl, b4⟩
                      have B4 := B3.trans (b4.mono B3.size)
                      go_wp2_with (fail)
                      go_roundw
                      case rel =>
                        refine ⟨j + 1, m, by go_num, rfl, rfl, by omega, by omega, ?_, B4⟩
                        rw [HCT.out y0, if_neg y1, HM.out]; rfl
                      case measure => simp [intOf]; omega
                  · have z0 : decide ((j : Int) < (t.size : Int)) = false := decide_eq_false (by omega)
                    have z0' : decide (j < t.size) = false := decide_eq_false y0
                    have z1 : decide ((t.size : Int) ≤ (j : Int)) = true := decide_eq_true (by omega)
                    have z1' : decide (t.size ≤ j) = true := decide_eq_true (by omega)
                    go_wp2_with (fail)
                    refine (OF.out _ HX.out).mono ?_
                    rintro e w3 ⟨rfl, b3⟩
                    have B3 := HX.out.trans (b3.mono HX.out.size)
                    go_wp2_with (fail)
                    refine (OFF.out _ B3).mono ?_
                    rintro e w4 ⟨rfl, b4⟩
                    have B4 := B3.trans (b4.mono B3.size)
                    go_wp2_with (fail)
                    go_roundw
                    case rel =>
                      refine ⟨j + 1, m, by go_num, rfl, rfl, by omega, by omega, ?_, B4⟩
                      rw [HEND.out (by omega), HM.out]
                    case measure => simp [intOf]; omega
                · have x6a : ((j : Int) == (Rp.bh t m : Int)) = false := by simp; omega
                  have x6b : (j == Rp.bh t m) = false := by simpa using x6
                  by_cases y0 : j < t.size
                  · have z0 : decide ((j : Int) < (t.size : Int)) = true := decide_eq_true (by omega)
                    have z0' : decide (j < t.size) = true := decide_eq_true y0
                    have z1 : decide ((t.size : Int) ≤ (j : Int)) = false := decide_eq_false (by omega)
                    have z1' : decide (t.size ≤ j) = false := decide_eq_false (by omega)
                    by_cases y1 : Ut.bt t j = 10
                    · have z2 : (Ut.bt t j == 10) = true := by simpa using y1
                      go_wp2_with (fail)
                      refine (OF.out _ HX.out).mono ?_
                      rintro e w3 ⟨rfl, b3⟩
                      have B3 := HX.out.trans (b3.mono HX.out.size)
                      go_wp2_with (fail)
                      refine (OFF.out _ B3).mono ?_
                      rintro e w4 ⟨rfl, b4⟩
                      have B4 := B3.trans (b4.mono B3.size)
                      go_wp2_with (fail)
                      go_roundw
                      case rel =>
                        refine ⟨j + 1, m + 1, by go_num, by go_num, by rw [HBA.out y0 y1]; go_num, by omega, by omega, ?_, B4⟩
                        rw [HCT.out y0, if_pos y1, HM.out]
                      case measure => simp [intOf]; omega
                    · have z2 : (Ut.bt t j == 10) = false := by simpa using y1
                      have hXX := HX.out
                      go_wp2_with (fail)
                      go_roundw
                      case rel =>
                        refine ⟨j + 1, m, by go_num, rfl, rfl, by omega, by omega, ?_, hXX⟩
                        rw [HCT.out y0, if_neg y1, HM.out]; rfl
                      case measure => simp [intOf]; omega
                  · have z0 : decide ((j : Int) < (t.size : Int)) = false := decide_eq_false (by omega)
                    have z0' : decide (j < t.size) = false := decide_eq_false y0
                    have z1 : decide ((t.size : Int) ≤ (j : Int)) = true := decide_eq_true (by omega)
                    have z1' : decide (t.size ≤ j) = true := decide_eq_true (by omega)
                    go_wp2_with (fail)
                    refine (OF.out _ HX.out).mono ?_
                    rintro e w3 ⟨rfl, b3⟩
                    have B3 := HX.out.trans (b3.mono HX.out.size)
                    go_wp2_with (fail)
                    refine (OFF.out _ B3).mono ?_
                    rintro e w4 ⟨rfl, b4⟩
                    have B4 := B3.trans (b4.mono B3.size)
                    go_wp2_with (fail)
                    go_roundw
                    case rel =>
                      refine ⟨j + 1, m, by go_num, rfl, rfl, by omega, by omega, ?_, B4⟩
                      rw [HEND.out (by omega), HM.out]
                    case measure => simp [intOf]; omega
            · obtain rfl : j = t.size + 1 := by omega
              have u0 : decide (((t.size + 1 : Nat) : Int) ≤ (t.size : Int)) = false := decide_eq_false (by omega)
              have u0' : decide (t.size + 1 ≤ t.size) = false := decide_eq_false (by omega)
              have B6 := B2.trans (HX.out.mono B2.size)
              rcases off_of r t line col w2 R.out with hf | ⟨k, n, rfl, rfl, hk, hn, hf⟩
              · have F := Lib.hid hf
                clear hf
                go_wp2_with (fail)
                refine (F.out _ HX.out).mono ?_
                rintro e w3 ⟨rfl, b3⟩
                have B7 := B6.trans (b3.mono B6.size)
                go_wp2_with (fail)
                refine (STOP.out _ B7).mono ?_
                rintro e w4 ⟨rfl, b4⟩
                go_wp2_with (fail)
                go_ret
                exact ⟨rfl, B7.trans (b4.mono B7.size)⟩
              · obtain ⟨q1, q2⟩ := line_place hk hn
                have hof := fun W (hW : Below w2.heap.size w2 W) => pof_in r t (Rp.bh t k + n) W (R.out.below hW) q1
                rw [q2, show ((Rp.bh t k + n : Nat) : Int) - (Rp.bh t k : Int) = (n : Int) by omega] at hof
                obtain ⟨E, hE⟩ : ∃ E, Rp.bh t k + n = E := ⟨_, rfl⟩
                rw [hE] at hof hf
                have F := Lib.hid hf
                have O := Lib.hid hof
                clear hf hof q1 q2 hE
                go_wp2_with (fail)
                refine (F.out _ HX.out).mono ?_
                rintro e w3 ⟨rfl, b3⟩
                have C3 := HX.out.trans (b3.mono HX.out.size)
                go_wp2_with (fail)
                refine (O.out _ C3).mono ?_
                rintro e w4 ⟨rfl, b4⟩
                have C4 := C3.trans (b4.mono C3.size)
                have B7 := B2.trans (C4.mono B2.size)
                go_wp2_with (fail)
                refine (STOP.out _ B7).mono ?_
                rintro e w5 ⟨rfl, b5⟩
                go_wp2_with (fail)
                go_ret
                exact ⟨rfl, B7.trans (b5.mono B7.size)⟩

set_option maxRecDepth 100000 in
theorem contract (H : Type) (enc : TypeId × Value → H) (W : World) (base : Nat) (args : Array Value) (ds gs : List (DataW H)) (before : List MemPlace)
    (hval : ∀ (j : Nat) t v, Tryd.f9.params[j]? = some t → args[j]? = some v → Value.okWide Tryd.prog W .any base t v)
    (hW : DataW.Whole enc Tryd.prog Tryd.f9.params.toList Rows.placeBackSpec.vars false W args.toList ds gs before) (hL : laidMetH Tryd.prog Rows.placeBackRow.laid W) :
    Calls Tryd.prog 9 args W fun e W' => ∃ v, e = .returned v ∧ Rows.placeBackSpec.post enc Tryd.prog Tryd.f9 false true false false W args v W' := by
  have hW' := hW
  obtain ⟨p, q, hA0, hV, rfl, hfz, hnd⟩ := hW
  have hA : DataW.TrodAll enc Tryd.prog W 0 (fun _ => true) true Tryd.f9.params.toList args.toList ds p := hA0
  rw [Tryd.params9] at hA hval
  obtain ⟨v0, v1, v2, v3, d0, d1, d2, d3, p0, p1, p2, p3, rfl, rfl, rfl, h0, h1, h2, h3⟩ := trodAll_four hA
  obtain ⟨rfl, rfl⟩ := trodVars_none hV
  obtain ⟨x0, rfl, rfl, rfl, hs0⟩ := open_string Tryd.underlying9 (hval 0 9 v0 rfl rfl) h0
  have hk1 := h1
  obtain ⟨x1, hx1⟩ := open_edits (hval 1 53 v1 rfl rfl) h1
  obtain ⟨x2, rfl, rfl, rfl, wx2⟩ := open_int Tryd.underlying3 (hval 2 3 v2 rfl rfl) h2
  have bx2 := bounds_i64 wx2
  obtain ⟨x3, rfl, rfl, rfl, wx3⟩ := open_int Tryd.underlying3 (hval 3 3 v3 rfl rfl) h3
  have bx3 := bounds_i64 wx3
  refine (walk x0 v1 x1 x2 x3 W hs0 hx1 bx2 bx3 (table hL)).mono fun e W' ⟨he, hg⟩ => ?_
  subst he
  refine ⟨_, rfl, _, _, _, [], ([] ++ (p1 ++ ([] ++ ([] ++ [])))), [], hW', ?_, ?_, ?_, hg.frame _, fun h => by cases h⟩
  · exact trodAll_cons_mk (shut_bool Tryd.underlying4 _) trodAll_mk0
  · exact trodAll_cons_mk (shut_string Tryd.underlying9 hs0) (trodAll_cons_mk (Below.trod laidOut (by kernel_rfl) (of_decide_eq_true (by kernel_rfl)) hk1 hg (fun x hx => by simpa using hW'.lt x (by simp [hx]))) (trodAll_cons_mk (shut_int Tryd.underlying3 wx2) (trodAll_cons_mk (shut_int Tryd.underlying3 wx3) trodAll_mk0)))
  · rfl

theorem laid_met (os : Os) : laidMet Tryd.prog Rows.placeBackRow.laid ((laidWorld os).forCall (fun _ _ => 0) ⟨#[], #[.string ByteArray.empty, .slice none 0 0, .int .i64 0, .int .i64 0], []⟩).memory :=
  laidMet_of_run' 8 (by kernel_rfl) (by kernel_rfl)
theorem reads (os : Os) {H : Type} (enc : TypeId × Value → H) : ∃ places, DataW.whole enc Tryd.prog ((laidWorld os).forCall (fun _ _ => 0) ⟨#[], #[.string ByteArray.empty, .slice none 0 0, .int .i64 0, .int .i64 0], []⟩).memory Tryd.f9.params.toList Rows.placeBackSpec.vars false (#[.string ByteArray.empty, .slice none 0 0, .int .i64 0, .int .i64 0] : Array Value).toList 8 = some ([.lit (.string []), .nil, .lit (.int .i64 0), .lit (.int .i64 0)], [], places) :=
  ⟨[], by kernel_rfl⟩

set_option maxRecDepth 100000 in
theorem lifted (os : Os) (started : os.Started) (H : Type) (enc : TypeId × Value → H) (F : Stop.Interp) :
    ReturnsInHanded {} Tryd.checked os 9 .any ((OpenSpec.ofChange Rows.placeBackSpec).preRow enc Tryd.prog Tryd.f9 Rows.placeBackRow.domain false Rows.placeBackRow.laid) (((OpenSpec.ofChange Rows.placeBackSpec).at F).post enc Tryd.prog Tryd.f9 false true false false) := by
  obtain ⟨places, hx⟩ := reads os enc
  refine returnsInHanded_of_row (C := Tryd.checked) (s := OpenSpec.ofChange Rows.placeBackSpec) own started (by kernel_rfl) Tryd.func9
    (witness_row_at (enc := enc) (C := Tryd.checked) false (laidWorld os) #[.string ByteArray.empty, .slice none 0 0, .int .i64 0, .int .i64 0] rfl (by kernel_rfl) (by kernel_rfl) (by kernel_rfl)
      (OpenSpec.preRow_of_cond 8 hx (by kernel_rfl) (fun k hk => by cases hk) (by kernel_rfl) (laid_met os))) ?_
  intro W base args ds gs before hval hW _ _ _ hL _ _
  exact contract H enc W base args ds gs before hval hW hL

theorem said : Rows.PlaceBackSaid :=
  OpenClaim.holds_of_cond 9 Tryd.f9 rfl rfl rfl rfl rfl rfl rfl ⟨rfl, rfl, rfl, rfl, rfl⟩ rfl rfl rfl rfl rfl (by kernel_rfl) Tryd.func9 (by kernel_rfl)
    (of_decide_eq_true (by kernel_rfl)) (by unfold Func.isWrapper; first | (rw [if_pos (by decide +kernel)]; kernel_rfl) | (rw [if_neg (by decide +kernel)]; exact ⟨rfl, rfl⟩))
    (fun os started H enc _ F => by rw [OpenClaim.pre_eq_preRow]; exact lifted os started H enc F)

theorem plain (f : FuncId) (fn : Func) (hf : Tryd.pinned.checked.prog.funcNamed "indenture/indenturelaw03.PlaceBack" = some f) (hfn : Tryd.pinned.checked.prog.funcs[f]? = some fn) :
    false = Tryd.pinned.checked.prog.looks [] ∧ ∀ (j : Nat) t, fn.params[j]? = some t → Tryd.pinned.checked.prog.wantsStandIn t = false := by
  obtain rfl : f = 9 := Option.some.inj ((show Tryd.prog.funcNamed "indenture/indenturelaw03.PlaceBack" = some 9 by kernel_rfl).symm.trans hf) |>.symm
  obtain rfl : fn = Tryd.f9 := (Option.some.inj (Tryd.func9.symm.trans hfn)).symm
  refine ⟨by kernel_rfl, fun j t ht => ?_⟩
  rw [Tryd.params9] at ht
  have ht' := Array.mem_of_getElem? ht
  have hd : t = 9 ∨ t = 53 ∨ t = 3 ∨ t = 3 := by simpa using ht'
  rcases hd with rfl | rfl | rfl | rfl
  · exact (show Tryd.prog.wantsStandIn 9 = false by kernel_rfl)
  · exact (show Tryd.prog.wantsStandIn 53 = false by kernel_rfl)
  · exact (show Tryd.prog.wantsStandIn 3 = false by kernel_rfl)
  · exact (show Tryd.prog.wantsStandIn 3 = false by kernel_rfl)

/-- THE CARD. -/
theorem card : Rows.PlaceBackCardSaid :=
  Claim7.holds_tied_plain_at .later [] _ _ _ _ said (fun _ h => by cases h) (by kernel_rfl) (fun _ h => by cases h) placeBack_row_tie rfl ⟨rfl, rfl⟩ (by kernel_rfl) rfl plain (by kernel_rfl)
#print axioms card
end Go.Proofs.YtejipknbhiokeaaDoor.LawPlaceBack

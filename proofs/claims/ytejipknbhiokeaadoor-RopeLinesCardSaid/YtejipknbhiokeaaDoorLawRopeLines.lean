/-
  PROVED HERE: the statement Rows.RopeLinesCardSaid: lines lie one behind the other and are all of the text. No condition beyond the row's own.
-/
import Derived.Test.YtejipknbhiokeaaDoorEdits2
import Derived.Test.YtejipknbhiokeaaDoorPlain8
import Derived.Test.YtejipknbhiokeaaDoorCards
import Derived.Test.YtejipknbhiokeaaDoorTie
namespace Go.Proofs.YtejipknbhiokeaaDoor.LawRopeLines
open Go.ChangeShapes Go.WideShapes Go.ChangeAt Go.RowKit
open Go.ChangeMaps (open_string shut_string)

/-- Where line k begins; behind the last one: the text's end. -/
def atp (t : ByteArray) (k : Nat) : Nat := if k ≤ Rp.lf t then Rp.bh t k else t.size
theorem atp_to {t : ByteArray} {k : Nat} : lnTo t k = atp t (k + 1) := by
  unfold lnTo atp
  by_cases h : k < Rp.lf t
  · rw [if_pos h, if_pos (by omega)]
  · rw [if_neg h, if_neg (by omega)]
theorem count_line {t : ByteArray} {k i : Nat} (hk : k ≤ Rp.lf t) (h1 : Rp.bh t k ≤ i) (h2 : i < lnTo t k ∨ k = Rp.lf t) : (t.data.toList.take i).count 10 = k := by
  have e1 := bhL_count t.data.toList k hk
  have e2 := count_take_mono t.data.toList (show Rp.bhL t.data.toList k ≤ i from h1)
  have e3 : (t.data.toList.take i).count 10 ≤ Rp.lf t := (List.take_sublist _ _).count_le _
  rcases Nat.lt_or_ge k ((t.data.toList.take i).count 10) with h | h
  · exfalso
    have e4 := bhL_mono t.data.toList (k + 1) _ h e3
    have e5 := bhL_take t.data.toList i
    have e6 : lnTo t k = Rp.bh t (k + 1) := by unfold lnTo; rw [if_pos (by omega)]
    have e7 : Rp.bh t (k + 1) = Rp.bhL t.data.toList (k + 1) := rfl
    omega
  · omega
theorem lf_line {t : ByteArray} {k i : Nat} (hk : k ≤ Rp.lf t) (hi : i < t.size) (h1 : Rp.bh t k ≤ i) (h2 : i < lnTo t k) : Ut.bt t i = 10 ↔ (i + 1 = lnTo t k ∧ k < Rp.lf t) := by
  have hc := count_line hk h1 (.inl h2)
  have hs := count_take_succ t hi
  have e3 : (t.data.toList.take (i + 1)).count 10 ≤ Rp.lf t := (List.take_sublist _ _).count_le _
  constructor
  · intro hb
    have ha := bh_at hi hb
    rw [hc] at ha hs
    rw [if_pos hb] at hs
    refine ⟨?_, by omega⟩
    unfold lnTo
    rw [if_pos (by omega), ha]
  · rintro ⟨h3, h4⟩
    have e6 : lnTo t k = Rp.bh t (k + 1) := by unfold lnTo; rw [if_pos h4]
    have e1 := bhL_count t.data.toList (k + 1) h4
    have e7 : Rp.bh t (k + 1) = Rp.bhL t.data.toList (k + 1) := rfl
    rw [← e7, ← e6, ← h3, hs, hc] at e1
    by_cases hb : Ut.bt t i = 10
    · exact hb
    · rw [if_neg hb] at e1; omega
theorem line_pos {t : ByteArray} {k : Nat} (hk : k < Rp.lf t) : Rp.bh t k < lnTo t k := by
  have e6 : lnTo t k = Rp.bh t (k + 1) := by unfold lnTo; rw [if_pos hk]
  rw [e6]
  have h1 := bh_mono (s := t) (k := k) (j := k + 1) (by omega) hk
  have e1 := bhL_count t.data.toList k (by unfold Rp.lf at hk; omega)
  have e2 := bhL_count t.data.toList (k + 1) hk
  rcases Nat.lt_or_ge (Rp.bh t k) (Rp.bh t (k + 1)) with h | h
  · exact h
  · exfalso
    have : Rp.bhL t.data.toList k = Rp.bhL t.data.toList (k + 1) := Nat.le_antisymm h1 h
    rw [this] at e1
    omega

set_option maxRecDepth 100000 in
set_option maxHeartbeats 8000000 in
theorem walk (s : ByteArray) (v : Value) (l : List (Int × Int × ByteArray)) (w : World) (_ : s.size ≤ maxLen) (hx : IsEdits w v l) (hw : Rows w) :
    Calls Tryd.prog 12 #[.string s, v] w fun e w' => e = .returned (.bool true) ∧ Below w.heap.size w w' := by
  obtain ⟨p, cap, rfl, hv⟩ := edits_view hx
  obtain ⟨n, hn⟩ : ∃ n, l.length = n := ⟨_, rfl⟩
  rw [hn] at hv ⊢
  clear hx
  have HV := Lib.hid hv
  clear hv
  have stop : ∀ (W : World), Below w.heap.size w W → Calls Tryd.prog 42 #[] W (Gives (.bool true) W) := fun W hW => wakes2_any W (hw.below hW hw.size)
  have STOP := Lib.hid stop
  clear stop
  by_cases h0 : 8192 < s.size
  · have hd : decide ((8192 : Int) < (s.size : Int)) = true := decide_eq_true (by omega)
    have hd' : decide (8192 < s.size) = true := decide_eq_true h0
    go_enter Tryd.func12, Tryd.ntmps12
    go_wp2_with (fail)
    refine (STOP.out _ (Below.refl _ _)).mono ?_
    rintro e w2 ⟨rfl, b2⟩
    go_wp2_with (fail)
    go_ret
    exact ⟨rfl, b2⟩
  · have hd : decide ((8192 : Int) < (s.size : Int)) = false := decide_eq_false (by omega)
    have hd' : decide (8192 < s.size) = false := decide_eq_false h0
    by_cases h1 : 20 < n
    · have hd1 : decide ((20 : Int) < (n : Int)) = true := decide_eq_true (by omega)
      have hd1' : decide (20 < n) = true := decide_eq_true h1
      go_enter Tryd.func12, Tryd.ntmps12
      go_wp2_with (fail)
      refine (STOP.out _ (Below.refl _ _)).mono ?_
      rintro e w2 ⟨rfl, b2⟩
      go_wp2_with (fail)
      go_ret
      exact ⟨rfl, b2⟩
    · have hd1 : decide ((20 : Int) < (n : Int)) = false := decide_eq_false (by omega)
      have hd1' : decide (20 < n) = false := decide_eq_false h1
      go_enter Tryd.func12, Tryd.ntmps12
      go_wp2_with (fail)
      refine (of_short s _ (by omega)).mono ?_
      rintro e w1 ⟨q, rfl, i1, b1⟩
      go_wp2_with (fail)
      go_loopw [5, 6] (fun vr vi wr => ∃ (r : Option Addr) (i : Nat) (t : ByteArray), vr = .pointer r ∧ vi = .int .i64 i ∧ i ≤ n ∧ IsR wr r t ∧ Below w.heap.size w wr) (fun _ vi _ => n - (intOf vi).toNat)
      case atStart => exact ⟨q, 0, s, rfl, rfl, Nat.zero_le _, i1, b1⟩
      case round =>
        obtain ⟨r, i, t, rfl, rfl, hi, hr, hB⟩ := hrel
        clear i1 b1
        have HRR := Lib.hid hr
        clear hr
        by_cases hlt : i < n
        · have e1 : decide ((i : Int) < (n : Int)) = true := decide_eq_true (by omega)
          have e1' : decide (i < n) = true := decide_eq_true hlt
          obtain ⟨b, o, pos, del, ins, rfl, hcap, hbb, -, hok, c0, c1, c2⟩ := HV.out i hlt
          have k0 := (hB.cell (p := ⟨b, o + i * 3, none⟩) hbb).trans c0
          have k1 := (hB.cell (p := ⟨b, o + i * 3 + 1, none⟩) hbb).trans c1
          have k2 := (hB.cell (p := ⟨b, o + i * 3 + 2, none⟩) hbb).trans c2
          have hm := hok.2.2
          dsimp only at hm
          have SP := Lib.hid (splice_gen r t pos del ins wr HRR.out hok)
          unfold ed at SP
          clear hok c0 c1 c2
          by_cases h2 : 8192 < ins.size
          · have e2 : decide ((8192 : Int) < (ins.size : Int)) = true := decide_eq_true (by omega)
            have e2' : decide (8192 < ins.size) = true := decide_eq_true h2
            go_wp2_with (fail)
            refine (STOP.out _ hB).mono ?_
            rintro e w2 ⟨rfl, b2⟩
            go_wp2_with (fail)
            go_ret
            exact ⟨rfl, hB.trans (b2.mono hB.size)⟩
          · have e2 : decide ((8192 : Int) < (ins.size : Int)) = false := decide_eq_false (by omega)
            have e2' : decide (8192 < ins.size) = false := decide_eq_false h2
            go_wp2_with (fail)
            refine (SP.out).mono ?_
            rintro e w2 (⟨cd, hcd, rfl, b2⟩ | ⟨q', t', rfl, hr2, b2⟩)
            · have e3 : (cd == 0) = false := by simpa using hcd
              have i2 := HRR.out.below b2
              go_wp2_with (fail)
              go_roundw
              case rel => exact ⟨r, i + 1, t, rfl, by go_num, by omega, i2, hB.trans (b2.mono hB.size)⟩
              case measure => simp [intOf]; omega
            · go_wp2_with (fail)
              go_roundw
              case rel => exact ⟨q', i + 1, t', rfl, by go_num, by omega, hr2, hB.trans (b2.mono hB.size)⟩
              case measure => simp [intOf]; omega
        · obtain rfl : i = n := by omega
          have e1 : decide ((i : Int) < (i : Int)) = false := by simp
          have hts := HRR.out.size
          have hlfs := Rp.lf_le t
          go_wp2_with (fail)
          refine (text_any r t _ HRR.out).mono ?_
          rintro e w2 ⟨rfl, b2⟩
          have B2 := hB.trans (b2.mono hB.size)
          have R := Lib.hid (HRR.out.below b2)
          clear HRR HV b2 hB
          go_wp2_with (fail)
          go_loopw [10, 11] (fun va vk wx => ∃ k : Nat, vk = .int .i64 k ∧ va = .int .i64 (atp t k) ∧ k ≤ Rp.lf t + 1 ∧ Below w2.heap.size w2 wx) (fun _ vk _ => Rp.lf t + 1 - (intOf vk).toNat)
          case atStart => exact ⟨0, rfl, by unfold atp; rw [if_pos (Nat.zero_le _), Rp.bh_zero]; rfl, Nat.zero_le _, Below.refl _ _⟩
          case round =>
            obtain ⟨k, rfl, rfl, hk, hx2⟩ := hrel
            have HX := Lib.hid hx2
            clear hx2
            have ll := Lib.hid (fun W (hW : Below w2.heap.size w2 W) => lines_any r t W (R.out.below hW))
            by_cases hlt : k < Rp.lf t + 1
            · have f1 : decide ((k : Int) < (Rp.lf t : Int) + 1) = true := decide_eq_true (by omega)
              have f1' : decide (k < Rp.lf t + 1) = true := decide_eq_true hlt
              have f1'' : decide (k ≤ Rp.lf t) = true := decide_eq_true (by omega)
              have hkl : k ≤ Rp.lf t := by omega
              have hat : atp t k = Rp.bh t k := by unfold atp; rw [if_pos hkl]
              have LI := Lib.hid (fun W (hW : Below w2.heap.size w2 W) => line_in r t k W (R.out.below hW) hkl)
              obtain ⟨hb1, hb2⟩ := bh_lnTo (s := t) (k := k)
              have HLF := Lib.hid (fun (i : Nat) => lf_line (t := t) (k := k) (i := i) hkl)
              have HCN := Lib.hid (fun (i : Nat) => count_line (t := t) (k := k) (i := i) hkl)
              have HPO := Lib.hid (fun h => line_pos (t := t) (k := k) h)
              have HTO := Lib.hid (atp_to (t := t) (k := k))
              rw [hat]
              obtain ⟨B, hBB⟩ : ∃ B, Rp.bh t k = B := ⟨_, rfl⟩
              obtain ⟨E, hEE⟩ : ∃ E, lnTo t k = E := ⟨_, rfl⟩
              rw [hBB] at hb1 LI HLF HCN HPO ⊢
              rw [hEE] at hb1 hb2 LI HLF HCN HPO HTO
              clear hat hBB hEE hk
              have hget := Ut.get_bt t
              have f2 : decide ((E : Int) < (B : Int)) = false := decide_eq_false (by omega)
              have f2' : decide (E < B) = false := decide_eq_false (by omega)
              have f3 : decide ((t.size : Int) < (E : Int)) = false := decide_eq_false (by omega)
              have f3' : decide (t.size < E) = false := decide_eq_false (by omega)
              go_wp2_with (fail)
              refine (ll.out _ HX.out).mono ?_
              rintro e w3 ⟨rfl, b3⟩
              have B3 := HX.out.trans (b3.mono HX.out.size)
              go_wp2_with (fail)
              refine (LI.out _ B3).mono ?_
              rintro e w4 ⟨rfl, b4⟩
              have B4 := B3.trans (b4.mono B3.size)
              obtain ⟨w5, hw5, b5, o0, o1, l5⟩ := range_new' w4 B E
              have B5 := B4.trans (b5.mono B4.size)
              go_wp2_with (fail)
              refine (ll.out _ B5).mono ?_
              rintro e w6 ⟨rfl, b6⟩
              have B6 := B5.trans (b6.mono B5.size)
              have p0 := (b6.cell (p := ⟨w4.heap.size, 0, none⟩) l5).trans o0
              have p1 := (b6.cell (p := ⟨w4.heap.size, 1, none⟩) l5).trans o1
              have l6 := World.block_lt_of_cell? w6 _ p0
              clear hw5 o0 o1 b3 b4 b5 b6 B3 B4 B5
              cases hla : decide (k = Rp.lf t) with
              | true =>
                have hkq : k = Rp.lf t := of_decide_eq_true hla
                have y0 : ((k : Int) == (Rp.lf t : Int)) = true := by simp; omega
                have y0' : (k == Rp.lf t) = true := by simpa using hkq
                have HKQ := Lib.hid hkq
                clear hkq hla
                go_wp2_with (fail)
                go_loopw [15] (fun vi wy => ∃ i : Nat, vi = .int .i64 i ∧ B ≤ i ∧ i ≤ E ∧ Below w6.heap.size w6 wy) (fun vi _ => E - (intOf vi).toNat)
                case atStart => exact ⟨B, rfl, Nat.le_refl _, hb1, Below.refl _ _⟩
                case round =>
                  obtain ⟨i, rfl, hi1, hi2, hy2⟩ := hrel
                  have HY := Lib.hid hy2
                  have q0 := (hy2.cell (p := ⟨w4.heap.size, 0, none⟩) l6).trans p0
                  have q1 := (hy2.cell (p := ⟨w4.heap.size, 1, none⟩) l6).trans p1
                  clear hy2
                  by_cases hie : i < E
                  · have g1 : decide ((i : Int) < (E : Int)) = true := decide_eq_true (by omega)
                    have g1' : decide (i < E) = true := decide_eq_true hie
                    have his : i < t.size := by omega
                    have hiff := HLF.out i his hi1 hie
                    have hcn := HCN.out i hi1 (.inl hie)
                    have hfi := fun W (hW : Below w2.heap.size w2 W) => find_in r t i W (R.out.below hW) (by omega)
                    rw [lf_take, hcn] at hfi
                    have FI := Lib.hid hfi
                    clear hfi hcn
                    have B7 := B6.trans (HY.out.mono B6.size)
                    have hw0 : IntKind.i64.wrap ((E : Int) - 1) = (E : Int) - 1 := w64 (by omega) (by omega)
                    have hb : ¬ Ut.bt t i = 10 := fun h => by have := (hiff.1 h).2; have := HKQ.out; omega
                    have z1 : (Ut.bt t i == 10) = false := by simpa using hb
                    clear hiff
                    by_cases hie2 : i + 1 = E
                    · have z2 : ((i : Int) == (E : Int) - 1) = true := by simp; omega
                      clear hie2
                      have x6 : ((i : Int) % 7 == 0) = true ∨ ((i : Int) % 7 == 0) = false := by cases ((i : Int) % 7 == 0) <;> simp
                      have hmod : (i : Int).tmod 7 = (i : Int) % 7 := Int.tmod_eq_emod_of_nonneg (by omega)
                      rcases x6 with x6 | x6
                      · skip
                        go_wp2_with (fail)
                        go_quiet (fail)
                        go_wp2_with (fail)
                        refine (FI.out _ (below_drewN B7 _)).mono ?_
                        rintro e w8 ⟨rfl, b8⟩
                        have B8 : Below w6.heap.size w6 w8 := (below_drewN HY.out nq).trans (b8.mono (below_drewN HY.out nq).size)
                        go_wp2_with (fail)
                        go_roundw
                        case rel => exact ⟨i + 1, by go_num, by omega, by omega, B8⟩
                        case measure => simp [intOf]; omega
                      · by_cases x7 : i = B
                        · have x7a : ((i : Int) == (B : Int)) = true := by simp; omega
                          have x7b : (i == B) = true := by simpa using x7
                          clear x7
                          go_wp2_with (fail)
                          go_quiet (fail)
                          go_wp2_with (fail)
                          refine (FI.out _ (below_drewN B7 _)).mono ?_
                          rintro e w8 ⟨rfl, b8⟩
                          have B8 : Below w6.heap.size w6 w8 := (below_drewN HY.out nq).trans (b8.mono (below_drewN HY.out nq).size)
                          go_wp2_with (fail)
                          go_roundw
                          case rel => exact ⟨i + 1, by go_num, by omega, by omega, B8⟩
                          case measure => simp [intOf]; omega
                        · have x7a : ((i : Int) == (B : Int)) = false := by simp; omega
                          have x7b : (i == B) = false := by simpa using x7
                          go_wp2_with (fail)
                          go_quiet (fail)
                          go_wp2_with (fail)
                          go_roundw
                          case rel => exact ⟨i + 1, by go_num, by omega, by omega, below_drewN HY.out _⟩
                          case measure => simp [intOf]; omega
                    · have z2 : ((i : Int) == (E : Int) - 1) = false := by simp; omega
                      clear hie2
                      have x6 : ((i : Int) % 7 == 0) = true ∨ ((i : Int) % 7 == 0) = false := by cases ((i : Int) % 7 == 0) <;> simp
                      have hmod : (i : Int).tmod 7 = (i : Int) % 7 := Int.tmod_eq_emod_of_nonneg (by omega)
                      rcases x6 with x6 | x6
                      · skip
                        go_wp2_with (fail)
                        go_quiet (fail)
                        go_wp2_with (fail)
                        refine (FI.out _ (below_drewN B7 _)).mono ?_
                        rintro e w8 ⟨rfl, b8⟩
                        have B8 : Below w6.heap.size w6 w8 := (below_drewN HY.out nq).trans (b8.mono (below_drewN HY.out nq).size)
                        go_wp2_with (fail)
                        go_roundw
                        case rel => exact ⟨i + 1, by go_num, by omega, by omega, B8⟩
                        case measure => simp [intOf]; omega
                      · by_cases x7 : i = B
                        · have x7a : ((i : Int) == (B : Int)) = true := by simp; omega
                          have x7b : (i == B) = true := by simpa using x7
                          clear x7
                          go_wp2_with (fail)
                          go_quiet (fail)
                          go_wp2_with (fail)
                          refine (FI.out _ (below_drewN B7 _)).mono ?_
                          rintro e w8 ⟨rfl, b8⟩
                          have B8 : Below w6.heap.size w6 w8 := (below_drewN HY.out nq).trans (b8.mono (below_drewN HY.out nq).size)
                          go_wp2_with (fail)
                          go_roundw
                          case rel => exact ⟨i + 1, by go_num, by omega, by omega, B8⟩
                          case measure => simp [intOf]; omega
                        · have x7a : ((i : Int) == (B : Int)) = false := by simp; omega
                          have x7b : (i == B) = false := by simpa using x7
                          go_wp2_with (fail)
                          go_quiet (fail)
                          go_wp2_with (fail)
                          go_roundw
                          case rel => exact ⟨i + 1, by go_num, by omega, by omega, below_drewN HY.out _⟩
                          case measure => simp [intOf]; omega
                  · obtain rfl : i = E := by omega
                    have g1 : decide ((i : Int) < (i : Int)) = false := by simp
                    have B7 := B6.trans (HY.out.mono B6.size)
                    go_wp2_with (fail)
                    go_roundw
                    case rel => exact ⟨k + 1, by go_num, by rw [← HTO.out], by omega, B7⟩
                    case measure => simp [intOf]; omega
              | false =>
                have hkq : ¬ k = Rp.lf t := of_decide_eq_false hla
                have y0 : ((k : Int) == (Rp.lf t : Int)) = false := by simp; omega
                have y0' : (k == Rp.lf t) = false := by simpa using hkq
                have hpo := HPO.out (by omega)
                have y9 : ((E : Int) == (B : Int)) = false := by simp; omega
                have y9' : (E == B) = false := by simp; omega
                have HKQ := Lib.hid hkq
                clear hkq hla
                go_wp2_with (fail)
                go_loopw [15] (fun vi wy => ∃ i : Nat, vi = .int .i64 i ∧ B ≤ i ∧ i ≤ E ∧ Below w6.heap.size w6 wy) (fun vi _ => E - (intOf vi).toNat)
                case atStart => exact ⟨B, rfl, Nat.le_refl _, hb1, Below.refl _ _⟩
                case round =>
                  obtain ⟨i, rfl, hi1, hi2, hy2⟩ := hrel
                  have HY := Lib.hid hy2
                  have q0 := (hy2.cell (p := ⟨w4.heap.size, 0, none⟩) l6).trans p0
                  have q1 := (hy2.cell (p := ⟨w4.heap.size, 1, none⟩) l6).trans p1
                  clear hy2
                  by_cases hie : i < E
                  · have g1 : decide ((i : Int) < (E : Int)) = true := decide_eq_true (by omega)
                    have g1' : decide (i < E) = true := decide_eq_true hie
                    have his : i < t.size := by omega
                    have hiff := HLF.out i his hi1 hie
                    have hcn := HCN.out i hi1 (.inl hie)
                    have hfi := fun W (hW : Below w2.heap.size w2 W) => find_in r t i W (R.out.below hW) (by omega)
                    rw [lf_take, hcn] at hfi
                    have FI := Lib.hid hfi
                    clear hfi hcn
                    have B7 := B6.trans (HY.out.mono B6.size)
                    have hw0 : IntKind.i64.wrap ((E : Int) - 1) = (E : Int) - 1 := w64 (by omega) (by omega)
                    by_cases hb : Ut.bt t i = 10
                    · have z1 : (Ut.bt t i == 10) = true := by simpa using hb
                      have hie2 := (hiff.1 hb).1
                      have z2 : ((i : Int) == (E : Int) - 1) = true := by simp; omega
                      clear hiff hie2
                      have x6 : ((i : Int) % 7 == 0) = true ∨ ((i : Int) % 7 == 0) = false := by cases ((i : Int) % 7 == 0) <;> simp
                      have hmod : (i : Int).tmod 7 = (i : Int) % 7 := Int.tmod_eq_emod_of_nonneg (by omega)
                      rcases x6 with x6 | x6
                      · skip
                        go_wp2_with (fail)
                        go_quiet (fail)
                        go_wp2_with (fail)
                        refine (FI.out _ (below_drewN B7 _)).mono ?_
                        rintro e w8 ⟨rfl, b8⟩
                        have B8 : Below w6.heap.size w6 w8 := (below_drewN HY.out nq).trans (b8.mono (below_drewN HY.out nq).size)
                        go_wp2_with (fail)
                        go_roundw
                        case rel => exact ⟨i + 1, by go_num, by omega, by omega, B8⟩
                        case measure => simp [intOf]; omega
                      · by_cases x7 : i = B
                        · have x7a : ((i : Int) == (B : Int)) = true := by simp; omega
                          have x7b : (i == B) = true := by simpa using x7
                          clear x7
                          go_wp2_with (fail)
                          go_quiet (fail)
                          go_wp2_with (fail)
                          refine (FI.out _ (below_drewN B7 _)).mono ?_
                          rintro e w8 ⟨rfl, b8⟩
                          have B8 : Below w6.heap.size w6 w8 := (below_drewN HY.out nq).trans (b8.mono (below_drewN HY.out nq).size)
                          go_wp2_with (fail)
                          go_roundw
                          case rel => exact ⟨i + 1, by go_num, by omega, by omega, B8⟩
                          case measure => simp [intOf]; omega
                        · have x7a : ((i : Int) == (B : Int)) = false := by simp; omega
                          have x7b : (i == B) = false := by simpa using x7
                          go_wp2_with (fail)
                          go_quiet (fail)
                          go_wp2_with (fail)
                          go_roundw
                          case rel => exact ⟨i + 1, by go_num, by omega, by omega, below_drewN HY.out _⟩
                          case measure => simp [intOf]; omega
                    · have z1 : (Ut.bt t i == 10) = false := by simpa using hb
                      have hie2 : ¬ i + 1 = E := fun h => hb (hiff.2 ⟨h, by have := HKQ.out; omega⟩)
                      have z2 : ((i : Int) == (E : Int) - 1) = false := by simp; omega
                      clear hiff hie2
                      have x6 : ((i : Int) % 7 == 0) = true ∨ ((i : Int) % 7 == 0) = false := by cases ((i : Int) % 7 == 0) <;> simp
                      have hmod : (i : Int).tmod 7 = (i : Int) % 7 := Int.tmod_eq_emod_of_nonneg (by omega)
                      rcases x6 with x6 | x6
                      · skip
                        go_wp2_with (fail)
                        go_quiet (fail)
                        go_wp2_with (fail)
                        refine (FI.out _ (below_drewN B7 _)).mono ?_
                        rintro e w8 ⟨rfl, b8⟩
                        have B8 : Below w6.heap.size w6 w8 := (below_drewN HY.out nq).trans (b8.mono (below_drewN HY.out nq).size)
                        go_wp2_with (fail)
                        go_roundw
                        case rel => exact ⟨i + 1, by go_num, by omega, by omega, B8⟩
                        case measure => simp [intOf]; omega
                      · by_cases x7 : i = B
                        · have x7a : ((i : Int) == (B : Int)) = true := by simp; omega
                          have x7b : (i == B) = true := by simpa using x7
                          clear x7
                          go_wp2_with (fail)
                          go_quiet (fail)
                          go_wp2_with (fail)
                          refine (FI.out _ (below_drewN B7 _)).mono ?_
                          rintro e w8 ⟨rfl, b8⟩
                          have B8 : Below w6.heap.size w6 w8 := (below_drewN HY.out nq).trans (b8.mono (below_drewN HY.out nq).size)
                          go_wp2_with (fail)
                          go_roundw
                          case rel => exact ⟨i + 1, by go_num, by omega, by omega, B8⟩
                          case measure => simp [intOf]; omega
                        · have x7a : ((i : Int) == (B : Int)) = false := by simp; omega
                          have x7b : (i == B) = false := by simpa using x7
                          go_wp2_with (fail)
                          go_quiet (fail)
                          go_wp2_with (fail)
                          go_roundw
                          case rel => exact ⟨i + 1, by go_num, by omega, by omega, below_drewN HY.out _⟩
                          case measure => simp [intOf]; omega
                  · obtain rfl : i = E := by omega
                    have g1 : decide ((i : Int) < (i : Int)) = false := by simp
                    have B7 := B6.trans (HY.out.mono B6.size)
                    go_wp2_with (fail)
                    go_roundw
                    case rel => exact ⟨k + 1, by go_num, by rw [← HTO.out], by omega, B7⟩
                    case measure => simp [intOf]; omega
            · obtain rfl : k = Rp.lf t + 1 := by omega
              have f1 : decide (((Rp.lf t + 1 : Nat) : Int) < (Rp.lf t : Int) + 1) = false := decide_eq_false (by omega)
              have f1' : decide (Rp.lf t + 1 < Rp.lf t + 1) = false := decide_eq_false (by omega)
              have hat : atp t (Rp.lf t + 1) = t.size := by unfold atp; rw [if_neg (by omega)]
              rw [hat]
              have hfi := fun W (hW : Below w2.heap.size w2 W) => find_in r t t.size W (R.out.below hW) (Nat.le_refl _)
              rw [Rp.ext_all t (Nat.le_refl _)] at hfi
              have FI := Lib.hid hfi
              clear hfi hat
              go_wp2_with (fail)
              refine (ll.out _ HX.out).mono ?_
              rintro e w3 ⟨rfl, b3⟩
              have B3 := HX.out.trans (b3.mono HX.out.size)
              go_wp2_with (fail)
              refine (FI.out _ B3).mono ?_
              rintro e w4 ⟨rfl, b4⟩
              have B4 := B3.trans (b4.mono B3.size)
              go_wp2_with (fail)
              refine (ll.out _ B4).mono ?_
              rintro e w5 ⟨rfl, b5⟩
              have B5 := B4.trans (b5.mono B4.size)
              have B7 := B2.trans (B5.mono B2.size)
              go_wp2_with (fail)
              refine (STOP.out _ B7).mono ?_
              rintro e w6 ⟨rfl, b6⟩
              go_wp2_with (fail)
              go_ret
              exact ⟨rfl, B7.trans (b6.mono B7.size)⟩


set_option maxRecDepth 100000 in
theorem contract (H : Type) (enc : TypeId × Value → H) (W : World) (base : Nat) (args : Array Value) (ds gs : List (DataW H)) (before : List MemPlace)
    (hval : ∀ (j : Nat) t v, Tryd.f12.params[j]? = some t → args[j]? = some v → Value.okWide Tryd.prog W .any base t v)
    (hW : DataW.Whole enc Tryd.prog Tryd.f12.params.toList Rows.ropeLinesSpec.vars false W args.toList ds gs before) (hL : laidMetH Tryd.prog Rows.ropeLinesRow.laid W) :
    Calls Tryd.prog 12 args W fun e W' => ∃ v, e = .returned v ∧ Rows.ropeLinesSpec.post enc Tryd.prog Tryd.f12 false true false false W args v W' := by
  have hW' := hW
  obtain ⟨p, q, hA0, hV, rfl, hfz, hnd⟩ := hW
  have hA : DataW.TrodAll enc Tryd.prog W 0 (fun _ => true) true Tryd.f12.params.toList args.toList ds p := hA0
  rw [Tryd.params12] at hA hval
  obtain ⟨v0, v1, d0, d1, p0, p1, rfl, rfl, rfl, h0, h1⟩ := trodAll_two hA
  obtain ⟨rfl, rfl⟩ := trodVars_none hV
  obtain ⟨x0, rfl, rfl, rfl, hs0⟩ := open_string Tryd.underlying9 (hval 0 9 v0 rfl rfl) h0
  have hk1 := h1
  obtain ⟨x1, hx1⟩ := open_edits (hval 1 53 v1 rfl rfl) h1
  refine (walk x0 v1 x1 W hs0 hx1 (table hL)).mono fun e W' ⟨he, hg⟩ => ?_
  subst he
  refine ⟨_, rfl, _, _, _, [], ([] ++ (p1 ++ [])), [], hW', ?_, ?_, ?_, hg.frame _, fun h => by cases h⟩
  · exact trodAll_cons_mk (shut_bool Tryd.underlying4 _) trodAll_mk0
  · exact trodAll_cons_mk (shut_string Tryd.underlying9 hs0) (trodAll_cons_mk (Below.trod laidOut (by kernel_rfl) (of_decide_eq_true (by kernel_rfl)) hk1 hg (fun x hx => by simpa using hW'.lt x (by simp [hx]))) trodAll_mk0)
  · rfl

theorem laid_met (os : Os) : laidMet Tryd.prog Rows.ropeLinesRow.laid ((laidWorld os).forCall (fun _ _ => 0) ⟨#[], #[.string ByteArray.empty, .slice none 0 0], []⟩).memory :=
  laidMet_of_run' 8 (by kernel_rfl) (by kernel_rfl)
theorem reads (os : Os) {H : Type} (enc : TypeId × Value → H) : ∃ places, DataW.whole enc Tryd.prog ((laidWorld os).forCall (fun _ _ => 0) ⟨#[], #[.string ByteArray.empty, .slice none 0 0], []⟩).memory Tryd.f12.params.toList Rows.ropeLinesSpec.vars false (#[.string ByteArray.empty, .slice none 0 0] : Array Value).toList 8 = some ([.lit (.string []), .nil], [], places) :=
  ⟨[], by kernel_rfl⟩

set_option maxRecDepth 100000 in
theorem lifted (os : Os) (started : os.Started) (H : Type) (enc : TypeId × Value → H) (F : Stop.Interp) :
    ReturnsInHanded {} Tryd.checked os 12 .any ((OpenSpec.ofChange Rows.ropeLinesSpec).preRow enc Tryd.prog Tryd.f12 Rows.ropeLinesRow.domain false Rows.ropeLinesRow.laid) (((OpenSpec.ofChange Rows.ropeLinesSpec).at F).post enc Tryd.prog Tryd.f12 false true false false) := by
  obtain ⟨places, hx⟩ := reads os enc
  refine returnsInHanded_of_row (C := Tryd.checked) (s := OpenSpec.ofChange Rows.ropeLinesSpec) own started (by kernel_rfl) Tryd.func12
    (witness_row_at (enc := enc) (C := Tryd.checked) false (laidWorld os) #[.string ByteArray.empty, .slice none 0 0] rfl (by kernel_rfl) (by kernel_rfl) (by kernel_rfl)
      (OpenSpec.preRow_of_cond 8 hx (by kernel_rfl) (fun k hk => by cases hk) (by kernel_rfl) (laid_met os))) ?_
  intro W base args ds gs before hval hW _ _ _ hL _ _
  exact contract H enc W base args ds gs before hval hW hL

theorem said : Rows.RopeLinesSaid :=
  OpenClaim.holds_of_cond 12 Tryd.f12 rfl rfl rfl rfl rfl rfl rfl ⟨rfl, rfl, rfl, rfl, rfl⟩ rfl rfl rfl rfl rfl (by kernel_rfl) Tryd.func12 (by kernel_rfl)
    (of_decide_eq_true (by kernel_rfl)) (by unfold Func.isWrapper; first | (rw [if_pos (by decide +kernel)]; kernel_rfl) | (rw [if_neg (by decide +kernel)]; exact ⟨rfl, rfl⟩))
    (fun os started H enc _ F => by rw [OpenClaim.pre_eq_preRow]; exact lifted os started H enc F)

theorem plain (f : FuncId) (fn : Func) (hf : Tryd.pinned.checked.prog.funcNamed "indenture/indenturelaw02.RopeLines" = some f) (hfn : Tryd.pinned.checked.prog.funcs[f]? = some fn) :
    false = Tryd.pinned.checked.prog.looks [] ∧ ∀ (j : Nat) t, fn.params[j]? = some t → Tryd.pinned.checked.prog.wantsStandIn t = false := by
  obtain rfl : f = 12 := Option.some.inj ((show Tryd.prog.funcNamed "indenture/indenturelaw02.RopeLines" = some 12 by kernel_rfl).symm.trans hf) |>.symm
  obtain rfl : fn = Tryd.f12 := (Option.some.inj (Tryd.func12.symm.trans hfn)).symm
  refine ⟨by kernel_rfl, fun j t ht => ?_⟩
  rw [Tryd.params12] at ht
  have ht' := Array.mem_of_getElem? ht
  have hd : t = 9 ∨ t = 53 := by simpa using ht'
  rcases hd with rfl | rfl
  · exact (show Tryd.prog.wantsStandIn 9 = false by kernel_rfl)
  · exact (show Tryd.prog.wantsStandIn 53 = false by kernel_rfl)

/-- THE CARD. -/
theorem card : Rows.RopeLinesCardSaid :=
  Claim7.holds_tied_plain_at .later [] _ _ _ _ said (fun _ h => by cases h) (by kernel_rfl) (fun _ h => by cases h) ropeLines_row_tie rfl ⟨rfl, rfl⟩ (by kernel_rfl) rfl plain (by kernel_rfl)
#print axioms card
end Go.Proofs.YtejipknbhiokeaaDoor.LawRopeLines

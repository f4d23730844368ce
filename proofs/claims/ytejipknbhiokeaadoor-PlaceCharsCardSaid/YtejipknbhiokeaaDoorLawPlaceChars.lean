/-
  PROVED HERE: the statement Rows.PlaceCharsCardSaid: the character of the place of a character is that one. No condition beyond the row's own.
-/
import Derived.Test.YtejipknbhiokeaaDoorPlain8
import Derived.Test.YtejipknbhiokeaaDoorWakes3
import Derived.Test.YtejipknbhiokeaaDoorLaid
import Derived.Test.YtejipknbhiokeaaDoorCards
import Derived.Test.YtejipknbhiokeaaDoorTie
namespace Go.Proofs.YtejipknbhiokeaaDoor.LawPlaceChars
open Go.ChangeShapes Go.WideShapes Go.ChangeAt Go.RowKit
open Go.ChangeMaps (open_string shut_string)

/-- The place of a character, or none. -/
theorem cho_of (q : Option Addr) (s : ByteArray) (k c : Int) (w : World) (h : IsR w q s) (hcb : c ≤ 9223372036854775807) :
    (∀ W, Below w.heap.size w W → Rows W → Calls Tryd.prog 51 #[.pointer q, .int .i64 k, .int .i64 c] W (Gives (.tuple #[.int .i64 0, .int .i64 5]) W)) ∨
    (∃ j n a : Nat, k = j ∧ c = n ∧ j ≤ Rp.lf s ∧ chOff (cut (lnB s j)) n 0 = some a ∧ ∀ W, Below w.heap.size w W → Rows W → Calls Tryd.prog 51 #[.pointer q, .int .i64 j, .int .i64 n] W (Gives (.tuple #[.int .i64 ((Rp.bh s j + a : Nat) : Int), .int .i64 0]) W)) := by
  by_cases hk : k < 0 ∨ (Rp.lf s : Int) < k
  · exact .inl fun W hW _ => pcho_out q s k c W (h.below hW) hk
  · obtain ⟨j, rfl⟩ := Int.eq_ofNat_of_zero_le (show 0 ≤ k by omega)
    by_cases hc : c < 0
    · exact .inl fun W hW hr => pcho_bad q s j c W (h.below hW) (by omega) hcb hr (.inl hc)
    · obtain ⟨n, rfl⟩ := Int.eq_ofNat_of_zero_le (show 0 ≤ c by omega)
      cases hn : chOff (cut (lnB s j)) n 0 with
      | none => exact .inl fun W hW hr => pcho_bad q s j n W (h.below hW) (by omega) hcb hr (.inr (by simpa using hn))
      | some a => exact .inr ⟨j, n, a, rfl, rfl, by omega, hn, fun W hW hr => by
          have := pcho_in q s j n a W (h.below hW) (by omega) (by omega) hr hn
          rwa [show (Rp.bh s j : Int) + (a : Int) = ((Rp.bh s j + a : Nat) : Int) by omega] at this⟩

set_option maxRecDepth 100000 in
set_option maxHeartbeats 4000000 in
theorem walk (s : ByteArray) (k c : Int) (w : World) (_ : s.size ≤ maxLen) (_ : -9223372036854775808 ≤ k ∧ k ≤ 9223372036854775807) (bc : -9223372036854775808 ≤ c ∧ c ≤ 9223372036854775807) (hw : Rows w) :
    Calls Tryd.prog 15 #[.string s, .int .i64 k, .int .i64 c] w fun e w' => e = .returned (.bool true) ∧ Below w.heap.size w w' := by
  by_cases h0 : 4096 < s.size
  · have hd : decide ((4096 : Int) < (s.size : Int)) = true := decide_eq_true (by omega)
    have hd' : decide (4096 < s.size) = true := decide_eq_true h0
    go_enter Tryd.func15, Tryd.ntmps15
    go_wp2_with (fail)
    refine (wakes3_any _ hw).mono ?_
    rintro e w2 ⟨rfl, b2⟩
    go_wp2_with (fail)
    go_ret
    exact ⟨rfl, b2⟩
  · have hd : decide ((4096 : Int) < (s.size : Int)) = false := decide_eq_false (by omega)
    have hd' : decide (4096 < s.size) = false := decide_eq_false h0
    go_enter Tryd.func15, Tryd.ntmps15
    go_wp2_with (fail)
    refine (of_short s _ (by omega)).mono ?_
    rintro e w1 ⟨q, rfl, i1, b1⟩
    have hw1 := hw.below b1 hw.size
    have R := Lib.hid i1
    rcases cho_of q s k c w1 i1 bc.2 with hx | ⟨j, n, a, rfl, rfl, hj, ha, hx⟩
    · have HX := Lib.hid hx
      clear hx i1
      go_wp2_with (fail)
      refine (HX.out _ (Below.refl _ _) hw1).mono ?_
      rintro e w2 ⟨rfl, b2⟩
      have B2 := b1.trans (b2.mono b1.size)
      go_wp2_with (fail)
      refine (wakes3_any _ (hw.below B2 hw.size)).mono ?_
      rintro e w3 ⟨rfl, b3⟩
      go_wp2_with (fail)
      go_ret
      exact ⟨rfl, B2.trans (b3.mono B2.size)⟩
    · obtain ⟨g1, g2, g3, g4⟩ := chOff_chn (lnB s j) n 0 a (Nat.zero_le _) ha
      obtain ⟨p1, p2⟩ := line_place hj g4
      have hcz := cutB_le i1 j
      have hof := fun W (hW : Below w1.heap.size w1 W) => pof_in q s (Rp.bh s j + a) W (i1.below hW) p1
      rw [p2] at hof
      have hch := fun W (hW : Below w1.heap.size w1 W) (hr : Rows W) => pchar_in q s (Rp.bh s j + a) W (i1.below hW) p1 hr
      rw [p2, show Rp.bh s j + a - Rp.bh s j = a by omega, g1] at hch
      have hnx : (∀ W, Below w1.heap.size w1 W → Rows W → Calls Tryd.prog 51 #[.pointer q, .int .i64 j, .int .i64 ((n : Int) + 1)] W (Gives (.tuple #[.int .i64 0, .int .i64 5]) W)) ∨
          (a < (cut (lnB s j)).size ∧ ∀ W, Below w1.heap.size w1 W → Rows W → Calls Tryd.prog 51 #[.pointer q, .int .i64 j, .int .i64 ((n : Int) + 1)] W (Gives (.tuple #[.int .i64 ((Rp.bh s j + (a + Ut.rn (cut (lnB s j)) a) : Nat) : Int), .int .i64 0]) W)) := by
        have hs := chOff_succ (cut (lnB s j)) n 0
        rw [ha] at hs
        simp only [Option.bind_some] at hs
        by_cases hlt : a < (cut (lnB s j)).size
        · rw [if_pos hlt] at hs
          refine .inr ⟨hlt, fun W hW hr => ?_⟩
          have := pcho_in q s j (n + 1) _ W (i1.below hW) hj (by omega) hr hs
          rwa [show ((n + 1 : Nat) : Int) = (n : Int) + 1 by omega, show (Rp.bh s j : Int) + ((a + Ut.rn (cut (lnB s j)) a : Nat) : Int) = ((Rp.bh s j + (a + Ut.rn (cut (lnB s j)) a) : Nat) : Int) by omega] at this
        · rw [if_neg hlt] at hs
          refine .inl fun W hW hr => ?_
          have := pcho_bad q s j ((n + 1 : Nat) : Int) W (i1.below hW) hj (by omega) hr (.inr (by simpa using hs))
          rwa [show ((n + 1 : Nat) : Int) = (n : Int) + 1 by omega] at this
      have hin : ∀ m, a < m → m < a + Ut.rn (cut (lnB s j)) a → a < (cut (lnB s j)).size → ∀ W, Below w1.heap.size w1 W → Rows W → Calls Tryd.prog 49 #[.pointer q, .int .i64 ((Rp.bh s j + m : Nat) : Int)] W (Gives (.tuple #[.int .i64 ((n + 1 : Nat) : Int), .int .i64 0]) W) := fun m m1 m2 m3 W hW hr => by
        have hb := Ut.rn_bd m3
        obtain ⟨r1, r2⟩ := line_place hj (a := m) (by omega)
        have := pchar_in q s (Rp.bh s j + m) W (i1.below hW) r1 hr
        have hct := cut_le (lnB s j)
        rw [r2, show Rp.bh s j + m - Rp.bh s j = m by omega, chn_within (lnB s j) n 0 a m (Nat.zero_le _) ha m1 (by rw [rn_cut m3]; omega) (by omega)] at this
        exact this
      have hrb : a < (cut (lnB s j)).size → 1 ≤ Ut.rn (cut (lnB s j)) a ∧ Ut.rn (cut (lnB s j)) a ≤ 4 := fun h => ⟨(Ut.rn_bd h).1, (Ut.rn_bd h).2.1⟩
      have hbz := Rp.bh_le s j
      obtain ⟨rr, hrr⟩ : ∃ rr, Ut.rn (cut (lnB s j)) a = rr := ⟨_, rfl⟩
      obtain ⟨cz, hcz2⟩ : ∃ cz, (cut (lnB s j)).size = cz := ⟨_, rfl⟩
      rw [hrr] at hnx hin hrb
      rw [hcz2] at hnx hin hrb hcz g4
      obtain ⟨B, hB⟩ : ∃ B, Rp.bh s j = B := ⟨_, rfl⟩
      rw [hB] at hx hof hch hnx hin hbz p1
      rw [show ((B + a : Nat) : Int) - (B : Int) = (a : Int) by omega] at hof
      obtain ⟨A, hA⟩ : ∃ A, B + a = A := ⟨_, rfl⟩
      rw [hA] at hx hof hch p1
      have X := Lib.hid hx
      have O := Lib.hid hof
      have C := Lib.hid hch
      have I := Lib.hid hin
      have RB := Lib.hid hrb
      clear hx hof hch hin hrb i1 hrr hcz2 p2 ha g1
      have d1 : decide ((a : Int) < (n : Int)) = false := decide_eq_false (by omega)
      have d1' : decide (a < n) = false := decide_eq_false (by omega)
      have d2 : decide (4 * (n : Int) < (a : Int)) = false := decide_eq_false (by omega)
      rcases hnx with hnx | ⟨hac, hnx⟩
      · have N := Lib.hid hnx
        clear hnx
        go_wp2_with (fail)
        refine (X.out _ (Below.refl _ _) hw1).mono ?_
        rintro e w2 ⟨rfl, b2⟩
        go_wp2_with (fail)
        refine (O.out _ b2).mono ?_
        rintro e w3 ⟨rfl, b3⟩
        have B3 := b2.trans (b3.mono b2.size)
        go_wp2_with (fail)
        refine (C.out _ B3 (hw1.below B3 hw1.size)).mono ?_
        rintro e w4 ⟨rfl, b4⟩
        have B4 := B3.trans (b4.mono B3.size)
        go_wp2_with (fail)
        refine (N.out _ B4 (hw1.below B4 hw1.size)).mono ?_
        rintro e w5 ⟨rfl, b5⟩
        have B5 := B4.trans (b5.mono B4.size)
        go_wp2_with (fail)
        refine (wakes3_any _ (hw1.below B5 hw1.size)).mono ?_
        rintro e w6 ⟨rfl, b6⟩
        have B6 := B5.trans (b6.mono B5.size)
        go_wp2_with (fail)
        go_ret
        exact ⟨rfl, b1.trans (B6.mono b1.size)⟩
      · obtain ⟨r1, r2⟩ := RB.out hac
        obtain ⟨E, hE⟩ : ∃ E, B + (a + rr) = E := ⟨_, rfl⟩
        rw [hE] at hnx
        have N := Lib.hid hnx
        clear hnx
        have d3 : decide ((E : Int) ≤ (A : Int)) = false := decide_eq_false (by omega)
        have d3' : decide (E ≤ A) = false := decide_eq_false (by omega)
        have d4 : decide ((A : Int) + 4 < (E : Int)) = false := decide_eq_false (by omega)
        have hEb : E ≤ 2097152 := by omega
        have hAE : A + 1 ≤ E := by omega
        have HA := Lib.hid hA
        have HE := Lib.hid hE
        clear hA hE
        go_wp2_with (fail)
        refine (X.out _ (Below.refl _ _) hw1).mono ?_
        rintro e w2 ⟨rfl, b2⟩
        go_wp2_with (fail)
        refine (O.out _ b2).mono ?_
        rintro e w3 ⟨rfl, b3⟩
        have B3 := b2.trans (b3.mono b2.size)
        go_wp2_with (fail)
        refine (C.out _ B3 (hw1.below B3 hw1.size)).mono ?_
        rintro e w4 ⟨rfl, b4⟩
        have B4 := B3.trans (b4.mono B3.size)
        go_wp2_with (fail)
        refine (N.out _ B4 (hw1.below B4 hw1.size)).mono ?_
        rintro e w5 ⟨rfl, b5⟩
        have B5 := B4.trans (b5.mono B4.size)
        go_wp2_with (fail)
        go_loopw [17] (fun vi wr => ∃ i : Nat, vi = .int .i64 i ∧ A + 1 ≤ i ∧ i ≤ E ∧ Below w1.heap.size w1 wr) (fun vi _ => E - (intOf vi).toNat)
        case atStart => exact ⟨A + 1, by go_num, Nat.le_refl _, hAE, B5⟩
        case round =>
          obtain ⟨i, rfl, hi1, hi2, hB5⟩ := hrel
          by_cases hlt : i < E
          · have e1 : decide ((i : Int) < (E : Int)) = true := decide_eq_true (by omega)
            have e1' : decide (i < E) = true := decide_eq_true hlt
            have hII := I.out (i - B) (by have := HA.out; omega) (by have := HE.out; omega) hac wr hB5 (hw1.below hB5 hw1.size)
            rw [show B + (i - B) = i by have := HA.out; omega] at hII
            have II := Lib.hid hII
            clear hII
            go_wp2_with (fail)
            refine (II.out).mono ?_
            rintro e w6 ⟨rfl, b6⟩
            go_wp2_with (fail)
            go_roundw
            case rel => exact ⟨i + 1, by go_num, by omega, by omega, hB5.trans (b6.mono hB5.size)⟩
            case measure => simp [intOf]; omega
          · obtain rfl : i = E := by omega
            have e1 : decide ((i : Int) < (i : Int)) = false := by simp
            go_wp2_with (fail)
            refine (wakes3_any _ (hw1.below hB5 hw1.size)).mono ?_
            rintro e w6 ⟨rfl, b6⟩
            have B6 := hB5.trans (b6.mono hB5.size)
            go_wp2_with (fail)
            go_ret
            exact ⟨rfl, b1.trans (B6.mono b1.size)⟩

set_option maxRecDepth 100000 in
theorem contract (H : Type) (enc : TypeId × Value → H) (W : World) (base : Nat) (args : Array Value) (ds gs : List (DataW H)) (before : List MemPlace)
    (hval : ∀ (j : Nat) t v, Tryd.f15.params[j]? = some t → args[j]? = some v → Value.okWide Tryd.prog W .any base t v)
    (hW : DataW.Whole enc Tryd.prog Tryd.f15.params.toList Rows.placeCharsSpec.vars false W args.toList ds gs before) (hL : laidMetH Tryd.prog Rows.placeCharsRow.laid W) :
    Calls Tryd.prog 15 args W fun e W' => ∃ v, e = .returned v ∧ Rows.placeCharsSpec.post enc Tryd.prog Tryd.f15 false true false false W args v W' := by
  have hW' := hW
  obtain ⟨p, q, hA0, hV, rfl, hfz, hnd⟩ := hW
  have hA : DataW.TrodAll enc Tryd.prog W 0 (fun _ => true) true Tryd.f15.params.toList args.toList ds p := hA0
  rw [Tryd.params15] at hA hval
  obtain ⟨v0, v1, v2, d0, d1, d2, p0, p1, p2, rfl, rfl, rfl, h0, h1, h2⟩ := trodAll_three hA
  obtain ⟨rfl, rfl⟩ := trodVars_none hV
  obtain ⟨x0, rfl, rfl, rfl, hs0⟩ := open_string Tryd.underlying9 (hval 0 9 v0 rfl rfl) h0
  obtain ⟨x1, rfl, rfl, rfl, wx1⟩ := open_int Tryd.underlying3 (hval 1 3 v1 rfl rfl) h1
  have bx1 := bounds_i64 wx1
  obtain ⟨x2, rfl, rfl, rfl, wx2⟩ := open_int Tryd.underlying3 (hval 2 3 v2 rfl rfl) h2
  have bx2 := bounds_i64 wx2
  refine (walk x0 x1 x2 W hs0 bx1 bx2 (table hL)).mono fun e W' ⟨he, hg⟩ => ?_
  subst he
  refine ⟨_, rfl, _, _, _, [], [], [], hW', ?_, ?_, ?_, hg.frame _, fun h => by cases h⟩
  · exact trodAll_cons_mk (shut_bool Tryd.underlying4 _) trodAll_mk0
  · exact trodAll_cons_mk (shut_string Tryd.underlying9 hs0) (trodAll_cons_mk (shut_int Tryd.underlying3 wx1) (trodAll_cons_mk (shut_int Tryd.underlying3 wx2) trodAll_mk0))
  · rfl

theorem laid_met (os : Os) : laidMet Tryd.prog Rows.placeCharsRow.laid ((laidWorld os).forCall (fun _ _ => 0) ⟨#[], #[.string ByteArray.empty, .int .i64 0, .int .i64 0], []⟩).memory :=
  laidMet_of_run' 8 (by kernel_rfl) (by kernel_rfl)
theorem reads (os : Os) {H : Type} (enc : TypeId × Value → H) : ∃ places, DataW.whole enc Tryd.prog ((laidWorld os).forCall (fun _ _ => 0) ⟨#[], #[.string ByteArray.empty, .int .i64 0, .int .i64 0], []⟩).memory Tryd.f15.params.toList Rows.placeCharsSpec.vars false (#[.string ByteArray.empty, .int .i64 0, .int .i64 0] : Array Value).toList 8 = some ([.lit (.string []), .lit (.int .i64 0), .lit (.int .i64 0)], [], places) :=
  ⟨[], by kernel_rfl⟩

set_option maxRecDepth 100000 in
theorem lifted (os : Os) (started : os.Started) (H : Type) (enc : TypeId × Value → H) (F : Stop.Interp) :
    ReturnsInHanded {} Tryd.checked os 15 .any ((OpenSpec.ofChange Rows.placeCharsSpec).preRow enc Tryd.prog Tryd.f15 Rows.placeCharsRow.domain false Rows.placeCharsRow.laid) (((OpenSpec.ofChange Rows.placeCharsSpec).at F).post enc Tryd.prog Tryd.f15 false true false false) := by
  obtain ⟨places, hx⟩ := reads os enc
  refine returnsInHanded_of_row (C := Tryd.checked) (s := OpenSpec.ofChange Rows.placeCharsSpec) own started (by kernel_rfl) Tryd.func15
    (witness_row_at (enc := enc) (C := Tryd.checked) false (laidWorld os) #[.string ByteArray.empty, .int .i64 0, .int .i64 0] rfl (by kernel_rfl) (by kernel_rfl) (by kernel_rfl)
      (OpenSpec.preRow_of_cond 8 hx (by kernel_rfl) (fun k hk => by cases hk) (by kernel_rfl) (laid_met os))) ?_
  intro W base args ds gs before hval hW _ _ _ hL _ _
  exact contract H enc W base args ds gs before hval hW hL

theorem said : Rows.PlaceCharsSaid :=
  OpenClaim.holds_of_cond 15 Tryd.f15 rfl rfl rfl rfl rfl rfl rfl ⟨rfl, rfl, rfl, rfl, rfl⟩ rfl rfl rfl rfl rfl (by kernel_rfl) Tryd.func15 (by kernel_rfl)
    (of_decide_eq_true (by kernel_rfl)) (by unfold Func.isWrapper; first | (rw [if_pos (by decide +kernel)]; kernel_rfl) | (rw [if_neg (by decide +kernel)]; exact ⟨rfl, rfl⟩))
    (fun os started H enc _ F => by rw [OpenClaim.pre_eq_preRow]; exact lifted os started H enc F)

theorem plain (f : FuncId) (fn : Func) (hf : Tryd.pinned.checked.prog.funcNamed "indenture/indenturelaw03.PlaceChars" = some f) (hfn : Tryd.pinned.checked.prog.funcs[f]? = some fn) :
    false = Tryd.pinned.checked.prog.looks [] ∧ ∀ (j : Nat) t, fn.params[j]? = some t → Tryd.pinned.checked.prog.wantsStandIn t = false := by
  obtain rfl : f = 15 := Option.some.inj ((show Tryd.prog.funcNamed "indenture/indenturelaw03.PlaceChars" = some 15 by kernel_rfl).symm.trans hf) |>.symm
  obtain rfl : fn = Tryd.f15 := (Option.some.inj (Tryd.func15.symm.trans hfn)).symm
  refine ⟨by kernel_rfl, fun j t ht => ?_⟩
  rw [Tryd.params15] at ht
  have ht' := Array.mem_of_getElem? ht
  have hd : t = 9 ∨ t = 3 ∨ t = 3 := by simpa using ht'
  rcases hd with rfl | rfl | rfl
  · exact (show Tryd.prog.wantsStandIn 9 = false by kernel_rfl)
  · exact (show Tryd.prog.wantsStandIn 3 = false by kernel_rfl)
  · exact (show Tryd.prog.wantsStandIn 3 = false by kernel_rfl)

/-- THE CARD. -/
theorem card : Rows.PlaceCharsCardSaid :=
  Claim7.holds_tied_plain_at .later [] _ _ _ _ said (fun _ h => by cases h) (by kernel_rfl) (fun _ h => by cases h) placeChars_row_tie rfl ⟨rfl, rfl⟩ (by kernel_rfl) rfl plain (by kernel_rfl)
#print axioms card
end Go.Proofs.YtejipknbhiokeaaDoor.LawPlaceChars

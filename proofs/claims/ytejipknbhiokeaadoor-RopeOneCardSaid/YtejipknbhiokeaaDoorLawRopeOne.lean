/-
  PROVED HERE: the statement Rows.RopeOneCardSaid: however a text came, its rope tells one thing. No condition beyond the row's own.
-/
import Derived.Test.YtejipknbhiokeaaDoorEdits2
import Derived.Test.YtejipknbhiokeaaDoorCards
import Derived.Test.YtejipknbhiokeaaDoorTie
namespace Go.Proofs.YtejipknbhiokeaaDoor.LawRopeOne
open Go.ChangeShapes Go.WideShapes Go.ChangeAt Go.RowKit
open Go.ChangeMaps (open_string shut_string)

set_option maxRecDepth 100000 in
set_option maxHeartbeats 8000000 in
theorem walk (s : ByteArray) (v : Value) (l : List (Int × Int × ByteArray)) (at' a c : Int) (w : World) (_ : s.size ≤ maxLen) (hx : IsEdits w v l) (_ : -9223372036854775808 ≤ at' ∧ at' ≤ 9223372036854775807) (_ : -9223372036854775808 ≤ a ∧ a ≤ 9223372036854775807) (_ : -9223372036854775808 ≤ c ∧ c ≤ 9223372036854775807) (hw : Rows w) :
    Calls Tryd.prog 16 #[.string s, v, .int .i64 at', .int .i64 a, .int .i64 c] w fun e w' => e = .returned (.bool true) ∧ Below w.heap.size w w' := by
  obtain ⟨p, cap, rfl, hv⟩ := edits_view hx
  obtain ⟨n, hn⟩ : ∃ n, l.length = n := ⟨_, rfl⟩
  rw [hn] at hv ⊢
  clear hx
  have HV := Lib.hid hv
  clear hv
  have stop : ∀ (W : World), Below w.heap.size w W → Calls Tryd.prog 42 #[] W (Gives (.bool true) W) := fun W hW => wakes2_any W (hw.below hW hw.size)
  have STOP := Lib.hid stop
  clear stop
  by_cases h0 : 16384 < s.size
  · have hd : decide ((16384 : Int) < (s.size : Int)) = true := decide_eq_true (by omega)
    have hd' : decide (16384 < s.size) = true := decide_eq_true h0
    go_enter Tryd.func16, Tryd.ntmps16
    go_wp2_with (fail)
    refine (STOP.out _ (Below.refl _ _)).mono ?_
    rintro e w2 ⟨rfl, b2⟩
    go_wp2_with (fail)
    go_ret
    exact ⟨rfl, b2⟩
  · have hd : decide ((16384 : Int) < (s.size : Int)) = false := decide_eq_false (by omega)
    have hd' : decide (16384 < s.size) = false := decide_eq_false h0
    by_cases h1 : 60 < n
    · have hd1 : decide ((60 : Int) < (n : Int)) = true := decide_eq_true (by omega)
      have hd1' : decide (60 < n) = true := decide_eq_true h1
      go_enter Tryd.func16, Tryd.ntmps16
      go_wp2_with (fail)
      refine (STOP.out _ (Below.refl _ _)).mono ?_
      rintro e w2 ⟨rfl, b2⟩
      go_wp2_with (fail)
      go_ret
      exact ⟨rfl, b2⟩
    · have hd1 : decide ((60 : Int) < (n : Int)) = false := decide_eq_false (by omega)
      have hd1' : decide (60 < n) = false := decide_eq_false h1
      go_enter Tryd.func16, Tryd.ntmps16
      go_wp2_with (fail)
      refine (of_short s _ (by omega)).mono ?_
      rintro e w1 ⟨q, rfl, i1, b1⟩
      go_wp2_with (fail)
      go_loopw [11, 12] (fun vr vi wr => ∃ (r : Option Addr) (i : Nat) (t : ByteArray), vr = .pointer r ∧ vi = .int .i64 i ∧ i ≤ n ∧ IsR wr r t ∧ Below w.heap.size w wr) (fun _ vi _ => n - (intOf vi).toNat)
      case atStart => exact ⟨q, 0, s, rfl, rfl, Nat.zero_le _, i1, b1⟩
      case round =>
        obtain ⟨r, i, t, rfl, rfl, hi, hr, hB⟩ := hrel
        clear i1 b1
        have HRR := Lib.hid hr
        clear hr
        by_cases hlt : i < n
        · have e1 : decide ((i : Int) < (n : Int)) = true := decide_eq_true (by omega)
          have e1' : decide (i < n) = true := decide_eq_true hlt
          obtain ⟨b, o, pos, del, ins, rfl, hcap, hbb, -, hok, c0, c1, c2⟩ := HV.out i hlt
          have k0 := (hB.cell (p := ⟨b, o + i * 3, none⟩) hbb).trans c0
          have k1 := (hB.cell (p := ⟨b, o + i * 3 + 1, none⟩) hbb).trans c1
          have k2 := (hB.cell (p := ⟨b, o + i * 3 + 2, none⟩) hbb).trans c2
          have hm := hok.2.2
          dsimp only at hm
          have SP := Lib.hid (splice_gen r t pos del ins wr HRR.out hok)
          unfold ed at SP
          clear hok c0 c1 c2
          by_cases h2 : 8192 < ins.size
          · have e2 : decide ((8192 : Int) < (ins.size : Int)) = true := decide_eq_true (by omega)
            have e2' : decide (8192 < ins.size) = true := decide_eq_true h2
            go_wp2_with (fail)
            refine (STOP.out _ hB).mono ?_
            rintro e w2 ⟨rfl, b2⟩
            go_wp2_with (fail)
            go_ret
            exact ⟨rfl, hB.trans (b2.mono hB.size)⟩
          · have e2 : decide ((8192 : Int) < (ins.size : Int)) = false := decide_eq_false (by omega)
            have e2' : decide (8192 < ins.size) = false := decide_eq_false h2
            go_wp2_with (fail)
            refine (SP.out).mono ?_
            rintro e w2 (⟨cd, hcd, rfl, b2⟩ | ⟨q', t', rfl, hr2, b2⟩)
            · have e3 : (cd == 0) = false := by simpa using hcd
              have i2 := HRR.out.below b2
              go_wp2_with (fail)
              go_roundw
              case rel => exact ⟨r, i + 1, t, rfl, by go_num, by omega, i2, hB.trans (b2.mono hB.size)⟩
              case measure => simp [intOf]; omega
            · go_wp2_with (fail)
              go_roundw
              case rel => exact ⟨q', i + 1, t', rfl, by go_num, by omega, hr2, hB.trans (b2.mono hB.size)⟩
              case measure => simp [intOf]; omega
        · obtain rfl : i = n := by omega
          have e1 : decide ((i : Int) < (i : Int)) = false := by simp
          have hts := HRR.out.size
          obtain ⟨x1, x2, fb⟩ := byte_of t at'
          obtain ⟨y1, y2, fs⟩ := slice_of t a c
          obtain ⟨l1, l2, l3, fl⟩ := line_of t at'
          obtain ⟨n1, n2, ff⟩ := find_of t at'
          have FB := Lib.hid fb
          have FS := Lib.hid fs
          have FL := Lib.hid fl
          have FF := Lib.hid ff
          clear fb fs fl ff HV
          go_wp2_with (fail)
          refine (text_any r t _ HRR.out).mono ?_
          rintro e w2 ⟨rfl, b2⟩
          go_wp2_with (fail)
          refine (of_short t _ hts).mono ?_
          rintro e w3 ⟨z, rfl, i3, b3⟩
          have b03 := b2.trans (b3.mono b2.size)
          have R := Lib.hid (HRR.out.below b03)
          have Z := Lib.hid i3
          clear i3 HRR
          go_wp2_with (fail)
          refine (FB.out _ r R.out).mono ?_
          rintro e w4 ⟨rfl, d4⟩
          go_wp2_with (fail)
          refine (FB.out _ z (Z.out.below d4)).mono ?_
          rintro e w5 ⟨rfl, b5⟩
          have d5 := d4.trans (b5.mono d4.size)
          go_wp2_with (fail)
          refine (FS.out _ r (R.out.below d5)).mono ?_
          rintro e w6 ⟨rfl, b6⟩
          have d6 := d5.trans (b6.mono d5.size)
          go_wp2_with (fail)
          refine (FS.out _ z (Z.out.below d6)).mono ?_
          rintro e w7 ⟨rfl, b7⟩
          have d7 := d6.trans (b7.mono d6.size)
          go_wp2_with (fail)
          refine (FL.out _ r (R.out.below d7)).mono ?_
          rintro e w8 ⟨rfl, b8⟩
          have d8 := d7.trans (b8.mono d7.size)
          obtain ⟨w9, hw9, b9, o0, o1, l9⟩ := range_new' w8 l1 l2
          have d9 := d8.trans (b9.mono d8.size)
          go_wp2_with (fail)
          refine (FL.out _ z (Z.out.below d9)).mono ?_
          rintro e w10 ⟨rfl, b10⟩
          have d10 := d9.trans (b10.mono d9.size)
          obtain ⟨w11, hw11, b11, p0, p1, l11⟩ := range_new' w10 l1 l2
          have d11 := d10.trans (b11.mono d10.size)
          have b911 := b10.trans (b11.mono b10.size)
          go_wp2_with (fail)
          refine (FF.out _ r (R.out.below d11)).mono ?_
          rintro e w12 ⟨rfl, b12⟩
          have d12 := d11.trans (b12.mono d11.size)
          go_wp2_with (fail)
          refine (FF.out _ z (Z.out.below d12)).mono ?_
          rintro e w13 ⟨rfl, b13⟩
          have d13 := d12.trans (b13.mono d12.size)
          have c13 := b12.trans (b13.mono b12.size)
          clear hw9 hw11
          go_wp2_with (fail)
          refine (rlen_any r t _ (R.out.below d13)).mono ?_
          rintro e w14 ⟨rfl, b14⟩
          have d14 := d13.trans (b14.mono d13.size)
          have c14 := c13.trans (b14.mono c13.size)
          go_wp2_with (fail)
          refine (rlen_any z t _ (Z.out.below d14)).mono ?_
          rintro e w15 ⟨rfl, b15⟩
          have d15 := d14.trans (b15.mono d14.size)
          have c15 := c14.trans (b15.mono c14.size)
          go_wp2_with (fail)
          refine (lines_any r t _ (R.out.below d15)).mono ?_
          rintro e w16 ⟨rfl, b16⟩
          have d16 := d15.trans (b16.mono d15.size)
          have c16 := c15.trans (b16.mono c15.size)
          go_wp2_with (fail)
          refine (lines_any z t _ (Z.out.below d16)).mono ?_
          rintro e w17 ⟨rfl, b17⟩
          have d17 := d16.trans (b17.mono d16.size)
          have c17 := c16.trans (b17.mono c16.size)
          have D17 := (hB.trans (b03.mono hB.size)).trans (d17.mono (hB.trans (b03.mono hB.size)).size)
          go_wp2_with (fail)
          refine (rsteps_any r t _ (R.out.below d17) (hw.below D17 hw.size)).mono ?_
          rintro e w18 ⟨rfl, b18⟩
          have d18 := d17.trans (b18.mono d17.size)
          have c18 := c17.trans (b18.mono c17.size)
          have D18 := D17.trans (b18.mono D17.size)
          go_wp2_with (fail)
          refine (rsteps_any z t _ (Z.out.below d18) (hw.below D18 hw.size)).mono ?_
          rintro e w19 ⟨rfl, b19⟩
          have c19 := c18.trans (b19.mono c18.size)
          have D19 := D18.trans (b19.mono D18.size)
          have q0 := ((b911.trans (c19.mono b911.size)).cell (p := ⟨w8.heap.size, 0, none⟩) l9).trans o0
          have q1 := ((b911.trans (c19.mono b911.size)).cell (p := ⟨w8.heap.size, 1, none⟩) l9).trans o1
          have u0 := (c19.cell (p := ⟨w10.heap.size, 0, none⟩) l11).trans p0
          have u1 := (c19.cell (p := ⟨w10.heap.size, 1, none⟩) l11).trans p1
          go_wp2_with (fail)
          refine (STOP.out _ D19).mono ?_
          rintro e w20 ⟨rfl, b20⟩
          go_wp2_with (fail)
          go_ret
          exact ⟨rfl, D19.trans (b20.mono D19.size)⟩

set_option maxRecDepth 100000 in
theorem contract (H : Type) (enc : TypeId × Value → H) (W : World) (base : Nat) (args : Array Value) (ds gs : List (DataW H)) (before : List MemPlace)
    (hval : ∀ (j : Nat) t v, Tryd.f16.params[j]? = some t → args[j]? = some v → Value.okWide Tryd.prog W .any base t v)
    (hW : DataW.Whole enc Tryd.prog Tryd.f16.params.toList Rows.ropeOneSpec.vars false W args.toList ds gs before) (hL : laidMetH Tryd.prog Rows.ropeOneRow.laid W) :
    Calls Tryd.prog 16 args W fun e W' => ∃ v, e = .returned v ∧ Rows.ropeOneSpec.post enc Tryd.prog Tryd.f16 false true false false W args v W' := by
  have hW' := hW
  obtain ⟨p, q, hA0, hV, rfl, hfz, hnd⟩ := hW
  have hA : DataW.TrodAll enc Tryd.prog W 0 (fun _ => true) true Tryd.f16.params.toList args.toList ds p := hA0
  rw [Tryd.params16] at hA hval
  obtain ⟨v0, vs0, d0, ds0, p0, q0, hargs, rfl, rfl, h0, r0⟩ := trodAll_cons hA
  obtain ⟨v1, vs1, d1, ds1, p1, q1, rfl, rfl, rfl, h1, r1⟩ := trodAll_cons r0
  obtain ⟨v2, vs2, d2, ds2, p2, q2, rfl, rfl, rfl, h2, r2⟩ := trodAll_cons r1
  obtain ⟨v3, vs3, d3, ds3, p3, q3, rfl, rfl, rfl, h3, r3⟩ := trodAll_cons r2
  obtain ⟨v4, vs4, d4, ds4, p4, q4, rfl, rfl, rfl, h4, r4⟩ := trodAll_cons r3
  obtain ⟨rfl, rfl, rfl⟩ := trodAll_nil r4
  obtain rfl : args = #[v0, v1, v2, v3, v4] := by cases args; simp_all
  obtain ⟨rfl, rfl⟩ := trodVars_none hV
  obtain ⟨x0, rfl, rfl, rfl, hs0⟩ := open_string Tryd.underlying9 (hval 0 9 v0 rfl rfl) h0
  have hk1 := h1
  obtain ⟨x1, hx1⟩ := open_edits (hval 1 53 v1 rfl rfl) h1
  obtain ⟨x2, rfl, rfl, rfl, wx2⟩ := open_int Tryd.underlying3 (hval 2 3 v2 rfl rfl) h2
  have bx2 := bounds_i64 wx2
  obtain ⟨x3, rfl, rfl, rfl, wx3⟩ := open_int Tryd.underlying3 (hval 3 3 v3 rfl rfl) h3
  have bx3 := bounds_i64 wx3
  obtain ⟨x4, rfl, rfl, rfl, wx4⟩ := open_int Tryd.underlying3 (hval 4 3 v4 rfl rfl) h4
  have bx4 := bounds_i64 wx4
  refine (walk x0 v1 x1 x2 x3 x4 W hs0 hx1 bx2 bx3 bx4 (table hL)).mono fun e W' ⟨he, hg⟩ => ?_
  subst he
  refine ⟨_, rfl, _, _, _, [], ([] ++ (p1 ++ ([] ++ ([] ++ ([] ++ []))))), [], hW', ?_, ?_, ?_, hg.frame _, fun h => by cases h⟩
  · exact trodAll_cons_mk (shut_bool Tryd.underlying4 _) trodAll_mk0
  · exact trodAll_cons_mk (shut_string Tryd.underlying9 hs0) (trodAll_cons_mk (Below.trod laidOut (by kernel_rfl) (of_decide_eq_true (by kernel_rfl)) hk1 hg (fun x hx => by simpa using hW'.lt x (by simp [hx]))) (trodAll_cons_mk (shut_int Tryd.underlying3 wx2) (trodAll_cons_mk (shut_int Tryd.underlying3 wx3) (trodAll_cons_mk (shut_int Tryd.underlying3 wx4) trodAll_mk0))))
  · rfl

theorem laid_met (os : Os) : laidMet Tryd.prog Rows.ropeOneRow.laid ((laidWorld os).forCall (fun _ _ => 0) ⟨#[], #[.string ByteArray.empty, .slice none 0 0, .int .i64 0, .int .i64 0, .int .i64 0], []⟩).memory :=
  laidMet_of_run' 8 (by kernel_rfl) (by kernel_rfl)
theorem reads (os : Os) {H : Type} (enc : TypeId × Value → H) : ∃ places, DataW.whole enc Tryd.prog ((laidWorld os).forCall (fun _ _ => 0) ⟨#[], #[.string ByteArray.empty, .slice none 0 0, .int .i64 0, .int .i64 0, .int .i64 0], []⟩).memory Tryd.f16.params.toList Rows.ropeOneSpec.vars false (#[.string ByteArray.empty, .slice none 0 0, .int .i64 0, .int .i64 0, .int .i64 0] : Array Value).toList 8 = some ([.lit (.string []), .nil, .lit (.int .i64 0), .lit (.int .i64 0), .lit (.int .i64 0)], [], places) :=
  ⟨[], by kernel_rfl⟩

set_option maxRecDepth 100000 in
theorem lifted (os : Os) (started : os.Started) (H : Type) (enc : TypeId × Value → H) (F : Stop.Interp) :
    ReturnsInHanded {} Tryd.checked os 16 .any ((OpenSpec.ofChange Rows.ropeOneSpec).preRow enc Tryd.prog Tryd.f16 Rows.ropeOneRow.domain false Rows.ropeOneRow.laid) (((OpenSpec.ofChange Rows.ropeOneSpec).at F).post enc Tryd.prog Tryd.f16 false true false false) := by
  obtain ⟨places, hx⟩ := reads os enc
  refine returnsInHanded_of_row (C := Tryd.checked) (s := OpenSpec.ofChange Rows.ropeOneSpec) own started (by kernel_rfl) Tryd.func16
    (witness_row_at (enc := enc) (C := Tryd.checked) false (laidWorld os) #[.string ByteArray.empty, .slice none 0 0, .int .i64 0, .int .i64 0, .int .i64 0] rfl (by kernel_rfl) (by kernel_rfl) (by kernel_rfl)
      (OpenSpec.preRow_of_cond 8 hx (by kernel_rfl) (fun k hk => by cases hk) (by kernel_rfl) (laid_met os))) ?_
  intro W base args ds gs before hval hW _ _ _ hL _ _
  exact contract H enc W base args ds gs before hval hW hL

theorem said : Rows.RopeOneSaid :=
  OpenClaim.holds_of_cond 16 Tryd.f16 rfl rfl rfl rfl rfl rfl rfl ⟨rfl, rfl, rfl, rfl, rfl⟩ rfl rfl rfl rfl rfl (by kernel_rfl) Tryd.func16 (by kernel_rfl)
    (of_decide_eq_true (by kernel_rfl)) (by unfold Func.isWrapper; first | (rw [if_pos (by decide +kernel)]; kernel_rfl) | (rw [if_neg (by decide +kernel)]; exact ⟨rfl, rfl⟩))
    (fun os started H enc _ F => by rw [OpenClaim.pre_eq_preRow]; exact lifted os started H enc F)

theorem plain (f : FuncId) (fn : Func) (hf : Tryd.pinned.checked.prog.funcNamed "indenture/indenturelaw02.RopeOne" = some f) (hfn : Tryd.pinned.checked.prog.funcs[f]? = some fn) :
    false = Tryd.pinned.checked.prog.looks [] ∧ ∀ (j : Nat) t, fn.params[j]? = some t → Tryd.pinned.checked.prog.wantsStandIn t = false := by
  obtain rfl : f = 16 := Option.some.inj ((show Tryd.prog.funcNamed "indenture/indenturelaw02.RopeOne" = some 16 by kernel_rfl).symm.trans hf) |>.symm
  obtain rfl : fn = Tryd.f16 := (Option.some.inj (Tryd.func16.symm.trans hfn)).symm
  refine ⟨by kernel_rfl, fun j t ht => ?_⟩
  rw [Tryd.params16] at ht
  have ht' := Array.mem_of_getElem? ht
  have hd : t = 9 ∨ t = 53 ∨ t = 3 ∨ t = 3 ∨ t = 3 := by simpa using ht'
  rcases hd with rfl | rfl | rfl | rfl | rfl
  · exact (show Tryd.prog.wantsStandIn 9 = false by kernel_rfl)
  · exact (show Tryd.prog.wantsStandIn 53 = false by kernel_rfl)
  · exact (show Tryd.prog.wantsStandIn 3 = false by kernel_rfl)
  · exact (show Tryd.prog.wantsStandIn 3 = false by kernel_rfl)
  · exact (show Tryd.prog.wantsStandIn 3 = false by kernel_rfl)

/-- THE CARD. -/
theorem card : Rows.RopeOneCardSaid :=
  Claim7.holds_tied_plain_at .later [] _ _ _ _ said (fun _ h => by cases h) (by kernel_rfl) (fun _ h => by cases h) ropeOne_row_tie rfl ⟨rfl, rfl⟩ (by kernel_rfl) rfl plain (by kernel_rfl)
#print axioms card
end Go.Proofs.YtejipknbhiokeaaDoor.LawRopeOne

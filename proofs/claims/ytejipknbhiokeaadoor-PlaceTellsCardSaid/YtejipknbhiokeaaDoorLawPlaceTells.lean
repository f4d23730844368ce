/-
  PROVED HERE: the statement Rows.PlaceTellsCardSaid: places and lines, columns, characters are what the document says. No condition beyond the row's own.
-/
import Derived.Test.YtejipknbhiokeaaDoorRef3b
import Derived.Test.YtejipknbhiokeaaDoorWakes3
import Derived.Test.YtejipknbhiokeaaDoorLaid
import Derived.Test.YtejipknbhiokeaaDoorCards
import Derived.Test.YtejipknbhiokeaaDoorTie
namespace Go.Proofs.YtejipknbhiokeaaDoor.LawPlaceTells
open Go.ChangeShapes Go.WideShapes Go.ChangeAt Go.RowKit
open Go.ChangeMaps (open_string shut_string)

theorem of_both (q : Option Addr) (s : ByteArray) (i : Int) (w : World) (h : IsR w q s) : ∃ a b e : Int,
    (∀ W, Below w.heap.size w W → Calls Tryd.prog 45 #[.pointer q, .int .i64 i] W (Gives (.tuple #[.int .i64 a, .int .i64 b, .int .i64 e]) W)) ∧
    (∀ W, Calls Tryd.prog 47 #[.string s, .int .i64 i] W (Gives (.tuple #[.int .i64 a, .int .i64 b, .int .i64 e]) W)) := by
  by_cases hk : i < 0 ∨ (s.size : Int) < i
  · exact ⟨0, 0, 5, fun W hW => pof_out q s i W (h.below hW) hk, fun W => ref3of_out s i W hk⟩
  · obtain ⟨j, rfl⟩ := Int.eq_ofNat_of_zero_le (show 0 ≤ i by omega)
    exact ⟨_, _, 0, fun W hW => pof_in q s j W (h.below hW) (by omega), fun W => ref3of_in s j W h.size (by omega)⟩
theorem off_both (q : Option Addr) (s : ByteArray) (k c : Int) (w : World) (h : IsR w q s) : ∃ a e : Int,
    (∀ W, Below w.heap.size w W → Calls Tryd.prog 46 #[.pointer q, .int .i64 k, .int .i64 c] W (Gives (.tuple #[.int .i64 a, .int .i64 e]) W)) ∧
    (∀ W, Calls Tryd.prog 48 #[.string s, .int .i64 k, .int .i64 c] W (Gives (.tuple #[.int .i64 a, .int .i64 e]) W)) := by
  by_cases hk : k < 0 ∨ (Rp.lf s : Int) < k
  · exact ⟨0, 5, fun W hW => poff_out q s k c W (h.below hW) hk, fun W => ref3off_out s k c W h.size hk⟩
  · obtain ⟨j, rfl⟩ := Int.eq_ofNat_of_zero_le (show 0 ≤ k by omega)
    by_cases hc : 0 ≤ c ∧ c ≤ (cut (lnB s j)).size
    · obtain ⟨n, rfl⟩ := Int.eq_ofNat_of_zero_le hc.1
      have := cutB_le h j
      exact ⟨_, 0, fun W hW => poff_in q s j n W (h.below hW) (by omega) (by omega) (by omega), fun W => ref3off_in s j n W h.size (by omega) (by omega)⟩
    · exact ⟨0, 5, fun W hW => poff_bad q s j c W (h.below hW) (by omega) hc, fun W => ref3off_bad s j c W h.size (by omega) hc⟩
theorem char_both (q : Option Addr) (s : ByteArray) (i : Int) (w : World) (h : IsR w q s) : ∃ a e : Int,
    (∀ W, Below w.heap.size w W → Rows W → Calls Tryd.prog 49 #[.pointer q, .int .i64 i] W (Gives (.tuple #[.int .i64 a, .int .i64 e]) W)) ∧
    (∀ W, Calls Tryd.prog 50 #[.string s, .int .i64 i] W (Gives (.tuple #[.int .i64 a, .int .i64 e]) W)) := by
  by_cases hk : i < 0 ∨ (s.size : Int) < i
  · exact ⟨0, 5, fun W hW _ => pchar_out q s i W (h.below hW) hk, fun W => ref3char_out s i W hk⟩
  · obtain ⟨j, rfl⟩ := Int.eq_ofNat_of_zero_le (show 0 ≤ i by omega)
    exact ⟨_, 0, fun W hW hr => pchar_in q s j W (h.below hW) (by omega) hr, fun W => ref3char_in s j W h.size (by omega)⟩
theorem cho_both (q : Option Addr) (s : ByteArray) (k c : Int) (w : World) (h : IsR w q s) (hcb : c ≤ 9223372036854775807) : ∃ a e : Int,
    (∀ W, Below w.heap.size w W → Rows W → Calls Tryd.prog 51 #[.pointer q, .int .i64 k, .int .i64 c] W (Gives (.tuple #[.int .i64 a, .int .i64 e]) W)) ∧
    (∀ W, Calls Tryd.prog 52 #[.string s, .int .i64 k, .int .i64 c] W (Gives (.tuple #[.int .i64 a, .int .i64 e]) W)) := by
  by_cases hk : k < 0 ∨ (Rp.lf s : Int) < k
  · exact ⟨0, 5, fun W hW _ => pcho_out q s k c W (h.below hW) hk, fun W => ref3ch_out s k c W h.size hk⟩
  · obtain ⟨j, rfl⟩ := Int.eq_ofNat_of_zero_le (show 0 ≤ k by omega)
    by_cases hc : c < 0
    · exact ⟨0, 5, fun W hW hr => pcho_bad q s j c W (h.below hW) (by omega) hcb hr (.inl hc), fun W => ref3ch_neg s j c W h.size (by omega) hc⟩
    · obtain ⟨n, rfl⟩ := Int.eq_ofNat_of_zero_le (show 0 ≤ c by omega)
      cases hn : chOff (cut (lnB s j)) n 0 with
      | none => exact ⟨0, 5, fun W hW hr => pcho_bad q s j n W (h.below hW) (by omega) hcb hr (.inr (by simpa using hn)), fun W => (ref3ch_any s j n W h.size (by omega) (by omega)).mono fun _ _ ⟨h1, _, h3⟩ => ⟨h1 hn, h3⟩⟩
      | some a => exact ⟨_, 0, fun W hW hr => pcho_in q s j n a W (h.below hW) (by omega) (by omega) hr hn, fun W => (ref3ch_any s j n W h.size (by omega) (by omega)).mono fun _ _ ⟨_, h2, h3⟩ => ⟨h2 a hn, h3⟩⟩

set_option maxRecDepth 100000 in
set_option maxHeartbeats 4000000 in
theorem walk (s : ByteArray) (i k c : Int) (w : World) (_ : s.size ≤ maxLen) (_ : -9223372036854775808 ≤ i ∧ i ≤ 9223372036854775807) (_ : -9223372036854775808 ≤ k ∧ k ≤ 9223372036854775807) (bc : -9223372036854775808 ≤ c ∧ c ≤ 9223372036854775807) (hw : Rows w) :
    Calls Tryd.prog 13 #[.string s, .int .i64 i, .int .i64 k, .int .i64 c] w fun e w' => e = .returned (.bool true) ∧ Below w.heap.size w w' := by
  by_cases h0 : 16384 < s.size
  · have hd : decide ((16384 : Int) < (s.size : Int)) = true := decide_eq_true (by omega)
    have hd' : decide (16384 < s.size) = true := decide_eq_true h0
    go_enter Tryd.func13, Tryd.ntmps13
    go_wp2_with (fail)
    refine (wakes3_any _ hw).mono ?_
    rintro e w2 ⟨rfl, b2⟩
    go_wp2_with (fail)
    go_ret
    exact ⟨rfl, b2⟩
  · have hd : decide ((16384 : Int) < (s.size : Int)) = false := decide_eq_false (by omega)
    have hd' : decide (16384 < s.size) = false := decide_eq_false h0
    go_enter Tryd.func13, Tryd.ntmps13
    go_wp2_with (fail)
    refine (of_short s _ (by omega)).mono ?_
    rintro e w1 ⟨q, rfl, i1, b1⟩
    obtain ⟨a1, a2, a3, x1, x2⟩ := of_both q s i w1 i1
    obtain ⟨o1, o2, x3, x4⟩ := off_both q s k c w1 i1
    obtain ⟨c1, c2, x5, x6⟩ := char_both q s i w1 i1
    obtain ⟨d1, d2, x7, x8⟩ := cho_both q s k c w1 i1 bc.2
    have X1 := Lib.hid x1
    have X2 := Lib.hid x2
    have X3 := Lib.hid x3
    have X4 := Lib.hid x4
    have X5 := Lib.hid x5
    have X6 := Lib.hid x6
    have X7 := Lib.hid x7
    have X8 := Lib.hid x8
    clear x1 x2 x3 x4 x5 x6 x7 x8 i1
    have hw1 := hw.below b1 hw.size
    go_wp2_with (fail)
    refine (X1.out _ (Below.refl _ _)).mono ?_
    rintro e w2 ⟨rfl, b2⟩
    go_wp2_with (fail)
    refine (X2.out _).mono ?_
    rintro e w3 ⟨rfl, b3⟩
    have B3 := b2.trans (b3.mono b2.size)
    go_wp2_with (fail)
    refine (X3.out _ B3).mono ?_
    rintro e w4 ⟨rfl, b4⟩
    have B4 := B3.trans (b4.mono B3.size)
    go_wp2_with (fail)
    refine (X4.out _).mono ?_
    rintro e w5 ⟨rfl, b5⟩
    have B5 := B4.trans (b5.mono B4.size)
    go_wp2_with (fail)
    refine (X5.out _ B5 (hw1.below B5 hw1.size)).mono ?_
    rintro e w6 ⟨rfl, b6⟩
    have B6 := B5.trans (b6.mono B5.size)
    go_wp2_with (fail)
    refine (X6.out _).mono ?_
    rintro e w7 ⟨rfl, b7⟩
    have B7 := B6.trans (b7.mono B6.size)
    go_wp2_with (fail)
    refine (X7.out _ B7 (hw1.below B7 hw1.size)).mono ?_
    rintro e w8 ⟨rfl, b8⟩
    have B8 := B7.trans (b8.mono B7.size)
    go_wp2_with (fail)
    refine (X8.out _).mono ?_
    rintro e w9 ⟨rfl, b9⟩
    have B9 := B8.trans (b9.mono B8.size)
    go_wp2_with (fail)
    refine (wakes3_any _ (hw1.below B9 hw1.size)).mono ?_
    rintro e w10 ⟨rfl, b10⟩
    have B10 := B9.trans (b10.mono B9.size)
    go_wp2_with (fail)
    go_ret
    exact ⟨rfl, b1.trans (B10.mono b1.size)⟩

set_option maxRecDepth 100000 in
theorem contract (H : Type) (enc : TypeId × Value → H) (W : World) (base : Nat) (args : Array Value) (ds gs : List (DataW H)) (before : List MemPlace)
    (hval : ∀ (j : Nat) t v, Tryd.f13.params[j]? = some t → args[j]? = some v → Value.okWide Tryd.prog W .any base t v)
    (hW : DataW.Whole enc Tryd.prog Tryd.f13.params.toList Rows.placeTellsSpec.vars false W args.toList ds gs before) (hL : laidMetH Tryd.prog Rows.placeTellsRow.laid W) :
    Calls Tryd.prog 13 args W fun e W' => ∃ v, e = .returned v ∧ Rows.placeTellsSpec.post enc Tryd.prog Tryd.f13 false true false false W args v W' := by
  have hW' := hW
  obtain ⟨p, q, hA0, hV, rfl, hfz, hnd⟩ := hW
  have hA : DataW.TrodAll enc Tryd.prog W 0 (fun _ => true) true Tryd.f13.params.toList args.toList ds p := hA0
  rw [Tryd.params13] at hA hval
  obtain ⟨v0, v1, v2, v3, d0, d1, d2, d3, p0, p1, p2, p3, rfl, rfl, rfl, h0, h1, h2, h3⟩ := trodAll_four hA
  obtain ⟨rfl, rfl⟩ := trodVars_none hV
  obtain ⟨x0, rfl, rfl, rfl, hs0⟩ := open_string Tryd.underlying9 (hval 0 9 v0 rfl rfl) h0
  obtain ⟨x1, rfl, rfl, rfl, wx1⟩ := open_int Tryd.underlying3 (hval 1 3 v1 rfl rfl) h1
  have bx1 := bounds_i64 wx1
  obtain ⟨x2, rfl, rfl, rfl, wx2⟩ := open_int Tryd.underlying3 (hval 2 3 v2 rfl rfl) h2
  have bx2 := bounds_i64 wx2
  obtain ⟨x3, rfl, rfl, rfl, wx3⟩ := open_int Tryd.underlying3 (hval 3 3 v3 rfl rfl) h3
  have bx3 := bounds_i64 wx3
  refine (walk x0 x1 x2 x3 W hs0 bx1 bx2 bx3 (table hL)).mono fun e W' ⟨he, hg⟩ => ?_
  subst he
  refine ⟨_, rfl, _, _, _, [], [], [], hW', ?_, ?_, ?_, hg.frame _, fun h => by cases h⟩
  · exact trodAll_cons_mk (shut_bool Tryd.underlying4 _) trodAll_mk0
  · exact trodAll_cons_mk (shut_string Tryd.underlying9 hs0) (trodAll_cons_mk (shut_int Tryd.underlying3 wx1) (trodAll_cons_mk (shut_int Tryd.underlying3 wx2) (trodAll_cons_mk (shut_int Tryd.underlying3 wx3) trodAll_mk0)))
  · rfl

theorem laid_met (os : Os) : laidMet Tryd.prog Rows.placeTellsRow.laid ((laidWorld os).forCall (fun _ _ => 0) ⟨#[], #[.string ByteArray.empty, .int .i64 0, .int .i64 0, .int .i64 0], []⟩).memory :=
  laidMet_of_run' 8 (by kernel_rfl) (by kernel_rfl)
theorem reads (os : Os) {H : Type} (enc : TypeId × Value → H) : ∃ places, DataW.whole enc Tryd.prog ((laidWorld os).forCall (fun _ _ => 0) ⟨#[], #[.string ByteArray.empty, .int .i64 0, .int .i64 0, .int .i64 0], []⟩).memory Tryd.f13.params.toList Rows.placeTellsSpec.vars false (#[.string ByteArray.empty, .int .i64 0, .int .i64 0, .int .i64 0] : Array Value).toList 8 = some ([.lit (.string []), .lit (.int .i64 0), .lit (.int .i64 0), .lit (.int .i64 0)], [], places) :=
  ⟨[], by kernel_rfl⟩

set_option maxRecDepth 100000 in
theorem lifted (os : Os) (started : os.Started) (H : Type) (enc : TypeId × Value → H) (F : Stop.Interp) :
    ReturnsInHanded {} Tryd.checked os 13 .any ((OpenSpec.ofChange Rows.placeTellsSpec).preRow enc Tryd.prog Tryd.f13 Rows.placeTellsRow.domain false Rows.placeTellsRow.laid) (((OpenSpec.ofChange Rows.placeTellsSpec).at F).post enc Tryd.prog Tryd.f13 false true false false) := by
  obtain ⟨places, hx⟩ := reads os enc
  refine returnsInHanded_of_row (C := Tryd.checked) (s := OpenSpec.ofChange Rows.placeTellsSpec) own started (by kernel_rfl) Tryd.func13
    (witness_row_at (enc := enc) (C := Tryd.checked) false (laidWorld os) #[.string ByteArray.empty, .int .i64 0, .int .i64 0, .int .i64 0] rfl (by kernel_rfl) (by kernel_rfl) (by kernel_rfl)
      (OpenSpec.preRow_of_cond 8 hx (by kernel_rfl) (fun k hk => by cases hk) (by kernel_rfl) (laid_met os))) ?_
  intro W base args ds gs before hval hW _ _ _ hL _ _
  exact contract H enc W base args ds gs before hval hW hL

theorem said : Rows.PlaceTellsSaid :=
  OpenClaim.holds_of_cond 13 Tryd.f13 rfl rfl rfl rfl rfl rfl rfl ⟨rfl, rfl, rfl, rfl, rfl⟩ rfl rfl rfl rfl rfl (by kernel_rfl) Tryd.func13 (by kernel_rfl)
    (of_decide_eq_true (by kernel_rfl)) (by unfold Func.isWrapper; first | (rw [if_pos (by decide +kernel)]; kernel_rfl) | (rw [if_neg (by decide +kernel)]; exact ⟨rfl, rfl⟩))
    (fun os started H enc _ F => by rw [OpenClaim.pre_eq_preRow]; exact lifted os started H enc F)

theorem plain (f : FuncId) (fn : Func) (hf : Tryd.pinned.checked.prog.funcNamed "indenture/indenturelaw03.PlaceTells" = some f) (hfn : Tryd.pinned.checked.prog.funcs[f]? = some fn) :
    false = Tryd.pinned.checked.prog.looks [] ∧ ∀ (j : Nat) t, fn.params[j]? = some t → Tryd.pinned.checked.prog.wantsStandIn t = false := by
  obtain rfl : f = 13 := Option.some.inj ((show Tryd.prog.funcNamed "indenture/indenturelaw03.PlaceTells" = some 13 by kernel_rfl).symm.trans hf) |>.symm
  obtain rfl : fn = Tryd.f13 := (Option.some.inj (Tryd.func13.symm.trans hfn)).symm
  refine ⟨by kernel_rfl, fun j t ht => ?_⟩
  rw [Tryd.params13] at ht
  have ht' := Array.mem_of_getElem? ht
  have hd : t = 9 ∨ t = 3 ∨ t = 3 ∨ t = 3 := by simpa using ht'
  rcases hd with rfl | rfl | rfl | rfl
  · exact (show Tryd.prog.wantsStandIn 9 = false by kernel_rfl)
  · exact (show Tryd.prog.wantsStandIn 3 = false by kernel_rfl)
  · exact (show Tryd.prog.wantsStandIn 3 = false by kernel_rfl)
  · exact (show Tryd.prog.wantsStandIn 3 = false by kernel_rfl)

/-- THE CARD. -/
theorem card : Rows.PlaceTellsCardSaid :=
  Claim7.holds_tied_plain_at .later [] _ _ _ _ said (fun _ h => by cases h) (by kernel_rfl) (fun _ h => by cases h) placeTells_row_tie rfl ⟨rfl, rfl⟩ (by kernel_rfl) rfl plain (by kernel_rfl)
#print axioms card
end Go.Proofs.YtejipknbhiokeaaDoor.LawPlaceTells

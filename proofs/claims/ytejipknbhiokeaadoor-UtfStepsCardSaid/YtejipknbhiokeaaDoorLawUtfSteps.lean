/-
  PROVED HERE: the statement Rows.UtfStepsCardSaid: where steps begin, how many there are and whether one is a lone byte is what the reference says. No condition beyond the row's own.
-/
import Derived.Test.YtejipknbhiokeaaDoorWakes1
import Derived.Test.YtejipknbhiokeaaDoorLaid
import Derived.Test.YtejipknbhiokeaaDoorCards
import Derived.Test.YtejipknbhiokeaaDoorTie
namespace Go.Proofs.YtejipknbhiokeaaDoor.LawUtfSteps
open Go.ChangeShapes Go.WideShapes Go.ChangeAt Go.RowKit Ut
open Go.ChangeMaps (open_string shut_string)

set_option maxRecDepth 100000 in
theorem walk (s : ByteArray) (k : Int) (w : World) (hs : s.size ≤ maxLen) (_bk : -9223372036854775808 ≤ k ∧ k ≤ 9223372036854775807) (hw : Rows w) :
    Calls Tryd.prog 6 #[.string s, .int .i64 k] w fun e w' => e = .returned (.bool true) ∧ Below w.heap.size w w' := by
  by_cases hz : 65536 < s.size
  · go_enter Tryd.func6, Tryd.ntmps6
    go_wp2_with (fail)
    refine (wakes1_any _ hw).mono ?_
    rintro e w1 ⟨rfl, b1⟩
    go_wp2_with (fail)
    go_ret
    exact ⟨rfl, b1⟩
  · go_enter Tryd.func6, Tryd.ntmps6
    go_wp2_with (fail)
    refine (start_any s k _ hs hw).mono ?_
    rintro e w1 ⟨rfl, b1⟩
    have h1 := hw.below b1 hw.size
    go_wp2_with (fail)
    refine (refstart_any s k _ hs).mono ?_
    rintro e w2 ⟨rfl, b2⟩
    have h2 := h1.below b2 h1.size
    go_wp2_with (fail)
    refine (count_any s _ hs h2).mono ?_
    rintro e w3 ⟨rfl, b3⟩
    have h3 := h2.below b3 h2.size
    go_wp2_with (fail)
    refine (refcount_any s _ hs).mono ?_
    rintro e w4 ⟨rfl, b4⟩
    have h4 := h3.below b4 h3.size
    go_wp2_with (fail)
    refine (valid_any s _ hs h4).mono ?_
    rintro e w5 ⟨rfl, b5⟩
    have h5 := h4.below b5 h4.size
    go_wp2_with (fail)
    refine (refvalid_any s _ hs).mono ?_
    rintro e w6 ⟨rfl, b6⟩
    have h6 := h5.below b6 h5.size
    go_wp2_with (fail)
    refine (wakes1_any _ h6).mono ?_
    rintro e w7 ⟨rfl, b7⟩
    go_wp2_with (fail)
    go_ret
    have c1 := b1.size
    have c2 := b2.size
    have c3 := b3.size
    have c4 := b4.size
    have c5 := b5.size
    have c6 := b6.size
    exact ⟨rfl, (((((b1.trans (b2.mono (by omega))).trans (b3.mono (by omega))).trans (b4.mono (by omega))).trans (b5.mono (by omega))).trans (b6.mono (by omega))).trans (b7.mono (by omega))⟩

set_option maxRecDepth 100000 in
theorem contract (H : Type) (enc : TypeId × Value → H) (W : World) (base : Nat) (args : Array Value) (ds gs : List (DataW H)) (before : List MemPlace)
    (hval : ∀ (j : Nat) t v, Tryd.f6.params[j]? = some t → args[j]? = some v → Value.okWide Tryd.prog W .any base t v)
    (hW : DataW.Whole enc Tryd.prog Tryd.f6.params.toList Rows.utfStepsSpec.vars false W args.toList ds gs before) (hL : laidMetH Tryd.prog Rows.utfStepsRow.laid W) :
    Calls Tryd.prog 6 args W fun e W' => ∃ v, e = .returned v ∧ Rows.utfStepsSpec.post enc Tryd.prog Tryd.f6 false true false false W args v W' := by
  have hW' := hW
  obtain ⟨p, q, hA0, hV, rfl, hfz, hnd⟩ := hW
  have hA : DataW.TrodAll enc Tryd.prog W 0 (fun _ => true) true Tryd.f6.params.toList args.toList ds p := hA0
  rw [Tryd.params6] at hA hval
  obtain ⟨v0, v1, d0, d1, p0, p1, rfl, rfl, rfl, h0, h1⟩ := trodAll_two hA
  obtain ⟨rfl, rfl⟩ := trodVars_none hV
  obtain ⟨x0, rfl, rfl, rfl, hs0⟩ := open_string Tryd.underlying9 (hval 0 9 v0 rfl rfl) h0
  obtain ⟨x1, rfl, rfl, rfl, wx1⟩ := open_int Tryd.underlying3 (hval 1 3 v1 rfl rfl) h1
  have bx1 := bounds_i64 wx1
  refine (walk x0 x1 W hs0 bx1 (table hL)).mono fun e W' ⟨he, hg⟩ => ?_
  subst he
  refine ⟨_, rfl, _, _, _, [], [], [], hW', ?_, ?_, ?_, hg.frame _, fun h => by cases h⟩
  · exact trodAll_cons_mk (shut_bool Tryd.underlying4 _) trodAll_mk0
  · exact trodAll_cons_mk (shut_string Tryd.underlying9 hs0) (trodAll_cons_mk (shut_int Tryd.underlying3 wx1) trodAll_mk0)
  · rfl

theorem laid_met (os : Os) : laidMet Tryd.prog Rows.utfStepsRow.laid ((laidWorld os).forCall (fun _ _ => 0) ⟨#[], #[.string ByteArray.empty, .int .i64 0], []⟩).memory :=
  laidMet_of_run' 8 (by kernel_rfl) (by kernel_rfl)
theorem reads (os : Os) {H : Type} (enc : TypeId × Value → H) : ∃ places, DataW.whole enc Tryd.prog ((laidWorld os).forCall (fun _ _ => 0) ⟨#[], #[.string ByteArray.empty, .int .i64 0], []⟩).memory Tryd.f6.params.toList Rows.utfStepsSpec.vars false (#[.string ByteArray.empty, .int .i64 0] : Array Value).toList 8 = some ([.lit (.string []), .lit (.int .i64 0)], [], places) :=
  ⟨[], by kernel_rfl⟩

set_option maxRecDepth 100000 in
theorem lifted (os : Os) (started : os.Started) (H : Type) (enc : TypeId × Value → H) (F : Stop.Interp) :
    ReturnsInHanded {} Tryd.checked os 6 .any ((OpenSpec.ofChange Rows.utfStepsSpec).preRow enc Tryd.prog Tryd.f6 Rows.utfStepsRow.domain false Rows.utfStepsRow.laid) (((OpenSpec.ofChange Rows.utfStepsSpec).at F).post enc Tryd.prog Tryd.f6 false true false false) := by
  obtain ⟨places, hx⟩ := reads os enc
  refine returnsInHanded_of_row (C := Tryd.checked) (s := OpenSpec.ofChange Rows.utfStepsSpec) own started (by kernel_rfl) Tryd.func6
    (witness_row_at (enc := enc) (C := Tryd.checked) false (laidWorld os) #[.string ByteArray.empty, .int .i64 0] rfl (by kernel_rfl) (by kernel_rfl) (by kernel_rfl)
      (OpenSpec.preRow_of_cond 8 hx (by kernel_rfl) (fun k hk => by cases hk) (by kernel_rfl) (laid_met os))) ?_
  intro W base args ds gs before hval hW _ _ _ hL _ _
  exact contract H enc W base args ds gs before hval hW hL

theorem said : Rows.UtfStepsSaid :=
  OpenClaim.holds_of_cond 6 Tryd.f6 rfl rfl rfl rfl rfl rfl rfl ⟨rfl, rfl, rfl, rfl, rfl⟩ rfl rfl rfl rfl rfl (by kernel_rfl) Tryd.func6 (by kernel_rfl)
    (of_decide_eq_true (by kernel_rfl)) (by unfold Func.isWrapper; first | (rw [if_pos (by decide +kernel)]; kernel_rfl) | (rw [if_neg (by decide +kernel)]; exact ⟨rfl, rfl⟩))
    (fun os started H enc _ F => by rw [OpenClaim.pre_eq_preRow]; exact lifted os started H enc F)

theorem plain (f : FuncId) (fn : Func) (hf : Tryd.pinned.checked.prog.funcNamed "indenture/indenturelaw01.UtfSteps" = some f) (hfn : Tryd.pinned.checked.prog.funcs[f]? = some fn) :
    false = Tryd.pinned.checked.prog.looks [] ∧ ∀ (j : Nat) t, fn.params[j]? = some t → Tryd.pinned.checked.prog.wantsStandIn t = false := by
  obtain rfl : f = 6 := Option.some.inj ((show Tryd.prog.funcNamed "indenture/indenturelaw01.UtfSteps" = some 6 by kernel_rfl).symm.trans hf) |>.symm
  obtain rfl : fn = Tryd.f6 := (Option.some.inj (Tryd.func6.symm.trans hfn)).symm
  refine ⟨by kernel_rfl, fun j t ht => ?_⟩
  rw [Tryd.params6] at ht
  have ht' := Array.mem_of_getElem? ht
  have hd : t = 9 ∨ t = 3 := by simpa using ht'
  rcases hd with rfl | rfl
  · exact (show Tryd.prog.wantsStandIn 9 = false by kernel_rfl)
  · exact (show Tryd.prog.wantsStandIn 3 = false by kernel_rfl)

/-- THE CARD. -/
theorem card : Rows.UtfStepsCardSaid :=
  Claim7.holds_tied_plain_at .later [] _ _ _ _ said (fun _ h => by cases h) (by kernel_rfl) (fun _ h => by cases h) utfSteps_row_tie rfl ⟨rfl, rfl⟩ (by kernel_rfl) rfl plain (by kernel_rfl)
#print axioms card
end Go.Proofs.YtejipknbhiokeaaDoor.LawUtfSteps

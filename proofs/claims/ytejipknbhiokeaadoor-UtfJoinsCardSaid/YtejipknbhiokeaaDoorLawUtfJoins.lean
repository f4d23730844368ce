/-
  PROVED HERE: the statement Rows.UtfJoinsCardSaid: texts without lone bytes, put together, have none, and their counts add up. No condition beyond the row's own.
-/
import Derived.Test.YtejipknbhiokeaaDoorPlain5
import Derived.Test.YtejipknbhiokeaaDoorWakes1
import Derived.Test.YtejipknbhiokeaaDoorLaid
import Derived.Test.YtejipknbhiokeaaDoorCards
import Derived.Test.YtejipknbhiokeaaDoorTie
namespace Go.Proofs.YtejipknbhiokeaaDoor.LawUtfJoins
open Go.ChangeShapes Go.WideShapes Go.ChangeAt Go.RowKit Ut
open Go.ChangeMaps (open_string shut_string)

theorem hard (a b : ByteArray) (w : World) (hw : Rows w) (ha : a.size ≤ 65536) (hb : b.size ≤ 65536) (va : vld a = true) (vb : vld b = true) :
    Calls Tryd.prog 10 #[.string a, .string b] w fun e w' => e = .returned (.bool true) ∧ Below w.heap.size w w' := by
  have ma : a.size ≤ maxLen := by unfold maxLen; omega
  have mb : b.size ≤ maxLen := by unfold maxLen; omega
  have mab : (a ++ b).size ≤ maxLen := by rw [ByteArray.size_append]; unfold maxLen; omega
  obtain ⟨j1, j2, j3⟩ := joins va vb
  have eS : Sb (a ++ b) a.size = true := by
    unfold Sb
    rw [if_pos (by rw [ByteArray.size_append]; omega)]
    exact j3
  have c1 := cnt_le a
  have c2 := cnt_le b
  have hva := fun W h => valid_any a W ma h
  have hvb := fun W h => valid_any b W mb h
  have hvab := fun W h => valid_any (a ++ b) W mab h
  have hcab := fun W h => count_any (a ++ b) W mab h
  have hsab := fun W h => start_any (a ++ b) a.size W mab h
  rw [va] at hva
  rw [vb] at hvb
  rw [j1] at hvab
  rw [j2] at hcab
  rw [eS] at hsab
  have HVA := Lib.hid hva
  have HVB := Lib.hid hvb
  have HVAB := Lib.hid hvab
  have HCAB := Lib.hid hcab
  have HSAB := Lib.hid hsab
  clear hva hvb hvab hcab hsab va vb j1 j2 j3 eS
  go_enter Tryd.func10, Tryd.ntmps10
  go_wp2_with (fail)
  refine (HVA.out _ hw).mono ?_
  rintro e w1 ⟨rfl, b1⟩
  have h1 := hw.below b1 hw.size
  go_wp2_with (fail)
  refine (HVB.out _ h1).mono ?_
  rintro e w2 ⟨rfl, b2⟩
  have h2 := h1.below b2 h1.size
  go_wp2_with (fail)
  refine (HVAB.out _ h2).mono ?_
  rintro e w3 ⟨rfl, b3⟩
  have h3 := h2.below b3 h2.size
  go_wp2_with (fail)
  refine (HCAB.out _ h3).mono ?_
  rintro e w4 ⟨rfl, b4⟩
  have h4 := h3.below b4 h3.size
  go_wp2_with (fail)
  refine (count_any a _ ma h4).mono ?_
  rintro e w5 ⟨rfl, b5⟩
  have h5 := h4.below b5 h4.size
  go_wp2_with (fail)
  refine (count_any b _ mb h5).mono ?_
  rintro e w6 ⟨rfl, b6⟩
  have h6 := h5.below b6 h5.size
  go_wp2_with (fail)
  refine (HSAB.out _ h6).mono ?_
  rintro e w7 ⟨rfl, b7⟩
  have h7 := h6.below b7 h6.size
  go_wp2_with (fail)
  refine (wakes1_any _ h7).mono ?_
  rintro e w8 ⟨rfl, b8⟩
  go_wp2_with (fail)
  go_ret
  have c1 := b1.size
  have c2 := b2.size
  have c3 := b3.size
  have c4 := b4.size
  have c5 := b5.size
  have c6 := b6.size
  have c7 := b7.size
  exact ⟨rfl, ((((((b1.trans (b2.mono (by omega))).trans (b3.mono (by omega))).trans (b4.mono (by omega))).trans (b5.mono (by omega))).trans (b6.mono (by omega))).trans (b7.mono (by omega))).trans (b8.mono (by omega))⟩

theorem walk (a b : ByteArray) (w : World) (_ha : a.size ≤ maxLen) (_hb : b.size ≤ maxLen) (hw : Rows w) :
    Calls Tryd.prog 10 #[.string a, .string b] w fun e w' => e = .returned (.bool true) ∧ Below w.heap.size w w' := by
  by_cases z1 : 65536 < a.size
  · go_enter Tryd.func10, Tryd.ntmps10
    go_wp2_with (fail)
    refine (wakes1_any _ hw).mono ?_
    rintro e w1 ⟨rfl, b1⟩
    go_wp2_with (fail)
    go_ret
    exact ⟨rfl, b1⟩
  by_cases z2 : 65536 < b.size
  · go_enter Tryd.func10, Tryd.ntmps10
    go_wp2_with (fail)
    refine (wakes1_any _ hw).mono ?_
    rintro e w1 ⟨rfl, b1⟩
    go_wp2_with (fail)
    go_ret
    exact ⟨rfl, b1⟩
  have ma : a.size ≤ maxLen := by unfold maxLen; omega
  have mb : b.size ≤ maxLen := by unfold maxLen; omega
  cases va : vld a with
  | false =>
    have hva := fun W h => valid_any a W ma h
    rw [va] at hva
    have HVA := Lib.hid hva
    clear hva va
    go_enter Tryd.func10, Tryd.ntmps10
    go_wp2_with (fail)
    refine (HVA.out _ hw).mono ?_
    rintro e w1 ⟨rfl, b1⟩
    have h1 := hw.below b1 hw.size
    go_wp2_with (fail)
    refine (wakes1_any _ h1).mono ?_
    rintro e w2 ⟨rfl, b2⟩
    go_wp2_with (fail)
    go_ret
    have c1 := b1.size
    exact ⟨rfl, b1.trans (b2.mono (by omega))⟩
  | true =>
    cases vb : vld b with
    | false =>
      have hva := fun W h => valid_any a W ma h
      have hvb := fun W h => valid_any b W mb h
      rw [va] at hva
      rw [vb] at hvb
      have HVA := Lib.hid hva
      have HVB := Lib.hid hvb
      clear hva va hvb vb
      go_enter Tryd.func10, Tryd.ntmps10
      go_wp2_with (fail)
      refine (HVA.out _ hw).mono ?_
      rintro e w1 ⟨rfl, b1⟩
      have h1 := hw.below b1 hw.size
      go_wp2_with (fail)
      refine (HVB.out _ h1).mono ?_
      rintro e w2 ⟨rfl, b2⟩
      have h2 := h1.below b2 h1.size
      go_wp2_with (fail)
      refine (wakes1_any _ h2).mono ?_
      rintro e w3 ⟨rfl, b3⟩
      go_wp2_with (fail)
      go_ret
      have c1 := b1.size
      have c2 := b2.size
      exact ⟨rfl, (b1.trans (b2.mono (by omega))).trans (b3.mono (by omega))⟩
    | true => exact hard a b w hw (by omega) (by omega) va vb

set_option maxRecDepth 100000 in
theorem contract (H : Type) (enc : TypeId × Value → H) (W : World) (base : Nat) (args : Array Value) (ds gs : List (DataW H)) (before : List MemPlace)
    (hval : ∀ (j : Nat) t v, Tryd.f10.params[j]? = some t → args[j]? = some v → Value.okWide Tryd.prog W .any base t v)
    (hW : DataW.Whole enc Tryd.prog Tryd.f10.params.toList Rows.utfJoinsSpec.vars false W args.toList ds gs before) (hL : laidMetH Tryd.prog Rows.utfJoinsRow.laid W) :
    Calls Tryd.prog 10 args W fun e W' => ∃ v, e = .returned v ∧ Rows.utfJoinsSpec.post enc Tryd.prog Tryd.f10 false true false false W args v W' := by
  have hW' := hW
  obtain ⟨p, q, hA0, hV, rfl, hfz, hnd⟩ := hW
  have hA : DataW.TrodAll enc Tryd.prog W 0 (fun _ => true) true Tryd.f10.params.toList args.toList ds p := hA0
  rw [Tryd.params10] at hA hval
  obtain ⟨v0, v1, d0, d1, p0, p1, rfl, rfl, rfl, h0, h1⟩ := trodAll_two hA
  obtain ⟨rfl, rfl⟩ := trodVars_none hV
  obtain ⟨x0, rfl, rfl, rfl, hs0⟩ := open_string Tryd.underlying9 (hval 0 9 v0 rfl rfl) h0
  obtain ⟨x1, rfl, rfl, rfl, hs1⟩ := open_string Tryd.underlying9 (hval 1 9 v1 rfl rfl) h1
  refine (walk x0 x1 W hs0 hs1 (table hL)).mono fun e W' ⟨he, hg⟩ => ?_
  subst he
  refine ⟨_, rfl, _, _, _, [], [], [], hW', ?_, ?_, ?_, hg.frame _, fun h => by cases h⟩
  · exact trodAll_cons_mk (shut_bool Tryd.underlying4 _) trodAll_mk0
  · exact trodAll_cons_mk (shut_string Tryd.underlying9 hs0) (trodAll_cons_mk (shut_string Tryd.underlying9 hs1) trodAll_mk0)
  · rfl

theorem laid_met (os : Os) : laidMet Tryd.prog Rows.utfJoinsRow.laid ((laidWorld os).forCall (fun _ _ => 0) ⟨#[], #[.string ByteArray.empty, .string ByteArray.empty], []⟩).memory :=
  laidMet_of_run' 8 (by kernel_rfl) (by kernel_rfl)
theorem reads (os : Os) {H : Type} (enc : TypeId × Value → H) : ∃ places, DataW.whole enc Tryd.prog ((laidWorld os).forCall (fun _ _ => 0) ⟨#[], #[.string ByteArray.empty, .string ByteArray.empty], []⟩).memory Tryd.f10.params.toList Rows.utfJoinsSpec.vars false (#[.string ByteArray.empty, .string ByteArray.empty] : Array Value).toList 8 = some ([.lit (.string []), .lit (.string [])], [], places) :=
  ⟨[], by kernel_rfl⟩

set_option maxRecDepth 100000 in
theorem lifted (os : Os) (started : os.Started) (H : Type) (enc : TypeId × Value → H) (F : Stop.Interp) :
    ReturnsInHanded {} Tryd.checked os 10 .any ((OpenSpec.ofChange Rows.utfJoinsSpec).preRow enc Tryd.prog Tryd.f10 Rows.utfJoinsRow.domain false Rows.utfJoinsRow.laid) (((OpenSpec.ofChange Rows.utfJoinsSpec).at F).post enc Tryd.prog Tryd.f10 false true false false) := by
  obtain ⟨places, hx⟩ := reads os enc
  refine returnsInHanded_of_row (C := Tryd.checked) (s := OpenSpec.ofChange Rows.utfJoinsSpec) own started (by kernel_rfl) Tryd.func10
    (witness_row_at (enc := enc) (C := Tryd.checked) false (laidWorld os) #[.string ByteArray.empty, .string ByteArray.empty] rfl (by kernel_rfl) (by kernel_rfl) (by kernel_rfl)
      (OpenSpec.preRow_of_cond 8 hx (by kernel_rfl) (fun k hk => by cases hk) (by kernel_rfl) (laid_met os))) ?_
  intro W base args ds gs before hval hW _ _ _ hL _ _
  exact contract H enc W base args ds gs before hval hW hL

theorem said : Rows.UtfJoinsSaid :=
  OpenClaim.holds_of_cond 10 Tryd.f10 rfl rfl rfl rfl rfl rfl rfl ⟨rfl, rfl, rfl, rfl, rfl⟩ rfl rfl rfl rfl rfl (by kernel_rfl) Tryd.func10 (by kernel_rfl)
    (of_decide_eq_true (by kernel_rfl)) (by unfold Func.isWrapper; first | (rw [if_pos (by decide +kernel)]; kernel_rfl) | (rw [if_neg (by decide +kernel)]; exact ⟨rfl, rfl⟩))
    (fun os started H enc _ F => by rw [OpenClaim.pre_eq_preRow]; exact lifted os started H enc F)

theorem plain (f : FuncId) (fn : Func) (hf : Tryd.pinned.checked.prog.funcNamed "indenture/indenturelaw01.UtfJoins" = some f) (hfn : Tryd.pinned.checked.prog.funcs[f]? = some fn) :
    false = Tryd.pinned.checked.prog.looks [] ∧ ∀ (j : Nat) t, fn.params[j]? = some t → Tryd.pinned.checked.prog.wantsStandIn t = false := by
  obtain rfl : f = 10 := Option.some.inj ((show Tryd.prog.funcNamed "indenture/indenturelaw01.UtfJoins" = some 10 by kernel_rfl).symm.trans hf) |>.symm
  obtain rfl : fn = Tryd.f10 := (Option.some.inj (Tryd.func10.symm.trans hfn)).symm
  refine ⟨by kernel_rfl, fun j t ht => ?_⟩
  rw [Tryd.params10] at ht
  have ht' := Array.mem_of_getElem? ht
  have hd : t = 9 ∨ t = 9 := by simpa using ht'
  rcases hd with rfl | rfl
  · exact (show Tryd.prog.wantsStandIn 9 = false by kernel_rfl)
  · exact (show Tryd.prog.wantsStandIn 9 = false by kernel_rfl)

/-- THE CARD. -/
theorem card : Rows.UtfJoinsCardSaid :=
  Claim7.holds_tied_plain_at .later [] _ _ _ _ said (fun _ h => by cases h) (by kernel_rfl) (fun _ h => by cases h) utfJoins_row_tie rfl ⟨rfl, rfl⟩ (by kernel_rfl) rfl plain (by kernel_rfl)
#print axioms card
end Go.Proofs.YtejipknbhiokeaaDoor.LawUtfJoins

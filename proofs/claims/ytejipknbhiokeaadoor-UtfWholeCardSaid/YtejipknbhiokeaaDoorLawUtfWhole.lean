/-
  PROVED HERE: the statement Rows.UtfWholeCardSaid: steps lie one behind the other and are all of a text; where one begins nothing hangs on what stands ahead. No condition beyond the row's own.
-/
import Derived.Test.YtejipknbhiokeaaDoorPlain5
import Derived.Test.YtejipknbhiokeaaDoorWakes1
import Derived.Test.YtejipknbhiokeaaDoorLaid
import Derived.Test.YtejipknbhiokeaaDoorCards
import Derived.Test.YtejipknbhiokeaaDoorTie
namespace Go.Proofs.YtejipknbhiokeaaDoor.LawUtfWhole
open Go.ChangeShapes Go.WideShapes Go.ChangeAt Go.RowKit Ut
open Go.ChangeMaps (open_string shut_string)

/-- The contracts at a step. -/
theorem at_len (s : ByteArray) (i : Nat) (w : World) (hs : s.size ≤ maxLen) (hi : i < s.size) (hw : Rows w) :
    Calls Tryd.prog 19 #[.string s, .int .i64 i] w fun e w' => e = .returned (.tuple #[.int .i64 (rn s i), .bool (rb s i)]) ∧ Below w.heap.size w w' := by
  have h : (0 : Int) ≤ i ∧ (i : Int) < s.size := by omega
  have e1 : Ln s i = (rn s i : Int) := by unfold Ln; rw [if_pos h]; simp
  have e2 : Lb s i = rb s i := by unfold Lb; rw [if_pos h]; simp
  have := len_any s i w hs hw
  rwa [e1, e2] at this

set_option maxRecDepth 100000 in
set_option maxHeartbeats 2000000 in
theorem walk (s : ByteArray) (w : World) (hs : s.size ≤ maxLen) (hw : Rows w) :
    Calls Tryd.prog 8 #[.string s] w fun e w' => e = .returned (.bool true) ∧ Below w.heap.size w w' := by
  by_cases hz : 4096 < s.size
  · go_enter Tryd.func8, Tryd.ntmps8
    go_wp2_with (fail)
    refine (wakes1_any _ hw).mono ?_
    rintro e w1 ⟨rfl, b1⟩
    go_wp2_with (fail)
    go_ret
    exact ⟨rfl, b1⟩
  have hcl := cnt_le s
  unfold cnt at hcl
  go_enter Tryd.func8, Tryd.ntmps8
  go_wp2
  go_loopw [3, 4, 5] (fun vk vl va wr => ∃ (i j : Nat) (b : Bool), va = .int .i64 i ∧ vk = .int .i64 j ∧ vl = .bool b ∧ i ≤ s.size ∧ st s i = true ∧ (stp s 0).length = j + (stp s i).length ∧ vld s = (!b && (stp s i).all (·.2)) ∧ Rows wr ∧ Below w.heap.size w wr)
    (fun _ _ va _ => s.size - (intOf va).toNat)
  case atStart => exact ⟨0, 0, false, rfl, rfl, rfl, by omega, st_zero s, by simp, by simp [vld], hw, Below.refl _ _⟩
  case round =>
    obtain ⟨i, j, b, rfl, rfl, rfl, hi, hst, hlen, hall, hr, hB⟩ := hrel
    by_cases hlt : i < s.size
    · have hrn := rn_bd hlt
      have hj : j + 1 ≤ s.size := by
        rw [stp_in hlt, List.length_cons] at hlen
        omega
      obtain ⟨a1, a2⟩ := alone hlt
      have hnext := st_next hlt hst
      have hL := fun W h => at_len s i W hs hlt h
      have hS := fun W h => start_in s i W hs hi h
      have hx : (s.extract i (i + rn s i)).size ≤ maxLen := by rw [ByteArray.size_extract]; omega
      have hC := fun W h => count_any (s.extract i (i + rn s i)) W hx h
      have hV := fun W h => valid_any (s.extract i (i + rn s i)) W hx h
      have hl2 : (stp s 0).length = j + 1 + (stp s (i + rn s i)).length := by rw [hlen, stp_in hlt, List.length_cons]; omega
      have ha2 : vld s = (!(b || !rb s i) && (stp s (i + rn s i)).all (·.2)) := by rw [hall, stp_in hlt, List.all_cons]; cases b <;> cases rb s i <;> rfl
      rw [hst] at hS
      rw [a1] at hC
      rw [a2] at hV
      cases hb : rb s i with
      | false =>
        have e1 := (rb_no hb).2
        rw [hb] at hL hV ha2
        rw [e1] at hL hC hV hl2 ha2 hnext
        have HL := Lib.hid hL
        have HS := Lib.hid hS
        have HC := Lib.hid hC
        have HV := Lib.hid hV
        have H1 := Lib.hid hl2
        have H2 := Lib.hid ha2
        have H3 := Lib.hid hnext
        clear hL hS hC hV hl2 ha2 hnext hb e1 a1 a2 hst hlen hall hx hrn
        go_wp2_with (fail)
        refine (HL.out _ hr).mono ?_
        rintro e w1 ⟨rfl, b1⟩
        have h1 := hr.below b1 hr.size
        go_wp2_with (fail)
        refine (HS.out _ h1).mono ?_
        rintro e w2 ⟨rfl, b2⟩
        have h2 := h1.below b2 h1.size
        go_wp2_with (fail)
        refine wp_loop_rounds 1 ?_
        rw [rounds_succ]
        go_wp2_with (fail)
        refine (HC.out _ h2).mono ?_
        rintro e w3 ⟨rfl, b3⟩
        have h3 := h2.below b3 h2.size
        go_wp2_with (fail)
        refine (HV.out _ h3).mono ?_
        rintro e w4 ⟨rfl, b4⟩
        have h4 := h3.below b4 h3.size
        have c0 := hB.size
        have c1 := b1.size
        have c2 := b2.size
        have c3 := b3.size
        cases b with
        | false =>
          go_wp2_with (fail)
          go_roundw
          case rel => exact ⟨i + 1, j + 1, true, by go_num, by go_num, rfl, by omega, H3.out, H1.out, H2.out, h4, (((hB.trans (b1.mono (by omega))).trans (b2.mono (by omega))).trans (b3.mono (by omega))).trans (b4.mono (by omega))⟩
          case measure => simp [intOf]; omega
        | true =>
          go_wp2_with (fail)
          go_roundw
          case rel => exact ⟨i + 1, j + 1, true, by go_num, by go_num, rfl, by omega, H3.out, H1.out, H2.out, h4, (((hB.trans (b1.mono (by omega))).trans (b2.mono (by omega))).trans (b3.mono (by omega))).trans (b4.mono (by omega))⟩
          case measure => simp [intOf]; omega
      | true =>
        have hW := fun (t : Nat) (t1 : 1 ≤ t) (t2 : t < rn s i) W h => start_in s (i + t) W hs (by omega) h
        have hwi := fun (t : Nat) (t1 : 1 ≤ t) (t2 : t < rn s i) => st_within hlt t1 t2
        rw [hb] at hL hV ha2
        obtain ⟨n, hn⟩ : ∃ n, n = rn s i := ⟨_, rfl⟩
        rw [← hn] at hL hC hV hl2 ha2 hnext hrn hW hwi
        have HL := Lib.hid hL
        have HS := Lib.hid hS
        have HC := Lib.hid hC
        have HV := Lib.hid hV
        have H1 := Lib.hid hl2
        have H2 := Lib.hid ha2
        have H3 := Lib.hid hnext
        have HW := Lib.hid hW
        have HI := Lib.hid hwi
        clear hL hS hC hV hl2 ha2 hnext hb a1 a2 hst hlen hall hx hW hwi hn
        obtain ⟨n1, n2, n3⟩ := hrn
        go_wp2_with (fail)
        refine (HL.out _ hr).mono ?_
        rintro e w1 ⟨rfl, b1⟩
        have h1 := hr.below b1 hr.size
        go_wp2_with (fail)
        refine (HS.out _ h1).mono ?_
        rintro e w2 ⟨rfl, b2⟩
        have h2 := h1.below b2 h1.size
        have c0 := hB.size
        have c1 := b1.size
        have hB2 : Below w.heap.size w w2 := (hB.trans (b1.mono (by omega))).trans (b2.mono (by omega))
        go_wp2_with (fail)
        go_loopw [8] (fun v wx => ∃ t : Nat, v = .int .i64 t ∧ 1 ≤ t ∧ t ≤ n ∧ Rows wx ∧ Below w.heap.size w wx) (fun v _ => n - (intOf v).toNat)
        case atStart => exact ⟨1, rfl, by omega, by omega, h2, hB2⟩
        case round =>
          obtain ⟨t, rfl, t1, t2, hrx, hBx⟩ := hrel
          by_cases htn : t < n
          · have hWt := HW.out t t1 htn
            rw [HI.out t t1 htn] at hWt
            have HWt := Lib.hid hWt
            clear hWt
            go_wp2_with (fail)
            refine (HWt.out _ hrx).mono ?_
            rintro e w3 ⟨rfl, b3⟩
            have h3 := hrx.below b3 hrx.size
            go_wp2_with (fail)
            go_roundw
            case rel => exact ⟨t + 1, by go_num, by omega, by omega, h3, hBx.trans (b3.mono hBx.size)⟩
            case measure => simp [intOf]; omega
          · go_wp2_with (fail)
            refine (HC.out _ hrx).mono ?_
            rintro e w3 ⟨rfl, b3⟩
            have h3 := hrx.below b3 hrx.size
            go_wp2_with (fail)
            refine (HV.out _ h3).mono ?_
            rintro e w4 ⟨rfl, b4⟩
            have h4 := h3.below b4 h3.size
            have c3 := b3.size
            have cx := hBx.size
            cases b with
            | false =>
              go_wp2_with (fail)
              go_roundw
              case rel => exact ⟨i + n, j + 1, false, by go_num, by go_num, rfl, by omega, H3.out, H1.out, H2.out, h4, (hBx.trans (b3.mono (by omega))).trans (b4.mono (by omega))⟩
              case measure => simp [intOf]; omega
            | true =>
              go_wp2_with (fail)
              go_roundw
              case rel => exact ⟨i + n, j + 1, true, by go_num, by go_num, rfl, by omega, H3.out, H1.out, H2.out, h4, (hBx.trans (b3.mono (by omega))).trans (b4.mono (by omega))⟩
              case measure => simp [intOf]; omega
    · obtain rfl : i = s.size := by omega
      have hS := fun W h => start_in s s.size W hs (Nat.le_refl _) h
      rw [hst] at hS
      have hC := fun W h => count_any s W hs h
      have hV := fun W h => valid_any s W hs h
      have ec : cnt s = j := by unfold cnt; rw [hlen, stp_end (Nat.le_refl _)]; rfl
      have ev : vld s = !b := by rw [hall, stp_end (Nat.le_refl _)]; simp
      rw [ec] at hC
      rw [ev] at hV
      have HS := Lib.hid hS
      have HC := Lib.hid hC
      have HV := Lib.hid hV
      clear hS hC hV ec ev hst hlen hall
      go_wp2_with (fail)
      refine (HS.out _ hr).mono ?_
      rintro e w1 ⟨rfl, b1⟩
      have h1 := hr.below b1 hr.size
      go_wp2_with (fail)
      refine (HC.out _ h1).mono ?_
      rintro e w2 ⟨rfl, b2⟩
      have h2 := h1.below b2 h1.size
      go_wp2_with (fail)
      refine (HV.out _ h2).mono ?_
      rintro e w3 ⟨rfl, b3⟩
      have h3 := h2.below b3 h2.size
      go_wp2_with (fail)
      refine (wakes1_any _ h3).mono ?_
      rintro e w4 ⟨rfl, b4⟩
      go_wp2_with (fail)
      go_ret
      have c0 := hB.size
      have c1 := b1.size
      have c2 := b2.size
      have c3 := b3.size
      exact ⟨rfl, (((hB.trans (b1.mono (by omega))).trans (b2.mono (by omega))).trans (b3.mono (by omega))).trans (b4.mono (by omega))⟩

set_option maxRecDepth 100000 in
theorem contract (H : Type) (enc : TypeId × Value → H) (W : World) (base : Nat) (args : Array Value) (ds gs : List (DataW H)) (before : List MemPlace)
    (hval : ∀ (j : Nat) t v, Tryd.f8.params[j]? = some t → args[j]? = some v → Value.okWide Tryd.prog W .any base t v)
    (hW : DataW.Whole enc Tryd.prog Tryd.f8.params.toList Rows.utfWholeSpec.vars false W args.toList ds gs before) (hL : laidMetH Tryd.prog Rows.utfWholeRow.laid W) :
    Calls Tryd.prog 8 args W fun e W' => ∃ v, e = .returned v ∧ Rows.utfWholeSpec.post enc Tryd.prog Tryd.f8 false true false false W args v W' := by
  have hW' := hW
  obtain ⟨p, q, hA0, hV, rfl, hfz, hnd⟩ := hW
  have hA : DataW.TrodAll enc Tryd.prog W 0 (fun _ => true) true Tryd.f8.params.toList args.toList ds p := hA0
  rw [Tryd.params8] at hA hval
  obtain ⟨v0, d0, rfl, rfl, h0⟩ := trodAll_one hA
  obtain ⟨rfl, rfl⟩ := trodVars_none hV
  obtain ⟨x0, rfl, rfl, rfl, hs0⟩ := open_string Tryd.underlying9 (hval 0 9 v0 rfl rfl) h0
  refine (walk x0 W hs0 (table hL)).mono fun e W' ⟨he, hg⟩ => ?_
  subst he
  refine ⟨_, rfl, _, _, _, [], [], [], hW', ?_, ?_, ?_, hg.frame _, fun h => by cases h⟩
  · exact trodAll_cons_mk (shut_bool Tryd.underlying4 _) trodAll_mk0
  · exact trodAll_cons_mk (shut_string Tryd.underlying9 hs0) trodAll_mk0
  · rfl

theorem laid_met (os : Os) : laidMet Tryd.prog Rows.utfWholeRow.laid ((laidWorld os).forCall (fun _ _ => 0) ⟨#[], #[.string ByteArray.empty], []⟩).memory :=
  laidMet_of_run' 8 (by kernel_rfl) (by kernel_rfl)
theorem reads (os : Os) {H : Type} (enc : TypeId × Value → H) : ∃ places, DataW.whole enc Tryd.prog ((laidWorld os).forCall (fun _ _ => 0) ⟨#[], #[.string ByteArray.empty], []⟩).memory Tryd.f8.params.toList Rows.utfWholeSpec.vars false (#[.string ByteArray.empty] : Array Value).toList 8 = some ([.lit (.string [])], [], places) :=
  ⟨[], by kernel_rfl⟩

set_option maxRecDepth 100000 in
theorem lifted (os : Os) (started : os.Started) (H : Type) (enc : TypeId × Value → H) (F : Stop.Interp) :
    ReturnsInHanded {} Tryd.checked os 8 .any ((OpenSpec.ofChange Rows.utfWholeSpec).preRow enc Tryd.prog Tryd.f8 Rows.utfWholeRow.domain false Rows.utfWholeRow.laid) (((OpenSpec.ofChange Rows.utfWholeSpec).at F).post enc Tryd.prog Tryd.f8 false true false false) := by
  obtain ⟨places, hx⟩ := reads os enc
  refine returnsInHanded_of_row (C := Tryd.checked) (s := OpenSpec.ofChange Rows.utfWholeSpec) own started (by kernel_rfl) Tryd.func8
    (witness_row_at (enc := enc) (C := Tryd.checked) false (laidWorld os) #[.string ByteArray.empty] rfl (by kernel_rfl) (by kernel_rfl) (by kernel_rfl)
      (OpenSpec.preRow_of_cond 8 hx (by kernel_rfl) (fun k hk => by cases hk) (by kernel_rfl) (laid_met os))) ?_
  intro W base args ds gs before hval hW _ _ _ hL _ _
  exact contract H enc W base args ds gs before hval hW hL

theorem said : Rows.UtfWholeSaid :=
  OpenClaim.holds_of_cond 8 Tryd.f8 rfl rfl rfl rfl rfl rfl rfl ⟨rfl, rfl, rfl, rfl, rfl⟩ rfl rfl rfl rfl rfl (by kernel_rfl) Tryd.func8 (by kernel_rfl)
    (of_decide_eq_true (by kernel_rfl)) (by unfold Func.isWrapper; first | (rw [if_pos (by decide +kernel)]; kernel_rfl) | (rw [if_neg (by decide +kernel)]; exact ⟨rfl, rfl⟩))
    (fun os started H enc _ F => by rw [OpenClaim.pre_eq_preRow]; exact lifted os started H enc F)

theorem plain (f : FuncId) (fn : Func) (hf : Tryd.pinned.checked.prog.funcNamed "indenture/indenturelaw01.UtfWhole" = some f) (hfn : Tryd.pinned.checked.prog.funcs[f]? = some fn) :
    false = Tryd.pinned.checked.prog.looks [] ∧ ∀ (j : Nat) t, fn.params[j]? = some t → Tryd.pinned.checked.prog.wantsStandIn t = false := by
  obtain rfl : f = 8 := Option.some.inj ((show Tryd.prog.funcNamed "indenture/indenturelaw01.UtfWhole" = some 8 by kernel_rfl).symm.trans hf) |>.symm
  obtain rfl : fn = Tryd.f8 := (Option.some.inj (Tryd.func8.symm.trans hfn)).symm
  refine ⟨by kernel_rfl, fun j t ht => ?_⟩
  rw [Tryd.params8] at ht
  have ht' := Array.mem_of_getElem? ht
  have hd : t = 9 := by simpa using ht'
  obtain rfl := hd
  exact (show Tryd.prog.wantsStandIn 9 = false by kernel_rfl)

/-- THE CARD. -/
theorem card : Rows.UtfWholeCardSaid :=
  Claim7.holds_tied_plain_at .later [] _ _ _ _ said (fun _ h => by cases h) (by kernel_rfl) (fun _ h => by cases h) utfWhole_row_tie rfl ⟨rfl, rfl⟩ (by kernel_rfl) rfl plain (by kernel_rfl)
#print axioms card
end Go.Proofs.YtejipknbhiokeaaDoor.LawUtfWhole

/-
  PROVED HERE: the statement Rows.RopeFullCardSaid: a rope of as many bytes as there may be. No condition beyond the row's own.
-/
import Derived.Test.YtejipknbhiokeaaDoorWakes2
import Derived.Test.YtejipknbhiokeaaDoorLaid
import Derived.Test.YtejipknbhiokeaaDoorCards
import Derived.Test.YtejipknbhiokeaaDoorTie
namespace Go.Proofs.YtejipknbhiokeaaDoor.LawRopeFull
open Go.ChangeShapes Go.WideShapes Go.ChangeAt Go.RowKit
open Go.ChangeMaps (open_string shut_string)

/-- Every byte is a character. -/
def Asc (s : ByteArray) : Prop := ∀ j, Ut.bt s j < 128
theorem asc_rn {s : ByteArray} (h : Asc s) (i : Nat) : Ut.rn s i = 1 := by
  unfold Ut.rn Ut.rd
  rw [if_pos (by have := h i; simpa using this)]
theorem asc_stp {s : ByteArray} (h : Asc s) : ∀ m i, s.size - i = m → i ≤ s.size → (Ut.stp s i).length = m := by
  intro m
  induction m with
  | zero => intro i hm hi; rw [Ut.stp_end (by omega)]; rfl
  | succ m ih =>
    intro i hm hi
    rw [Ut.stp_in (by omega), asc_rn h, List.length_cons, ih (i + 1) (by omega) (by omega)]
theorem asc_cnt {s : ByteArray} (h : Asc s) : Ut.cnt s = s.size := by unfold Ut.cnt; exact asc_stp h _ 0 (Nat.sub_zero _) (Nat.zero_le _)
theorem asc_app {a b : ByteArray} (ha : Asc a) (hb : Asc b) : Asc (a ++ b) := by
  intro j
  by_cases hj : j < a.size
  · rw [Ut.bt_left a b hj]; exact ha j
  · obtain ⟨i, rfl⟩ : ∃ i, j = a.size + i := ⟨j - a.size, by omega⟩
    rw [Ut.bt_right]; exact hb i
theorem asc_ext {a : ByteArray} (ha : Asc a) (i j : Nat) : Asc (a.extract i j) := by
  intro k
  by_cases hk : k < (a.extract i j).size
  · rw [ByteArray.size_extract] at hk
    have e : a.extract i j = a.extract i (min j a.size) := (ext_min a i j).symm
    rw [e, Ut.bt_extract a i (min j a.size) k (by omega) (by omega)]
    exact ha _
  · rw [Ut.bt_end _ (by omega)]; omega
theorem asc_one : Asc ⟨#[97]⟩ := by
  intro j
  cases j with
  | zero => decide
  | succ j => rw [Ut.bt_end _ (by show 1 ≤ j + 1; omega)]; omega
theorem asc_b : Asc ⟨#[98]⟩ := by
  intro j
  cases j with
  | zero => decide
  | succ j => rw [Ut.bt_end _ (by show 1 ≤ j + 1; omega)]; omega

set_option maxRecDepth 100000 in
set_option maxHeartbeats 4000000 in
theorem walk (w : World) (hw : Rows w) : Calls Tryd.prog 11 #[] w fun e w' => e = .returned (.bool true) ∧ Below w.heap.size w w' := by
  go_enter Tryd.func11, Tryd.ntmps11
  go_wp2_with (fail)
  go_loopw [1] (fun vs wr => ∃ (t : ByteArray) (k : Nat), vs = .string t ∧ Asc t ∧ t.size = 2 ^ k ∧ k ≤ 20 ∧ wr = w) (fun vs _ => match vs with | .string t => 1048576 - t.size | _ => 0)
  case atStart => exact ⟨_, 0, rfl, asc_one, rfl, Nat.zero_le _, rfl⟩
  case round =>
    obtain ⟨t, k, rfl, ha, hk, hk2, rfl⟩ := hrel
    have hle : t.size ≤ 1048576 := by
      rw [hk]
      exact Nat.le_trans (Nat.pow_le_pow_right (by decide) hk2) (by decide : 2 ^ 20 ≤ 1048576)
    have hpos : 0 < t.size := by rw [hk]; exact Nat.pow_pos (by decide)
    have HA := Lib.hid ha
    have HK := Lib.hid hk
    clear ha hk
    by_cases h0 : t.size < 1048576
    · have hd : decide ((t.size : Int) < 1048576) = true := decide_eq_true (by omega)
      have hd' : decide (t.size < 1048576) = true := decide_eq_true h0
      have g1 : t.size + t.size ≤ 1099511627776 := by omega
      go_wp2_with (fail)
      go_roundw
      case rel =>
        refine ⟨t ++ t, k + 1, rfl, asc_app HA.out HA.out, ?_, ?_, trivial⟩
        · rw [Rp.size_app, HK.out, Nat.pow_succ]; omega
        · rcases Nat.lt_or_ge k 20 with h | h
          · omega
          · exfalso
            have : 2 ^ 20 ≤ t.size := by rw [HK.out]; exact Nat.pow_le_pow_right (by decide) h
            omega
      case measure =>
        show 1048576 - (t ++ t).size < 1048576 - t.size
        rw [Rp.size_app]; omega
    · have hd : decide ((t.size : Int) < 1048576) = false := decide_eq_false (by omega)
      have hd' : decide (t.size < 1048576) = false := decide_eq_false h0
      have hz : t.size = 1048576 := by omega
      have hb1 : (⟨#[98]⟩ : ByteArray).size = 1 := rfl
      have hb2 : (⟨#[98, 99]⟩ : ByteArray).size = 2 := rfl
      have ha1 : (⟨#[97]⟩ : ByteArray).size = 1 := rfl
      have g1 : t.size + (⟨#[97]⟩ : ByteArray).size ≤ 1099511627776 := by omega
      have hxs : (t.extract 0 7 ++ ⟨#[98]⟩ ++ t.extract (7 + 1) t.size).size = 1048576 := by
        rw [Rp.size_app, Rp.size_app, ByteArray.size_extract, ByteArray.size_extract, hb1]; omega
      have hxa : Asc (t.extract 0 7 ++ ⟨#[98]⟩ ++ t.extract (7 + 1) t.size) := asc_app (asc_app (asc_ext HA.out _ _) asc_b) (asc_ext HA.out _ _)
      have S1 := Lib.hid (fun W q (h : IsR W q t) => splice_ok q t 7 1 ⟨#[98]⟩ W h (by omega) (by rw [hb1]; omega) (by rw [hb1]; omega))
      have S2 := Lib.hid (fun W q (h : IsR W q t) => splice_long q t 7 1 ⟨#[98, 99]⟩ W h (by omega) (.inr (by rw [hb2]; omega)))
      have O1 := Lib.hid (fun W => of_long (t ++ ⟨#[97]⟩) W (by rw [Rp.size_app, ha1]; omega))
      have hxc := asc_cnt hxa
      obtain ⟨x, hx⟩ : ∃ x, t.extract 0 7 ++ ⟨#[98]⟩ ++ t.extract (7 + 1) t.size = x := ⟨_, rfl⟩
      rw [hx] at S1 hxs hxa hxc
      rw [hxs] at hxc
      have XS := Lib.hid hxs
      have XC := Lib.hid hxc
      clear hx hxs hxc hxa hb1 hb2
      unfold ed at S1 S2
      go_wp2_with (fail)
      refine (of_short t _ (by omega)).mono ?_
      rintro e w1 ⟨q, rfl, i1, b1⟩
      have I1 := Lib.hid i1
      clear i1
      go_wp2_with (fail)
      refine (S1.out _ q I1.out).mono ?_
      rintro e w2 ⟨q2, rfl, i2, b2⟩
      have I2 := Lib.hid i2
      clear i2
      have B2 := b1.trans (b2.mono b1.size)
      obtain ⟨y, hy⟩ : ∃ y, q2 = some y := by
        obtain ⟨n, _, _, h, _⟩ := I2.out
        exact ⟨_, h⟩
      subst hy
      go_wp2_with (fail)
      refine (S2.out _ q (I1.out.below b2)).mono ?_
      rintro e w3 ⟨rfl, b3⟩
      have B3 := B2.trans (b3.mono B2.size)
      go_wp2_with (fail)
      refine (O1.out _).mono ?_
      rintro e w4 ⟨rfl, b4⟩
      have B4 := B3.trans (b4.mono B3.size)
      have b24 := b3.trans (b4.mono b3.size)
      have hle4 := rlen_any _ x _ (I2.out.below b24)
      rw [XS.out] at hle4
      have HLE := Lib.hid hle4
      clear hle4
      go_wp2_with (fail)
      refine (HLE.out).mono ?_
      rintro e w5 ⟨rfl, b5⟩
      have B5 := B4.trans (b5.mono B4.size)
      have b25 := b24.trans (b5.mono b24.size)
      have hst := rsteps_any _ x _ (I2.out.below b25) (hw.below B5 hw.size)
      rw [XC.out] at hst
      have HST := Lib.hid hst
      clear hst
      go_wp2_with (fail)
      refine (HST.out).mono ?_
      rintro e w6 ⟨rfl, b6⟩
      have B6 := B5.trans (b6.mono B5.size)
      go_wp2_with (fail)
      refine (wakes2_any _ (hw.below B6 hw.size)).mono ?_
      rintro e w7 ⟨rfl, b7⟩
      go_wp2_with (fail)
      go_ret
      exact ⟨rfl, B6.trans (b7.mono B6.size)⟩

set_option maxRecDepth 100000 in
theorem contract (H : Type) (enc : TypeId × Value → H) (W : World) (base : Nat) (args : Array Value) (ds gs : List (DataW H)) (before : List MemPlace)
    (_hval : ∀ (j : Nat) t v, Tryd.f11.params[j]? = some t → args[j]? = some v → Value.okWide Tryd.prog W .any base t v)
    (hW : DataW.Whole enc Tryd.prog Tryd.f11.params.toList Rows.ropeFullSpec.vars false W args.toList ds gs before) (hL : laidMetH Tryd.prog Rows.ropeFullRow.laid W) :
    Calls Tryd.prog 11 args W fun e W' => ∃ v, e = .returned v ∧ Rows.ropeFullSpec.post enc Tryd.prog Tryd.f11 false true false false W args v W' := by
  have hW' := hW
  obtain ⟨p, q, hA0, hV, rfl, hfz, hnd⟩ := hW
  have hA : DataW.TrodAll enc Tryd.prog W 0 (fun _ => true) true Tryd.f11.params.toList args.toList ds p := hA0
  rw [Tryd.params11] at hA
  obtain ⟨rfl, rfl, rfl⟩ := trodAll_none hA
  obtain ⟨rfl, rfl⟩ := trodVars_none hV
  refine (walk  W (table hL)).mono fun e W' ⟨he, hg⟩ => ?_
  subst he
  refine ⟨_, rfl, _, _, _, [], [], [], hW', ?_, ?_, ?_, hg.frame _, fun h => by cases h⟩
  · exact trodAll_cons_mk (shut_bool Tryd.underlying4 _) trodAll_mk0
  · exact trodAll_mk0
  · rfl

theorem laid_met (os : Os) : laidMet Tryd.prog Rows.ropeFullRow.laid ((laidWorld os).forCall (fun _ _ => 0) ⟨#[], #[], []⟩).memory :=
  laidMet_of_run' 8 (by kernel_rfl) (by kernel_rfl)
theorem reads (os : Os) {H : Type} (enc : TypeId × Value → H) : ∃ places, DataW.whole enc Tryd.prog ((laidWorld os).forCall (fun _ _ => 0) ⟨#[], #[], []⟩).memory Tryd.f11.params.toList Rows.ropeFullSpec.vars false (#[] : Array Value).toList 8 = some ([], [], places) :=
  ⟨[], by kernel_rfl⟩

set_option maxRecDepth 100000 in
theorem lifted (os : Os) (started : os.Started) (H : Type) (enc : TypeId × Value → H) (F : Stop.Interp) :
    ReturnsInHanded {} Tryd.checked os 11 .any ((OpenSpec.ofChange Rows.ropeFullSpec).preRow enc Tryd.prog Tryd.f11 Rows.ropeFullRow.domain false Rows.ropeFullRow.laid) (((OpenSpec.ofChange Rows.ropeFullSpec).at F).post enc Tryd.prog Tryd.f11 false true false false) := by
  obtain ⟨places, hx⟩ := reads os enc
  refine returnsInHanded_of_row (C := Tryd.checked) (s := OpenSpec.ofChange Rows.ropeFullSpec) own started (by kernel_rfl) Tryd.func11
    (witness_row_at (enc := enc) (C := Tryd.checked) false (laidWorld os) #[] rfl (by kernel_rfl) (by kernel_rfl) (by kernel_rfl)
      (OpenSpec.preRow_of_cond 8 hx (by kernel_rfl) (fun k hk => by cases hk) (by kernel_rfl) (laid_met os))) ?_
  intro W base args ds gs before hval hW _ _ _ hL _ _
  exact contract H enc W base args ds gs before hval hW hL

theorem said : Rows.RopeFullSaid :=
  OpenClaim.holds_of_cond 11 Tryd.f11 rfl rfl rfl rfl rfl rfl rfl ⟨rfl, rfl, rfl, rfl, rfl⟩ rfl rfl rfl rfl rfl (by kernel_rfl) Tryd.func11 (by kernel_rfl)
    (of_decide_eq_true (by kernel_rfl)) (by unfold Func.isWrapper; first | (rw [if_pos (by decide +kernel)]; kernel_rfl) | (rw [if_neg (by decide +kernel)]; exact ⟨rfl, rfl⟩))
    (fun os started H enc _ F => by rw [OpenClaim.pre_eq_preRow]; exact lifted os started H enc F)

theorem plain (f : FuncId) (fn : Func) (hf : Tryd.pinned.checked.prog.funcNamed "indenture/indenturelaw02.RopeFull" = some f) (hfn : Tryd.pinned.checked.prog.funcs[f]? = some fn) :
    false = Tryd.pinned.checked.prog.looks [] ∧ ∀ (j : Nat) t, fn.params[j]? = some t → Tryd.pinned.checked.prog.wantsStandIn t = false := by
  obtain rfl : f = 11 := Option.some.inj ((show Tryd.prog.funcNamed "indenture/indenturelaw02.RopeFull" = some 11 by kernel_rfl).symm.trans hf) |>.symm
  obtain rfl : fn = Tryd.f11 := (Option.some.inj (Tryd.func11.symm.trans hfn)).symm
  refine ⟨by kernel_rfl, fun j t ht => ?_⟩
  rw [Tryd.params11] at ht
  simp at ht

/-- THE CARD. -/
theorem card : Rows.RopeFullCardSaid :=
  Claim7.holds_tied_plain_at .later [] _ _ _ _ said (fun _ h => by cases h) (by kernel_rfl) (fun _ h => by cases h) ropeFull_row_tie rfl ⟨rfl, rfl⟩ (by kernel_rfl) rfl plain (by kernel_rfl)
#print axioms card
end Go.Proofs.YtejipknbhiokeaaDoor.LawRopeFull

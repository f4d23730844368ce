/-
  PROVED HERE: the statement Rows.UtfBackCardSaid: what utf.Put wrote is read as it was, and what is read is written as it stood, for any number and at any place of any bytes. No condition beyond the row's own.
-/
import Derived.Test.YtejipknbhiokeaaDoorWakes1
import Derived.Test.YtejipknbhiokeaaDoorLaid
import Derived.Test.YtejipknbhiokeaaDoorCards
import Derived.Test.YtejipknbhiokeaaDoorTie
namespace Go.Proofs.YtejipknbhiokeaaDoor.LawUtfBack
open Go.ChangeShapes Go.WideShapes Go.ChangeAt Go.RowKit Ut
open Go.ChangeMaps (open_string shut_string)

/-- What was written is read as it was. -/
theorem put_back {c : Int} (hv : Val c) : Ln (ps c) 0 = ((ps c).size : Int) ∧ Lb (ps c) 0 = true ∧ Cc (ps c) 0 = c := by
  have hz := ps_size hv
  have h1 := (en_len c).1
  have hs : Stands (fun j => bt (ps c) (0 + j)) ((ps c).size - 0) c := ⟨hv, by omega, fun j _ => by simp only [Nat.zero_add]; exact bt_ps hv j⟩
  have e := rd_stands (bytes_bt _ _) hs
  have hr : (0 : Int) ≤ 0 ∧ (0 : Int) < (ps c).size := by omega
  unfold Ln Lb Cc rn rb rc
  rw [if_pos hr, if_pos hr, if_pos hr]
  have e0 : (0 : Int).toNat = 0 := rfl
  rw [e0, e]
  exact ⟨by simp only; omega, rfl, rfl⟩

/-- What is read is written as it stands. -/
theorem read_back {s : ByteArray} {k : Int} (h : Lb s k = true) : ∃ i n : Nat, k = i ∧ i < s.size ∧ Ln s k = n ∧ i + n ≤ s.size ∧ Val (Cc s k) ∧ ps (Cc s k) = s.extract i (i + n) ∧ (ps (Cc s k)).size = n ∧ -2147483648 ≤ Cc s k ∧ Cc s k ≤ 2147483647 := by
  unfold Lb at h
  split at h
  · rename_i hk
    obtain ⟨i, rfl⟩ := Int.eq_ofNat_of_zero_le hk.1
    have hi : i < s.size := by omega
    have h' : rb s i = true := by simpa using h
    obtain ⟨⟨hv, hl, hj⟩, hn⟩ := rb_stands hi h'
    have hr := rn_bd hi
    have e1 : Cc s i = rc s i := by unfold Cc; rw [if_pos hk]; simp
    have e2 : Ln s i = (rn s i : Int) := by unfold Ln; rw [if_pos hk]; simp
    refine ⟨i, rn s i, rfl, hi, e2, hr.2.2, by rw [e1]; exact hv, ?_, by rw [e1, ps_size hv, hn], ?_⟩
    · rw [e1]; exact (lies_iff hv hr.2.2).2 ⟨hn.symm, fun j hjn => hj j (by omega)⟩
    · rw [e1]; obtain ⟨v0, v1, _⟩ := hv; omega
  · cases h


set_option maxRecDepth 100000 in
set_option maxHeartbeats 1000000 in
theorem walk_nn (c : Int) (s : ByteArray) (k : Int) (w : World) (hs : s.size ≤ maxLen) (hw : Rows w) (hc : c < 0 ∨ 1114111 < c ∨ (55296 ≤ c ∧ c ≤ 57343)) (hb : Lb s k = false) :
    Calls Tryd.prog 5 #[.int .i32 c, .string s, .int .i64 k] w fun e w' => e = .returned (.bool true) ∧ Below w.heap.size w w' := by
  have HV := Lib.hid (show ¬ Val c by unfold Val; omega)
  have hp := fun W hW => put_any c W hW
  rw [decide_eq_false HV.out] at hp
  have hcc := fun W hW => char_any s k W hs hW
  have hll := fun W hW => len_any s k W hs hW
  rw [hb] at hcc hll
  have HP := Lib.hid hp
  have HC := Lib.hid hcc
  have HL := Lib.hid hll
  clear hp hcc hll hb
  rcases hc with h | h | h
  all_goals
    go_enter Tryd.func5, Tryd.ntmps5
    go_wp2_with (fail)
    refine (HP.out _ hw).mono ?_
    rintro e w1 ⟨rfl, b1⟩
    have h1 := hw.below b1 hw.size
    go_wp2_with (fail)
    refine (HC.out _ h1).mono ?_
    rintro e w2 ⟨rfl, b2⟩
    have h2 := h1.below b2 h1.size
    go_wp2_with (fail)
    refine (HL.out _ h2).mono ?_
    rintro e w3 ⟨rfl, b3⟩
    have h3 := h2.below b3 h2.size
    go_wp2_with (fail)
    refine (wakes1_any _ h3).mono ?_
    rintro e w4 ⟨rfl, b4⟩
    go_wp2_with (fail)
    go_ret
    have c1 := b1.size
    have c2 := b2.size
    have c3 := b3.size
    exact ⟨rfl, ((b1.trans (b2.mono (by omega))).trans (b3.mono (by omega))).trans (b4.mono (by omega))⟩

set_option maxRecDepth 100000 in
set_option maxHeartbeats 1000000 in
theorem walk_yn (c : Int) (s : ByteArray) (k : Int) (w : World) (hs : s.size ≤ maxLen) (hw : Rows w) (hc : (0 ≤ c ∧ c < 55296) ∨ (57343 < c ∧ c ≤ 1114111)) (hb : Lb s k = false) :
    Calls Tryd.prog 5 #[.int .i32 c, .string s, .int .i64 k] w fun e w' => e = .returned (.bool true) ∧ Below w.heap.size w w' := by
  have hv : Val c := by unfold Val; omega
  have hp := fun W hW => put_any c W hW
  rw [decide_eq_true hv] at hp
  have hpz : (ps c).size ≤ maxLen := by have := (en_len c).2; rw [ps_size hv]; unfold maxLen; omega
  obtain ⟨p1, p2, p3⟩ := put_back hv
  have hc1 := fun W hW => char_any (ps c) 0 W hpz hW
  have hl1 := fun W hW => len_any (ps c) 0 W hpz hW
  rw [p1, p2] at hl1
  rw [p2, p3] at hc1
  have hcc := fun W hW => char_any s k W hs hW
  have hll := fun W hW => len_any s k W hs hW
  rw [hb] at hcc hll
  have HP := Lib.hid hp
  have HC := Lib.hid hcc
  have HL := Lib.hid hll
  have HC1 := Lib.hid hc1
  have HL1 := Lib.hid hl1
  clear hp hcc hll hb hc1 hl1 p1 p2 p3 hv hpz
  rcases hc with h | h
  all_goals
    go_enter Tryd.func5, Tryd.ntmps5
    go_wp2_with (fail)
    refine (HP.out _ hw).mono ?_
    rintro e w1 ⟨rfl, b1⟩
    have h1 := hw.below b1 hw.size
    go_wp2_with (fail)
    refine (HL1.out _ h1).mono ?_
    rintro e w2 ⟨rfl, b2⟩
    have h2 := h1.below b2 h1.size
    go_wp2_with (fail)
    refine (HC1.out _ h2).mono ?_
    rintro e w3 ⟨rfl, b3⟩
    have h3 := h2.below b3 h2.size
    go_wp2_with (fail)
    refine (HC.out _ h3).mono ?_
    rintro e w4 ⟨rfl, b4⟩
    have h4 := h3.below b4 h3.size
    go_wp2_with (fail)
    refine (HL.out _ h4).mono ?_
    rintro e w5 ⟨rfl, b5⟩
    have h5 := h4.below b5 h4.size
    go_wp2_with (fail)
    refine (wakes1_any _ h5).mono ?_
    rintro e w6 ⟨rfl, b6⟩
    go_wp2_with (fail)
    go_ret
    have c1 := b1.size
    have c2 := b2.size
    have c3 := b3.size
    have c4 := b4.size
    have c5 := b5.size
    exact ⟨rfl, ((((b1.trans (b2.mono (by omega))).trans (b3.mono (by omega))).trans (b4.mono (by omega))).trans (b5.mono (by omega))).trans (b6.mono (by omega))⟩

set_option maxRecDepth 100000 in
set_option maxHeartbeats 1000000 in
theorem walk_ny (c : Int) (s : ByteArray) (k : Int) (w : World) (hs : s.size ≤ maxLen) (hw : Rows w) (hc : c < 0 ∨ 1114111 < c ∨ (55296 ≤ c ∧ c ≤ 57343)) (hb : Lb s k = true) :
    Calls Tryd.prog 5 #[.int .i32 c, .string s, .int .i64 k] w fun e w' => e = .returned (.bool true) ∧ Below w.heap.size w w' := by
  obtain ⟨i, n, rfl, hi, hn, hin, hvd, hpe, hpz, hd1, hd2⟩ := read_back hb
  have HV := Lib.hid (show ¬ Val c by unfold Val; omega)
  have hp := fun W hW => put_any c W hW
  rw [decide_eq_false HV.out] at hp
  have hp2 := fun W hW => put_any (Cc s i) W hW
  rw [decide_eq_true hvd] at hp2
  have hcc := fun W hW => char_any s i W hs hW
  have hll := fun W hW => len_any s i W hs hW
  rw [hb] at hcc hll
  rw [hn] at hll
  obtain ⟨d, hd⟩ : ∃ d, d = Cc s i := ⟨_, rfl⟩
  rw [← hd] at hcc hp2 hd1 hd2 hpz hpe
  obtain ⟨u, hu⟩ : ∃ u, u = ps d := ⟨_, rfl⟩
  rw [← hu] at hp2 hpz hpe
  subst hpe
  have HP := Lib.hid hp
  have HP2 := Lib.hid hp2
  have HC := Lib.hid hcc
  have HL := Lib.hid hll
  have q1 : (((s.extract i (i + n)).size : Int) != (n : Int)) = false := by rw [hpz]; simp
  have hs' := hs
  unfold maxLen at hs'
  clear hp hcc hll hb hp2 hn hvd hd hu
  rcases hc with h | h | h
  all_goals
    go_enter Tryd.func5, Tryd.ntmps5
    go_wp2_with (fail)
    refine (HP.out _ hw).mono ?_
    rintro e w1 ⟨rfl, b1⟩
    have h1 := hw.below b1 hw.size
    go_wp2_with (fail)
    refine (HC.out _ h1).mono ?_
    rintro e w2 ⟨rfl, b2⟩
    have h2 := h1.below b2 h1.size
    go_wp2_with (fail)
    refine (HL.out _ h2).mono ?_
    rintro e w3 ⟨rfl, b3⟩
    have h3 := h2.below b3 h2.size
    go_wp2_with (fail)
    refine (HP2.out _ h3).mono ?_
    rintro e w4 ⟨rfl, b4⟩
    have h4 := h3.below b4 h3.size
    go_wp2_with (fail)
    refine (wakes1_any _ h4).mono ?_
    rintro e w5 ⟨rfl, b5⟩
    go_wp2_with (fail)
    go_ret
    have c1 := b1.size
    have c2 := b2.size
    have c3 := b3.size
    have c4 := b4.size
    exact ⟨rfl, (((b1.trans (b2.mono (by omega))).trans (b3.mono (by omega))).trans (b4.mono (by omega))).trans (b5.mono (by omega))⟩

set_option maxRecDepth 100000 in
set_option maxHeartbeats 1000000 in
theorem walk_yy (c : Int) (s : ByteArray) (k : Int) (w : World) (hs : s.size ≤ maxLen) (hw : Rows w) (hc : (0 ≤ c ∧ c < 55296) ∨ (57343 < c ∧ c ≤ 1114111)) (hb : Lb s k = true) :
    Calls Tryd.prog 5 #[.int .i32 c, .string s, .int .i64 k] w fun e w' => e = .returned (.bool true) ∧ Below w.heap.size w w' := by
  obtain ⟨i, n, rfl, hi, hn, hin, hvd, hpe, hpz, hd1, hd2⟩ := read_back hb
  have hv : Val c := by unfold Val; omega
  have hp := fun W hW => put_any c W hW
  rw [decide_eq_true hv] at hp
  have hpz1 : (ps c).size ≤ maxLen := by have := (en_len c).2; rw [ps_size hv]; unfold maxLen; omega
  obtain ⟨p1, p2, p3⟩ := put_back hv
  have hc1 := fun W hW => char_any (ps c) 0 W hpz1 hW
  have hl1 := fun W hW => len_any (ps c) 0 W hpz1 hW
  rw [p1, p2] at hl1
  rw [p2, p3] at hc1
  have hp2 := fun W hW => put_any (Cc s i) W hW
  rw [decide_eq_true hvd] at hp2
  have hcc := fun W hW => char_any s i W hs hW
  have hll := fun W hW => len_any s i W hs hW
  rw [hb] at hcc hll
  rw [hn] at hll
  obtain ⟨d, hd⟩ : ∃ d, d = Cc s i := ⟨_, rfl⟩
  rw [← hd] at hcc hp2 hd1 hd2 hpz hpe
  obtain ⟨u, hu⟩ : ∃ u, u = ps d := ⟨_, rfl⟩
  rw [← hu] at hp2 hpz hpe
  subst hpe
  have HP := Lib.hid hp
  have HP2 := Lib.hid hp2
  have HC := Lib.hid hcc
  have HL := Lib.hid hll
  have HC1 := Lib.hid hc1
  have HL1 := Lib.hid hl1
  have q1 : (((s.extract i (i + n)).size : Int) != (n : Int)) = false := by rw [hpz]; simp
  have hs' := hs
  unfold maxLen at hs'
  clear hp hcc hll hb hp2 hn hvd hd hu hc1 hl1 p1 p2 p3 hv hpz1
  rcases hc with h | h
  all_goals
    go_enter Tryd.func5, Tryd.ntmps5
    go_wp2_with (fail)
    refine (HP.out _ hw).mono ?_
    rintro e w1 ⟨rfl, b1⟩
    have h1 := hw.below b1 hw.size
    go_wp2_with (fail)
    refine (HL1.out _ h1).mono ?_
    rintro e w2 ⟨rfl, b2⟩
    have h2 := h1.below b2 h1.size
    go_wp2_with (fail)
    refine (HC1.out _ h2).mono ?_
    rintro e w3 ⟨rfl, b3⟩
    have h3 := h2.below b3 h2.size
    go_wp2_with (fail)
    refine (HC.out _ h3).mono ?_
    rintro e w4 ⟨rfl, b4⟩
    have h4 := h3.below b4 h3.size
    go_wp2_with (fail)
    refine (HL.out _ h4).mono ?_
    rintro e w5 ⟨rfl, b5⟩
    have h5 := h4.below b5 h4.size
    go_wp2_with (fail)
    refine (HP2.out _ h5).mono ?_
    rintro e w6 ⟨rfl, b6⟩
    have h6 := h5.below b6 h5.size
    go_wp2_with (fail)
    refine (wakes1_any _ h6).mono ?_
    rintro e w7 ⟨rfl, b7⟩
    go_wp2_with (fail)
    go_ret
    have c1 := b1.size
    have c2 := b2.size
    have c3 := b3.size
    have c4 := b4.size
    have c5 := b5.size
    have c6 := b6.size
    exact ⟨rfl, (((((b1.trans (b2.mono (by omega))).trans (b3.mono (by omega))).trans (b4.mono (by omega))).trans (b5.mono (by omega))).trans (b6.mono (by omega))).trans (b7.mono (by omega))⟩

theorem walk (c : Int) (s : ByteArray) (k : Int) (w : World) (_bc : -2147483648 ≤ c ∧ c ≤ 2147483647) (hs : s.size ≤ maxLen) (_bk : -9223372036854775808 ≤ k ∧ k ≤ 9223372036854775807) (hw : Rows w) :
    Calls Tryd.prog 5 #[.int .i32 c, .string s, .int .i64 k] w fun e w' => e = .returned (.bool true) ∧ Below w.heap.size w w' := by
  by_cases hv : (0 ≤ c ∧ c < 55296) ∨ (57343 < c ∧ c ≤ 1114111)
  · cases hb : Lb s k with
    | true => exact walk_yy c s k w hs hw hv hb
    | false => exact walk_yn c s k w hs hw hv hb
  · cases hb : Lb s k with
    | true => exact walk_ny c s k w hs hw (by omega) hb
    | false => exact walk_nn c s k w hs hw (by omega) hb

set_option maxRecDepth 100000 in
theorem contract (H : Type) (enc : TypeId × Value → H) (W : World) (base : Nat) (args : Array Value) (ds gs : List (DataW H)) (before : List MemPlace)
    (hval : ∀ (j : Nat) t v, Tryd.f5.params[j]? = some t → args[j]? = some v → Value.okWide Tryd.prog W .any base t v)
    (hW : DataW.Whole enc Tryd.prog Tryd.f5.params.toList Rows.utfBackSpec.vars false W args.toList ds gs before) (hL : laidMetH Tryd.prog Rows.utfBackRow.laid W) :
    Calls Tryd.prog 5 args W fun e W' => ∃ v, e = .returned v ∧ Rows.utfBackSpec.post enc Tryd.prog Tryd.f5 false true false false W args v W' := by
  have hW' := hW
  obtain ⟨p, q, hA0, hV, rfl, hfz, hnd⟩ := hW
  have hA : DataW.TrodAll enc Tryd.prog W 0 (fun _ => true) true Tryd.f5.params.toList args.toList ds p := hA0
  rw [Tryd.params5] at hA hval
  obtain ⟨v0, v1, v2, d0, d1, d2, p0, p1, p2, rfl, rfl, rfl, h0, h1, h2⟩ := trodAll_three hA
  obtain ⟨rfl, rfl⟩ := trodVars_none hV
  obtain ⟨x0, rfl, rfl, rfl, wx0⟩ := open_int Tryd.underlying21 (hval 0 21 v0 rfl rfl) h0
  have bx0 := bounds_i32 wx0
  obtain ⟨x1, rfl, rfl, rfl, hs1⟩ := open_string Tryd.underlying9 (hval 1 9 v1 rfl rfl) h1
  obtain ⟨x2, rfl, rfl, rfl, wx2⟩ := open_int Tryd.underlying3 (hval 2 3 v2 rfl rfl) h2
  have bx2 := bounds_i64 wx2
  refine (walk x0 x1 x2 W bx0 hs1 bx2 (table hL)).mono fun e W' ⟨he, hg⟩ => ?_
  subst he
  refine ⟨_, rfl, _, _, _, [], [], [], hW', ?_, ?_, ?_, hg.frame _, fun h => by cases h⟩
  · exact trodAll_cons_mk (shut_bool Tryd.underlying4 _) trodAll_mk0
  · exact trodAll_cons_mk (shut_int Tryd.underlying21 wx0) (trodAll_cons_mk (shut_string Tryd.underlying9 hs1) (trodAll_cons_mk (shut_int Tryd.underlying3 wx2) trodAll_mk0))
  · rfl

theorem laid_met (os : Os) : laidMet Tryd.prog Rows.utfBackRow.laid ((laidWorld os).forCall (fun _ _ => 0) ⟨#[], #[.int .i32 0, .string ByteArray.empty, .int .i64 0], []⟩).memory :=
  laidMet_of_run' 8 (by kernel_rfl) (by kernel_rfl)
theorem reads (os : Os) {H : Type} (enc : TypeId × Value → H) : ∃ places, DataW.whole enc Tryd.prog ((laidWorld os).forCall (fun _ _ => 0) ⟨#[], #[.int .i32 0, .string ByteArray.empty, .int .i64 0], []⟩).memory Tryd.f5.params.toList Rows.utfBackSpec.vars false (#[.int .i32 0, .string ByteArray.empty, .int .i64 0] : Array Value).toList 8 = some ([.lit (.int .i32 0), .lit (.string []), .lit (.int .i64 0)], [], places) :=
  ⟨[], by kernel_rfl⟩

set_option maxRecDepth 100000 in
theorem lifted (os : Os) (started : os.Started) (H : Type) (enc : TypeId × Value → H) (F : Stop.Interp) :
    ReturnsInHanded {} Tryd.checked os 5 .any ((OpenSpec.ofChange Rows.utfBackSpec).preRow enc Tryd.prog Tryd.f5 Rows.utfBackRow.domain false Rows.utfBackRow.laid) (((OpenSpec.ofChange Rows.utfBackSpec).at F).post enc Tryd.prog Tryd.f5 false true false false) := by
  obtain ⟨places, hx⟩ := reads os enc
  refine returnsInHanded_of_row (C := Tryd.checked) (s := OpenSpec.ofChange Rows.utfBackSpec) own started (by kernel_rfl) Tryd.func5
    (witness_row_at (enc := enc) (C := Tryd.checked) false (laidWorld os) #[.int .i32 0, .string ByteArray.empty, .int .i64 0] rfl (by kernel_rfl) (by kernel_rfl) (by kernel_rfl)
      (OpenSpec.preRow_of_cond 8 hx (by kernel_rfl) (fun k hk => by cases hk) (by kernel_rfl) (laid_met os))) ?_
  intro W base args ds gs before hval hW _ _ _ hL _ _
  exact contract H enc W base args ds gs before hval hW hL

theorem said : Rows.UtfBackSaid :=
  OpenClaim.holds_of_cond 5 Tryd.f5 rfl rfl rfl rfl rfl rfl rfl ⟨rfl, rfl, rfl, rfl, rfl⟩ rfl rfl rfl rfl rfl (by kernel_rfl) Tryd.func5 (by kernel_rfl)
    (of_decide_eq_true (by kernel_rfl)) (by unfold Func.isWrapper; first | (rw [if_pos (by decide +kernel)]; kernel_rfl) | (rw [if_neg (by decide +kernel)]; exact ⟨rfl, rfl⟩))
    (fun os started H enc _ F => by rw [OpenClaim.pre_eq_preRow]; exact lifted os started H enc F)

theorem plain (f : FuncId) (fn : Func) (hf : Tryd.pinned.checked.prog.funcNamed "indenture/indenturelaw01.UtfBack" = some f) (hfn : Tryd.pinned.checked.prog.funcs[f]? = some fn) :
    false = Tryd.pinned.checked.prog.looks [] ∧ ∀ (j : Nat) t, fn.params[j]? = some t → Tryd.pinned.checked.prog.wantsStandIn t = false := by
  obtain rfl : f = 5 := Option.some.inj ((show Tryd.prog.funcNamed "indenture/indenturelaw01.UtfBack" = some 5 by kernel_rfl).symm.trans hf) |>.symm
  obtain rfl : fn = Tryd.f5 := (Option.some.inj (Tryd.func5.symm.trans hfn)).symm
  refine ⟨by kernel_rfl, fun j t ht => ?_⟩
  rw [Tryd.params5] at ht
  have ht' := Array.mem_of_getElem? ht
  have hd : t = 21 ∨ t = 9 ∨ t = 3 := by simpa using ht'
  rcases hd with rfl | rfl | rfl
  · exact (show Tryd.prog.wantsStandIn 21 = false by kernel_rfl)
  · exact (show Tryd.prog.wantsStandIn 9 = false by kernel_rfl)
  · exact (show Tryd.prog.wantsStandIn 3 = false by kernel_rfl)

/-- THE CARD. -/
theorem card : Rows.UtfBackCardSaid :=
  Claim7.holds_tied_plain_at .later [] _ _ _ _ said (fun _ h => by cases h) (by kernel_rfl) (fun _ h => by cases h) utfBack_row_tie rfl ⟨rfl, rfl⟩ (by kernel_rfl) rfl plain (by kernel_rfl)
#print axioms card
end Go.Proofs.YtejipknbhiokeaaDoor.LawUtfBack

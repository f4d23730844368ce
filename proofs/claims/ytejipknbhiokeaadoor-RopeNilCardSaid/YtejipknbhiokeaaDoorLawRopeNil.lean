/-
  PROVED HERE: the statement Rows.RopeNilCardSaid: no rope has no text. No condition beyond the row's own.
-/
import Derived.Test.YtejipknbhiokeaaDoorWakes2
import Derived.Test.YtejipknbhiokeaaDoorEdits
import Derived.Test.YtejipknbhiokeaaDoorCards
import Derived.Test.YtejipknbhiokeaaDoorTie
namespace Go.Proofs.YtejipknbhiokeaaDoor.LawRopeNil
open Go.ChangeShapes Go.WideShapes Go.ChangeAt Go.RowKit
open Go.ChangeMaps (open_string shut_string)

set_option maxRecDepth 100000 in
set_option maxHeartbeats 4000000 in
theorem walk (v : Value) (n : Int) (w : World) (hx : IsEdit v) (_ : -9223372036854775808 ≤ n ∧ n ≤ 9223372036854775807) (hw : Rows w) :
    Calls Tryd.prog 7 #[v, .int .i64 n] w fun e w' => e = .returned (.bool true) ∧ Below w.heap.size w w' := by
  obtain ⟨⟨pos, del, ins⟩, rfl, -⟩ := hx
  dsimp only
  obtain ⟨w1, hw1⟩ : ∃ w1, w.alloc (.cells #[.int .i64 pos, .int .i64 del, .string ins] 35) = w1 := ⟨_, rfl⟩
  have B1 : Below w.heap.size w w1 := by rw [← hw1]; exact (Below.refl _ _).alloc (Nat.le_refl _) _
  obtain ⟨c0, c1, c2⟩ := box3_new w pos del ins
  rw [hw1] at c0 c1 c2
  have l1 := World.block_lt_of_cell? w1 _ c0
  have hsp := splice_nil pos del ins
  unfold ed at hsp ⊢
  have HSP := Lib.hid hsp
  clear hsp
  go_enter Tryd.func7, Tryd.ntmps7
  go_wp2_with (fail)
  refine (byte_nil n _).mono ?_
  rintro e w2 ⟨rfl, b2⟩
  go_wp2_with (fail)
  refine (rslice_nil n n _).mono ?_
  rintro e w3 ⟨rfl, b3⟩
  have b13 := b2.trans (b3.mono b2.size)
  have k0 := (b13.cell (p := ⟨w.heap.size, 0, none⟩) l1).trans c0
  have k1 := (b13.cell (p := ⟨w.heap.size, 1, none⟩) l1).trans c1
  have k2 := (b13.cell (p := ⟨w.heap.size, 2, none⟩) l1).trans c2
  go_wp2_with (fail)
  refine (HSP.out _).mono ?_
  rintro e w4 ⟨rfl, b4⟩
  have b14 := b13.trans (b4.mono b13.size)
  go_wp2_with (fail)
  refine (line_nil n _).mono ?_
  rintro e w5 ⟨rfl, b5⟩
  have b15 := b14.trans (b5.mono b14.size)
  go_wp2_with (fail)
  obtain ⟨w6, hw6⟩ : ∃ w6, w5.alloc (.cells #[.int .i64 0, .int .i64 0] 45) = w6 := ⟨_, rfl⟩
  have b56 : Below w5.heap.size w5 w6 := by rw [← hw6]; exact (Below.refl _ _).alloc (Nat.le_refl _) _
  have o0 : w6.cell? ⟨w5.heap.size, 0, none⟩ = some (.int .i64 0) := by rw [← hw6]; simp [go_sem]
  have o1 : w6.cell? ⟨w5.heap.size, 1, none⟩ = some (.int .i64 0) := by rw [← hw6]; simp [go_sem]
  have l6 := World.block_lt_of_cell? w6 _ o0
  have b16 := b15.trans (b56.mono b15.size)
  rw [hw6]
  refine (find_nil n _).mono ?_
  rintro e w7 ⟨rfl, b7⟩
  go_wp2_with (fail)
  refine (rlen_nil _).mono ?_
  rintro e w8 ⟨rfl, b8⟩
  have b68 := b7.trans (b8.mono b7.size)
  go_wp2_with (fail)
  refine (text_rnil _).mono ?_
  rintro e w9 ⟨rfl, b9⟩
  have b69 := b68.trans (b9.mono b68.size)
  go_wp2_with (fail)
  refine (lines_nil _).mono ?_
  rintro e w10 ⟨rfl, b10⟩
  have b610 := b69.trans (b10.mono b69.size)
  have p0 := (b610.cell (p := ⟨w5.heap.size, 0, none⟩) l6).trans o0
  have p1 := (b610.cell (p := ⟨w5.heap.size, 1, none⟩) l6).trans o1
  have b110 := b16.trans (b610.mono b16.size)
  have B10 := B1.trans (b110.mono B1.size)
  have h10 := hw.below B10 hw.size
  go_wp2_with (fail)
  refine (rsteps_nil _ h10).mono ?_
  rintro e w11 ⟨rfl, b11⟩
  have B11 := B10.trans (b11.mono B10.size)
  go_wp2_with (fail)
  refine (depth_nil _).mono ?_
  rintro e w12 ⟨rfl, b12⟩
  have B12 := B11.trans (b12.mono B11.size)
  go_wp2_with (fail)
  refine (wakes2_any _ (hw.below B12 hw.size)).mono ?_
  rintro e w13 ⟨rfl, b13'⟩
  go_wp2_with (fail)
  go_ret
  exact ⟨rfl, B12.trans (b13'.mono B12.size)⟩

set_option maxRecDepth 100000 in
theorem contract (H : Type) (enc : TypeId × Value → H) (W : World) (base : Nat) (args : Array Value) (ds gs : List (DataW H)) (before : List MemPlace)
    (hval : ∀ (j : Nat) t v, Tryd.f7.params[j]? = some t → args[j]? = some v → Value.okWide Tryd.prog W .any base t v)
    (hW : DataW.Whole enc Tryd.prog Tryd.f7.params.toList Rows.ropeNilSpec.vars false W args.toList ds gs before) (hL : laidMetH Tryd.prog Rows.ropeNilRow.laid W) :
    Calls Tryd.prog 7 args W fun e W' => ∃ v, e = .returned v ∧ Rows.ropeNilSpec.post enc Tryd.prog Tryd.f7 false true false false W args v W' := by
  have hW' := hW
  obtain ⟨p, q, hA0, hV, rfl, hfz, hnd⟩ := hW
  have hA : DataW.TrodAll enc Tryd.prog W 0 (fun _ => true) true Tryd.f7.params.toList args.toList ds p := hA0
  rw [Tryd.params7] at hA hval
  obtain ⟨v0, v1, d0, d1, p0, p1, rfl, rfl, rfl, h0, h1⟩ := trodAll_two hA
  obtain ⟨rfl, rfl⟩ := trodVars_none hV
  have hk0 := h0
  have hx0 := open_edit (hval 0 35 v0 rfl rfl) h0
  obtain ⟨x1, rfl, rfl, rfl, wx1⟩ := open_int Tryd.underlying3 (hval 1 3 v1 rfl rfl) h1
  have bx1 := bounds_i64 wx1
  refine (walk v0 x1 W hx0 bx1 (table hL)).mono fun e W' ⟨he, hg⟩ => ?_
  subst he
  refine ⟨_, rfl, _, _, _, [], (p0 ++ ([] ++ [])), [], hW', ?_, ?_, ?_, hg.frame _, fun h => by cases h⟩
  · exact trodAll_cons_mk (shut_bool Tryd.underlying4 _) trodAll_mk0
  · exact trodAll_cons_mk (Below.trod laidOut (by kernel_rfl) (of_decide_eq_true (by kernel_rfl)) hk0 hg (fun x hx => by simpa using hW'.lt x (by simp [hx]))) (trodAll_cons_mk (shut_int Tryd.underlying3 wx1) trodAll_mk0)
  · rfl

theorem laid_met (os : Os) : laidMet Tryd.prog Rows.ropeNilRow.laid ((laidWorld os).forCall (fun _ _ => 0) ⟨#[], #[.agg #[.int .i64 0, .int .i64 0, .string ByteArray.empty], .int .i64 0], []⟩).memory :=
  laidMet_of_run' 8 (by kernel_rfl) (by kernel_rfl)
theorem reads (os : Os) {H : Type} (enc : TypeId × Value → H) : ∃ places, DataW.whole enc Tryd.prog ((laidWorld os).forCall (fun _ _ => 0) ⟨#[], #[.agg #[.int .i64 0, .int .i64 0, .string ByteArray.empty], .int .i64 0], []⟩).memory Tryd.f7.params.toList Rows.ropeNilSpec.vars false (#[.agg #[.int .i64 0, .int .i64 0, .string ByteArray.empty], .int .i64 0] : Array Value).toList 8 = some ([.agg [.lit (.int .i64 0), .lit (.int .i64 0), .lit (.string [])], .lit (.int .i64 0)], [], places) :=
  ⟨[], by kernel_rfl⟩

set_option maxRecDepth 100000 in
theorem lifted (os : Os) (started : os.Started) (H : Type) (enc : TypeId × Value → H) (F : Stop.Interp) :
    ReturnsInHanded {} Tryd.checked os 7 .any ((OpenSpec.ofChange Rows.ropeNilSpec).preRow enc Tryd.prog Tryd.f7 Rows.ropeNilRow.domain false Rows.ropeNilRow.laid) (((OpenSpec.ofChange Rows.ropeNilSpec).at F).post enc Tryd.prog Tryd.f7 false true false false) := by
  obtain ⟨places, hx⟩ := reads os enc
  refine returnsInHanded_of_row (C := Tryd.checked) (s := OpenSpec.ofChange Rows.ropeNilSpec) own started (by kernel_rfl) Tryd.func7
    (witness_row_at (enc := enc) (C := Tryd.checked) false (laidWorld os) #[.agg #[.int .i64 0, .int .i64 0, .string ByteArray.empty], .int .i64 0] rfl (by kernel_rfl) (by kernel_rfl) (by kernel_rfl)
      (OpenSpec.preRow_of_cond 8 hx (by kernel_rfl) (fun k hk => by cases hk) (by kernel_rfl) (laid_met os))) ?_
  intro W base args ds gs before hval hW _ _ _ hL _ _
  exact contract H enc W base args ds gs before hval hW hL

theorem said : Rows.RopeNilSaid :=
  OpenClaim.holds_of_cond 7 Tryd.f7 rfl rfl rfl rfl rfl rfl rfl ⟨rfl, rfl, rfl, rfl, rfl⟩ rfl rfl rfl rfl rfl (by kernel_rfl) Tryd.func7 (by kernel_rfl)
    (of_decide_eq_true (by kernel_rfl)) (by unfold Func.isWrapper; first | (rw [if_pos (by decide +kernel)]; kernel_rfl) | (rw [if_neg (by decide +kernel)]; exact ⟨rfl, rfl⟩))
    (fun os started H enc _ F => by rw [OpenClaim.pre_eq_preRow]; exact lifted os started H enc F)

theorem plain (f : FuncId) (fn : Func) (hf : Tryd.pinned.checked.prog.funcNamed "indenture/indenturelaw02.RopeNil" = some f) (hfn : Tryd.pinned.checked.prog.funcs[f]? = some fn) :
    false = Tryd.pinned.checked.prog.looks [] ∧ ∀ (j : Nat) t, fn.params[j]? = some t → Tryd.pinned.checked.prog.wantsStandIn t = false := by
  obtain rfl : f = 7 := Option.some.inj ((show Tryd.prog.funcNamed "indenture/indenturelaw02.RopeNil" = some 7 by kernel_rfl).symm.trans hf) |>.symm
  obtain rfl : fn = Tryd.f7 := (Option.some.inj (Tryd.func7.symm.trans hfn)).symm
  refine ⟨by kernel_rfl, fun j t ht => ?_⟩
  rw [Tryd.params7] at ht
  have ht' := Array.mem_of_getElem? ht
  have hd : t = 35 ∨ t = 3 := by simpa using ht'
  rcases hd with rfl | rfl
  · exact (show Tryd.prog.wantsStandIn 35 = false by kernel_rfl)
  · exact (show Tryd.prog.wantsStandIn 3 = false by kernel_rfl)

/-- THE CARD. -/
theorem card : Rows.RopeNilCardSaid :=
  Claim7.holds_tied_plain_at .later [] _ _ _ _ said (fun _ h => by cases h) (by kernel_rfl) (fun _ h => by cases h) ropeNil_row_tie rfl ⟨rfl, rfl⟩ (by kernel_rfl) rfl plain (by kernel_rfl)
#print axioms card
end Go.Proofs.YtejipknbhiokeaaDoor.LawRopeNil

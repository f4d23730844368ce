/-
  CONTRACTS of the reference of package utf: Put.
-/
import Derived.Test.YtejipknbhiokeaaDoorPlain
import Derived.Test.YtejipknbhiokeaaDoorChecked
import Derived.WalkKit
import Derived.WalkSpells
import Derived.WalkLawsBesides
import Derived.Handy
import Derived.WalkSmall
import Derived.Lib.Hide
import Derived.Laws.BytesArg
namespace Go.Proofs.YtejipknbhiokeaaDoor
open Go.RowKit Ut

set_option maxRecDepth 100000 in
theorem refput_no (c : Int) (w : World) (h : ¬ Val c) :
    Calls Tryd.prog 25 #[.int .i32 c] w fun e w' => e = .returned (.tuple #[.string ⟨#[]⟩, .bool false]) ∧ Below w.heap.size w w' := by
  unfold Val at h
  by_cases h1 : c < 0
  · go_enter Tryd.func25, Tryd.ntmps25
    go_wp2
    go_ret2
    exact ⟨rfl, Below.refl _ _⟩
  by_cases h2 : 1114111 < c
  · go_enter Tryd.func25, Tryd.ntmps25
    go_wp2
    go_ret2
    exact ⟨rfl, Below.refl _ _⟩
  have h3 : 55296 ≤ c := by omega
  have h4 : c ≤ 57343 := by omega
  clear h
  go_enter Tryd.func25, Tryd.ntmps25
  go_wp2
  go_ret2
  exact ⟨rfl, Below.refl _ _⟩

set_option maxRecDepth 100000 in
theorem refput_1 (c : Int) (w : World) (h1 : 0 ≤ c) (h2 : c < 128) :
    Calls Tryd.prog 25 #[.int .i32 c] w fun e w' => e = .returned (.tuple #[.string (strOfNums [c]), .bool true]) ∧ Below w.heap.size w w' := by
  go_enter Tryd.func25, Tryd.ntmps25
  go_wp2
  rw [run_convert_bytes_arg _ 80 5 Tryd.underlying80 Tryd.underlying5 _ 0 1 1 [c] rfl (fun i hi => by obtain rfl : i = 0 := (by omega); simp [go_sem]) 9 Tryd.underlying9]
  go_wp2
  go_ret2
  exact ⟨rfl, by repeat (first | exact Below.refl _ _ | apply below_drewN | (refine Below.alloc ?_ (by simp; try omega) _))⟩

set_option maxRecDepth 100000 in
theorem refput_2 (c : Int) (w : World) (h1 : 128 ≤ c) (h2 : c < 2048) :
    Calls Tryd.prog 25 #[.int .i32 c] w fun e w' => e = .returned (.tuple #[.string (strOfNums [192 + c / 64, 128 + c % 64]), .bool true]) ∧ Below w.heap.size w w' := by
  go_enter Tryd.func25, Tryd.ntmps25
  go_wp2
  rw [run_convert_bytes_arg _ 80 5 Tryd.underlying80 Tryd.underlying5 _ 0 2 2 [192 + c / 64, 128 + c % 64] rfl (lt2 (by simp [go_sem]) (by simp [go_sem])) 9 Tryd.underlying9]
  go_wp2
  go_ret2
  exact ⟨rfl, by repeat (first | exact Below.refl _ _ | apply below_drewN | (refine Below.alloc ?_ (by simp; try omega) _))⟩

set_option maxRecDepth 100000 in
theorem refput_3 (c : Int) (w : World) (h1 : 2048 ≤ c) (h2 : c < 65536) (h3 : c < 55296 ∨ 57343 < c) :
    Calls Tryd.prog 25 #[.int .i32 c] w fun e w' => e = .returned (.tuple #[.string (strOfNums [224 + c / 4096, 128 + c / 64 % 64, 128 + c % 64]), .bool true]) ∧ Below w.heap.size w w' := by
  rcases h3 with h3 | h3
  all_goals
    go_enter Tryd.func25, Tryd.ntmps25
    go_wp2
    rw [run_convert_bytes_arg _ 80 5 Tryd.underlying80 Tryd.underlying5 _ 0 3 3 [224 + c / 4096, 128 + c / 64 % 64, 128 + c % 64] rfl (lt3 (by simp [go_sem]) (by simp [go_sem]) (by simp [go_sem])) 9 Tryd.underlying9]
    go_wp2
    go_ret2
    exact ⟨rfl, by repeat (first | exact Below.refl _ _ | apply below_drewN | (refine Below.alloc ?_ (by simp; try omega) _))⟩

set_option maxRecDepth 100000 in
theorem refput_4 (c : Int) (w : World) (h1 : 65536 ≤ c) (h2 : c ≤ 1114111) :
    Calls Tryd.prog 25 #[.int .i32 c] w fun e w' => e = .returned (.tuple #[.string (strOfNums [240 + c / 262144, 128 + c / 4096 % 64, 128 + c / 64 % 64, 128 + c % 64]), .bool true]) ∧ Below w.heap.size w w' := by
  go_enter Tryd.func25, Tryd.ntmps25
  go_wp2
  rw [run_convert_bytes_arg _ 80 5 Tryd.underlying80 Tryd.underlying5 _ 0 4 4 [240 + c / 262144, 128 + c / 4096 % 64, 128 + c / 64 % 64, 128 + c % 64] rfl (lt4 (by simp [go_sem]) (by simp [go_sem]) (by simp [go_sem]) (by simp [go_sem])) 9 Tryd.underlying9]
  go_wp2
  go_ret2
  exact ⟨rfl, by repeat (first | exact Below.refl _ _ | apply below_drewN | (refine Below.alloc ?_ (by simp; try omega) _))⟩

theorem refput_any (c : Int) (w : World) :
    Calls Tryd.prog 25 #[.int .i32 c] w fun e w' => e = .returned (.tuple #[.string (ps c), .bool (decide (Val c))]) ∧ Below w.heap.size w w' := by
  by_cases h : Val c
  · have h' := h
    obtain ⟨v0, v1, v2⟩ := h'
    have e : ps c = strOfNums (en c) := if_pos h
    rw [e, decide_eq_true h]
    unfold en
    by_cases c1 : c < 128
    · rw [if_pos c1]
      exact refput_1 c w (by omega) (by omega)
    rw [if_neg c1]
    by_cases c2 : c < 2048
    · rw [if_pos c2]
      exact refput_2 c w (by omega) (by omega)
    rw [if_neg c2]
    by_cases c3 : c < 65536
    · rw [if_pos c3]
      exact refput_3 c w (by omega) (by omega) v2
    rw [if_neg c3]
    exact refput_4 c w (by omega) (by omega)
  · have e : ps c = ByteArray.empty := if_neg h
    rw [e, decide_eq_false h]
    exact refput_no c w h

end Go.Proofs.YtejipknbhiokeaaDoor

/-
  CONTRACTS of package utf, on: the iterator of steps, and who ranges over it: Count, Valid.
-/
import Derived.Test.YtejipknbhiokeaaDoorPlain3
import Derived.Test.YtejipknbhiokeaaDoorUtf
import Derived.RangeFuncNested
import Derived.RangeFuncBound
import Derived.RangeFuncCalls
import Derived.RangeFuncLeaves
import Derived.RangeFuncFrom
import Derived.Shelf.Abstract
import Derived.Shelf.RegionOpen
import Derived.OwnWalkIn
import Derived.TacticsInMore
import Derived.LoopNIn
import Derived.LoopIn
namespace Go.Proofs.YtejipknbhiokeaaDoor
open Go.RowKit Go.Shelf Ut
attribute [local go_sem] Oper.semAt_some

theorem steps_any (s : ByteArray) (w : World) :
    Calls Tryd.prog 58 #[.string s] w fun e w' => e = .returned (.func (.func 76) #[] #[.pointer (some ⟨w.heap.size, 0, none⟩)]) ∧ w' = w.alloc (.cells #[.string s] 9) := by
  go_enter Tryd.func58, Tryd.ntmps58
  go_wp2
  go_ret
  exact ⟨rfl, rfl⟩

/-- What a round keeps: what lay below n₀, and the box of the text. -/
def Keeps (n₀ Bn : Nat) (A B : World) : Prop := Below n₀ A B ∧ ∀ v, A.cell? ⟨Bn, 0, none⟩ = some v → B.cell? ⟨Bn, 0, none⟩ = some v
theorem Keeps.trans {n₀ Bn : Nat} {A B C : World} (h : Keeps n₀ Bn A B) (k : Keeps n₀ Bn B C) : Keeps n₀ Bn A C := ⟨h.1.trans k.1, fun v hv => k.2 v (h.2 v hv)⟩

theorem grown_of_below {A B : World} (h : Below A.heap.size A B) (row : Option Nat) : A.grownBy B row := ⟨h.os, h.tape, h.output, h.size, fun i hi _ => h.block i hi⟩

set_option maxRecDepth 100000 in
theorem steps_stops (n : Nat) (hn : 2 ≤ n) (Bn n₀ : Nat) (s : ByteArray) (w : World) (hs : s.size ≤ maxLen) (hBn : w.cell? ⟨Bn, 0, none⟩ = some (.string s)) (hw : Rows w) (h0 : 0 < n₀) :
    SeqStopsK Fence.wide n Tryd.prog 76 #[.pointer (some ⟨Bn, 0, none⟩)] (fun x : Nat × Bool => #[.int .i64 x.1, .bool x.2]) (Keeps n₀ Bn) (fun xs => xs = stp s 0) (fun pre => pre <+: stp s 0) (stp s 0).length w := by
  intro l J Jx W hW hJ hJx hY hj0
  have hs' := hs
  unfold maxLen at hs'
  have hbox : W.cell? ⟨Bn, 0, none⟩ = some (.string s) := (hW.cell (p := ⟨Bn, 0, none⟩) (World.block_lt_of_cell? w _ hBn)).trans hBn
  have hwW : Rows W := hw.below hW hw.size
  refine callsIn_of_wp Tryd.func76 rfl trivial ?_ rfl
  simp only [Tryd.ntmps76, List.size_toArray, List.length_cons, List.length_nil, Nat.reduceAdd, Nat.reduceSub, Array.replicate_succ, Array.replicate_zero, List.push_toArray, List.append_toArray, List.nil_append, List.cons_append]
  gi_wp2
  gi_loopw [3] (fun p wr => ∃ (pre : List (Nat × Bool)) (i : Nat), p = .int .i64 i ∧ i ≤ s.size ∧ stp s 0 = pre ++ stp s i ∧ J pre wr ∧ wr.cell? ⟨Bn, 0, none⟩ = some (.string s) ∧ Rows wr ∧ W.heap.size ≤ wr.heap.size)
    (fun p _ => s.size - (intOf p).toNat)
  case atStart =>
    exact ⟨[], 0, rfl, by omega, rfl, hj0, hbox, hwW, Nat.le_refl _⟩
  case round =>
    obtain ⟨pre, i, rfl, hi, hx, hJs, hb, hr, hz⟩ := hrel
    have HX := Lib.hid hx
    clear hx
    by_cases hlt : i < s.size
    · gi_wp2_with (fail)
      refine ⟨trivial, fun _ => by omega, ?_⟩

      gi_at_call 56
      refine (callsIn_wide.2 (read_any s i _ hs hlt hr)).mono ?_
      rintro e w1 ⟨rfl, hB1⟩
      have hj1 : J pre w1 := hJ _ _ _ none hJs (grown_of_below hB1 none) (fun r e => by cases e)
      have hb1 : w1.cell? ⟨Bn, 0, none⟩ = some (.string s) := (hB1.cell (p := ⟨Bn, 0, none⟩) (World.block_lt_of_cell? wr _ hb)).trans hb
      have hr1 : Rows w1 := hr.below hB1 hr.size
      have hz1 : W.heap.size ≤ w1.heap.size := Nat.le_trans hz hB1.size
      have hrn := rn_bd hlt
      obtain ⟨fn, tmps, assign, body, hy, hR⟩ := hY pre (i, rb s i) w1 hj1 (by rw [HX.out, stp_in hlt]; simp)
      dsimp only at hy hR
      gi_wp2_with (fail)
      refine ⟨fun _ => by omega, ?_⟩
      refine hR.mono ?_
      rintro e w2 (⟨rfl, hJ2, hk2⟩ | ⟨rfl, hJx2⟩)
      · have hb2 : w2.cell? ⟨Bn, 0, none⟩ = some (.string s) := hk2.2 _ hb1
        have hr2 : Rows w2 := hr1.below hk2.1 h0
        have hz2 : W.heap.size ≤ w2.heap.size := Nat.le_trans hz1 hk2.1.size
        gi_wp2
        go_roundw
        case rel => exact ⟨pre ++ [(i, rb s i)], i + rn s i, by go_num, by omega, by rw [HX.out, stp_in hlt]; simp, hJ2, hb2, hr2, hz2⟩
        case measure => simp [intOf]; omega
      · gi_wp2
        refine bodyPost_ret (results_none rfl _ _ _) rfl ?_
        exact ⟨⟨_, rfl⟩, .inr ⟨pre ++ [(i, rb s i)], ⟨stp s (i + rn s i), by rw [HX.out, stp_in hlt]; simp⟩, hJx2⟩⟩
    · gi_wp2
      go_end0
      refine ⟨⟨_, rfl⟩, .inl ⟨pre, ?_, hJs⟩⟩
      rw [HX.out, stp_end (by omega), List.append_nil]

theorem keeps_b {n₀ Bn : Nat} {w : World} (hn : n₀ ≤ w.heap.size) (hB : Bn < w.heap.size) (W : World) (l : Nat) (o o' : Obj) (hl : w.heap.size ≤ l) (h : W.heap[l]? = some o) (h1 : o.isCells = false) (h2 : o.isWalk = false) : Keeps n₀ Bn W (W.putObj l o') :=
  ⟨belowK_b hn W l o o' hl h h1 h2, fun v hv => ((belowK_b (n₀ := Bn + 1) (by omega) W l o o' hl h h1 h2).cell (p := ⟨Bn, 0, none⟩) (Nat.lt_succ_self _)).trans hv⟩

set_option maxRecDepth 100000 in
theorem count_any (s : ByteArray) (w : World) (hs : s.size ≤ maxLen) (hw : Rows w) :
    Calls Tryd.prog 28 #[.string s] w fun e w' => e = .returned (.int .i64 (cnt s)) ∧ Below w.heap.size w w' := by
  have hz := hw.size
  have hcl := cnt_le s
  have hs' := hs
  unfold maxLen at hs'
  refine (callsIn_wide (n := 6)).1 ?_
  refine callsIn_of_wp_marks Tryd.func28 rfl trivial ?_ rfl
  simp only [Tryd.ntmps28, List.size_toArray, List.length_cons, List.length_nil, Nat.reduceAdd, Nat.reduceSub, Array.replicate_succ, Array.replicate_zero, List.push_toArray, List.append_toArray, List.nil_append, List.cons_append]
  gi_wp2_with (refine ⟨trivial, ?_⟩; gi_at_call 58; refine (callsIn_wide.2 (steps_any s _)).mono ?_; rintro e w' ⟨rfl, rfl⟩)
  obtain ⟨w1, hw1⟩ : ∃ w1, (w.alloc (.cells #[.int .i64 0] 3)).alloc (.cells #[.string s] 9) = w1 := ⟨_, rfl⟩
  have hB1 : Below w.heap.size w w1 := by rw [← hw1]; exact ((Below.refl _ w).alloc (Nat.le_refl _) _).alloc (by simp) _
  have hz1 : w1.heap.size = w.heap.size + 2 := by rw [← hw1]; simp
  have hc1 : w1.cell? ⟨w.heap.size, 0, none⟩ = some (.int .i64 0) := by rw [← hw1]; simp [go_sem]
  have hf1 : w1.frozen? ⟨w.heap.size, 0, none⟩ = false := by rw [← hw1]; simp [go_sem]
  have hb1 : w1.cell? ⟨w.heap.size + 1, 0, none⟩ = some (.string s) := by rw [← hw1]; simp [go_sem]
  rw [hw1]
  refine wpIn_rangeFunc_ownF rfl (by omega) (gf := 76) (lb := #[.pointer (some ⟨w.heap.size + 1, 0, none⟩)]) rfl trivial (enters_of Tryd.func76 (by kernel_rfl) rfl)
    (steps_stops (6 - 1) (by omega) (w.heap.size + 1) w.heap.size s w1 hs hb1 (hw.below hB1 hz) hz) (fun h k => h.trans k) (keeps_b (by omega) (by omega)) (Below.refl _ _) (fun _ => rfl)
    (fun pre W => (W.cell? ⟨w.heap.size, 0, none⟩ = some (.int .i64 pre.length) ∧ W.frozen? ⟨w.heap.size, 0, none⟩ = false) ∧ Below w.heap.size w W)
    (fun _ _ _ => False)
    (OwnFrom.and (Own.from (fun s A B row hs hg hr => ⟨cell_kept hs.1 hg hr, (frozen_kept hs.1 hg hr).trans hs.2⟩) _) (ownFrom_below (Nat.le_refl _) (by omega)))
    (fun _ _ _ _ _ hs _ _ => hs)
    ⟨⟨hc1, hf1⟩, hB1⟩
    (fun x => { tmps := #[.string s, undef, .int .i64 0, .pointer (some ⟨w.heap.size, 0, none⟩), .string s, .func (.func 76) #[] #[.pointer (some ⟨w.heap.size + 1, 0, none⟩)], .int .i64 x.1, .bool x.2, undef, undef, undef], defers := [] }) ?assign ?body ?done ?stop
  case assign =>
    intro l x W K hK
    gi_wp2
    simpa using hK
  case body =>
    rintro l pre x W ⟨⟨hc, hf⟩, hB⟩ hlen
    have hlen' : (pre.length : Int) + 1 ≤ 9223372036854775807 := by unfold cnt at hcl; omega
    gi_wp2
    refine ⟨KeepsOthers.setCell _ _ _, ⟨(Below.refl _ W).setCell (p := ⟨w.heap.size, 0, none⟩) (Nat.le_refl _) _, fun v hv => ?_⟩, ⟨?_, ?_⟩, hB.setCell (p := ⟨w.heap.size, 0, none⟩) (Nat.le_refl _) _⟩
    · rw [World.cell?_setCell_other _ _ _ _ (by simp)]; exact hv
    · rw [List.length_append]; exact World.cell?_setCell_same' _ _ _ (by rw [hc]; rfl)
    · rw [World.frozen?_setCell]; exact hf
  case done =>
    rintro D xs W hD rfl ⟨⟨hc, hf⟩, hB⟩ hK
    gi_wp2
    refine ⟨by simp, .inl ⟨_, _, rfl, run_takeDeferred hK, ?_⟩⟩
    exact ⟨_, results_tmp rfl _ _ _, rfl, hB.trans (belowK_b (w := w) (Nat.le_refl _) W D _ _ (by omega) hK rfl rfl)⟩
  case stop =>
    rintro D c pre W _ _ h _
    exact h.elim

theorem not_all {pre l : List (Nat × Bool)} (h : pre <+: l) {x : Nat × Bool} (hx : x ∈ pre) (hf : x.2 = false) : l.all (·.2) = false := by
  rw [List.all_eq_false]
  exact ⟨x, h.subset hx, by simp [hf]⟩

set_option maxRecDepth 100000 in
theorem valid_any (s : ByteArray) (w : World) (hs : s.size ≤ maxLen) (hw : Rows w) :
    Calls Tryd.prog 30 #[.string s] w fun e w' => e = .returned (.bool (vld s)) ∧ Below w.heap.size w w' := by
  have hz := hw.size
  refine (callsIn_wide (n := 6)).1 ?_
  refine callsIn_of_wp_marks Tryd.func30 rfl trivial ?_ rfl
  simp only [Tryd.ntmps30, List.size_toArray, List.length_cons, List.length_nil, Nat.reduceAdd, Nat.reduceSub, Array.replicate_succ, Array.replicate_zero, List.push_toArray, List.append_toArray, List.nil_append, List.cons_append]
  gi_wp2_with (refine ⟨trivial, ?_⟩; gi_at_call 58; refine (callsIn_wide.2 (steps_any s _)).mono ?_; rintro e w' ⟨rfl, rfl⟩)
  obtain ⟨w1, hw1⟩ : ∃ w1, (w.alloc (.cells #[.bool false] 4)).alloc (.cells #[.string s] 9) = w1 := ⟨_, rfl⟩
  have hB1 : Below w.heap.size w w1 := by rw [← hw1]; exact ((Below.refl _ w).alloc (Nat.le_refl _) _).alloc (by simp) _
  have hz1 : w1.heap.size = w.heap.size + 2 := by rw [← hw1]; simp
  have hc1 : w1.cell? ⟨w.heap.size, 0, none⟩ = some (.bool false) := by rw [← hw1]; simp [go_sem]
  have hf1 : w1.frozen? ⟨w.heap.size, 0, none⟩ = false := by rw [← hw1]; simp [go_sem]
  have hb1 : w1.cell? ⟨w.heap.size + 1, 0, none⟩ = some (.string s) := by rw [← hw1]; simp [go_sem]
  rw [hw1]
  refine wpIn_rangeFunc_ownF rfl (by omega) (gf := 76) (lb := #[.pointer (some ⟨w.heap.size + 1, 0, none⟩)]) rfl trivial (enters_of Tryd.func76 (by kernel_rfl) rfl)
    (steps_stops (6 - 1) (by omega) (w.heap.size + 1) w.heap.size s w1 hs hb1 (hw.below hB1 hz) hz) (fun h k => h.trans k) (keeps_b (by omega) (by omega)) (Below.refl _ _) (fun _ => rfl)
    (fun pre W => (pre.all (·.2) = true ∧ W.cell? ⟨w.heap.size, 0, none⟩ = some (.bool false) ∧ W.frozen? ⟨w.heap.size, 0, none⟩ = false) ∧ Below w.heap.size w W)
    (fun c pre W => (c = .ret ∧ (∃ x ∈ pre, x.2 = false) ∧ W.cell? ⟨w.heap.size, 0, none⟩ = some (.bool false)) ∧ Below w.heap.size w W)
    (OwnFrom.and (Own.from (fun s A B row hs hg hr => ⟨hs.1, cell_kept hs.2.1 hg hr, (frozen_kept hs.2.1 hg hr).trans hs.2.2⟩) _) (ownFrom_below (Nat.le_refl _) (by omega)))
    (fun c => OwnFrom.and (Own.from (fun s A B row hs hg hr => ⟨hs.1, hs.2.1, cell_kept hs.2.2 hg hr⟩) _) (ownFrom_below (Nat.le_refl _) (by omega)))
    ⟨⟨rfl, hc1, hf1⟩, hB1⟩
    (fun x => { tmps := #[.string s, undef, .pointer (some ⟨w.heap.size, 0, none⟩), undef, .bool x.2, .string s, .func (.func 76) #[] #[.pointer (some ⟨w.heap.size + 1, 0, none⟩)], .int .i64 x.1, .bool x.2, undef, undef], defers := [] }) ?assign ?body ?done ?stop
  case assign =>
    intro l x W K hK
    gi_wp2
    simpa using hK
  case body =>
    rintro l pre x W ⟨⟨ha, hc, hf⟩, hB⟩ hlen
    obtain ⟨i, b⟩ := x
    have HA := Lib.hid ha
    clear ha
    cases b with
    | true =>
      gi_wp2
      exact ⟨KeepsOthers.refl _, ⟨Below.refl _ _, fun v hv => hv⟩, ⟨by rw [List.all_append, HA.out]; rfl, hc, hf⟩, hB⟩
    | false =>
      gi_wp2
      exact ⟨KeepsOthers.setCell _ _ _, ⟨rfl, ⟨(i, false), by simp, rfl⟩, World.cell?_setCell_same' _ _ _ (by rw [hc]; rfl)⟩, hB.setCell (p := ⟨w.heap.size, 0, none⟩) (Nat.le_refl _) _⟩
  case done =>
    rintro D xs W hD rfl ⟨⟨ha, hc, hf⟩, hB⟩ hK
    have HA := Lib.hid ha
    clear ha
    gi_wp2
    have hK' := (KeepsOthers.setCell W ⟨w.heap.size, 0, none⟩ (.bool true)).same D _ hK rfl
    refine ⟨by simp, .inl ⟨_, _, rfl, run_takeDeferred hK', ?_⟩⟩
    have hc5 := cell_kept (World.cell?_setCell_same' W ⟨w.heap.size, 0, none⟩ (.bool true) (by rw [hc]; rfl)) (grownBy_putObj' _ D (.deferred none)) (fun r e => by cases e; exact ⟨_, hK', rfl⟩)
    refine ⟨.bool true, ?_, by unfold vld; rw [HA.out], (hB.setCell (p := ⟨w.heap.size, 0, none⟩) (Nat.le_refl _) _).trans (belowK_b (w := w) (Nat.le_refl _) _ D _ _ (by omega) hK' rfl rfl)⟩
    simp [results, Tryd.f30, go_sem, hc5]
  case stop =>
    rintro D c pre W hD hpre ⟨⟨rfl, ⟨x, hx, hxf⟩, hc⟩, hB⟩ hK
    have HX := Lib.hid hxf
    clear hxf
    gi_wp2
    refine ⟨by simp, .inl ⟨_, _, rfl, run_takeDeferred hK, ?_⟩⟩
    have hc5 := cell_kept hc (grownBy_putObj' _ D (.deferred none)) (fun r e => by cases e; exact ⟨_, hK, rfl⟩)
    refine ⟨.bool false, ?_, by unfold vld; rw [not_all hpre hx HX.out], hB.trans (belowK_b (w := w) (Nat.le_refl _) W D _ _ (by omega) hK rfl rfl)⟩
    simp [results, Tryd.f30, go_sem, hc5]
end Go.Proofs.YtejipknbhiokeaaDoor

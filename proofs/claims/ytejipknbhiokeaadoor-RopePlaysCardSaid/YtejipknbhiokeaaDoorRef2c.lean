/-
  CONTRACTS of the second reference's Lines, Line.
-/
import Derived.Test.YtejipknbhiokeaaDoorRef2b
import Derived.Laws.AppendOwn
namespace Go.Proofs.YtejipknbhiokeaaDoor
open Go.RowKit Rp

theorem bhL_at (l : List UInt8) : ∀ j, l[j]? = some 10 → bhL l ((l.take j).count 10 + 1) = j + 1 := by
  induction l with
  | nil => intro j h; simp at h
  | cons c l ih =>
    intro j h
    cases j with
    | zero =>
      simp only [List.getElem?_cons_zero, Option.some.injEq] at h
      subst h
      simp [bhL, bhL_zero]
    | succ j =>
      simp only [List.getElem?_cons_succ] at h
      have := ih j h
      rw [List.take_succ_cons, List.count_cons]
      by_cases hc : c = 10
      · subst hc
        simp only [beq_self_eq_true, if_true, bhL]
        omega
      · simp only [beq_iff_eq, hc, if_false, Nat.add_zero, bhL]
        omega
theorem bh_at {s : ByteArray} {j : Nat} (h : j < s.size) (hb : Ut.bt s j = 10) : bh s ((s.data.toList.take j).count 10 + 1) = j + 1 := by
  unfold bh
  refine bhL_at _ _ ?_
  have h' : j < s.data.toList.length := by simpa using h
  rw [List.getElem?_eq_getElem h']
  have e : s.data.toList[j] = s[j] := rfl
  rw [e]
  rw [Ut.bt_at s h] at hb
  congr 1
  exact UInt8.toNat_inj.1 (by have : s[j].toNat = 10 := by omega
                              simpa using this)

/-- The cells of the first n lines. -/
def rows (s : ByteArray) (n : Nat) : List Value := (List.range n).flatMap fun i => [.int .i64 (bh s i), .int .i64 (lnTo s i)]
theorem rows_succ (s : ByteArray) (n : Nat) : rows s (n + 1) = rows s n ++ [.int .i64 (bh s n), .int .i64 (lnTo s n)] := by
  unfold rows
  rw [List.range_succ, List.flatMap_append]
  rfl
theorem rows_get (s : ByteArray) {n i : Nat} (h : i < n) : (rows s n)[i * 2]? = some (.int .i64 (bh s i)) ∧ (rows s n)[i * 2 + 1]? = some (.int .i64 (lnTo s i)) := by
  have hl : ∀ n, (rows s n).length = n * 2 := by
    intro n
    induction n with
    | zero => rfl
    | succ n ih => rw [rows_succ, List.length_append, ih]; simp; omega
  induction n with
  | zero => omega
  | succ n ih =>
    rw [rows_succ]
    by_cases hi : i < n
    · rw [List.getElem?_append_left (by rw [hl]; omega), List.getElem?_append_left (by rw [hl]; omega)]
      exact ih hi
    · obtain rfl : i = n := by omega
      rw [List.getElem?_append_right (by rw [hl]; omega), List.getElem?_append_right (by rw [hl]; omega), hl]
      simp

/-- The lines have come back, in memory of the call's own. -/
def GotL (s : ByteArray) (w : World) (e : Ending) (w' : World) : Prop := ∃ v, e = .returned v ∧ w'.ownsRow w.heap.size 45 2 v (Rp.lf s + 1) (rows s (Rp.lf s + 1)) ∧ Below w.heap.size w w'

set_option maxRecDepth 100000 in
set_option maxHeartbeats 1000000 in
theorem reflines_any (s : ByteArray) (w : World) (hs : s.size ≤ 1048576) : Calls Tryd.prog 73 #[.string s] w (GotL s w) := by
  have hlf := lf_le s
  obtain ⟨i0, hi⟩ := Option.isSome_iff_exists.1 (show (Tryd.prog.info? 45).isSome = true by kernel_rfl)
  have hz0 := show (Tryd.prog.info? 45).bind (·.zero) = some (.agg #[.int .i64 0, .int .i64 0]) by kernel_rfl
  have hz1 := show (Tryd.prog.info? 45).map (·.size) = some 2 by kernel_rfl
  have hz2 := show (Tryd.prog.info? 45).map (·.bytes) = some 16 by kernel_rfl
  rw [hi] at hz0 hz1 hz2
  simp only [Option.bind_some, Option.map_some, Option.some.injEq] at hz0 hz1 hz2
  go_enter Tryd.func73, Tryd.ntmps73
  go_wp2_with (fail)
  go_loopw [3, 4, 5] (fun vl vf vi wr => ∃ j n : Nat, vi = .int .i64 j ∧ vf = .int .i64 (bh s n) ∧ j ≤ s.size ∧ n = (s.data.toList.take j).count 10 ∧ n ≤ Rp.lf s ∧ wr.ownsRow w.heap.size 45 2 vl n (rows s n) ∧ Below w.heap.size w wr) (fun _ _ vi _ => s.size - (intOf vi).toNat)
  case atStart => exact ⟨0, 0, rfl, by rw [bh_zero]; rfl, Nat.zero_le _, rfl, Nat.zero_le _, World.ownsRow_nil _ _ _ _, Below.refl _ _⟩
  case round =>
    obtain ⟨j, n, rfl, rfl, hj, hn, hnl, hown, hB⟩ := hrel
    have HN := Lib.hid hn
    clear hn
    have hbn := bh_le s n
    by_cases hlt : j < s.size
    · have hlt1 : decide ((j : Int) < (s.size : Int)) = true := by simp; omega
      have hlt2 : decide (j < s.size) = true := by simp; omega
      have hc := Lib.hid (count_take_succ s hlt)
      have hget := Ut.get_bt s
      by_cases hb : Ut.bt s j = 10
      · have hba := bh_at hlt hb
        rw [← HN.out] at hba
        have hnl2 : n < Rp.lf s := by
          have h1 := hc.out
          rw [if_pos hb, ← HN.out] at h1
          have h2 : (s.data.toList.take (j + 1)).count 10 ≤ Rp.lf s := (List.take_sublist _ _).count_le _
          omega
        have hto : lnTo s n = j + 1 := by unfold lnTo; rw [if_pos hnl2]; exact hba
        have HTO := Lib.hid hto
        have HBA := Lib.hid hba
        clear hto hba
        go_wp2_with (first
          | (at_builtin; refine wpList_append_own _ rfl _ _ 105 rfl w.heap.size 45 i0 (.agg #[.int .i64 0, .int .i64 0]) 2 16 Tryd.underlying105 hi hz0 hz1 hz2 rfl (by decide) _ _ _ rfl (hown.alloc _) ⟨wr.heap.size, 0, none⟩ 1 1 [.int .i64 (bh s n), .int .i64 ((j : Int) + 1)] rfl rfl ?c1 ?c2 ?c3 ?c4 ?c5 ?_))
        case c1 =>
          intro j' u hj'
          match j', hj' with
          | 0, h => simp at h; subst h; simp [Addr.add, go_sem]
          | 1, h => simp at h; subst h; simp [Addr.add, go_sem]
        case c2 => intro u hu; simp at hu; rcases hu with rfl | rfl <;> rfl
        case c3 => unfold maxLen; omega
        case c4 => omega
        case c5 => have := hB.size; simp; omega
        · intro v' w1 hown' hgrow _
          have hB1 : Below w.heap.size w w1 := (hB.alloc hB.size _).grown hgrow (by have := hB.size; simp; omega) (fun k e => (hown.lt k e).1)
          have hown2 : w1.ownsRow w.heap.size 45 2 v' (n + 1) (rows s (n + 1)) := by
            rw [rows_succ, HTO.out]
            exact hown'
          clear hown hown' hgrow
          go_wp2_with (fail)
          go_roundw
          case rel =>
            refine ⟨j + 1, n + 1, by go_num, by rw [HBA.out]; go_num, by omega, ?_, hnl2, hown2, hB1⟩
            rw [hc.out, if_pos hb, HN.out]
          case measure => simp [intOf]; omega
      · go_wp2_with (fail)
        go_roundw
        case rel =>
          refine ⟨j + 1, n, by go_num, rfl, by omega, ?_, hnl, hown, hB⟩
          rw [hc.out, if_neg hb, HN.out]; rfl
        case measure => simp [intOf]; omega
    · obtain rfl : j = s.size := by omega
      have hlt1 : decide ((s.size : Int) < (s.size : Int)) = false := by simp
      have hnn : n = Rp.lf s := by
        rw [HN.out]; unfold Rp.lf; rw [List.take_of_length_le (by simp)]
      have HNN := Lib.hid hnn
      have hto : lnTo s n = s.size := by unfold lnTo; rw [if_neg (by omega)]
      have HTO := Lib.hid hto
      clear hto hnn
      go_wp2_with (first
        | (at_builtin; refine wpList_append_own _ rfl _ _ 105 rfl w.heap.size 45 i0 (.agg #[.int .i64 0, .int .i64 0]) 2 16 Tryd.underlying105 hi hz0 hz1 hz2 rfl (by decide) _ _ _ rfl (hown.alloc _) ⟨wr.heap.size, 0, none⟩ 1 1 [.int .i64 (bh s n), .int .i64 s.size] rfl rfl ?c1 ?c2 ?c3 ?c4 ?c5 ?_))
      case c1 =>
        intro j' u hj'
        match j', hj' with
        | 0, h => simp at h; subst h; simp [Addr.add, go_sem]
        | 1, h => simp at h; subst h; simp [Addr.add, go_sem]
      case c2 => intro u hu; simp at hu; rcases hu with rfl | rfl <;> rfl
      case c3 => unfold maxLen; omega
      case c4 => omega
      case c5 => have := hB.size; simp; omega
      · intro v' w1 hown' hgrow _
        have hB1 : Below w.heap.size w w1 := (hB.alloc hB.size _).grown hgrow (by have := hB.size; simp; omega) (fun k e => (hown.lt k e).1)
        have hown2 : w1.ownsRow w.heap.size 45 2 v' (n + 1) (rows s (n + 1)) := by
          rw [rows_succ, HTO.out]
          exact hown'
        rw [HNN.out] at hown2
        clear hown hown' hgrow
        go_wp2_with (fail)
        go_ret
        exact ⟨v', rfl, hown2, hB1⟩
end Go.Proofs.YtejipknbhiokeaaDoor

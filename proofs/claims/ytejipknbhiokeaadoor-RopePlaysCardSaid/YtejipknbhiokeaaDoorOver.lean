/-
  CONTRACTS of rope.over, slice: the text between two places, by a builder.
-/
import Derived.Test.YtejipknbhiokeaaDoorMade
namespace Go.Proofs.YtejipknbhiokeaaDoor
open Go.RowKit Rp

/-- The builder in block b holds the text acc; it lies behind n0. -/
def Bld (n0 b : Nat) (acc : ByteArray) (W : World) : Prop := Lib.IsBuilder 111 5 n0 b (Lib.strCells acc) W

theorem Bld.below {n0 b : Nat} {acc : ByteArray} {W W' : World} (h : Bld n0 b acc W) (hb : Below W.heap.size W W') : Bld n0 b acc W' := by
  have hg : W.grownBy W' none := ⟨hb.os, hb.tape, hb.output, hb.size, fun i hi _ => hb.block i hi⟩
  rcases h with h | h
  · obtain ⟨h0, v, h1, h2, h3⟩ := h
    have hlt := (Array.getElem?_eq_some_iff.1 h1).1
    exact .inl ⟨h0, v, (hb.block b hlt).trans h1, h2.kept hg (Classical.em _), h3⟩
  · obtain ⟨h0, v, h1, h2, h3⟩ := h
    have hlt := (Array.getElem?_eq_some_iff.1 h1).1
    exact .inr ⟨h0, v, (hb.block b hlt).trans h1, h2.kept hg (Classical.em _), h3⟩

theorem strCells_app (a b : ByteArray) : Lib.strCells (a ++ b) = Lib.strCells a ++ Lib.strCells b := by simp [Lib.strCells]

/-- slice's closure. -/
theorem write_any (n0 b : Nat) (acc s : ByteArray) (W : World) (h : Bld n0 b acc W) (hl : acc.size + s.size ≤ 140737488355328) (hn : n0 ≤ W.heap.size) :
    Calls Tryd.prog 78 #[.string s, .pointer (some ⟨b, 0, none⟩)] W fun e W' => (∃ v, e = .returned v) ∧ Bld n0 b (acc ++ s) W' ∧ Below n0 W W' := by
  have hc := Tryd.Builder_WriteString n0 b (Lib.strCells acc) s W h (by rw [Lib.strCells_length]; exact hl) hn
  have HC := Lib.hid hc
  clear hc
  go_enter Tryd.func78, Tryd.ntmps78
  go_wp2_with (go_at_call 79; refine (HC.out).mono ?_; rintro e W' ⟨rfl, hb, hB⟩)
  go_end0
  refine ⟨⟨_, rfl⟩, ?_, hB⟩
  unfold Bld
  rw [strCells_app]
  exact .inr hb

theorem over_nil (q : Option Addr) (a b : Int) (f : Value) (W : World) (h : q = none ∨ b ≤ a) : Calls Tryd.prog 77 #[.pointer q, .int .i64 a, .int .i64 b, f] W fun e W' => (∃ v, e = .returned v) ∧ W' = W := by
  rcases h with rfl | h
  · go_enter Tryd.func77, Tryd.ntmps77
    go_wp2
    refine bodyPost_ret (results_none rfl _ _ _) rfl ?_
    exact ⟨⟨_, rfl⟩, rfl⟩
  · cases q with
    | none =>
      go_enter Tryd.func77, Tryd.ntmps77
      go_wp2
      refine bodyPost_ret (results_none rfl _ _ _) rfl ?_
      exact ⟨⟨_, rfl⟩, rfl⟩
    | some x =>
      have hd : decide (b ≤ a) = true := by simpa using h
      go_enter Tryd.func77, Tryd.ntmps77
      go_wp2
      refine bodyPost_ret (results_none rfl _ _ _) rfl ?_
      exact ⟨⟨_, rfl⟩, rfl⟩

set_option maxRecDepth 100000 in
set_option maxHeartbeats 4000000 in
theorem over_node (w0 : World) (x b : Nat) (pl pr : Option Addr) (l : T) (s piece A0 A1 A2 A3 : ByteArray) (a c : Nat) (n0 n1 n2 : Nat) (W : World)
    (hcx : Cells w0 x n0 n1 pl pr s n2) (hl : IsN w0 pl l) (hac : a < c) (hcb : c ≤ 1099511627776) (hsz : l.sz + s.size ≤ 1099511627776)
    (HL : a < l.sz → ∀ W, Below w0.heap.size w0 W → Bld w0.heap.size b A0 W → Calls Tryd.prog 77 #[.pointer pl, .int .i64 a, .int .i64 (min (c : Int) (l.sz : Int)), .func (.func 78) #[] #[.pointer (some ⟨b, 0, none⟩)]] W fun e W' => (∃ v, e = .returned v) ∧ Bld w0.heap.size b A1 W' ∧ Below w0.heap.size W W')
    (HS : max a l.sz < min c (l.sz + s.size) → ∀ W, Below w0.heap.size w0 W → Bld w0.heap.size b A1 W → Calls Tryd.prog 78 #[.string piece, .pointer (some ⟨b, 0, none⟩)] W fun e W' => (∃ v, e = .returned v) ∧ Bld w0.heap.size b A2 W' ∧ Below w0.heap.size W W')
    (HR : l.sz + s.size < c → ∀ W, Below w0.heap.size w0 W → Bld w0.heap.size b A2 W → Calls Tryd.prog 77 #[.pointer pr, .int .i64 (max (a : Int) ((l.sz : Int) + (s.size : Int)) - ((l.sz : Int) + (s.size : Int))), .int .i64 ((c : Int) - ((l.sz : Int) + (s.size : Int))), .func (.func 78) #[] #[.pointer (some ⟨b, 0, none⟩)]] W fun e W' => (∃ v, e = .returned v) ∧ Bld w0.heap.size b A3 W' ∧ Below w0.heap.size W W')
    (HP : max a l.sz < min c (l.sz + s.size) → ∀ W, (Instr.slice 9 (.string s) (some (.int .i64 (max (a : Int) (l.sz : Int) - (l.sz : Int)))) (some (.int .i64 (min (c : Int) ((l.sz : Int) + (s.size : Int)) - (l.sz : Int)))) none).run Tryd.prog W = .ok (.string piece) W)
    (e1 : ¬ a < l.sz → A1 = A0) (e2 : ¬ max a l.sz < min c (l.sz + s.size) → A2 = A1) (e3 : ¬ l.sz + s.size < c → A3 = A2)
    (hB : Below w0.heap.size w0 W) (hb : Bld w0.heap.size b A0 W) :
    Calls Tryd.prog 77 #[.pointer (some ⟨x, 0, none⟩), .int .i64 a, .int .i64 c, .func (.func 78) #[] #[.pointer (some ⟨b, 0, none⟩)]] W fun e W' => (∃ v, e = .returned v) ∧ Bld w0.heap.size b A3 W' ∧ Below w0.heap.size W W' := by
  have hxl := hcx.lt
  obtain ⟨-, -, c2, c3, c4, -, -, -⟩ := hcx
  obtain ⟨k2, k3, k4, -⟩ := keep2 hB hxl c2 c3 c4
  have hd0 : decide ((c : Int) ≤ (a : Int)) = false := by simp; omega
  have hfl : ∀ (w : World) (a b : Int), (Instr.field 95 (.agg #[.int .i64 a, .int .i64 b]) 0).run Tryd.prog w = .ok (.int .i64 a) w := fun _ _ _ => by kernel_rfl
  by_cases d1 : a < l.sz
  · by_cases d2 : max a l.sz < min c (l.sz + s.size)
    · by_cases d3 : l.sz + s.size < c
      · have h1 : decide ((a : Int) < (l.sz : Int)) = true := by simp; omega
        have HL' := Lib.hid (HL d1)
        have h2 : decide (max (a : Int) (l.sz : Int) < min (c : Int) ((l.sz : Int) + (s.size : Int))) = true := by simp; omega
        have HS' := Lib.hid (HS d2)
        have h3 : decide ((l.sz : Int) + (s.size : Int) < (c : Int)) = true := by simp; omega
        have HR' := Lib.hid (HR d3)
        have HP' := HP d2
        clear e1 e2 e3 HL HS HR HP
        go_enter Tryd.func77, Tryd.ntmps77
        go_wp2_with (fail)
        refine (all_any pl l _ (hl.below' hB (Nat.le_refl _))).mono ?_
        rintro e w1 ⟨rfl, hb1⟩
        have hB1 := hB.trans (hb1.mono hB.size)
        have hd1 := hb.below hb1
        obtain ⟨k21, k31, k41, -⟩ := keep2 hB1 hxl c2 c3 c4
        go_wp2_with (fail)
        refine (HL'.out _ hB1 hd1).mono ?_
        rintro e w2 ⟨⟨v2, rfl⟩, hd2, hb2⟩
        have hB2 := hB1.trans hb2
        obtain ⟨k22, k32, k42, -⟩ := keep2 hB2 hxl c2 c3 c4
        go_wp2_with (fail)
        refine (HS'.out _ hB2 hd2).mono ?_
        rintro e w3 ⟨⟨v3, rfl⟩, hd3, hb3⟩
        have hB3 := hB2.trans hb3
        obtain ⟨k23, k33, k43, -⟩ := keep2 hB3 hxl c2 c3 c4
        go_wp2_with (fail)
        refine (HR'.out _ hB3 hd3).mono ?_
        rintro e w4 ⟨⟨v4, rfl⟩, hd4, hb4⟩
        have hB4 := hB3.trans hb4
        obtain ⟨k24, k34, k44, -⟩ := keep2 hB4 hxl c2 c3 c4
        go_wp2_with (fail)
        go_end0
        exact ⟨⟨_, rfl⟩, hd4, ((((hb1.mono hB.size).trans hb2).trans hb3).trans hb4)⟩
      · have h1 : decide ((a : Int) < (l.sz : Int)) = true := by simp; omega
        have HL' := Lib.hid (HL d1)
        have h2 : decide (max (a : Int) (l.sz : Int) < min (c : Int) ((l.sz : Int) + (s.size : Int))) = true := by simp; omega
        have HS' := Lib.hid (HS d2)
        have h3 : decide ((l.sz : Int) + (s.size : Int) < (c : Int)) = false := by simp; omega
        obtain rfl := e3 d3
        have HP' := HP d2
        clear e1 e2 e3 HL HS HR HP
        go_enter Tryd.func77, Tryd.ntmps77
        go_wp2_with (fail)
        refine (all_any pl l _ (hl.below' hB (Nat.le_refl _))).mono ?_
        rintro e w1 ⟨rfl, hb1⟩
        have hB1 := hB.trans (hb1.mono hB.size)
        have hd1 := hb.below hb1
        obtain ⟨k21, k31, k41, -⟩ := keep2 hB1 hxl c2 c3 c4
        go_wp2_with (fail)
        refine (HL'.out _ hB1 hd1).mono ?_
        rintro e w2 ⟨⟨v2, rfl⟩, hd2, hb2⟩
        have hB2 := hB1.trans hb2
        obtain ⟨k22, k32, k42, -⟩ := keep2 hB2 hxl c2 c3 c4
        go_wp2_with (fail)
        refine (HS'.out _ hB2 hd2).mono ?_
        rintro e w3 ⟨⟨v3, rfl⟩, hd3, hb3⟩
        have hB3 := hB2.trans hb3
        obtain ⟨k23, k33, k43, -⟩ := keep2 hB3 hxl c2 c3 c4
        go_wp2_with (fail)
        go_end0
        exact ⟨⟨_, rfl⟩, hd3, (((hb1.mono hB.size).trans hb2).trans hb3)⟩
    · by_cases d3 : l.sz + s.size < c
      · have h1 : decide ((a : Int) < (l.sz : Int)) = true := by simp; omega
        have HL' := Lib.hid (HL d1)
        have h2 : decide (max (a : Int) (l.sz : Int) < min (c : Int) ((l.sz : Int) + (s.size : Int))) = false := by simp; omega
        obtain rfl := e2 d2
        have h3 : decide ((l.sz : Int) + (s.size : Int) < (c : Int)) = true := by simp; omega
        have HR' := Lib.hid (HR d3)
        clear e1 e2 e3 HL HS HR HP
        go_enter Tryd.func77, Tryd.ntmps77
        go_wp2_with (fail)
        refine (all_any pl l _ (hl.below' hB (Nat.le_refl _))).mono ?_
        rintro e w1 ⟨rfl, hb1⟩
        have hB1 := hB.trans (hb1.mono hB.size)
        have hd1 := hb.below hb1
        obtain ⟨k21, k31, k41, -⟩ := keep2 hB1 hxl c2 c3 c4
        go_wp2_with (fail)
        refine (HL'.out _ hB1 hd1).mono ?_
        rintro e w2 ⟨⟨v2, rfl⟩, hd2, hb2⟩
        have hB2 := hB1.trans hb2
        obtain ⟨k22, k32, k42, -⟩ := keep2 hB2 hxl c2 c3 c4
        go_wp2_with (fail)
        refine (HR'.out _ hB2 hd2).mono ?_
        rintro e w3 ⟨⟨v3, rfl⟩, hd3, hb3⟩
        have hB3 := hB2.trans hb3
        obtain ⟨k23, k33, k43, -⟩ := keep2 hB3 hxl c2 c3 c4
        go_wp2_with (fail)
        go_end0
        exact ⟨⟨_, rfl⟩, hd3, (((hb1.mono hB.size).trans hb2).trans hb3)⟩
      · have h1 : decide ((a : Int) < (l.sz : Int)) = true := by simp; omega
        have HL' := Lib.hid (HL d1)
        have h2 : decide (max (a : Int) (l.sz : Int) < min (c : Int) ((l.sz : Int) + (s.size : Int))) = false := by simp; omega
        obtain rfl := e2 d2
        have h3 : decide ((l.sz : Int) + (s.size : Int) < (c : Int)) = false := by simp; omega
        obtain rfl := e3 d3
        clear e1 e2 e3 HL HS HR HP
        go_enter Tryd.func77, Tryd.ntmps77
        go_wp2_with (fail)
        refine (all_any pl l _ (hl.below' hB (Nat.le_refl _))).mono ?_
        rintro e w1 ⟨rfl, hb1⟩
        have hB1 := hB.trans (hb1.mono hB.size)
        have hd1 := hb.below hb1
        obtain ⟨k21, k31, k41, -⟩ := keep2 hB1 hxl c2 c3 c4
        go_wp2_with (fail)
        refine (HL'.out _ hB1 hd1).mono ?_
        rintro e w2 ⟨⟨v2, rfl⟩, hd2, hb2⟩
        have hB2 := hB1.trans hb2
        obtain ⟨k22, k32, k42, -⟩ := keep2 hB2 hxl c2 c3 c4
        go_wp2_with (fail)
        go_end0
        exact ⟨⟨_, rfl⟩, hd2, ((hb1.mono hB.size).trans hb2)⟩
  · by_cases d2 : max a l.sz < min c (l.sz + s.size)
    · by_cases d3 : l.sz + s.size < c
      · have h1 : decide ((a : Int) < (l.sz : Int)) = false := by simp; omega
        obtain rfl := e1 d1
        have h2 : decide (max (a : Int) (l.sz : Int) < min (c : Int) ((l.sz : Int) + (s.size : Int))) = true := by simp; omega
        have HS' := Lib.hid (HS d2)
        have h3 : decide ((l.sz : Int) + (s.size : Int) < (c : Int)) = true := by simp; omega
        have HR' := Lib.hid (HR d3)
        have HP' := HP d2
        clear e1 e2 e3 HL HS HR HP
        go_enter Tryd.func77, Tryd.ntmps77
        go_wp2_with (fail)
        refine (all_any pl l _ (hl.below' hB (Nat.le_refl _))).mono ?_
        rintro e w1 ⟨rfl, hb1⟩
        have hB1 := hB.trans (hb1.mono hB.size)
        have hd1 := hb.below hb1
        obtain ⟨k21, k31, k41, -⟩ := keep2 hB1 hxl c2 c3 c4
        go_wp2_with (fail)
        refine (HS'.out _ hB1 hd1).mono ?_
        rintro e w2 ⟨⟨v2, rfl⟩, hd2, hb2⟩
        have hB2 := hB1.trans hb2
        obtain ⟨k22, k32, k42, -⟩ := keep2 hB2 hxl c2 c3 c4
        go_wp2_with (fail)
        refine (HR'.out _ hB2 hd2).mono ?_
        rintro e w3 ⟨⟨v3, rfl⟩, hd3, hb3⟩
        have hB3 := hB2.trans hb3
        obtain ⟨k23, k33, k43, -⟩ := keep2 hB3 hxl c2 c3 c4
        go_wp2_with (fail)
        go_end0
        exact ⟨⟨_, rfl⟩, hd3, (((hb1.mono hB.size).trans hb2).trans hb3)⟩
      · have h1 : decide ((a : Int) < (l.sz : Int)) = false := by simp; omega
        obtain rfl := e1 d1
        have h2 : decide (max (a : Int) (l.sz : Int) < min (c : Int) ((l.sz : Int) + (s.size : Int))) = true := by simp; omega
        have HS' := Lib.hid (HS d2)
        have h3 : decide ((l.sz : Int) + (s.size : Int) < (c : Int)) = false := by simp; omega
        obtain rfl := e3 d3
        have HP' := HP d2
        clear e1 e2 e3 HL HS HR HP
        go_enter Tryd.func77, Tryd.ntmps77
        go_wp2_with (fail)
        refine (all_any pl l _ (hl.below' hB (Nat.le_refl _))).mono ?_
        rintro e w1 ⟨rfl, hb1⟩
        have hB1 := hB.trans (hb1.mono hB.size)
        have hd1 := hb.below hb1
        obtain ⟨k21, k31, k41, -⟩ := keep2 hB1 hxl c2 c3 c4
        go_wp2_with (fail)
        refine (HS'.out _ hB1 hd1).mono ?_
        rintro e w2 ⟨⟨v2, rfl⟩, hd2, hb2⟩
        have hB2 := hB1.trans hb2
        obtain ⟨k22, k32, k42, -⟩ := keep2 hB2 hxl c2 c3 c4
        go_wp2_with (fail)
        go_end0
        exact ⟨⟨_, rfl⟩, hd2, ((hb1.mono hB.size).trans hb2)⟩
    · by_cases d3 : l.sz + s.size < c
      · have h1 : decide ((a : Int) < (l.sz : Int)) = false := by simp; omega
        obtain rfl := e1 d1
        have h2 : decide (max (a : Int) (l.sz : Int) < min (c : Int) ((l.sz : Int) + (s.size : Int))) = false := by simp; omega
        obtain rfl := e2 d2
        have h3 : decide ((l.sz : Int) + (s.size : Int) < (c : Int)) = true := by simp; omega
        have HR' := Lib.hid (HR d3)
        clear e1 e2 e3 HL HS HR HP
        go_enter Tryd.func77, Tryd.ntmps77
        go_wp2_with (fail)
        refine (all_any pl l _ (hl.below' hB (Nat.le_refl _))).mono ?_
        rintro e w1 ⟨rfl, hb1⟩
        have hB1 := hB.trans (hb1.mono hB.size)
        have hd1 := hb.below hb1
        obtain ⟨k21, k31, k41, -⟩ := keep2 hB1 hxl c2 c3 c4
        go_wp2_with (fail)
        refine (HR'.out _ hB1 hd1).mono ?_
        rintro e w2 ⟨⟨v2, rfl⟩, hd2, hb2⟩
        have hB2 := hB1.trans hb2
        obtain ⟨k22, k32, k42, -⟩ := keep2 hB2 hxl c2 c3 c4
        go_wp2_with (fail)
        go_end0
        exact ⟨⟨_, rfl⟩, hd2, ((hb1.mono hB.size).trans hb2)⟩
      · exfalso; omega
end Go.Proofs.YtejipknbhiokeaaDoor

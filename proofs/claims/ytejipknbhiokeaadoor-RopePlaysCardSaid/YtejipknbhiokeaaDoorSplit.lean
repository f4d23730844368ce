/-
  CONTRACTS of rope.split, last, first.
-/
import Derived.Test.YtejipknbhiokeaaDoorJoin
namespace Go.Proofs.YtejipknbhiokeaaDoor
open Go.RowKit Rp

theorem w64 {n : Int} (h0 : -9223372036854775808 ≤ n) (h1 : n ≤ 9223372036854775807) : IntKind.i64.wrap n = n := by rw [IntKind.wrap_i64]; omega

/-- Two trees have come back. -/
def Got2 (t u : T) (w : World) (e : Ending) (w' : World) : Prop := ∃ p q, e = .returned (.tuple #[.pointer p, .pointer q]) ∧ IsN w' p t ∧ IsN w' q u ∧ Below w.heap.size w w'
theorem Got2.at {f : FuncId} {args : Array Value} {t u : T} {w0 w : World} (hB : Below w0.heap.size w0 w) (h : Calls Tryd.prog f args w (Got2 t u w)) :
    Calls Tryd.prog f args w fun e w' => ∃ p q, e = .returned (.tuple #[.pointer p, .pointer q]) ∧ IsN w' p t ∧ IsN w' q u ∧ Below w.heap.size w w' ∧ Below w0.heap.size w0 w' :=
  h.mono fun _ _ ⟨p, q, he, hn, hm, hb⟩ => ⟨p, q, he, hn, hm, hb, hB.trans (hb.mono hB.size)⟩

/-- The node's cells, behind w0. -/
structure At3 (w0 : World) (x : Nat) (pa pb : Option Addr) (ls : ByteArray) (w : World) : Prop where
  c2 : w.cell? ⟨x, 2, none⟩ = some (.pointer pa)
  c3 : w.cell? ⟨x, 3, none⟩ = some (.pointer pb)
  c4 : w.cell? ⟨x, 4, none⟩ = some (.string ls)
  hB : Below w0.heap.size w0 w
theorem At3.of {w w' : World} {x : Nat} {pa pb : Option Addr} {ls : ByteArray} (hB : Below w.heap.size w w') (hx : x < w.heap.size)
    (c2 : w.cell? ⟨x, 2, none⟩ = some (.pointer pa)) (c3 : w.cell? ⟨x, 3, none⟩ = some (.pointer pb)) (c4 : w.cell? ⟨x, 4, none⟩ = some (.string ls)) : At3 w x pa pb ls w' :=
  have h := keep2 hB hx c2 c3 c4
  ⟨h.1, h.2.1, h.2.2.1, h.2.2.2⟩

set_option maxRecDepth 100000 in
set_option maxHeartbeats 4000000 in
theorem split_1 (x : Nat) (pl pr : Option Addr) (l A B r : T) (s : ByteArray) (w : World) (k : Nat) (n0 n1 n2 : Nat)
    (hcx : Cells w x n0 n1 pl pr s n2) (hl : IsN w pl l) (hr : IsN w pr r)
    (ih : ∀ W, Below w.heap.size w W → Calls Tryd.prog 60 #[.pointer pl, .int .i64 k] W (Got2 A B W))
    (hk : k ≤ l.sz) (bB : B.Bal) (br : r.Bal) (hs : 0 < s.size) (h1 : B.sz + s.size + r.sz ≤ 549755813888) :
    Calls Tryd.prog 60 #[.pointer (some ⟨x, 0, none⟩), .int .i64 k] w (Got2 A (join B s r) w) := by
  have hxl := hcx.lt
  obtain ⟨-, -, c2, c3, c4, -, -, -⟩ := hcx
  have hgt : decide ((k : Int) ≤ (l.sz : Int)) = true := by simp; omega
  have hgt' : decide (k ≤ l.sz) = true := by simp; omega
  have IH := Lib.hid ih
  clear ih
  have hfl : ∀ (w : World) (a b : Int), (Instr.field 95 (.agg #[.int .i64 a, .int .i64 b]) 0).run Tryd.prog w = .ok (.int .i64 a) w := fun _ _ _ => by kernel_rfl
  go_enter Tryd.func60, Tryd.ntmps60
  go_wp2_with (fail)
  refine (all_any pl l _ hl).mono ?_
  rintro e w1 ⟨rfl, hb1⟩
  obtain ⟨d2, d3, d4, hB1⟩ := keep2 hb1 hxl c2 c3 c4
  go_wp2_with (fail)
  refine (Got2.at (w0 := w) hB1 (IH.out _ hB1)).mono ?_
  rintro e w2 ⟨p1, q1, rfl, hA, hQ, hb2, hB2⟩
  obtain ⟨f2, f3, f4, -⟩ := keep2 hB2 hxl c2 c3 c4
  clear d2 d3 d4 hB1
  go_wp2_with (fail)
  go_region_held3 (fun w' => w'.cell? ⟨x, 2, none⟩ = some (.pointer pl) ∧ w'.cell? ⟨x, 3, none⟩ = some (.pointer pr) ∧ w'.cell? ⟨x, 4, none⟩ = some (.string s) ∧ Below w.heap.size w w')
    (exact keep2 (by first | assumption | exact Below.drew (by assumption)) hxl c2 c3 c4)
    (first
      | (go_at_call 81; refine (Got.at (w0 := w2) (by first | exact Below.refl _ _ | exact Below.drew (Below.refl _ _)) (join_any _ _ _ _ _ _ (hQ.below (by first | exact Below.refl _ _ | exact Below.drew (Below.refl _ _))) (hr.below (by first | assumption | exact Below.drew (by assumption))) bB br hs h1)).mono ?_; rintro e w' ⟨p3, rfl, hn3, hb3, hB3⟩; have hB4 := hB2.trans (hB3.mono hB2.size)))
  all_goals
    go_wp2_with (fail)
    go_ret2
    exact ⟨p1, p3, rfl, hA.below hB3, hn3, hB2.trans (hB3.mono hB2.size)⟩

set_option maxRecDepth 100000 in
set_option maxHeartbeats 4000000 in
theorem split_2 (x : Nat) (pl pr : Option Addr) (l A B : T) (s : ByteArray) (w : World) (k : Nat) (n0 n1 n2 : Nat)
    (hcx : Cells w x n0 n1 pl pr s n2) (hl : IsN w pl l)
    (ih : ∀ W, Below w.heap.size w W → Calls Tryd.prog 60 #[.pointer pr, .int .i64 ((k : Int) - (l.sz : Int) - (s.size : Int))] W (Got2 A B W))
    (hk : l.sz + s.size ≤ k) (hkb : k ≤ 549755813888) (hs : 0 < s.size) (bA : A.Bal) (bl : l.Bal) (h1 : l.sz + s.size + A.sz ≤ 549755813888) :
    Calls Tryd.prog 60 #[.pointer (some ⟨x, 0, none⟩), .int .i64 k] w (Got2 (join l s A) B w) := by
  have hxl := hcx.lt
  obtain ⟨-, -, c2, c3, c4, -, -, -⟩ := hcx
  have hgt : decide ((k : Int) ≤ (l.sz : Int)) = false := by simp; omega
  have hge : decide ((l.sz : Int) + (s.size : Int) ≤ (k : Int)) = true := by simp; omega
  have IH := Lib.hid ih
  clear ih
  have hfl : ∀ (w : World) (a b : Int), (Instr.field 95 (.agg #[.int .i64 a, .int .i64 b]) 0).run Tryd.prog w = .ok (.int .i64 a) w := fun _ _ _ => by kernel_rfl
  go_enter Tryd.func60, Tryd.ntmps60
  go_wp2_with (fail)
  refine (all_any pl l _ hl).mono ?_
  rintro e w1 ⟨rfl, hb1⟩
  obtain ⟨d2, d3, d4, hB1⟩ := keep2 hb1 hxl c2 c3 c4
  go_wp2_with (fail)
  try clear hgt hgt'
  have hq0 : IntKind.i64.wrap ((k : Int) - (l.sz : Int)) = (k : Int) - (l.sz : Int) := w64 (by omega) (by omega)
  have hq1 : IntKind.i64.wrap ((k : Int) - (l.sz : Int) - (s.size : Int)) = (k : Int) - (l.sz : Int) - (s.size : Int) := w64 (by omega) (by omega)
  have hBq : Below w.heap.size w w1 := hB1
  go_region_held3 (fun w' => w'.cell? ⟨x, 2, none⟩ = some (.pointer pl) ∧ w'.cell? ⟨x, 3, none⟩ = some (.pointer pr) ∧ w'.cell? ⟨x, 4, none⟩ = some (.string s) ∧ Below w.heap.size w w')
    (exact keep2 (by first | assumption | exact Below.drew (by assumption)) hxl c2 c3 c4)
    (first
      | (go_at_call 60; refine (Got2.at (w0 := w) (by first | assumption | exact Below.drew (by assumption)) (IH.out _ (by first | assumption | exact Below.drew (by assumption)))).mono ?_; rintro e w2 ⟨p1, q1, rfl, hA, hQ, hb2, hB2⟩))
  all_goals
    go_wp2_with (fail)
  clear IH hb1 d2 d3 d4 hB1 hBq hb2
  obtain ⟨f2, f3, f4, -⟩ := keep2 hB2 hxl c2 c3 c4
  go_region_held3 (fun w' => w'.cell? ⟨x, 2, none⟩ = some (.pointer pl) ∧ w'.cell? ⟨x, 3, none⟩ = some (.pointer pr) ∧ w'.cell? ⟨x, 4, none⟩ = some (.string s) ∧ Below w.heap.size w w')
    (exact keep2 (by first | assumption | exact Below.drew (by assumption)) hxl c2 c3 c4)
    (first
      | (go_at_call 81; refine (Got.at (w0 := w2) (by first | exact Below.refl _ _ | exact Below.drew (Below.refl _ _)) (join_any _ _ _ _ _ _ (hl.below (by first | assumption | exact Below.drew (by assumption))) (hA.below (by first | exact Below.refl _ _ | exact Below.drew (Below.refl _ _))) bl bA hs h1)).mono ?_; rintro e w' ⟨p3, rfl, hn3, hb3, hB3⟩; have hB4 := hB2.trans (hB3.mono hB2.size)))
  all_goals
    go_wp2_with (fail)
    go_ret2
    exact ⟨p3, q1, rfl, hn3, hQ.below hB3, hB2.trans (hB3.mono hB2.size)⟩

set_option maxRecDepth 100000 in
set_option maxHeartbeats 4000000 in
theorem split_3 (x : Nat) (pl pr : Option Addr) (l r : T) (s : ByteArray) (w : World) (k j : Nat) (n0 n1 n2 : Nat)
    (hcx : Cells w x n0 n1 pl pr s n2) (hl : IsN w pl l) (hr : IsN w pr r)
    (hk : k = l.sz + j) (hj0 : 0 < j) (hj : j < s.size) (bl : l.Bal) (br : r.Bal) (h1 : l.sz + s.size + r.sz ≤ 549755813888) :
    Calls Tryd.prog 60 #[.pointer (some ⟨x, 0, none⟩), .int .i64 k] w (Got2 (join l (s.extract 0 j) .nil) (join .nil (s.extract j s.size) r) w) := by
  have hxl := hcx.lt
  obtain ⟨-, -, c2, c3, c4, -, -, -⟩ := hcx
  have hgt : decide ((k : Int) ≤ (l.sz : Int)) = false := by simp; omega
  have hgt' : decide (k ≤ l.sz) = false := by simp; omega
  have hge : decide ((l.sz : Int) + (s.size : Int) ≤ (k : Int)) = false := by simp; omega
  have hsb : IntKind.i64.wrap ((k : Int) - (l.sz : Int)) = (j : Int) := (w64 (by omega) (by omega)).trans (by omega)
  have hj2 : j ≤ s.size := by omega
  clear hk
  have e0 : (s.extract 0 j).size = j := by rw [ByteArray.size_extract]; omega
  have e1 : (s.extract j s.size).size = s.size - j := by rw [ByteArray.size_extract]; omega
  have hfl : ∀ (w : World) (a b : Int), (Instr.field 95 (.agg #[.int .i64 a, .int .i64 b]) 0).run Tryd.prog w = .ok (.int .i64 a) w := fun _ _ _ => by kernel_rfl
  go_enter Tryd.func60, Tryd.ntmps60
  go_wp2_with (fail)
  refine (all_any pl l _ hl).mono ?_
  rintro e w1 ⟨rfl, hb1⟩
  obtain ⟨d2, d3, d4, hB1⟩ := keep2 hb1 hxl c2 c3 c4
  go_wp2_with (fail)
  have hBq : Below w.heap.size w w1 := hB1
  go_region_held3 (fun w' => w'.cell? ⟨x, 2, none⟩ = some (.pointer pl) ∧ w'.cell? ⟨x, 3, none⟩ = some (.pointer pr) ∧ w'.cell? ⟨x, 4, none⟩ = some (.string s) ∧ Below w.heap.size w w')
    (exact keep2 (by first | assumption | exact Below.drew (by assumption)) hxl c2 c3 c4)
    (first
      | (go_at_call_of 81 (Value.string (s.extract 0 j)); refine (Got.at (w0 := w) (by first | assumption | exact Below.drew (by assumption)) (join_any _ _ _ _ _ _ (hl.below (by first | assumption | exact Below.drew (by assumption))) (show IsN _ none .nil from rfl) bl trivial (by omega) (by rw [e0]; simp only [T.sz]; omega))).mono ?_; rintro e w2 ⟨p2, rfl, hn2, hb2, hB2⟩)
      | (go_at_call_of 81 (Value.string (s.extract j s.size)); refine (Got.at (w0 := w) (by first | assumption | exact Below.drew (by assumption)) (join_any _ _ _ _ _ _ (show IsN _ none .nil from rfl) (hr.below (by first | assumption | exact Below.drew (by assumption))) trivial br (by omega) (by rw [e1]; simp only [T.sz]; omega))).mono ?_; rintro e w3 ⟨p3, rfl, hn3, hb3, hB3⟩))
  all_goals
    go_wp2_with (fail)
  all_goals
    go_ret2
  all_goals exact ⟨p2, p3, rfl, hn2.below hb3, hn3, hB3⟩

theorem split_nil (k : Int) (w : World) : Calls Tryd.prog 60 #[.pointer none, .int .i64 k] w (Got2 .nil .nil w) := by
  go_enter Tryd.func60, Tryd.ntmps60
  go_wp2_with (fail)
  go_ret2
  exact ⟨none, none, rfl, rfl, rfl, Below.refl _ _⟩

/-- split, of a balanced tree. -/
theorem split_any (t : T) : ∀ (p : Option Addr) (k : Nat) (w : World), IsN w p t → t.Bal → k ≤ t.sz → t.sz ≤ 549755813888 →
    Calls Tryd.prog 60 #[.pointer p, .int .i64 k] w (Got2 (split t k).1 (split t k).2 w) := by
  induction t with
  | nil =>
    intro p k w h _ _ _
    cases (show p = none from h)
    exact split_nil k w
  | node l s r ihl ihr =>
    intro p k w h hb hk hz
    obtain ⟨bl, br, hs, -, -⟩ := hb
    obtain ⟨x, pl, pr, rfl, hcx, hl, hr⟩ := h
    have hz' : (T.node l s r).sz = l.sz + s.size + r.sz := rfl
    rw [hz'] at hk hz
    rw [split, ← sz_text]
    by_cases c1 : k ≤ l.sz
    · rw [if_pos c1]
      obtain ⟨x1, x2⟩ := split_text l k (by rw [← sz_text]; exact c1)
      obtain ⟨y1, y2⟩ := split_bal (k := k) bl
      have e2 : (split l k).2.sz = l.sz - k := by rw [sz_text, x2, ByteArray.size_extract, ← sz_text]; omega
      exact split_1 x pl pr l _ _ r s w k _ _ _ hcx hl hr (fun W hW => ihl pl k W (hl.below hW) bl c1 (by omega)) c1 y2 br hs (by omega)
    · rw [if_neg c1]
      by_cases c2 : l.sz + s.size ≤ k
      · rw [if_pos c2]
        obtain ⟨x1, x2⟩ := split_text r (k - l.sz - s.size) (by rw [← sz_text]; omega)
        obtain ⟨y1, y2⟩ := split_bal (k := k - l.sz - s.size) br
        have e1 : (split r (k - l.sz - s.size)).1.sz = k - l.sz - s.size := by rw [sz_text, x1, ByteArray.size_extract, ← sz_text]; omega
        refine split_2 x pl pr l _ _ s w k _ _ _ hcx hl (fun W hW => ?_) c2 (by omega) hs y1 bl (by omega)
        have := ihr pr (k - l.sz - s.size) W (hr.below hW) br (by omega) (by omega)
        rwa [show ((k - l.sz - s.size : Nat) : Int) = (k : Int) - (l.sz : Int) - (s.size : Int) by omega] at this
      · rw [if_neg c2]
        exact split_3 x pl pr l r s w k (k - l.sz) _ _ _ hcx hl hr (by omega) (by omega) (by omega) bl br hz
end Go.Proofs.YtejipknbhiokeaaDoor

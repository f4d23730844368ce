/-
  CONTRACT of rope.even, one theorem for each of its five ways.
-/
import Derived.Test.YtejipknbhiokeaaDoorLink
namespace Go.Proofs.YtejipknbhiokeaaDoor
open Go.RowKit Rp

/-- The contract of deep, at a number that is a letter, in every world behind w. -/
def Deep (w : World) (p : Option Addr) (d : Nat) : Prop := ∀ W, Below w.heap.size w W → Calls Tryd.prog 67 #[.pointer p] W fun e w' => e = .returned (.int .i64 d) ∧ W = w'
theorem deep_of {w : World} {p : Option Addr} {t : T} (h : IsN w p t) : Deep w p t.d := fun W hW => deep_any p t W (h.below hW)
theorem Deep.q {w : World} {p : Option Addr} {d : Nat} (h : Deep w p d) (n : Nat) : Calls Tryd.prog 67 #[.pointer p] (w.drewN n) fun e w'' => e = .returned (.int .i64 d) ∧ ∃ m, w'' = w.drewN m :=
  (h (w.drewN n) (below_drewN (Below.refl _ _) n)).mono fun _ _ ⟨he, hw⟩ => ⟨he, n, hw.symm⟩

/-- link, from whatever world behind w0. -/
theorem link_at {pl pr : Option Addr} {l r : T} {s : ByteArray} {w0 w : World} (hB : Below w0.heap.size w0 w) (hl : IsN w pl l) (hr : IsN w pr r) (h1 : l.sz + s.size + r.sz ≤ 1099511627776) (h2 : l.d ≤ 1099511627776) (h3 : r.d ≤ 1099511627776) :
    Calls Tryd.prog 89 #[.pointer pl, .string s, .pointer pr] w fun e w' => ∃ p, e = .returned (.pointer p) ∧ IsN w' p (.node l s r) ∧ Below w.heap.size w w' ∧ Below w0.heap.size w0 w' :=
  (link_any pl pr l r s w hl hr h1 h2 h3).mono fun _ _ ⟨p, he, hn, hb⟩ => ⟨p, he, hn, hb, hB.trans (hb.mono hB.size)⟩

/-- The cells that the statement loads lie as they lay. -/
theorem keep1 {w w' : World} {x y : Nat} {pll pa pb : Option Addr} {ls ms : ByteArray} (hB : Below w.heap.size w w') (hx : x < w.heap.size) (hy : y < w.heap.size)
    (c2 : w.cell? ⟨x, 2, none⟩ = some (.pointer pll)) (c3 : w.cell? ⟨x, 3, none⟩ = some (.pointer (some ⟨y, 0, none⟩))) (c4 : w.cell? ⟨x, 4, none⟩ = some (.string ls))
    (k2 : w.cell? ⟨y, 2, none⟩ = some (.pointer pa)) (k3 : w.cell? ⟨y, 3, none⟩ = some (.pointer pb)) (k4 : w.cell? ⟨y, 4, none⟩ = some (.string ms)) :
    w'.cell? ⟨x, 2, none⟩ = some (.pointer pll) ∧ w'.cell? ⟨x, 3, none⟩ = some (.pointer (some ⟨y, 0, none⟩)) ∧ w'.cell? ⟨x, 4, none⟩ = some (.string ls) ∧
      w'.cell? ⟨y, 2, none⟩ = some (.pointer pa) ∧ w'.cell? ⟨y, 3, none⟩ = some (.pointer pb) ∧ w'.cell? ⟨y, 4, none⟩ = some (.string ms) ∧ Below w.heap.size w w' :=
  ⟨(hB.cell (p := ⟨x, 2, none⟩) hx).trans c2, (hB.cell (p := ⟨x, 3, none⟩) hx).trans c3, (hB.cell (p := ⟨x, 4, none⟩) hx).trans c4,
    (hB.cell (p := ⟨y, 2, none⟩) hy).trans k2, (hB.cell (p := ⟨y, 3, none⟩) hy).trans k3, (hB.cell (p := ⟨y, 4, none⟩) hy).trans k4, hB⟩

set_option maxRecDepth 100000 in
set_option maxHeartbeats 4000000 in
theorem even_1 (x y : Nat) (pll pa pb pr : Option Addr) (ll a b r : T) (ls ms s : ByteArray) (w : World) (dL dR dll dM : Nat) (n0 n1 n2 n3 n4 n5 : Nat)
    (hcx : Cells w x n0 n1 pll (some ⟨y, 0, none⟩) ls n2) (hcy : Cells w y n3 n4 pa pb ms n5) (hll : IsN w pll ll) (ha : IsN w pa a) (hb : IsN w pb b) (hr : IsN w pr r)
    (hDL : Deep w (some ⟨x, 0, none⟩) dL) (hDM : Deep w (some ⟨y, 0, none⟩) dM) (hDll : Deep w pll dll) (hDR : Deep w pr dR)
    (hd : dR + 1 < dL) (hd2 : dll < dM) (hdb : dL ≤ 1099511627776) (g1 : ll.d ≤ 549755813888) (g2 : a.d ≤ 549755813888) (g3 : b.d ≤ 549755813888) (g4 : r.d ≤ 549755813888)
    (h1 : ll.sz + ls.size + a.sz + ms.size + b.sz + s.size + r.sz ≤ 549755813888) :
    Calls Tryd.prog 82 #[.pointer (some ⟨x, 0, none⟩), .string s, .pointer pr] w (Got (.node (.node ll ls a) ms (.node b s r)) w) := by
  have hxl := hcx.lt
  have hyl := hcy.lt
  obtain ⟨-, -, c2, c3, c4, -, -, -⟩ := hcx
  obtain ⟨-, -, k2, k3, k4, -, -, -⟩ := hcy
  have hgt : decide ((1 : Int) < (dL : Int) - (dR : Int)) = true := by simp; omega
  have hgt2 : decide ((dll : Int) < (dM : Int)) = true := by simp; omega
  have hgt3 : decide (dll < dM) = true := by simp; omega
  go_enter Tryd.func82, Tryd.ntmps82
  go_wp2_with (first
    | (go_at_call_of 67 (Value.pointer (some ⟨x, 0, none⟩)); refine (hDL _ ?_).mono ?_; exact Below.refl _ _; rintro e w' ⟨rfl, rfl⟩)
    | (go_at_call_of 67 (Value.pointer pr); refine (hDR _ ?_).mono ?_; exact Below.refl _ _; rintro e w' ⟨rfl, rfl⟩))
  go_quiet (first
    | (go_at_call_of 67 (Value.pointer (some ⟨y, 0, none⟩)); exact hDM.q _)
    | (go_at_call_of 67 (Value.pointer pll); exact hDll.q _))
  go_wp2_with (fail)
  obtain ⟨wq, hwq⟩ : ∃ W, w.drewN nq = W := ⟨_, rfl⟩
  have hBq : Below w.heap.size w wq := by rw [← hwq]; exact below_drewN (Below.refl _ _) _
  rw [hwq]
  clear hDL hDM hDll hDR
  go_region_held3 (fun w' => w'.cell? ⟨x, 2, none⟩ = some (.pointer pll) ∧ w'.cell? ⟨x, 3, none⟩ = some (.pointer (some ⟨y, 0, none⟩)) ∧ w'.cell? ⟨x, 4, none⟩ = some (.string ls) ∧
      w'.cell? ⟨y, 2, none⟩ = some (.pointer pa) ∧ w'.cell? ⟨y, 3, none⟩ = some (.pointer pb) ∧ w'.cell? ⟨y, 4, none⟩ = some (.string ms) ∧ Below w.heap.size w w')
    (exact keep1 (by first | assumption | exact Below.drew (by assumption)) hxl hyl c2 c3 c4 k2 k3 k4)
    (first
      | (go_at_call_of 89 (Value.string ls); refine (link_at (w0 := w) (by first | assumption | exact Below.drew (by assumption)) (hll.below (by first | assumption | exact Below.drew (by assumption))) (ha.below (by first | assumption | exact Below.drew (by assumption))) (by omega) (by omega) (by omega)).mono ?_; rintro e w' ⟨p1, rfl, hn1, hb1, hB1⟩)
      | (go_at_call_of 89 (Value.string s); refine (link_at (w0 := w) (by first | assumption | exact Below.drew (by assumption)) (hb.below (by first | assumption | exact Below.drew (by assumption))) (hr.below (by first | assumption | exact Below.drew (by assumption))) (by omega) (by omega) (by omega)).mono ?_; rintro e w' ⟨p2, rfl, hn2, hb2, hB2⟩)
      | (go_at_call_of 89 (Value.string ms); refine (link_at (w0 := w) (by first | assumption | exact Below.drew (by assumption)) (by first | exact hn1 | exact hn1.below hb2) (by first | exact hn2 | exact hn2.below hb1) (by simp only [T.sz]; omega) (by simp only [d_node]; omega) (by simp only [d_node]; omega)).mono ?_; rintro e w' ⟨p3, rfl, hn3, hb3, hB3⟩))
  all_goals
    go_wp2_with (fail)
    go_ret
    exact ⟨p3, rfl, hn3, hB3⟩

theorem keep3 {w w' : World} {x y : Nat} {prr pa pb : Option Addr} {ls ms : ByteArray} (hB : Below w.heap.size w w') (hx : x < w.heap.size) (hy : y < w.heap.size)
    (c2 : w.cell? ⟨x, 2, none⟩ = some (.pointer (some ⟨y, 0, none⟩))) (c3 : w.cell? ⟨x, 3, none⟩ = some (.pointer prr)) (c4 : w.cell? ⟨x, 4, none⟩ = some (.string ls))
    (k2 : w.cell? ⟨y, 2, none⟩ = some (.pointer pa)) (k3 : w.cell? ⟨y, 3, none⟩ = some (.pointer pb)) (k4 : w.cell? ⟨y, 4, none⟩ = some (.string ms)) :
    w'.cell? ⟨x, 2, none⟩ = some (.pointer (some ⟨y, 0, none⟩)) ∧ w'.cell? ⟨x, 3, none⟩ = some (.pointer prr) ∧ w'.cell? ⟨x, 4, none⟩ = some (.string ls) ∧
      w'.cell? ⟨y, 2, none⟩ = some (.pointer pa) ∧ w'.cell? ⟨y, 3, none⟩ = some (.pointer pb) ∧ w'.cell? ⟨y, 4, none⟩ = some (.string ms) ∧ Below w.heap.size w w' :=
  ⟨(hB.cell (p := ⟨x, 2, none⟩) hx).trans c2, (hB.cell (p := ⟨x, 3, none⟩) hx).trans c3, (hB.cell (p := ⟨x, 4, none⟩) hx).trans c4,
    (hB.cell (p := ⟨y, 2, none⟩) hy).trans k2, (hB.cell (p := ⟨y, 3, none⟩) hy).trans k3, (hB.cell (p := ⟨y, 4, none⟩) hy).trans k4, hB⟩

/-- One node's cells that a statement loads. -/
theorem keep2 {w w' : World} {x : Nat} {pa pb : Option Addr} {ls : ByteArray} (hB : Below w.heap.size w w') (hx : x < w.heap.size)
    (c2 : w.cell? ⟨x, 2, none⟩ = some (.pointer pa)) (c3 : w.cell? ⟨x, 3, none⟩ = some (.pointer pb)) (c4 : w.cell? ⟨x, 4, none⟩ = some (.string ls)) :
    w'.cell? ⟨x, 2, none⟩ = some (.pointer pa) ∧ w'.cell? ⟨x, 3, none⟩ = some (.pointer pb) ∧ w'.cell? ⟨x, 4, none⟩ = some (.string ls) ∧ Below w.heap.size w w' :=
  ⟨(hB.cell (p := ⟨x, 2, none⟩) hx).trans c2, (hB.cell (p := ⟨x, 3, none⟩) hx).trans c3, (hB.cell (p := ⟨x, 4, none⟩) hx).trans c4, hB⟩

set_option maxRecDepth 100000 in
set_option maxHeartbeats 4000000 in
theorem even_2 (x : Nat) (pll plr pr : Option Addr) (ll lr r : T) (ls s : ByteArray) (w : World) (dL dR dll dlr : Nat) (n0 n1 n2 : Nat)
    (hcx : Cells w x n0 n1 pll plr ls n2) (hll : IsN w pll ll) (hlr : IsN w plr lr) (hr : IsN w pr r)
    (hDL : Deep w (some ⟨x, 0, none⟩) dL) (hDlr : Deep w plr dlr) (hDll : Deep w pll dll) (hDR : Deep w pr dR)
    (hd : dR + 1 < dL) (hd2 : dlr ≤ dll) (hdb : dL ≤ 1099511627776) (g1 : ll.d ≤ 549755813888) (g2 : lr.d ≤ 549755813888) (g4 : r.d ≤ 549755813888)
    (h1 : ll.sz + ls.size + lr.sz + s.size + r.sz ≤ 549755813888) :
    Calls Tryd.prog 82 #[.pointer (some ⟨x, 0, none⟩), .string s, .pointer pr] w (Got (.node ll ls (.node lr s r)) w) := by
  have hxl := hcx.lt
  obtain ⟨-, -, c2, c3, c4, -, -, -⟩ := hcx
  have hgt : decide ((1 : Int) < (dL : Int) - (dR : Int)) = true := by simp; omega
  have hgt2 : decide ((dll : Int) < (dlr : Int)) = false := by simp; omega
  have hgt3 : decide (dll < dlr) = false := by simp; omega
  go_enter Tryd.func82, Tryd.ntmps82
  go_wp2_with (first
    | (go_at_call_of 67 (Value.pointer (some ⟨x, 0, none⟩)); refine (hDL _ ?_).mono ?_; exact Below.refl _ _; rintro e w' ⟨rfl, rfl⟩)
    | (go_at_call_of 67 (Value.pointer pr); refine (hDR _ ?_).mono ?_; exact Below.refl _ _; rintro e w' ⟨rfl, rfl⟩))
  go_quiet (first
    | (go_at_call_of 67 (Value.pointer plr); exact hDlr.q _)
    | (go_at_call_of 67 (Value.pointer pll); exact hDll.q _))
  go_wp2_with (fail)
  obtain ⟨wq, hwq⟩ : ∃ W, w.drewN nq = W := ⟨_, rfl⟩
  have hBq : Below w.heap.size w wq := by rw [← hwq]; exact below_drewN (Below.refl _ _) _
  rw [hwq]
  clear hDL hDlr hDll hDR
  go_region_held3 (fun w' => w'.cell? ⟨x, 2, none⟩ = some (.pointer pll) ∧ w'.cell? ⟨x, 3, none⟩ = some (.pointer plr) ∧ w'.cell? ⟨x, 4, none⟩ = some (.string ls) ∧ Below w.heap.size w w')
    (exact keep2 (by first | assumption | exact Below.drew (by assumption)) hxl c2 c3 c4)
    (first
      | (go_at_call_of 89 (Value.string s); refine (link_at (w0 := w) (by first | assumption | exact Below.drew (by assumption)) (hlr.below (by first | assumption | exact Below.drew (by assumption))) (hr.below (by first | assumption | exact Below.drew (by assumption))) (by first | omega | (simp only [T.sz]; omega)) (by first | omega | (simp only [d_node]; omega)) (by first | omega | (simp only [d_node]; omega))).mono ?_; rintro e w' ⟨p1, rfl, hn1, hb1, hB1⟩)
      | (go_at_call_of 89 (Value.string ls); refine (link_at (w0 := w) (by first | assumption | exact Below.drew (by assumption)) (hll.below (by first | assumption | exact Below.drew (by assumption))) hn1 (by first | omega | (simp only [T.sz]; omega)) (by first | omega | (simp only [d_node]; omega)) (by first | omega | (simp only [d_node]; omega))).mono ?_; rintro e w' ⟨p3, rfl, hn3, hb3, hB3⟩))
  all_goals
    go_wp2_with (fail)
    go_ret
    exact ⟨p3, rfl, hn3, hB3⟩

set_option maxRecDepth 100000 in
set_option maxHeartbeats 4000000 in
theorem even_3 (x y : Nat) (pl pa pb prr : Option Addr) (l a b rr : T) (s ms rs : ByteArray) (w : World) (dL dR drr dM : Nat) (n0 n1 n2 n3 n4 n5 : Nat)
    (hcx : Cells w x n0 n1 (some ⟨y, 0, none⟩) prr rs n2) (hcy : Cells w y n3 n4 pa pb ms n5) (hl : IsN w pl l) (ha : IsN w pa a) (hb : IsN w pb b) (hrr : IsN w prr rr)
    (hDR : Deep w (some ⟨x, 0, none⟩) dR) (hDM : Deep w (some ⟨y, 0, none⟩) dM) (hDrr : Deep w prr drr) (hDL : Deep w pl dL)
    (hd : dL + 1 < dR) (hd2 : drr < dM) (hdb : dR ≤ 1099511627776) (g1 : rr.d ≤ 549755813888) (g2 : a.d ≤ 549755813888) (g3 : b.d ≤ 549755813888) (g4 : l.d ≤ 549755813888)
    (h1 : l.sz + s.size + a.sz + ms.size + b.sz + rs.size + rr.sz ≤ 549755813888) :
    Calls Tryd.prog 82 #[.pointer pl, .string s, .pointer (some ⟨x, 0, none⟩)] w (Got (.node (.node l s a) ms (.node b rs rr)) w) := by
  have hxl := hcx.lt
  have hyl := hcy.lt
  obtain ⟨-, -, c2, c3, c4, -, -, -⟩ := hcx
  obtain ⟨-, -, k2, k3, k4, -, -, -⟩ := hcy
  have hgt0 : decide ((1 : Int) < (dL : Int) - (dR : Int)) = false := by simp; omega
  have hgt : decide ((dL : Int) - (dR : Int) < -1) = true := by simp; omega
  have hgt2 : decide ((drr : Int) < (dM : Int)) = true := by simp; omega
  have hgt3 : decide (drr < dM) = true := by simp; omega
  go_enter Tryd.func82, Tryd.ntmps82
  go_wp2_with (first
    | (go_at_call_of 67 (Value.pointer (some ⟨x, 0, none⟩)); refine (hDR _ ?_).mono ?_; exact Below.refl _ _; rintro e w' ⟨rfl, rfl⟩)
    | (go_at_call_of 67 (Value.pointer pl); refine (hDL _ ?_).mono ?_; exact Below.refl _ _; rintro e w' ⟨rfl, rfl⟩))
  go_quiet (fail)
  go_wp2_with (fail)
  obtain ⟨w1, hw1⟩ : ∃ W, w.drewN nq = W := ⟨_, rfl⟩
  have hB1 : Below w.heap.size w w1 := by rw [← hw1]; exact below_drewN (Below.refl _ _) _
  rw [hw1]
  have hDM1 : Deep w1 (some ⟨y, 0, none⟩) dM := fun W hW => hDM W (hB1.trans (hW.mono hB1.size))
  have hDrr1 : Deep w1 prr drr := fun W hW => hDrr W (hB1.trans (hW.mono hB1.size))
  obtain ⟨c21, c31, c41, k21, k31, k41, _⟩ := keep3 hB1 hxl hyl c2 c3 c4 k2 k3 k4
  go_quiet (first
    | (go_at_call_of 67 (Value.pointer (some ⟨y, 0, none⟩)); exact hDM1.q _)
    | (go_at_call_of 67 (Value.pointer prr); exact hDrr1.q _))
  go_wp2_with (fail)
  obtain ⟨wq, hwq⟩ : ∃ W, w1.drewN nq = W := ⟨_, rfl⟩
  have hBq : Below w.heap.size w wq := by rw [← hwq]; exact below_drewN hB1 _
  rw [hwq]
  clear hDL hDM hDrr hDR hDM1 hDrr1 c21 c31 c41 k21 k31 k41 hB1
  go_region_held3 (fun w' => w'.cell? ⟨x, 2, none⟩ = some (.pointer (some ⟨y, 0, none⟩)) ∧ w'.cell? ⟨x, 3, none⟩ = some (.pointer prr) ∧ w'.cell? ⟨x, 4, none⟩ = some (.string rs) ∧
      w'.cell? ⟨y, 2, none⟩ = some (.pointer pa) ∧ w'.cell? ⟨y, 3, none⟩ = some (.pointer pb) ∧ w'.cell? ⟨y, 4, none⟩ = some (.string ms) ∧ Below w.heap.size w w')
    (exact keep3 (by first | assumption | exact Below.drew (by assumption)) hxl hyl c2 c3 c4 k2 k3 k4)
    (first
      | (go_at_call_of 89 (Value.string s); refine (link_at (w0 := w) (by first | assumption | exact Below.drew (by assumption)) (hl.below (by first | assumption | exact Below.drew (by assumption))) (ha.below (by first | assumption | exact Below.drew (by assumption))) (by first | omega | (simp only [T.sz]; omega)) (by first | omega | (simp only [d_node]; omega)) (by first | omega | (simp only [d_node]; omega))).mono ?_; rintro e w' ⟨p1, rfl, hn1, hb1, hB1⟩)
      | (go_at_call_of 89 (Value.string rs); refine (link_at (w0 := w) (by first | assumption | exact Below.drew (by assumption)) (hb.below (by first | assumption | exact Below.drew (by assumption))) (hrr.below (by first | assumption | exact Below.drew (by assumption))) (by first | omega | (simp only [T.sz]; omega)) (by first | omega | (simp only [d_node]; omega)) (by first | omega | (simp only [d_node]; omega))).mono ?_; rintro e w' ⟨p2, rfl, hn2, hb2, hB2⟩)
      | (go_at_call_of 89 (Value.string ms); refine (link_at (w0 := w) (by first | assumption | exact Below.drew (by assumption)) (hn1.below hb2) hn2 (by first | omega | (simp only [T.sz]; omega)) (by first | omega | (simp only [d_node]; omega)) (by first | omega | (simp only [d_node]; omega))).mono ?_; rintro e w' ⟨p3, rfl, hn3, hb3, hB3⟩))
  all_goals
    go_wp2_with (fail)
    go_ret
    exact ⟨p3, rfl, hn3, hB3⟩

set_option maxRecDepth 100000 in
set_option maxHeartbeats 4000000 in
theorem even_4 (x : Nat) (pl prl prr : Option Addr) (l rl rr : T) (s rs : ByteArray) (w : World) (dL dR drl drr : Nat) (n0 n1 n2 : Nat)
    (hcx : Cells w x n0 n1 prl prr rs n2) (hl : IsN w pl l) (hrl : IsN w prl rl) (hrr : IsN w prr rr)
    (hDR : Deep w (some ⟨x, 0, none⟩) dR) (hDrl : Deep w prl drl) (hDrr : Deep w prr drr) (hDL : Deep w pl dL)
    (hd : dL + 1 < dR) (hd2 : drl ≤ drr) (hdb : dR ≤ 1099511627776) (g1 : rr.d ≤ 549755813888) (g2 : rl.d ≤ 549755813888) (g4 : l.d ≤ 549755813888)
    (h1 : l.sz + s.size + rl.sz + rs.size + rr.sz ≤ 549755813888) :
    Calls Tryd.prog 82 #[.pointer pl, .string s, .pointer (some ⟨x, 0, none⟩)] w (Got (.node (.node l s rl) rs rr) w) := by
  have hxl := hcx.lt
  obtain ⟨-, -, c2, c3, c4, -, -, -⟩ := hcx
  have hgt0 : decide ((1 : Int) < (dL : Int) - (dR : Int)) = false := by simp; omega
  have hgt : decide ((dL : Int) - (dR : Int) < -1) = true := by simp; omega
  have hgt2 : decide ((drr : Int) < (drl : Int)) = false := by simp; omega
  have hgt3 : decide (drr < drl) = false := by simp; omega
  go_enter Tryd.func82, Tryd.ntmps82
  go_wp2_with (first
    | (go_at_call_of 67 (Value.pointer (some ⟨x, 0, none⟩)); refine (hDR _ ?_).mono ?_; exact Below.refl _ _; rintro e w' ⟨rfl, rfl⟩)
    | (go_at_call_of 67 (Value.pointer pl); refine (hDL _ ?_).mono ?_; exact Below.refl _ _; rintro e w' ⟨rfl, rfl⟩))
  go_quiet (fail)
  go_wp2_with (fail)
  obtain ⟨w1, hw1⟩ : ∃ W, w.drewN nq = W := ⟨_, rfl⟩
  have hB1 : Below w.heap.size w w1 := by rw [← hw1]; exact below_drewN (Below.refl _ _) _
  rw [hw1]
  have hDrl1 : Deep w1 prl drl := fun W hW => hDrl W (hB1.trans (hW.mono hB1.size))
  have hDrr1 : Deep w1 prr drr := fun W hW => hDrr W (hB1.trans (hW.mono hB1.size))
  obtain ⟨c21, c31, c41, _⟩ := keep2 hB1 hxl c2 c3 c4
  go_quiet (first
    | (go_at_call_of 67 (Value.pointer prl); exact hDrl1.q _)
    | (go_at_call_of 67 (Value.pointer prr); exact hDrr1.q _))
  go_wp2_with (fail)
  obtain ⟨wq, hwq⟩ : ∃ W, w1.drewN nq = W := ⟨_, rfl⟩
  have hBq : Below w.heap.size w wq := by rw [← hwq]; exact below_drewN hB1 _
  rw [hwq]
  clear hDL hDrl hDrr hDR hDrl1 hDrr1 c21 c31 c41 hB1
  go_region_held3 (fun w' => w'.cell? ⟨x, 2, none⟩ = some (.pointer prl) ∧ w'.cell? ⟨x, 3, none⟩ = some (.pointer prr) ∧ w'.cell? ⟨x, 4, none⟩ = some (.string rs) ∧ Below w.heap.size w w')
    (exact keep2 (by first | assumption | exact Below.drew (by assumption)) hxl c2 c3 c4)
    (first
      | (go_at_call_of 89 (Value.string s); refine (link_at (w0 := w) (by first | assumption | exact Below.drew (by assumption)) (hl.below (by first | assumption | exact Below.drew (by assumption))) (hrl.below (by first | assumption | exact Below.drew (by assumption))) (by first | omega | (simp only [T.sz]; omega)) (by first | omega | (simp only [d_node]; omega)) (by first | omega | (simp only [d_node]; omega))).mono ?_; rintro e w' ⟨p1, rfl, hn1, hb1, hB1⟩)
      | (go_at_call_of 89 (Value.string rs); refine (link_at (w0 := w) (by first | assumption | exact Below.drew (by assumption)) hn1 (hrr.below (by first | assumption | exact Below.drew (by assumption))) (by first | omega | (simp only [T.sz]; omega)) (by first | omega | (simp only [d_node]; omega)) (by first | omega | (simp only [d_node]; omega))).mono ?_; rintro e w' ⟨p3, rfl, hn3, hb3, hB3⟩))
  all_goals
    go_wp2_with (fail)
    go_ret
    exact ⟨p3, rfl, hn3, hB3⟩

set_option maxRecDepth 100000 in
theorem even_5 (pl pr : Option Addr) (l r : T) (s : ByteArray) (w : World) (dL dR : Nat) (hl : IsN w pl l) (hr : IsN w pr r) (hDR : Deep w pr dR) (hDL : Deep w pl dL)
    (hd : dL ≤ dR + 1) (hd2 : dR ≤ dL + 1) (_hdb : dR ≤ 1099511627776) (g1 : r.d ≤ 549755813888) (g4 : l.d ≤ 549755813888) (h1 : l.sz + s.size + r.sz ≤ 549755813888) :
    Calls Tryd.prog 82 #[.pointer pl, .string s, .pointer pr] w (Got (.node l s r) w) := by
  have hgt0 : decide ((1 : Int) < (dL : Int) - (dR : Int)) = false := by simp; omega
  have hgt : decide ((dL : Int) - (dR : Int) < -1) = false := by simp; omega
  go_enter Tryd.func82, Tryd.ntmps82
  go_wp2_with (fail)
  refine (hDL _ (Below.refl _ _)).mono ?_
  rintro e w' ⟨rfl, rfl⟩
  go_wp2_with (fail)
  refine (hDR _ (Below.refl _ _)).mono ?_
  rintro e w' ⟨rfl, rfl⟩
  go_wp2_with (fail)
  go_quiet (fail)
  go_wp2_with (fail)
  go_quiet (fail)
  go_wp2_with (fail)
  refine (link_at (w0 := w) (below_drewN (Below.refl _ _) _) (hl.below (below_drewN (Below.refl _ _) _)) (hr.below (below_drewN (Below.refl _ _) _)) (by omega) (by omega) (by omega)).mono ?_
  rintro e w' ⟨p3, rfl, hn3, hb3, hB3⟩
  go_wp2_with (fail)
  go_ret
  exact ⟨p3, rfl, hn3, hB3⟩

theorem bal_d {t : T} (h : t.Bal) (hz : t.sz ≤ 549755813888) : t.d ≤ 549755813888 := Nat.le_trans (d_le_sz h) hz

/-- even, of balanced trees. -/
theorem even_any (pl pr : Option Addr) (l r : T) (s : ByteArray) (w : World) (hl : IsN w pl l) (hr : IsN w pr r) (bl : l.Bal) (br : r.Bal) (h1 : l.sz + s.size + r.sz ≤ 549755813888) :
    Calls Tryd.prog 82 #[.pointer pl, .string s, .pointer pr] w (Got (even l s r) w) := by
  have dl := bal_d bl (by omega)
  have dr := bal_d br (by omega)
  have DL := deep_of hl
  have DR := deep_of hr
  by_cases c1 : r.d + 1 < l.d
  · obtain ⟨ll, ls, lr, rfl⟩ := is_node (x := l) (by omega)
    obtain ⟨b1, b2, b3, b4, b5⟩ := bl
    obtain ⟨x, pll, plr, rfl, hcx, hll, hlr⟩ := hl
    have Dll := deep_of hll
    have Dlr := deep_of hlr
    have hz : (T.node ll ls lr).sz = ll.sz + ls.size + lr.sz := rfl
    by_cases c2 : ll.d < lr.d
    · obtain ⟨a, ms, b, rfl⟩ := is_node (x := lr) (by omega)
      obtain ⟨e1, e2, e3, e4, e5⟩ := b2
      obtain ⟨y, pa, pb, rfl, hcy, ha, hb⟩ := hlr
      have hz2 : (T.node a ms b).sz = a.sz + ms.size + b.sz := rfl
      rw [even_deep c1 c2]
      exact even_1 x y pll pa pb pr ll a b r ls ms s w _ _ _ _ _ _ _ _ _ _ hcx hcy hll ha hb hr DL Dlr Dll DR c1 c2 (by omega) (bal_d b1 (by omega)) (bal_d e1 (by omega)) (bal_d e2 (by omega)) dr (by omega)
    · rw [even_deep' c1 c2]
      exact even_2 x pll plr pr ll lr r ls s w _ _ _ _ _ _ _ hcx hll hlr hr DL Dlr Dll DR c1 (by omega) (by omega) (bal_d b1 (by omega)) (bal_d b2 (by omega)) dr (by omega)
  · by_cases c1 : l.d + 1 < r.d
    · obtain ⟨rl, rs, rr, rfl⟩ := is_node (x := r) (by omega)
      obtain ⟨b1, b2, b3, b4, b5⟩ := br
      obtain ⟨x, prl, prr, rfl, hcx, hrl, hrr⟩ := hr
      have Drl := deep_of hrl
      have Drr := deep_of hrr
      have hz : (T.node rl rs rr).sz = rl.sz + rs.size + rr.sz := rfl
      by_cases c2 : rr.d < rl.d
      · obtain ⟨a, ms, b, rfl⟩ := is_node (x := rl) (by omega)
        obtain ⟨e1, e2, e3, e4, e5⟩ := b1
        obtain ⟨y, pa, pb, rfl, hcy, ha, hb⟩ := hrl
        have hz2 : (T.node a ms b).sz = a.sz + ms.size + b.sz := rfl
        rw [even_low c1 c2]
        exact even_3 x y pl pa pb prr l a b rr s ms rs w _ _ _ _ _ _ _ _ _ _ hcx hcy hl ha hb hrr DR Drl Drr DL c1 c2 (by omega) (bal_d b2 (by omega)) (bal_d e1 (by omega)) (bal_d e2 (by omega)) dl (by omega)
      · rw [even_low' c1 c2]
        exact even_4 x pl prl prr l rl rr s rs w _ _ _ _ _ _ _ hcx hl hrl hrr DR Drl Drr DL c1 (by omega) (by omega) (bal_d b2 (by omega)) (bal_d b1 (by omega)) dl (by omega)
    · rw [even_flat (by omega) (by omega)]
      exact even_5 pl pr l r s w _ _ hl hr DR DL (by omega) (by omega) (by omega) dr dl h1
end Go.Proofs.YtejipknbhiokeaaDoor

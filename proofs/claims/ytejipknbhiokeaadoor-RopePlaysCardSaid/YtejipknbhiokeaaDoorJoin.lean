/-
  CONTRACTS of rope.join, split, last, first.
-/
import Derived.Test.YtejipknbhiokeaaDoorEven
namespace Go.Proofs.YtejipknbhiokeaaDoor
open Go.RowKit Rp

theorem sz_join (l : T) (s : ByteArray) (r : T) : (join l s r).sz = l.sz + s.size + r.sz := by
  rw [sz_text, join_text, size_app, size_app, ← sz_text, ← sz_text]

/-- A contract that hands a tree back, from whatever world behind w0. -/
theorem Got.at {f : FuncId} {args : Array Value} {t : T} {w0 w : World} (hB : Below w0.heap.size w0 w) (h : Calls Tryd.prog f args w (Got t w)) :
    Calls Tryd.prog f args w fun e w' => ∃ p, e = .returned (.pointer p) ∧ IsN w' p t ∧ Below w.heap.size w w' ∧ Below w0.heap.size w0 w' :=
  h.mono fun _ _ ⟨p, he, hn, hb⟩ => ⟨p, he, hn, hb, hB.trans (hb.mono hB.size)⟩

set_option maxRecDepth 100000 in
set_option maxHeartbeats 4000000 in
theorem join_1 (x : Nat) (pll plr pr : Option Addr) (ll J : T) (ls s : ByteArray) (w : World) (dL dR : Nat) (n0 n1 n2 : Nat)
    (hcx : Cells w x n0 n1 pll plr ls n2) (hll : IsN w pll ll)
    (hDL : Deep w (some ⟨x, 0, none⟩) dL) (hDR : Deep w pr dR)
    (ih : ∀ W, Below w.heap.size w W → Calls Tryd.prog 81 #[.pointer plr, .string s, .pointer pr] W (Got J W))
    (hd : dR + 1 < dL) (hdb : dL ≤ 1099511627776) (bl : ll.Bal) (bJ : J.Bal) (h1 : ll.sz + ls.size + J.sz ≤ 549755813888) :
    Calls Tryd.prog 81 #[.pointer (some ⟨x, 0, none⟩), .string s, .pointer pr] w (Got (even ll ls J) w) := by
  have hxl := hcx.lt
  obtain ⟨-, -, c2, c3, c4, -, -, -⟩ := hcx
  have hgt : decide ((1 : Int) < (dL : Int) - (dR : Int)) = true := by simp; omega
  have IH := Lib.hid ih
  clear ih
  go_enter Tryd.func81, Tryd.ntmps81
  go_wp2_with (fail)
  refine (hDL _ (Below.refl _ _)).mono ?_
  rintro e w' ⟨rfl, rfl⟩
  go_wp2_with (fail)
  refine (hDR _ (Below.refl _ _)).mono ?_
  rintro e w' ⟨rfl, rfl⟩
  go_wp2_with (fail)
  have hBq : Below w.heap.size w w := Below.refl _ _
  clear hDL hDR
  go_region_held3 (fun w' => w'.cell? ⟨x, 2, none⟩ = some (.pointer pll) ∧ w'.cell? ⟨x, 3, none⟩ = some (.pointer plr) ∧ w'.cell? ⟨x, 4, none⟩ = some (.string ls) ∧ Below w.heap.size w w')
    (exact keep2 (by first | assumption | exact Below.drew (by assumption)) hxl c2 c3 c4)
    (first
      | (go_at_call 81; refine (Got.at (w0 := w) (by first | assumption | exact Below.drew (by assumption)) (IH.out _ (by first | assumption | exact Below.drew (by assumption)))).mono ?_; rintro e w' ⟨p1, rfl, hn1, hb1, hB1⟩)
      | (go_at_call 82; refine (Got.at (w0 := w) (by first | assumption | exact Below.drew (by assumption)) (even_any _ _ _ _ _ _ (hll.below (by first | assumption | exact Below.drew (by assumption))) hn1 bl bJ h1)).mono ?_; rintro e w' ⟨p3, rfl, hn3, hb3, hB3⟩))
  all_goals
    go_wp2_with (fail)
    go_ret
    exact ⟨p3, rfl, hn3, hB3⟩

set_option maxRecDepth 100000 in
set_option maxHeartbeats 4000000 in
theorem join_2 (x : Nat) (pl prl prr : Option Addr) (J rr : T) (s rs : ByteArray) (w : World) (dL dR : Nat) (n0 n1 n2 : Nat)
    (hcx : Cells w x n0 n1 prl prr rs n2) (hrr : IsN w prr rr)
    (hDL : Deep w pl dL) (hDR : Deep w (some ⟨x, 0, none⟩) dR)
    (ih : ∀ W, Below w.heap.size w W → Calls Tryd.prog 81 #[.pointer pl, .string s, .pointer prl] W (Got J W))
    (hd : dL + 1 < dR) (hdb : dR ≤ 1099511627776) (br : rr.Bal) (bJ : J.Bal) (h1 : J.sz + rs.size + rr.sz ≤ 549755813888) :
    Calls Tryd.prog 81 #[.pointer pl, .string s, .pointer (some ⟨x, 0, none⟩)] w (Got (even J rs rr) w) := by
  have hxl := hcx.lt
  obtain ⟨-, -, c2, c3, c4, -, -, -⟩ := hcx
  have hgt0 : decide ((1 : Int) < (dL : Int) - (dR : Int)) = false := by simp; omega
  have hgt : decide ((dL : Int) - (dR : Int) < -1) = true := by simp; omega
  have IH := Lib.hid ih
  clear ih
  go_enter Tryd.func81, Tryd.ntmps81
  go_wp2_with (fail)
  refine (hDL _ (Below.refl _ _)).mono ?_
  rintro e w' ⟨rfl, rfl⟩
  go_wp2_with (fail)
  refine (hDR _ (Below.refl _ _)).mono ?_
  rintro e w' ⟨rfl, rfl⟩
  go_wp2_with (fail)
  have hBq : Below w.heap.size w w := Below.refl _ _
  clear hDL hDR
  go_region_held3 (fun w' => w'.cell? ⟨x, 2, none⟩ = some (.pointer prl) ∧ w'.cell? ⟨x, 3, none⟩ = some (.pointer prr) ∧ w'.cell? ⟨x, 4, none⟩ = some (.string rs) ∧ Below w.heap.size w w')
    (exact keep2 (by first | assumption | exact Below.drew (by assumption)) hxl c2 c3 c4)
    (first
      | (go_at_call 81; refine (Got.at (w0 := w) (by first | assumption | exact Below.drew (by assumption)) (IH.out _ (by first | assumption | exact Below.drew (by assumption)))).mono ?_; rintro e w' ⟨p1, rfl, hn1, hb1, hB1⟩)
      | (go_at_call 82; refine (Got.at (w0 := w) (by first | assumption | exact Below.drew (by assumption)) (even_any _ _ _ _ _ _ hn1 (hrr.below (by first | assumption | exact Below.drew (by assumption))) bJ br h1)).mono ?_; rintro e w' ⟨p3, rfl, hn3, hb3, hB3⟩))
  all_goals
    go_wp2_with (fail)
    go_ret
    exact ⟨p3, rfl, hn3, hB3⟩

set_option maxRecDepth 100000 in
theorem join_3 (pl pr : Option Addr) (l r : T) (s : ByteArray) (w : World) (dL dR : Nat) (hl : IsN w pl l) (hr : IsN w pr r)
    (hDL : Deep w pl dL) (hDR : Deep w pr dR) (hd : dL ≤ dR + 1) (hd2 : dR ≤ dL + 1) (g1 : r.d ≤ 549755813888) (g4 : l.d ≤ 549755813888) (h1 : l.sz + s.size + r.sz ≤ 549755813888) :
    Calls Tryd.prog 81 #[.pointer pl, .string s, .pointer pr] w (Got (.node l s r) w) := by
  have hgt0 : decide ((1 : Int) < (dL : Int) - (dR : Int)) = false := by simp; omega
  have hgt : decide ((dL : Int) - (dR : Int) < -1) = false := by simp; omega
  go_enter Tryd.func81, Tryd.ntmps81
  go_wp2_with (fail)
  refine (hDL _ (Below.refl _ _)).mono ?_
  rintro e w' ⟨rfl, rfl⟩
  go_wp2_with (fail)
  refine (hDR _ (Below.refl _ _)).mono ?_
  rintro e w' ⟨rfl, rfl⟩
  go_wp2_with (fail)
  refine (link_at (w0 := w) (Below.refl _ _) hl hr (by omega) (by omega) (by omega)).mono ?_
  rintro e w' ⟨p3, rfl, hn3, hb3, hB3⟩
  go_wp2_with (fail)
  go_ret
  exact ⟨p3, rfl, hn3, hB3⟩

theorem join_all' (n : Nat) : ∀ (pl pr : Option Addr) (l r : T) (s : ByteArray) (w : World), l.d + r.d ≤ n → IsN w pl l → IsN w pr r → l.Bal → r.Bal → 0 < s.size → l.sz + s.size + r.sz ≤ 549755813888 →
    Calls Tryd.prog 81 #[.pointer pl, .string s, .pointer pr] w (Got (join l s r) w) := by
  induction n using Nat.strongRecOn with
  | _ n ih =>
    intro pl pr l r s w hn hl hr bl br hs h1
    have dl := bal_d bl (by omega)
    have dr := bal_d br (by omega)
    have DL := deep_of hl
    have DR := deep_of hr
    by_cases c1 : r.d + 1 < l.d
    · obtain ⟨ll, ls, lr, rfl⟩ := is_node (x := l) (by omega)
      have bl' := bl
      obtain ⟨b1, b2, b3, b4, b5⟩ := bl
      obtain ⟨x, pll, plr, rfl, hcx, hll, hlr⟩ := hl
      have hz : (T.node ll ls lr).sz = ll.sz + ls.size + lr.sz := rfl
      have hd : (T.node ll ls lr).d = max ll.d lr.d + 1 := rfl
      rw [join_deep c1]
      refine join_1 x pll plr pr ll (join lr s r) ls s w _ _ _ _ _ hcx hll DL DR (fun W hW => ?_) c1 (by omega) b1 (join_bal b2 br hs) (by rw [sz_join]; omega)
      exact ih (lr.d + r.d) (by omega) plr pr lr r s W (Nat.le_refl _) (hlr.below hW) (hr.below hW) b2 br hs (by omega)
    · by_cases c2 : l.d + 1 < r.d
      · obtain ⟨rl, rs, rr, rfl⟩ := is_node (x := r) (by omega)
        obtain ⟨b1, b2, b3, b4, b5⟩ := br
        obtain ⟨x, prl, prr, rfl, hcx, hrl, hrr⟩ := hr
        have hz : (T.node rl rs rr).sz = rl.sz + rs.size + rr.sz := rfl
        have hd : (T.node rl rs rr).d = max rl.d rr.d + 1 := rfl
        rw [join_low c2]
        refine join_2 x pl prl prr (join l s rl) rr s rs w _ _ _ _ _ hcx hrr DL DR (fun W hW => ?_) c2 (by omega) b2 (join_bal bl b1 hs) (by rw [sz_join]; omega)
        exact ih (l.d + rl.d) (by omega) pl prl l rl s W (Nat.le_refl _) (hl.below hW) (hrl.below hW) bl b1 hs (by omega)
      · rw [join_flat (by omega) (by omega)]
        exact join_3 pl pr l r s w _ _ hl hr DL DR (by omega) (by omega) dr dl h1

/-- join, of balanced trees. -/
theorem join_any (pl pr : Option Addr) (l r : T) (s : ByteArray) (w : World) (hl : IsN w pl l) (hr : IsN w pr r) (bl : l.Bal) (br : r.Bal) (hs : 0 < s.size) (h1 : l.sz + s.size + r.sz ≤ 549755813888) :
    Calls Tryd.prog 81 #[.pointer pl, .string s, .pointer pr] w (Got (join l s r) w) := join_all' _ pl pr l r s w (Nat.le_refl _) hl hr bl br hs h1
end Go.Proofs.YtejipknbhiokeaaDoor

/-
  CONTRACTS of rope.last, first.
-/
import Derived.Test.YtejipknbhiokeaaDoorSplit
import Derived.BigQuiet
namespace Go.Proofs.YtejipknbhiokeaaDoor
open Go.RowKit Rp

/-- A tree and a text have come back. -/
def GotS (t : T) (s : ByteArray) (w : World) (e : Ending) (w' : World) : Prop := ∃ p, e = .returned (.tuple #[.pointer p, .string s]) ∧ IsN w' p t ∧ Below w.heap.size w w'
theorem GotS.at {f : FuncId} {args : Array Value} {t : T} {s : ByteArray} {w0 w : World} (hB : Below w0.heap.size w0 w) (h : Calls Tryd.prog f args w (GotS t s w)) :
    Calls Tryd.prog f args w fun e w' => ∃ p, e = .returned (.tuple #[.pointer p, .string s]) ∧ IsN w' p t ∧ Below w.heap.size w w' ∧ Below w0.heap.size w0 w' :=
  h.mono fun _ _ ⟨p, he, hn, hb⟩ => ⟨p, he, hn, hb, hB.trans (hb.mono hB.size)⟩

theorem last_nil (w : World) : Calls Tryd.prog 61 #[.pointer none] w (GotS .nil ByteArray.empty w) := by
  go_enter Tryd.func61, Tryd.ntmps61
  go_wp2_with (fail)
  go_ret2
  exact ⟨none, rfl, rfl, Below.refl _ _⟩
theorem first_nil (w : World) : Calls Tryd.prog 62 #[.pointer none] w (GotS .nil ByteArray.empty w) := by
  go_enter Tryd.func62, Tryd.ntmps62
  go_wp2_with (fail)
  go_ret2
  exact ⟨none, rfl, rfl, Below.refl _ _⟩

set_option maxRecDepth 100000 in
set_option maxHeartbeats 4000000 in
theorem last_1 (x : Nat) (pl : Option Addr) (l : T) (s : ByteArray) (w : World) (n0 n1 n2 : Nat) (hcx : Cells w x n0 n1 pl none s n2) (hl : IsN w pl l) :
    Calls Tryd.prog 61 #[.pointer (some ⟨x, 0, none⟩)] w (GotS l s w) := by
  have hxl := hcx.lt
  obtain ⟨-, -, c2, c3, c4, -, -, -⟩ := hcx
  go_enter Tryd.func61, Tryd.ntmps61
  go_wp2_with (fail)
  go_quiet (fail)
  go_wp2_with (fail)
  go_ret2
  exact ⟨pl, rfl, hl.below (below_drewN (Below.refl _ _) _), below_drewN (Below.refl _ _) _⟩

set_option maxRecDepth 100000 in
set_option maxHeartbeats 4000000 in
theorem first_1 (x : Nat) (pr : Option Addr) (r : T) (s : ByteArray) (w : World) (n0 n1 n2 : Nat) (hcx : Cells w x n0 n1 none pr s n2) (hr : IsN w pr r) :
    Calls Tryd.prog 62 #[.pointer (some ⟨x, 0, none⟩)] w (GotS r s w) := by
  have hxl := hcx.lt
  obtain ⟨-, -, c2, c3, c4, -, -, -⟩ := hcx
  go_enter Tryd.func62, Tryd.ntmps62
  go_wp2_with (fail)
  go_quiet (fail)
  go_wp2_with (fail)
  go_ret2
  exact ⟨pr, rfl, hr.below (below_drewN (Below.refl _ _) _), below_drewN (Below.refl _ _) _⟩

set_option maxRecDepth 100000 in
set_option maxHeartbeats 4000000 in
theorem last_2 (x y : Nat) (pl : Option Addr) (l B : T) (s b : ByteArray) (w : World) (n0 n1 n2 : Nat) (hcx : Cells w x n0 n1 pl (some ⟨y, 0, none⟩) s n2) (hl : IsN w pl l)
    (ih : ∀ W, Below w.heap.size w W → Calls Tryd.prog 61 #[.pointer (some ⟨y, 0, none⟩)] W (GotS B b W)) (bl : l.Bal) (bB : B.Bal) (h1 : l.sz + s.size + B.sz ≤ 549755813888) :
    Calls Tryd.prog 61 #[.pointer (some ⟨x, 0, none⟩)] w (GotS (even l s B) b w) := by
  have hxl := hcx.lt
  obtain ⟨-, -, c2, c3, c4, -, -, -⟩ := hcx
  have IH := Lib.hid ih
  clear ih
  go_enter Tryd.func61, Tryd.ntmps61
  go_wp2_with (fail)
  refine (IH.out _ (Below.refl _ _)).mono ?_
  rintro e w2 ⟨p2, rfl, hn2, hB2⟩
  obtain ⟨f2, f3, f4, -⟩ := keep2 hB2 hxl c2 c3 c4
  go_wp2_with (fail)
  go_region_held3 (fun w' => w'.cell? ⟨x, 2, none⟩ = some (.pointer pl) ∧ w'.cell? ⟨x, 3, none⟩ = some (.pointer (some ⟨y, 0, none⟩)) ∧ w'.cell? ⟨x, 4, none⟩ = some (.string s) ∧ Below w.heap.size w w')
    (exact keep2 (by first | assumption | exact Below.drew (by assumption)) hxl c2 c3 c4)
    (first
      | (go_at_call 82; refine (Got.at (w0 := w2) (by first | exact Below.refl _ _ | exact Below.drew (Below.refl _ _)) (even_any _ _ _ _ _ _ (hl.below (by first | assumption | exact Below.drew (by assumption))) (hn2.below (by first | exact Below.refl _ _ | exact Below.drew (Below.refl _ _))) bl bB h1)).mono ?_; rintro e w' ⟨p3, rfl, hn3, hb3, hB3⟩; have hB4 := hB2.trans (hB3.mono hB2.size)))
  all_goals
    go_wp2_with (fail)
    go_ret2
    exact ⟨p3, rfl, hn3, hB2.trans (hB3.mono hB2.size)⟩

set_option maxRecDepth 100000 in
set_option maxHeartbeats 4000000 in
theorem first_2 (x y : Nat) (pr : Option Addr) (r B : T) (s b : ByteArray) (w : World) (n0 n1 n2 : Nat) (hcx : Cells w x n0 n1 (some ⟨y, 0, none⟩) pr s n2) (hr : IsN w pr r)
    (ih : ∀ W, Below w.heap.size w W → Calls Tryd.prog 62 #[.pointer (some ⟨y, 0, none⟩)] W (GotS B b W)) (br : r.Bal) (bB : B.Bal) (h1 : B.sz + s.size + r.sz ≤ 549755813888) :
    Calls Tryd.prog 62 #[.pointer (some ⟨x, 0, none⟩)] w (GotS (even B s r) b w) := by
  have hxl := hcx.lt
  obtain ⟨-, -, c2, c3, c4, -, -, -⟩ := hcx
  have IH := Lib.hid ih
  clear ih
  go_enter Tryd.func62, Tryd.ntmps62
  go_wp2_with (fail)
  refine (IH.out _ (Below.refl _ _)).mono ?_
  rintro e w2 ⟨p2, rfl, hn2, hB2⟩
  obtain ⟨f2, f3, f4, -⟩ := keep2 hB2 hxl c2 c3 c4
  go_wp2_with (fail)
  go_region_held3 (fun w' => w'.cell? ⟨x, 2, none⟩ = some (.pointer (some ⟨y, 0, none⟩)) ∧ w'.cell? ⟨x, 3, none⟩ = some (.pointer pr) ∧ w'.cell? ⟨x, 4, none⟩ = some (.string s) ∧ Below w.heap.size w w')
    (exact keep2 (by first | assumption | exact Below.drew (by assumption)) hxl c2 c3 c4)
    (first
      | (go_at_call 82; refine (Got.at (w0 := w2) (by first | exact Below.refl _ _ | exact Below.drew (Below.refl _ _)) (even_any _ _ _ _ _ _ (hn2.below (by first | exact Below.refl _ _ | exact Below.drew (Below.refl _ _))) (hr.below (by first | assumption | exact Below.drew (by assumption))) bB br h1)).mono ?_; rintro e w' ⟨p3, rfl, hn3, hb3, hB3⟩; have hB4 := hB2.trans (hB3.mono hB2.size)))
  all_goals
    go_wp2_with (fail)
    go_ret2
    exact ⟨p3, rfl, hn3, hB2.trans (hB3.mono hB2.size)⟩

/-- last, of a balanced tree. -/
theorem last_any (t : T) : ∀ (p : Option Addr) (w : World), IsN w p t → t.Bal → t.sz ≤ 549755813888 → Calls Tryd.prog 61 #[.pointer p] w (GotS (last t).1 (last t).2 w) := by
  induction t with
  | nil =>
    intro p w h _ _
    cases (show p = none from h)
    exact last_nil w
  | node l s r _ ihr =>
    intro p w h hb hz
    obtain ⟨bl, br, hs, -, -⟩ := hb
    obtain ⟨x, pl, pr, rfl, hcx, hl, hr⟩ := h
    have hz' : (T.node l s r).sz = l.sz + s.size + r.sz := rfl
    rw [hz'] at hz
    cases r with
    | nil =>
      cases (show pr = none from hr)
      exact last_1 x pl l s w _ _ _ hcx hl
    | node rl rs rr =>
      have ih := fun W (hW : Below w.heap.size w W) => ihr pr W (hr.below hW) br (by omega)
      have bB := ((last_all (.node rl rs rr)).2 br).1
      have hB := congrArg ByteArray.size (last_all (.node rl rs rr)).1
      rw [size_app, ← sz_text, ← sz_text] at hB
      obtain ⟨y, _, _, rfl, -, -, -⟩ := hr
      exact last_2 x y pl l _ s _ w _ _ _ hcx hl ih bl bB (by omega)

/-- first, of a balanced tree. -/
theorem first_any (t : T) : ∀ (p : Option Addr) (w : World), IsN w p t → t.Bal → t.sz ≤ 549755813888 → Calls Tryd.prog 62 #[.pointer p] w (GotS (first t).1 (first t).2 w) := by
  induction t with
  | nil =>
    intro p w h _ _
    cases (show p = none from h)
    exact first_nil w
  | node l s r ihl _ =>
    intro p w h hb hz
    obtain ⟨bl, br, hs, -, -⟩ := hb
    obtain ⟨x, pl, pr, rfl, hcx, hl, hr⟩ := h
    have hz' : (T.node l s r).sz = l.sz + s.size + r.sz := rfl
    rw [hz'] at hz
    cases l with
    | nil =>
      cases (show pl = none from hl)
      exact first_1 x pr r s w _ _ _ hcx hr
    | node ll ls lr =>
      have ih := fun W (hW : Below w.heap.size w W) => ihl pl W (hl.below hW) bl (by omega)
      have bB := ((first_all (.node ll ls lr)).2 bl).1
      have hB := congrArg ByteArray.size (first_all (.node ll ls lr)).1
      rw [size_app, ← sz_text, ← sz_text] at hB
      obtain ⟨y, _, _, rfl, -, -, -⟩ := hl
      exact first_2 x y pr r _ s _ w _ _ _ hcx hr ih br bB (by omega)
end Go.Proofs.YtejipknbhiokeaaDoor

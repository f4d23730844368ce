/-
  ROPES IN MEMORY: what lies where a node's pointer points; contracts of all, deep, of, plus, link.
-/
import Derived.Test.YtejipknbhiokeaaDoorTree2
import Derived.Test.YtejipknbhiokeaaDoorClass
import Derived.Test.YtejipknbhiokeaaDoorShelf
import Derived.Test.YtejipknbhiokeaaDoorChecked
import Derived.WalkSpells
import Derived.WalkLawsBesides
import Derived.Handy
import Derived.BigQuiet
import Derived.Deep.QuietTactic
import Derived.Deep.RegionHeld3
import Derived.Lib.Hide
import Derived.WalkSmall
import Derived.Outline
namespace Go.Proofs.YtejipknbhiokeaaDoor
open Go.RowKit Rp

/-- A node's cells. -/
def Cells (w : World) (b : Nat) (n lf : Nat) (pl pr : Option Addr) (s : ByteArray) (d : Nat) : Prop :=
  w.cell? ⟨b, 0, none⟩ = some (.int .i64 n) ∧ w.cell? ⟨b, 1, none⟩ = some (.int .i64 lf) ∧ w.cell? ⟨b, 2, none⟩ = some (.pointer pl) ∧ w.cell? ⟨b, 3, none⟩ = some (.pointer pr) ∧
  w.cell? ⟨b, 4, none⟩ = some (.string s) ∧ w.cell? ⟨b, 5, none⟩ = some (.int .i64 s.size) ∧ w.cell? ⟨b, 6, none⟩ = some (.int .i64 (Rp.lf s)) ∧ w.cell? ⟨b, 7, none⟩ = some (.int .i64 d)

/-- The tree t lies where p points. -/
def IsN (w : World) : Option Addr → T → Prop
  | p, .nil => p = none
  | p, .node l s r => ∃ b pl pr, p = some ⟨b, 0, none⟩ ∧ Cells w b (T.node l s r).sz (T.node l s r).lf pl pr s (T.node l s r).d ∧ IsN w pl l ∧ IsN w pr r

theorem Cells.lt {w : World} {b n lf : Nat} {pl pr : Option Addr} {s : ByteArray} {d : Nat} (h : Cells w b n lf pl pr s d) : b < w.heap.size := World.block_lt_of_cell? w _ h.1
theorem Cells.below {B : Nat} {w w' : World} {b n lf : Nat} {pl pr : Option Addr} {s : ByteArray} {d : Nat} (h : Cells w b n lf pl pr s d) (hb : Below B w w') (hB : b < B) : Cells w' b n lf pl pr s d := by
  have e : ∀ j, w'.cell? ⟨b, j, none⟩ = w.cell? ⟨b, j, none⟩ := fun j => hb.cell (p := ⟨b, j, none⟩) hB
  unfold Cells
  simp only [e]
  exact h
theorem IsN.below {w w' : World} (hb : Below w.heap.size w w') : ∀ {t : T} {p : Option Addr}, IsN w p t → IsN w' p t
  | .nil, _, h => h
  | .node _ _ _, _, ⟨b, pl, pr, hp, hc, hl, hr⟩ => ⟨b, pl, pr, hp, hc.below hb hc.lt, hl.below hb, hr.below hb⟩

theorem deep_any (p : Option Addr) (t : T) (w : World) (h : IsN w p t) : Calls Tryd.prog 67 #[.pointer p] w fun e w' => e = .returned (.int .i64 t.d) ∧ w = w' := by
  cases t with
  | nil =>
    obtain rfl : p = none := h
    go_enter Tryd.func67, Tryd.ntmps67
    go_wp2
    go_ret
    exact ⟨rfl, rfl⟩
  | node l s r =>
    obtain ⟨b, pl, pr, rfl, ⟨c0, c1, c2, c3, c4, c5, c6, c7⟩, hl, hr⟩ := h
    go_enter Tryd.func67, Tryd.ntmps67
    go_wp2
    go_ret
    exact ⟨rfl, rfl⟩

theorem all_any (p : Option Addr) (t : T) (w : World) (h : IsN w p t) : Calls Tryd.prog 65 #[.pointer p] w fun e w' => e = .returned (.agg #[.int .i64 t.sz, .int .i64 t.lf]) ∧ Below w.heap.size w w' := by
  cases t with
  | nil =>
    obtain rfl : p = none := h
    go_enter Tryd.func65, Tryd.ntmps65
    go_wp2
    exact bodyPost_ret (v := .agg #[.int .i64 0, .int .i64 0]) (by simp [results, Tryd.results65, go_sem]) rfl ⟨rfl, (Below.refl _ _).alloc (Nat.le_refl _) _⟩
  | node l s r =>
    obtain ⟨b, pl, pr, rfl, hc, hl, hr⟩ := h
    have hlt := hc.lt
    obtain ⟨c0, c1, c2, c3, c4, c5, c6, c7⟩ := hc
    go_enter Tryd.func65, Tryd.ntmps65
    go_wp2
    exact bodyPost_ret (v := .agg #[.int .i64 (T.node l s r).sz, .int .i64 (T.node l s r).lf]) (by simp [results, Tryd.results65, go_sem]) rfl ⟨rfl, (Below.refl _ _).alloc (Nat.le_refl _) _⟩

theorem plus_any (a b c d : Nat) (w : World) (h1 : a + c ≤ 1099511627776) (h2 : b + d ≤ 1099511627776) :
    Calls Tryd.prog 94 #[.agg #[.int .i64 a, .int .i64 b], .agg #[.int .i64 c, .int .i64 d]] w fun e w' => e = .returned (.agg #[.int .i64 ((a + c : Nat) : Int), .int .i64 ((b + d : Nat) : Int)]) ∧ Below w.heap.size w w' := by
  go_enter Tryd.func94, Tryd.ntmps94
  go_wp2
  refine bodyPost_ret (v := .agg #[.int .i64 ((a + c : Nat) : Int), .int .i64 ((b + d : Nat) : Int)]) (by simp [results, Tryd.results94, go_sem]) rfl ⟨rfl, ?_⟩
  repeat (first | exact Below.refl _ _ | apply below_drewN | (refine Below.alloc ?_ (by simp; try omega) _))

theorem of_any (s : ByteArray) (w : World) : Calls Tryd.prog 93 #[.string s] w fun e w' => e = .returned (.agg #[.int .i64 s.size, .int .i64 (Rp.lf s)]) ∧ Below w.heap.size w w' := by
  go_enter Tryd.func93, Tryd.ntmps93
  go_wp2_with (go_at_call 66; refine (Tryd.strings_Count_one s 10 _).mono ?_; rintro e w' ⟨rfl, rfl⟩)
  exact bodyPost_ret (v := .agg #[.int .i64 s.size, .int .i64 (Rp.lf s)]) (by simp [results, Tryd.results93, go_sem]; rfl) rfl ⟨rfl, (Below.refl _ _).alloc (Nat.le_refl _) _⟩
end Go.Proofs.YtejipknbhiokeaaDoor

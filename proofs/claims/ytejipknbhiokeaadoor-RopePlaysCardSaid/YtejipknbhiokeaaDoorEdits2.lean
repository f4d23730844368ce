/-
  EDITS, on: the list's cells as a walk meets them; Splice by whatever edit; what two ropes of one text both tell.
-/
import Derived.Test.YtejipknbhiokeaaDoorEdits
import Derived.Test.YtejipknbhiokeaaDoorWakes2
namespace Go.Proofs.YtejipknbhiokeaaDoor
open Go.RowKit Rp

theorem edits_view {W : World} {v : Value} {l : List (Int × Int × ByteArray)} (h : IsEdits W v l) : ∃ p cap, v = .slice p l.length cap ∧
    ∀ i, i < l.length → ∃ b o pos del ins, p = some ⟨b, o, none⟩ ∧ l.length ≤ cap ∧ b < W.heap.size ∧ l[i]? = some (pos, del, ins) ∧ EdOk (pos, del, ins) ∧
      W.cell? ⟨b, o + i * 3, none⟩ = some (.int .i64 pos) ∧ W.cell? ⟨b, o + i * 3 + 1, none⟩ = some (.int .i64 del) ∧ W.cell? ⟨b, o + i * 3 + 2, none⟩ = some (.string ins) := by
  obtain ⟨h1, h2, h3 | ⟨b, o, cap, rfl, hc, hb, hx⟩⟩ := h
  · obtain ⟨rfl, p, cap, rfl⟩ := h3
    exact ⟨p, cap, rfl, fun i hi => absurd hi (by simp)⟩
  · refine ⟨_, cap, rfl, fun i hi => ?_⟩
    have hl := List.getElem?_eq_getElem hi
    obtain ⟨c0, c1, c2⟩ := hx i _ hl
    exact ⟨b, o, l[i].1, l[i].2.1, l[i].2.2, rfl, hc, hb, hl, h1 _ (List.getElem_mem hi), c0, c1, c2⟩

/-- Splice by an edit that may be whatever: the code that comes back tells which. -/
def Spliced (w : World) (e : Ending) (w' : World) : Prop :=
  (∃ c : Int, c ≠ 0 ∧ e = .returned (.tuple #[.pointer none, .int .i64 c]) ∧ Below w.heap.size w w') ∨
  (∃ q' t, e = .returned (.tuple #[.pointer q', .int .i64 0]) ∧ IsR w' q' t ∧ Below w.heap.size w w')

theorem splice_gen (q : Option Addr) (s : ByteArray) (pos del : Int) (ins : ByteArray) (w : World) (h : IsR w q s) (hok : EdOk (pos, del, ins)) : Calls Tryd.prog 34 #[.pointer q, ed pos del ins] w (Spliced w) := by
  obtain ⟨⟨p1, p2⟩, ⟨d1, d2⟩, hm⟩ := hok
  dsimp only at p1 p2 d1 d2 hm
  by_cases hx : pos < 0 ∨ del < 0 ∨ (s.size : Int) < pos ∨ (s.size : Int) - pos < del
  · exact (splice_out q s pos del ins w h p1 p2 hx).mono fun _ _ ⟨he, hb⟩ => .inl ⟨5, by decide, he, hb⟩
  · obtain ⟨p, rfl⟩ := Int.eq_ofNat_of_zero_le (show 0 ≤ pos by omega)
    obtain ⟨d, rfl⟩ := Int.eq_ofNat_of_zero_le (show 0 ≤ del by omega)
    by_cases hl : 1048576 < ins.size ∨ 1048576 < s.size - d + ins.size
    · exact (splice_long q s p d ins w h (by omega) hl).mono fun _ _ ⟨he, hb⟩ => .inl ⟨2, by decide, he, hb⟩
    · exact (splice_ok q s p d ins w h (by omega) (by omega) (by omega)).mono fun _ _ ⟨q', he, hr, hb⟩ => .inr ⟨q', _, he, hr, hb⟩

/-- Two numbers of a range, laid anew. -/
theorem range_new' (W : World) (a b : Int) : ∃ W', W.alloc (.cells #[.int .i64 a, .int .i64 b] 45) = W' ∧ Below W.heap.size W W' ∧ W'.cell? ⟨W.heap.size, 0, none⟩ = some (.int .i64 a) ∧ W'.cell? ⟨W.heap.size, 1, none⟩ = some (.int .i64 b) ∧ W.heap.size < W'.heap.size :=
  ⟨_, rfl, (Below.refl _ _).alloc (Nat.le_refl _) _, by simp [go_sem], by simp [go_sem], by simp⟩

theorem byte_of (t : ByteArray) (i : Int) : ∃ x e : Int, ∀ W q, IsR W q t → Calls Tryd.prog 32 #[.pointer q, .int .i64 i] W (Gives (.tuple #[.int .u8 x, .int .i64 e]) W) := by
  by_cases h : i < 0 ∨ (t.size : Int) ≤ i
  · exact ⟨0, 5, fun W q hq => byte_out q t i W hq h⟩
  · obtain ⟨j, rfl⟩ := Int.eq_ofNat_of_zero_le (show 0 ≤ i by omega)
    exact ⟨_, 0, fun W q hq => byte_in q t j W hq (by omega)⟩
theorem slice_of (t : ByteArray) (a c : Int) : ∃ (x : ByteArray) (e : Int), ∀ W q, IsR W q t → Calls Tryd.prog 33 #[.pointer q, .int .i64 a, .int .i64 c] W (Gives (.tuple #[.string x, .int .i64 e]) W) := by
  by_cases h : a < 0 ∨ (t.size : Int) < c ∨ c < a
  · exact ⟨_, 5, fun W q hq => rslice_out q t a c W hq h⟩
  · obtain ⟨j, rfl⟩ := Int.eq_ofNat_of_zero_le (show 0 ≤ a by omega)
    obtain ⟨k, rfl⟩ := Int.eq_ofNat_of_zero_le (show 0 ≤ c by omega)
    exact ⟨_, 0, fun W q hq => rslice_in q t j k W hq (by omega) (by omega)⟩
theorem line_of (t : ByteArray) (k : Int) : ∃ a b e : Int, ∀ W q, IsR W q t → Calls Tryd.prog 35 #[.pointer q, .int .i64 k] W (Gives (.tuple #[.agg #[.int .i64 a, .int .i64 b], .int .i64 e]) W) := by
  by_cases h : k < 0 ∨ (Rp.lf t : Int) < k
  · exact ⟨0, 0, 5, fun W q hq => line_out q t k W hq h⟩
  · obtain ⟨j, rfl⟩ := Int.eq_ofNat_of_zero_le (show 0 ≤ k by omega)
    exact ⟨_, _, 0, fun W q hq => line_in q t j W hq (by omega)⟩
theorem find_of (t : ByteArray) (i : Int) : ∃ n e : Int, ∀ W q, IsR W q t → Calls Tryd.prog 36 #[.pointer q, .int .i64 i] W (Gives (.tuple #[.int .i64 n, .int .i64 e]) W) := by
  by_cases h : i < 0 ∨ (t.size : Int) < i
  · exact ⟨0, 5, fun W q hq => find_out q t i W hq h⟩
  · obtain ⟨j, rfl⟩ := Int.eq_ofNat_of_zero_le (show 0 ≤ i by omega)
    exact ⟨_, 0, fun W q hq => find_in q t j W hq (by omega)⟩
end Go.Proofs.YtejipknbhiokeaaDoor

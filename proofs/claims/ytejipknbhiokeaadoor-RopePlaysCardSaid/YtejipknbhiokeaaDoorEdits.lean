/-
  EDITS AS ARGUMENTS: an api.Edit, a []api.Edit, opened.
-/
import Derived.Test.YtejipknbhiokeaaDoorLaid
import Derived.Test.YtejipknbhiokeaaDoorSplice
import Derived.Deep.Slices
namespace Go.Proofs.YtejipknbhiokeaaDoor
open Go.ChangeShapes Go.WideShapes Go.ChangeAt Go.RowKit

theorem cells35 : Tryd.prog.cellsOf 35 = 3 := by kernel_rfl
theorem cells3 : Tryd.prog.cellsOf 3 = 1 := by kernel_rfl
theorem cells9 : Tryd.prog.cellsOf 9 = 1 := by kernel_rfl

/-- What an edit's numbers and its text may be. -/
def EdOk (x : Int × Int × ByteArray) : Prop := (-9223372036854775808 ≤ x.1 ∧ x.1 ≤ 9223372036854775807) ∧ (-9223372036854775808 ≤ x.2.1 ∧ x.2.1 ≤ 9223372036854775807) ∧ x.2.2.size ≤ maxLen

theorem three {α : Type} {l : List α} (h : l.length = 3) : ∃ a b c, l = [a, b, c] := by
  match l, h with
  | [a, b, c], _ => exact ⟨a, b, c, rfl⟩

theorem edit_cells {H : Type} {enc : TypeId × Value → H} {W : World} {fuel : Nat} {cs : List Value} {x : DataW H × List MemPlace} {base : Nat} {sp : Nat → Bool} {held : Bool}
    (h : DataW.trod enc Tryd.prog W base sp held fuel 35 cs = some x) : ∃ e : Int × Int × ByteArray, cs = [.int .i64 e.1, .int .i64 e.2.1, .string e.2.2] ∧ EdOk e := by
  obtain ⟨xs, n, _, rfl, hl, hlen, hf⟩ := DataW.trod_struct Tryd.underlying35 h
  rw [cells35] at hl
  obtain ⟨c0, c1, c2, rfl⟩ := three hl
  obtain ⟨y0, y1, y2, rfl⟩ := three (show xs.length = 3 from hlen)
  have f0 : DataW.trod enc Tryd.prog W base sp held n 3 [c0] = some y0 := by simpa [cells3] using hf 0 _ rfl
  have f1 : DataW.trod enc Tryd.prog W base sp held n 3 [c1] = some y1 := by simpa [cells3] using hf 1 _ rfl
  have f2 : DataW.trod enc Tryd.prog W base sp held n 9 [c2] = some y2 := by simpa [cells9] using hf 2 _ rfl
  obtain ⟨m0, e0, -, w0⟩ := DataW.trod_int Tryd.underlying3 f0
  obtain ⟨m1, e1, -, w1⟩ := DataW.trod_int Tryd.underlying3 f1
  obtain ⟨s, e2, -, hs⟩ := DataW.trod_string Tryd.underlying9 f2
  simp only [List.cons.injEq, and_true] at e0 e1 e2
  subst e0 e1 e2
  exact ⟨(m0, m1, s), rfl, bounds_i64 w0, bounds_i64 w1, hs⟩

def IsEdit (v : Value) : Prop := ∃ e : Int × Int × ByteArray, v = ed e.1 e.2.1 e.2.2 ∧ EdOk e

set_option maxRecDepth 100000 in
theorem open_edit {H : Type} {enc : TypeId × Value → H} {W : World} {base : Nat} {sp : Nat → Bool} {held : Bool} {r : Reach} {b0 : Nat} {v : Value} {d : DataW H} {ps : List MemPlace} (hval : Value.okWide Tryd.prog W r b0 35 v)
    (hd : DataW.Trod enc Tryd.prog W base sp held 35 v d ps) : IsEdit v := by
  obtain ⟨cs, rfl, hz⟩ := okWide_struct Tryd.underlying35 hval
  obtain ⟨fuel, hf⟩ := hd
  obtain ⟨e, he, hok⟩ := edit_cells hf
  refine ⟨e, ?_, hok⟩
  obtain ⟨cl⟩ := cs
  obtain rfl : cl = [.int .i64 e.1, .int .i64 e.2.1, .string e.2.2] := by simpa [Value.cells] using he
  rfl

/-- A list of edits, in memory. -/
def IsEdits (W : World) (v : Value) (l : List (Int × Int × ByteArray)) : Prop :=
  (∀ e ∈ l, EdOk e) ∧ l.length ≤ maxLen ∧
    ((l = [] ∧ ∃ p cap, v = .slice p 0 cap) ∨ ∃ b o cap, v = .slice (some ⟨b, o, none⟩) l.length cap ∧ l.length ≤ cap ∧ b < W.heap.size ∧
      ∀ i e, l[i]? = some e → W.cell? ⟨b, o + i * 3, none⟩ = some (.int .i64 e.1) ∧ W.cell? ⟨b, o + i * 3 + 1, none⟩ = some (.int .i64 e.2.1) ∧ W.cell? ⟨b, o + i * 3 + 2, none⟩ = some (.string e.2.2))

theorem cells_three {W : World} {base : Nat} {a : Addr} {x y z : Value} (h : W.cells? base a 3 = some [x, y, z]) : W.cell? a = some x ∧ W.cell? (a.add 1) = some y ∧ W.cell? (a.add 2) = some z := by
  unfold World.cells? at h
  split at h
  · have h0 := mapM_some_get h 0 0 rfl
    have h1 := mapM_some_get h 1 1 rfl
    have h2 := mapM_some_get h 2 2 rfl
    exact ⟨h0, h1, h2⟩
  · cases h

theorem add_none (b o k : Nat) : (⟨b, o, none⟩ : Addr).add k = ⟨b, o + k, none⟩ := by
  unfold Addr.add
  split
  · rename_i h; subst h; rfl
  · rfl

theorem spot_none {W : World} {a : Addr} {x : Value} (h : W.cell? a = some x) : ∃ b o, a = ⟨b, o, none⟩ := by
  obtain ⟨b, o, s⟩ := a
  cases s with
  | none => exact ⟨b, o, rfl⟩
  | some s =>
    simp [World.cell?] at h
    split at h <;> cases h

set_option maxRecDepth 100000 in
theorem open_edits {H : Type} {enc : TypeId × Value → H} {W : World} {base : Nat} {r : Reach} {b0 : Nat} {v : Value} {d : DataW H} {ps : List MemPlace} (hval : Value.okWide Tryd.prog W r b0 53 v)
    (hd : DataW.Trod enc Tryd.prog W base (fun _ => true) true 53 v d ps) : ∃ l, IsEdits W v l := by
  obtain ⟨p, len, cap, rfl⟩ := okWide_slice Tryd.underlying53 hval
  obtain ⟨fuel, hf⟩ := hd
  rcases Deep.open_slice Tryd.underlying53 hf with ⟨h0, -⟩ | ⟨a, len', cap', m, n, D, Pl, h0, hb, hl, hm, hmm, -, hx⟩
  · simp only [Value.cells, List.cons.injEq, and_true] at h0
    rw [h0]
    exact ⟨[], by simp, Nat.zero_le _, .inl ⟨rfl, _, _, rfl⟩⟩
  · simp only [Value.cells, List.cons.injEq, and_true, Value.slice.injEq] at h0
    obtain ⟨rfl, rfl, rfl⟩ := h0
    simp only [if_true] at hmm
    subst hmm
    by_cases h0 : len = 0
    · subst h0
      exact ⟨[], by simp, Nat.zero_le _, .inl ⟨rfl, _, _, rfl⟩⟩
    have hx' : ∀ i, ∃ e : Int × Int × ByteArray, i < m → EdOk e ∧ W.cell? (a.add (i * 3)) = some (.int .i64 e.1) ∧ W.cell? ((a.add (i * 3)).add 1) = some (.int .i64 e.2.1) ∧ W.cell? ((a.add (i * 3)).add 2) = some (.string e.2.2) := fun i => by
      by_cases hi : i < m
      · obtain ⟨cs', hc, ht⟩ := hx i hi
        rw [cells35] at hc
        obtain ⟨e, rfl, hok⟩ := edit_cells ht
        exact ⟨e, fun _ => ⟨hok, cells_three hc⟩⟩
      · exact ⟨(0, 0, ByteArray.empty), fun h => absurd h hi⟩
    obtain ⟨f, hf'⟩ := Classical.axiomOfChoice hx'
    have hz := (hf' 0 (by omega)).2.1
    obtain ⟨b, o, rfl⟩ := spot_none (show W.cell? a = some _ by simpa [Addr.add] using hz)
    have hblk := World.block_lt_of_cell? W _ (show W.cell? ⟨b, o, none⟩ = some _ by simpa [Addr.add] using hz)
    refine ⟨(List.range len).map f, ?_, by simp; omega, .inr ⟨b, o, m, by simp, by simp; omega, hblk, ?_⟩⟩
    · intro e he
      simp only [List.mem_map, List.mem_range] at he
      obtain ⟨i, hi, rfl⟩ := he
      exact (hf' i (by omega)).1
    · intro i e he
      obtain ⟨i', hi', rfl⟩ : ∃ a, (List.range len)[i]? = some a ∧ f a = e := by simpa using he
      obtain ⟨hi, rfl⟩ := List.getElem?_eq_some_iff.1 hi'
      simp only [List.length_range] at hi
      simp only [List.getElem_range]
      have := (hf' i (by omega)).2
      rwa [add_none, add_none, add_none] at this
end Go.Proofs.YtejipknbhiokeaaDoor

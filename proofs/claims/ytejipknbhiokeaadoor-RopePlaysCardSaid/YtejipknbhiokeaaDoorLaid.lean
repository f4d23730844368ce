/-
  WHAT THE ROWS' LIST GIVES: the cells of the table utf.rows ('Rows'); what every claim of this seat needs of the program.
-/
import Derived.Test.YtejipknbhiokeaaDoorRead
import Derived.Test.YtejipknbhiokeaaDoorRows
import Derived.ProofKit
import Derived.OpenShut
import Derived.Deep.DeepHandedRow
import Derived.LaidLaws
namespace Go.Proofs.YtejipknbhiokeaaDoor
open Go.ChangeShapes Go.WideShapes Go.ChangeAt Go.RowKit

theorem own : ownKnob Tryd.prog.godebug = none := by kernel_rfl
theorem gTab : Tryd.prog.globalNamed "indenture/utf.rows" = some 0 := by kernel_rfl
theorem gTabType : (Tryd.prog.globals[0]?).map (·.type) = some 79 := by kernel_rfl
theorem cells79 : Tryd.prog.cellsOf 79 = 16 := by kernel_rfl
theorem cells78 : Tryd.prog.cellsOf 78 = 4 := by kernel_rfl
theorem cells77 : Tryd.prog.cellsOf 77 = 1 := by kernel_rfl
theorem cells5 : Tryd.prog.cellsOf 5 = 1 := by kernel_rfl
theorem cells21 : Tryd.prog.cellsOf 21 = 1 := by kernel_rfl
theorem laidOut : laidOutB Tryd.prog = true := by kernel_rfl

theorem int_at {H : Type} {enc : TypeId × Value → H} {W : World} {fuel : Nat} {t : TypeId} {k : IntKind} {n : Int} {cs : List Value} {x : DataW H × List MemPlace} {base : Nat} {sp : Nat → Bool} {held : Bool} (ht : Tryd.prog.underlying t = some (.int k))
    (h : DataW.trod enc Tryd.prog W base sp held fuel t cs = some x) (hx : x.1 = .lit (.int k n)) : cs = [.int k n] := by
  obtain ⟨m, rfl, rfl, _⟩ := DataW.trod_int ht h
  simp only [DataW.lit.injEq, Lit.int.injEq, true_and] at hx
  rw [hx]

theorem four {α : Type} {l : List α} (h : l.length = 4) : ∃ a b c d, l = [a, b, c, d] := by
  match l, h with
  | [a, b, c, d], _ => exact ⟨a, b, c, d, rfl⟩
theorem sixteen {α : Type} {l : List α} (h : l.length = 16) : ∃ a b c d e f g i j k m n o p q r, l = [a, b, c, d, e, f, g, i, j, k, m, n, o, p, q, r] := by
  match l, h with
  | [a, b, c, d, e, f, g, i, j, k, m, n, o, p, q, r], _ => exact ⟨a, b, c, d, e, f, g, i, j, k, m, n, o, p, q, r, rfl⟩

/-- One row of the table. -/
theorem row_at {H : Type} {enc : TypeId × Value → H} {W : World} {fuel : Nat} {a b c d : Int} {cs : List Value} {x : DataW H × List MemPlace} {base : Nat} {sp : Nat → Bool} {held : Bool}
    (h : DataW.trod enc Tryd.prog W base sp held fuel 78 cs = some x) (hx : x.1 = .agg [.lit (.int .u64 a), .lit (.int .u8 b), .lit (.int .i32 c), .lit (.int .i32 d)]) :
    cs = [.int .u64 a, .int .u8 b, .int .i32 c, .int .i32 d] := by
  obtain ⟨xs, n, _, rfl, hl, hlen, hf⟩ := DataW.trod_struct Tryd.underlying78 h
  rw [cells78] at hl
  obtain ⟨c0, c1, c2, c3, rfl⟩ := four hl
  obtain ⟨y0, y1, y2, y3, rfl⟩ := four (show xs.length = 4 from hlen)
  have f0 : DataW.trod enc Tryd.prog W base sp held n 77 [c0] = some y0 := by simpa [cells77] using hf 0 _ rfl
  have f1 : DataW.trod enc Tryd.prog W base sp held n 5 [c1] = some y1 := by simpa [cells5] using hf 1 _ rfl
  have f2 : DataW.trod enc Tryd.prog W base sp held n 21 [c2] = some y2 := by simpa [cells21] using hf 2 _ rfl
  have f3 : DataW.trod enc Tryd.prog W base sp held n 21 [c3] = some y3 := by simpa [cells21] using hf 3 _ rfl
  simp only [List.map_cons, List.map_nil, DataW.agg.injEq, List.cons.injEq, and_true] at hx
  obtain ⟨h0, h1, h2, h3⟩ := hx
  have e0 := int_at Tryd.underlying77 f0 h0
  have e1 := int_at Tryd.underlying5 f1 h1
  have e2 := int_at Tryd.underlying21 f2 h2
  have e3 := int_at Tryd.underlying21 f3 h3
  simp only [List.cons.injEq, and_true] at e0 e1 e2 e3
  rw [e0, e1, e2, e3]

/-- WHAT THE ROW's LIST GIVES: the table's cells. -/
theorem table {W : World} (h : laidMetH Tryd.prog [("indenture/utf.rows", Rows.laid_indenture_utf_rows)] W) : Rows W := by
  have h' : laidMet Tryd.prog [("indenture/utf.rows", Rows.laid_indenture_utf_rows)] W := h
  obtain ⟨ps, ⟨g', t', cs, fuel, p, q, hg', ht', hvar, hd, _, _⟩, _⟩ := h'
  obtain rfl := Option.some.inj (gTab.symm.trans hg')
  obtain rfl := Option.some.inj (gTabType.symm.trans ht')
  obtain ⟨xs, m, _, hx, hl, hlen, hf⟩ := DataW.trod_array Tryd.underlying79 hd
  rw [cells79] at hl
  have hcell := World.var?_cell gTab hvar
  obtain ⟨cs⟩ := cs
  obtain ⟨c0, c1, c2, c3, c4, c5, c6, c7, c8, c9, c10, c11, c12, c13, c14, c15, rfl⟩ := sixteen hl
  obtain ⟨y0, y1, y2, y3, rfl⟩ := four hlen
  have f0 := hf 0 (by decide)
  have f1 := hf 1 (by decide)
  have f2 := hf 2 (by decide)
  have f3 := hf 3 (by decide)
  have hx1 := congrArg Prod.fst hx
  unfold Rows.laid_indenture_utf_rows at hx1
  simp only [List.map_cons, List.map_nil, DataW.agg.injEq, List.cons.injEq, and_true] at hx1
  obtain ⟨h0, h1, h2, h3⟩ := hx1
  simp only [cells78, List.getElem?_cons_zero, List.getElem?_cons_succ, List.drop_succ_cons, List.drop_zero, List.take_succ_cons, List.take_zero, Nat.reduceMul] at f0 f1 f2 f3
  have e0 := row_at f0 h0.symm
  have e1 := row_at f1 h1.symm
  have e2 := row_at f2 h2.symm
  have e3 := row_at f3 h3.symm
  simp only [List.cons.injEq, and_true] at e0 e1 e2 e3
  obtain ⟨rfl, rfl, rfl, rfl⟩ := e0
  obtain ⟨rfl, rfl, rfl, rfl⟩ := e1
  obtain ⟨rfl, rfl, rfl, rfl⟩ := e2
  obtain ⟨rfl, rfl, rfl, rfl⟩ := e3
  exact ⟨⟨hcell 0, hcell 1, hcell 2, hcell 3⟩, ⟨hcell 4, hcell 5, hcell 6, hcell 7⟩, ⟨hcell 8, hcell 9, hcell 10, hcell 11⟩, ⟨hcell 12, hcell 13, hcell 14, hcell 15⟩⟩

/-- A WORLD FOR THE WITNESS: the settled one, the table (block 0) holding what its initialiser lays. -/
noncomputable def laidWorld (os : Os) : World :=
  { World.holding Tryd.prog os ⟨#[], #[], []⟩ with heap := (World.holding Tryd.prog os ⟨#[], #[], []⟩).heap.modify 0 fun
      | .cells _ t frozen => .cells #[.int .u64 7, .int .u8 0, .int .i32 0, .int .i32 127, .int .u64 5, .int .u8 192, .int .i32 128, .int .i32 2047, .int .u64 4, .int .u8 224, .int .i32 2048, .int .i32 65535, .int .u64 3, .int .u8 240, .int .i32 65536, .int .i32 1114111] t frozen
      | o => o }
end Go.Proofs.YtejipknbhiokeaaDoor

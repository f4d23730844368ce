/-
  CONTRACT of Rope.Splice.
-/
import Derived.Test.YtejipknbhiokeaaDoorRope1
namespace Go.Proofs.YtejipknbhiokeaaDoor
open Go.RowKit Rp

/-- An edit's value. -/
def ed (pos del : Int) (ins : ByteArray) : Value := .agg #[.int .i64 pos, .int .i64 del, .string ins]

theorem splice_nil (pos del : Int) (ins : ByteArray) (w : World) : Calls Tryd.prog 34 #[.pointer none, ed pos del ins] w (Gives (.tuple #[.pointer none, .int .i64 8]) w) := by
  unfold ed
  go_enter Tryd.func34, Tryd.ntmps34
  go_wp2_with (go_at_call 37; refine (rlen_nil _).mono ?_; rintro e w1 ⟨rfl, hb1⟩)
  go_ret2
  exact ⟨rfl, ((Below.refl _ _).alloc (Nat.le_refl _) _).trans (hb1.mono (by simp))⟩

theorem splice_out (q : Option Addr) (s : ByteArray) (pos del : Int) (ins : ByteArray) (w : World) (h : IsR w q s) (hp : -9223372036854775808 ≤ pos) (hp2 : pos ≤ 9223372036854775807)
    (hx : pos < 0 ∨ del < 0 ∨ (s.size : Int) < pos ∨ (s.size : Int) - pos < del) : Calls Tryd.prog 34 #[.pointer q, ed pos del ins] w (Gives (.tuple #[.pointer none, .int .i64 5]) w) := by
  unfold ed
  have hB0 : Below w.heap.size w (w.alloc (.cells #[.int .i64 pos, .int .i64 del, .string ins] 35)) := (Below.refl _ _).alloc (Nat.le_refl _) _
  have h1 := h.below hB0
  have c0 : (w.alloc (.cells #[.int .i64 pos, .int .i64 del, .string ins] 35)).cell? ⟨w.heap.size, 0, none⟩ = some (.int .i64 pos) := by simp [go_sem]
  have c1 : (w.alloc (.cells #[.int .i64 pos, .int .i64 del, .string ins] 35)).cell? ⟨w.heap.size, 1, none⟩ = some (.int .i64 del) := by simp [go_sem]
  have hz1 : w.heap.size < (w.alloc (.cells #[.int .i64 pos, .int .i64 del, .string ins] 35)).heap.size := by simp
  obtain ⟨w1, hw1⟩ : ∃ w1, w.alloc (.cells #[.int .i64 pos, .int .i64 del, .string ins] 35) = w1 := ⟨_, rfl⟩
  rw [hw1] at hB0 h1 c0 c1 hz1
  have h' := h
  obtain ⟨x, _, _, rfl, -, -, -, -, -⟩ := h'
  have hs := h.size
  have hl := rlen_any _ s w1 h1
  have HL := Lib.hid hl
  have HX := Lib.hid hx
  clear hl hx h h1
  by_cases d0 : pos < 0
  · have hd : decide (pos < 0) = true := by simpa using d0
    go_enter Tryd.func34, Tryd.ntmps34
    go_wp2_with (go_at_call 37; refine (HL.out).mono ?_; rintro e w2 ⟨rfl, hb2⟩; have k0 := (hb2.cell (p := ⟨w.heap.size, 0, none⟩) hz1).trans c0; have k1 := (hb2.cell (p := ⟨w.heap.size, 1, none⟩) hz1).trans c1)
    go_ret2
    exact ⟨rfl, hB0.trans (hb2.mono hB0.size)⟩
  · have hd : decide (pos < 0) = false := by simpa using d0
    by_cases d1 : del < 0
    · have hd1 : decide (del < 0) = true := by simpa using d1
      go_enter Tryd.func34, Tryd.ntmps34
      go_wp2_with (go_at_call 37; refine (HL.out).mono ?_; rintro e w2 ⟨rfl, hb2⟩; have k0 := (hb2.cell (p := ⟨w.heap.size, 0, none⟩) hz1).trans c0; have k1 := (hb2.cell (p := ⟨w.heap.size, 1, none⟩) hz1).trans c1)
      go_ret2
      exact ⟨rfl, hB0.trans (hb2.mono hB0.size)⟩
    · have hd1 : decide (del < 0) = false := by simpa using d1
      by_cases d2 : (s.size : Int) < pos
      · have hd2 : decide ((s.size : Int) < pos) = true := by simpa using d2
        go_enter Tryd.func34, Tryd.ntmps34
        go_wp2_with (go_at_call 37; refine (HL.out).mono ?_; rintro e w2 ⟨rfl, hb2⟩; have k0 := (hb2.cell (p := ⟨w.heap.size, 0, none⟩) hz1).trans c0; have k1 := (hb2.cell (p := ⟨w.heap.size, 1, none⟩) hz1).trans c1)
        go_ret2
        exact ⟨rfl, hB0.trans (hb2.mono hB0.size)⟩
      · have hd2 : decide ((s.size : Int) < pos) = false := by simpa using d2
        have d3 : (s.size : Int) - pos < del := by have := HX.out; omega
        have hd3 : decide ((s.size : Int) - pos < del) = true := by simpa using d3
        go_enter Tryd.func34, Tryd.ntmps34
        go_wp2_with (go_at_call 37; refine (HL.out).mono ?_; rintro e w2 ⟨rfl, hb2⟩; have k0 := (hb2.cell (p := ⟨w.heap.size, 0, none⟩) hz1).trans c0; have k1 := (hb2.cell (p := ⟨w.heap.size, 1, none⟩) hz1).trans c1)
        go_ret2
        exact ⟨rfl, hB0.trans (hb2.mono hB0.size)⟩

/-- The box of an edit lies at b. -/
structure Box3 (b : Nat) (pos del : Int) (ins : ByteArray) (W : World) : Prop where
  c0 : W.cell? ⟨b, 0, none⟩ = some (.int .i64 pos)
  c1 : W.cell? ⟨b, 1, none⟩ = some (.int .i64 del)
  c2 : W.cell? ⟨b, 2, none⟩ = some (.string ins)
theorem Box3.below {b : Nat} {pos del : Int} {ins : ByteArray} {W W' : World} (h : Box3 b pos del ins W) (hb : Below W.heap.size W W') : Box3 b pos del ins W' :=
  ⟨(hb.cell (World.block_lt_of_cell? W _ h.c0)).trans h.c0, (hb.cell (World.block_lt_of_cell? W _ h.c1)).trans h.c1, (hb.cell (World.block_lt_of_cell? W _ h.c2)).trans h.c2⟩
theorem box3_new (w : World) (pos del : Int) (ins : ByteArray) : Box3 w.heap.size pos del ins (w.alloc (.cells #[.int .i64 pos, .int .i64 del, .string ins] 35)) := ⟨by simp [go_sem], by simp [go_sem], by simp [go_sem]⟩

theorem splice_long (q : Option Addr) (s : ByteArray) (p d : Nat) (ins : ByteArray) (w : World) (h : IsR w q s) (hp : p + d ≤ s.size) (hx : 1048576 < ins.size ∨ 1048576 < s.size - d + ins.size) :
    Calls Tryd.prog 34 #[.pointer q, ed p d ins] w (Gives (.tuple #[.pointer none, .int .i64 2]) w) := by
  unfold ed
  have hB0 : Below w.heap.size w (w.alloc (.cells #[.int .i64 p, .int .i64 d, .string ins] 35)) := (Below.refl _ _).alloc (Nat.le_refl _) _
  have h1 := h.below hB0
  obtain ⟨c0, c1, c2⟩ := box3_new w p d ins
  have hz1 : w.heap.size < (w.alloc (.cells #[.int .i64 p, .int .i64 d, .string ins] 35)).heap.size := by simp
  obtain ⟨w1, hw1⟩ : ∃ w1, w.alloc (.cells #[.int .i64 p, .int .i64 d, .string ins] 35) = w1 := ⟨_, rfl⟩
  rw [hw1] at hB0 h1 c0 c1 c2 hz1
  have h' := h
  obtain ⟨x, _, _, rfl, -, -, -, -, -⟩ := h'
  have hs := h.size
  have hl := rlen_any _ s w1 h1
  have HL := Lib.hid hl
  clear hl h h1
  have hd : decide ((p : Int) < 0) = false := by simp
  have hd1 : decide ((d : Int) < 0) = false := by simp
  have hd2 : decide ((s.size : Int) < (p : Int)) = false := by simp; omega
  have hd2' : decide (s.size < p) = false := by simp; omega
  have hd3 : decide ((s.size : Int) - (p : Int) < (d : Int)) = false := by simp; omega
  by_cases d4 : 1048576 < ins.size
  · have hd4 : decide ((1048576 : Int) < (ins.size : Int)) = true := by simp; omega
    clear hx
    go_enter Tryd.func34, Tryd.ntmps34
    go_wp2_with (go_at_call 37; refine (HL.out).mono ?_; rintro e w2 ⟨rfl, hb2⟩; have k0 := (hb2.cell (p := ⟨w.heap.size, 0, none⟩) hz1).trans c0; have k1 := (hb2.cell (p := ⟨w.heap.size, 1, none⟩) hz1).trans c1; have k2 := (hb2.cell (p := ⟨w.heap.size, 2, none⟩) hz1).trans c2)
    go_ret2
    exact ⟨rfl, hB0.trans (hb2.mono hB0.size)⟩
  · have hd4 : decide ((1048576 : Int) < (ins.size : Int)) = false := by simp; omega
    have hd5 : decide ((1048576 : Int) - (ins.size : Int) < (s.size : Int) - (d : Int)) = true := by simp; omega
    clear hx
    go_enter Tryd.func34, Tryd.ntmps34
    go_wp2_with (go_at_call 37; refine (HL.out).mono ?_; rintro e w2 ⟨rfl, hb2⟩; have k0 := (hb2.cell (p := ⟨w.heap.size, 0, none⟩) hz1).trans c0; have k1 := (hb2.cell (p := ⟨w.heap.size, 1, none⟩) hz1).trans c1; have k2 := (hb2.cell (p := ⟨w.heap.size, 2, none⟩) hz1).trans c2)
    go_ret2
    exact ⟨rfl, hB0.trans (hb2.mono hB0.size)⟩

theorem splice_text {t a b l1 f1 : T} {ins : ByteArray} {l2 f2 : ByteArray} {p d : Nat}
    (ha : a.text = t.text.extract 0 p) (hb : b.text = (t.text.extract p t.text.size).extract d (t.text.extract p t.text.size).size) (hl : l1.text ++ l2 = a.text) (hf : f2 ++ f1.text = b.text) :
    l1.text ++ (l2 ++ ins ++ f2) ++ f1.text = t.text.extract 0 p ++ ins ++ t.text.extract (p + d) t.text.size := by
  have e : (t.text.extract p t.text.size).extract d (t.text.extract p t.text.size).size = t.text.extract (p + d) t.text.size := by
    rw [ByteArray.extract_extract, ByteArray.size_extract]; congr 1; omega
  rw [← ha, ← e, ← hb, ← hl, ← hf]
  simp only [ByteArray.append_assoc]

set_option maxRecDepth 100000 in
set_option maxHeartbeats 4000000 in
theorem splice_ok (q : Option Addr) (s : ByteArray) (p d : Nat) (ins : ByteArray) (w : World) (h : IsR w q s) (hp : p + d ≤ s.size) (hi : ins.size ≤ 1048576) (hx : s.size - d + ins.size ≤ 1048576) :
    Calls Tryd.prog 34 #[.pointer q, ed p d ins] w fun e w' => ∃ q', e = .returned (.tuple #[.pointer q', .int .i64 0]) ∧ IsR w' q' (s.extract 0 p ++ ins ++ s.extract (p + d) s.size) ∧ Below w.heap.size w w' := by
  unfold ed
  have hB0 : Below w.heap.size w (w.alloc (.cells #[.int .i64 p, .int .i64 d, .string ins] 35)) := (Below.refl _ _).alloc (Nat.le_refl _) _
  have h1 := h.below hB0
  have hc := box3_new w p d ins
  obtain ⟨w1, hw1⟩ : ∃ w1, w.alloc (.cells #[.int .i64 p, .int .i64 d, .string ins] 35) = w1 := ⟨_, rfl⟩
  rw [hw1] at hB0 h1 hc
  have hs := h.size
  have hl := rlen_any _ s w1 h1
  have HL := Lib.hid hl
  clear hl h1
  obtain ⟨x, rp, t, rfl, hxc, hn, bt, rfl, -⟩ := h
  have hd : decide ((p : Int) < 0) = false := by simp
  have hd1 : decide ((d : Int) < 0) = false := by simp
  have hd2 : decide ((t.text.size : Int) < (p : Int)) = false := by simp; omega
  have hd2' : decide (t.text.size < p) = false := by simp; omega
  have hd3 : decide ((t.text.size : Int) - (p : Int) < (d : Int)) = false := by simp; omega
  have hd4 : decide ((1048576 : Int) < (ins.size : Int)) = false := by simp; omega
  have hd4' : decide (1048576 < ins.size) = false := by simp; omega
  have hd5 : decide ((1048576 : Int) - (ins.size : Int) < (t.text.size : Int) - (d : Int)) = false := by simp; omega
  have zt := sz_text t
  -- the plain trees
  obtain ⟨x1, x2⟩ := split_text t p (by omega)
  obtain ⟨y1, y2⟩ := split_bal (k := p) bt
  obtain ⟨a, ha⟩ : ∃ a, (split t p).1 = a := ⟨_, rfl⟩
  obtain ⟨r0, hr0⟩ : ∃ r0, (split t p).2 = r0 := ⟨_, rfl⟩
  rw [ha] at x1 y1
  rw [hr0] at x2 y2
  have zr : r0.sz = t.text.size - p := by rw [sz_text, x2, ByteArray.size_extract]; omega
  obtain ⟨-, x4⟩ := split_text r0 d (by rw [← sz_text]; omega)
  obtain ⟨y3, y4⟩ := split_bal (k := d) y2
  obtain ⟨u, hu⟩ : ∃ u, (split r0 d).1 = u := ⟨_, rfl⟩
  obtain ⟨b, hb⟩ : ∃ b, (split r0 d).2 = b := ⟨_, rfl⟩
  rw [hb] at x4 y4
  have za : a.sz = p := by rw [sz_text, x1, ByteArray.size_extract]; omega
  have zb : b.sz = t.text.size - p - d := by rw [sz_text, x4, ByteArray.size_extract, ← sz_text]; omega
  have l1 := last_all a
  have f1 := first_all b
  have l2 := (l1.2 y1).1
  have f2 := (f1.2 y4).1
  have l3 := congrArg ByteArray.size l1.1
  have f3 := congrArg ByteArray.size f1.1
  rw [size_app, ← sz_text, ← sz_text] at l3 f3
  have htx := splice_text (ins := ins) x1 (by rw [x4, x2]) l1.1 f1.1
  obtain ⟨lt, hlt⟩ : ∃ lt, (last a).1 = lt := ⟨_, rfl⟩
  obtain ⟨ls, hls⟩ : ∃ ls, (last a).2 = ls := ⟨_, rfl⟩
  obtain ⟨ft, hft⟩ : ∃ ft, (first b).1 = ft := ⟨_, rfl⟩
  obtain ⟨fs, hfs⟩ : ∃ fs, (first b).2 = fs := ⟨_, rfl⟩
  have C1 : ∀ W, Below w.heap.size w W → Calls Tryd.prog 60 #[.pointer rp, .int .i64 p] W (Got2 a r0 W) := fun W hW => by
    rw [← ha, ← hr0]; exact split_any t rp p W (hn.below hW) bt (by omega) (by omega)
  have C2 : ∀ W pr, IsN W pr r0 → Calls Tryd.prog 60 #[.pointer pr, .int .i64 d] W (Got2 u b W) := fun W pr hW => by
    rw [← hu, ← hb]; exact split_any r0 pr d W hW y2 (by omega) (by omega)
  have C3 : ∀ W pa, IsN W pa a → Calls Tryd.prog 61 #[.pointer pa] W (GotS lt ls W) := fun W pa hW => by
    rw [← hlt, ← hls]; exact last_any a pa W hW y1 (by omega)
  have C4 : ∀ W pb, IsN W pb b → Calls Tryd.prog 62 #[.pointer pb] W (GotS ft fs W) := fun W pb hW => by
    rw [← hft, ← hfs]; exact first_any b pb W hW y4 (by omega)
  rw [hlt, hls] at l3 htx
  rw [hft, hfs] at f3 htx
  rw [hlt] at l2
  rw [hft] at f2
  have hz9 := congrArg ByteArray.size htx
  rw [size_app, size_app, size_app, size_app, size_app, size_app, ← sz_text, ← sz_text, ByteArray.size_extract, ByteArray.size_extract] at hz9
  have C5 : ∀ W p1 p2, IsN W p1 lt → IsN W p2 ft → Calls Tryd.prog 63 #[.pointer p1, .string (ls ++ ins ++ fs), .pointer p2] W (GotT (t.text.extract 0 p ++ ins ++ t.text.extract (p + d) t.text.size) W) := fun W p1 p2 hW1 hW2 => by
    rw [← htx]; exact made_any p1 p2 lt ft _ W hW1 hW2 l2 f2 (by rw [size_app, size_app]; omega)
  have CC1 := Lib.hid C1
  have CC2 := Lib.hid C2
  have CC3 := Lib.hid C3
  have CC4 := Lib.hid C4
  have CC5 := Lib.hid C5
  have hlen : (t.text.extract 0 p ++ ins ++ t.text.extract (p + d) t.text.size).size ≤ 1048576 := by rw [size_app, size_app, ByteArray.size_extract, ByteArray.size_extract]; omega
  have g1 : ls.size + ins.size ≤ 1099511627776 := by omega
  have g2 : ls.size + ins.size + fs.size ≤ 1099511627776 := by omega
  obtain ⟨res, hres⟩ : ∃ res, t.text.extract 0 p ++ ins ++ t.text.extract (p + d) t.text.size = res := ⟨_, rfl⟩
  rw [hres] at CC5 hlen ⊢
  clear C1 C2 C3 C4 C5 l1 f1 x1 x2 x4 y1 y2 y3 y4 ha hr0 hu hb hlt hls hft hfs htx hres hz9 l3 f3 l2 f2 za zb zr
  obtain ⟨c0, c1, c2⟩ := hc
  have hz1 := World.block_lt_of_cell? w1 _ c0
  have hxw := World.block_lt_of_cell? w _ hxc
  go_enter Tryd.func34, Tryd.ntmps34
  go_wp2_with (go_at_call 37; refine (HL.out).mono ?_; rintro e w2 ⟨rfl, hb2⟩; have k0 := (hb2.cell (p := ⟨w.heap.size, 0, none⟩) hz1).trans c0; have k1 := (hb2.cell (p := ⟨w.heap.size, 1, none⟩) hz1).trans c1; have k2 := (hb2.cell (p := ⟨w.heap.size, 2, none⟩) hz1).trans c2)
  have hB2 : Below w.heap.size w w2 := hB0.trans (hb2.mono hB0.size)
  have hBm : Below w1.heap.size w1 w2 := hb2
  have hx2 : w2.cell? ⟨x, 0, none⟩ = some (.pointer rp) := (hB2.cell hxw).trans hxc
  have hS : ∀ W, Below w1.heap.size w1 W → W.cell? ⟨x, 0, none⟩ = some (.pointer rp) ∧ W.cell? ⟨w.heap.size, 0, none⟩ = some (.int .i64 p) ∧ Below w1.heap.size w1 W := fun W hW =>
    ⟨((hB0.trans (hW.mono hB0.size)).cell hxw).trans hxc, (hW.cell (p := ⟨w.heap.size, 0, none⟩) hz1).trans c0, hW⟩
  have HS := Lib.hid hS
  clear hS
  go_region_held3 (fun w' => w'.cell? ⟨x, 0, none⟩ = some (.pointer rp) ∧ w'.cell? ⟨w.heap.size, 0, none⟩ = some (.int .i64 p) ∧ Below w1.heap.size w1 w')
    (exact HS.out _ (by first | assumption | exact Below.drew (by assumption)))
    (first
      | (go_at_call 60; refine (Got2.at (w0 := w1) (by first | assumption | exact Below.drew (by assumption)) (CC1.out _ (hB0.trans (Below.mono (by first | assumption | exact Below.drew (by assumption)) hB0.size)))).mono ?_; rintro e w3 ⟨p3, q3, rfl, hn3, hm3, hb3, hB3⟩))
  all_goals
    clear hb3
    have m1 := (hB3.cell (p := ⟨w.heap.size, 1, none⟩) hz1).trans c1
    go_wp2_with (fail)
  all_goals
    refine (CC2.out _ _ hm3).mono ?_
    rintro e w4 ⟨p4, q4, rfl, -, hn4, hb4⟩
    have hB4 := hB3.trans (hb4.mono hB3.size)
    have ha4 := hn3.below hb4
    go_wp2_with (fail)
    refine (CC3.out _ _ ha4).mono ?_
    rintro e w5 ⟨p5, rfl, hn5, hb5⟩
    have hB5 := hB4.trans (hb5.mono hB4.size)
    have hb5' := hn4.below hb5
    go_wp2_with (fail)
    refine (CC4.out _ _ hb5').mono ?_
    rintro e w6 ⟨p6, rfl, hn6, hb6⟩
    have hB6 := hB5.trans (hb6.mono hB5.size)
    have ha6 := hn5.below hb6
    have m2 := (hB6.cell (p := ⟨w.heap.size, 2, none⟩) hz1).trans c2
    go_wp2_with (fail)
    refine (CC5.out _ _ _ ha6 hn6).mono ?_
    rintro e w7 ⟨p7, t7, rfl, hn7, hbal7, ht7, hb7⟩
    have hB7 := hB6.trans (hb7.mono hB6.size)
    go_wp2_with (fail)
    go_ret2
    have hB8 : Below w7.heap.size w7 (w7.alloc (.cells #[.pointer p7] 89)) := (Below.refl _ _).alloc (Nat.le_refl _) _
    exact ⟨_, rfl, ⟨w7.heap.size, p7, t7, rfl, by simp [go_sem], hn7.below hB8, hbal7, ht7, hlen⟩, (hB0.trans (hB7.mono hB0.size)).trans (hB8.mono (Nat.le_trans hB0.size hB7.size))⟩
end Go.Proofs.YtejipknbhiokeaaDoor

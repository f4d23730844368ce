/-
  CONTRACT of rope.made.
-/
import Derived.Test.YtejipknbhiokeaaDoorPieces
namespace Go.Proofs.YtejipknbhiokeaaDoor
open Go.RowKit Go.Shelf Rp
attribute [local go_sem] Oper.semAt_some

/-- A tree lies where it lay, if none but a block that is no node has turned. -/
theorem IsN.off {w w' : World} {b : Nat} (hk : ∀ i, i < w.heap.size → i ≠ b → w'.heap[i]? = w.heap[i]?) (hb : ∀ z : Int, w.cell? ⟨b, 0, none⟩ ≠ some (.int .i64 z)) : ∀ {t : T} {p : Option Addr}, IsN w p t → IsN w' p t
  | .nil, _, h => h
  | .node _ _ _, _, ⟨x, pl, pr, hp, hc, hl, hr⟩ => by
    have hx : x ≠ b := fun h => hb _ (h ▸ hc.1)
    have e : ∀ j, w'.cell? ⟨x, j, none⟩ = w.cell? ⟨x, j, none⟩ := fun j => World.cell?_of_block (w := w) (a := ⟨x, j, none⟩) (hk x hc.lt hx)
    refine ⟨x, pl, pr, hp, ?_, hl.off hk hb, hr.off hk hb⟩
    unfold Cells
    simp only [e]
    exact hc

theorem IsN.setCell {w : World} {b : Nat} {t : T} {p : Option Addr} (h : IsN w p t) (hb : ∀ z : Int, w.cell? ⟨b, 0, none⟩ ≠ some (.int .i64 z)) (v : Value) : IsN (w.setCell ⟨b, 0, none⟩ v) p t :=
  h.off (b := b) (fun i _ hi => Below.heap_setCell w ⟨b, 0, none⟩ v i hi) hb
theorem IsN.moves {A B : World} {Bn : Nat} {t : T} {p : Option Addr} (h : IsN A p t) (hm : MovesAt Bn A B) : IsN B p t :=
  h.off (b := Bn) hm.block (by obtain ⟨s, hs⟩ := hm.held; intro z hz; rw [hs] at hz; cases hz)
theorem IsN.grown {A B : World} {row : Option Nat} (hg : A.grownBy B row) (hr : ∀ r, row = some r → ∃ o : Obj, A.heap[r]? = some o ∧ o.isCells = false) {t : T} {p : Option Addr} (h : IsN A p t) : IsN B p t := by
  induction t generalizing p with
  | nil => exact h
  | node l s r ihl ihr =>
    obtain ⟨x, pl, pr, hp, hc, hl, hr'⟩ := h
    obtain ⟨c0, c1, c2, c3, c4, c5, c6, c7⟩ := hc
    exact ⟨x, pl, pr, hp, ⟨cell_kept c0 hg hr, cell_kept c1 hg hr, cell_kept c2 hg hr, cell_kept c3 hg hr, cell_kept c4 hg hr, cell_kept c5 hg hr, cell_kept c6 hg hr, cell_kept c7 hg hr⟩, ihl hl, ihr hr'⟩

theorem IsN.put {W : World} {D : Nat} {o o' : Obj} {t : T} {p : Option Addr} (h : IsN W p t) (hD : W.heap[D]? = some o) (ho : o.isCells = false := by rfl) : IsN (W.putObj D o') p t :=
  h.grown (grownBy_putObj' W D o') (fun r e => by cases e; exact ⟨o, hD, ho⟩)

/-- What the loop keeps: the boxes of l (b), rest (b + 1), some (b + 2). -/
structure MadeI (w : World) (b : Nat) (l : T) (pre : List ByteArray) (W : World) (t : T) (pt : Option Addr) (rest : ByteArray) (some' : Bool) : Prop where
  c0 : W.cell? ⟨b, 0, none⟩ = some (.pointer pt)
  c1 : W.cell? ⟨b + 1, 0, none⟩ = some (.string rest)
  c2 : W.cell? ⟨b + 2, 0, none⟩ = some (.bool some')
  f0 : W.frozen? ⟨b, 0, none⟩ = false
  f1 : W.frozen? ⟨b + 1, 0, none⟩ = false
  f2 : W.frozen? ⟨b + 2, 0, none⟩ = false
  isN : IsN W pt t
  bal : t.Bal
  no : some' = false → pre = [] ∧ t = l
  yes : some' = true → t.text ++ rest = l.text ++ flat pre ∧ 0 < rest.size
  hB : Below b w W

def MadeJ (w : World) (b : Nat) (l : T) (pre : List ByteArray) (W : World) : Prop := ∃ t pt rest some', MadeI w b l pre W t pt rest some'

theorem madeJ_own {w : World} {b B : Nat} {l : T} (hb : b ≤ w.heap.size) (hB : b ≤ B) : OwnFrom B (MadeJ w b l) := by
  rintro pre A B' row ⟨t, pt, rest, sm, h⟩ hg hr
  have hr' : ∀ r, row = some r → ∃ o : Obj, A.heap[r]? = some o ∧ o.isCells = false := fun r e => (hr r e).2
  exact ⟨t, pt, rest, sm, cell_kept h.c0 hg hr', cell_kept h.c1 hg hr', cell_kept h.c2 hg hr', (frozen_kept h.c0 hg hr').trans h.f0, (frozen_kept h.c1 hg hr').trans h.f1, (frozen_kept h.c2 hg hr').trans h.f2,
    h.isN.grown hg hr', h.bal, h.no, h.yes, h.hB.grown hg (Nat.le_trans hb h.hB.size) (fun k e => Nat.le_trans hB (hr k e).1)⟩

theorem madeJ_moves {w : World} {b : Nat} {l : T} (hb : b ≤ w.heap.size) (pre : List ByteArray) (A B : World) (hJ : MadeJ w b l pre A) (hm : MovesAt (b + 3) A B) : MadeJ w b l pre B := by
  obtain ⟨t, pt, rest, sm, h⟩ := hJ
  have k : ∀ j, j < 3 → B.heap[b + j]? = A.heap[b + j]? := fun j hj => hm.block _ (by have := World.block_lt_of_cell? A _ h.c2; simp only at this; omega) (by omega)
  have e0 : B.cell? ⟨b, 0, none⟩ = A.cell? ⟨b, 0, none⟩ := World.cell?_of_block (w := A) (a := ⟨b, 0, none⟩) (k 0 (by omega))
  have e1 : B.cell? ⟨b + 1, 0, none⟩ = A.cell? ⟨b + 1, 0, none⟩ := World.cell?_of_block (w := A) (a := ⟨b + 1, 0, none⟩) (k 1 (by omega))
  have e2 : B.cell? ⟨b + 2, 0, none⟩ = A.cell? ⟨b + 2, 0, none⟩ := World.cell?_of_block (w := A) (a := ⟨b + 2, 0, none⟩) (k 2 (by omega))
  have g0 : B.frozen? ⟨b, 0, none⟩ = A.frozen? ⟨b, 0, none⟩ := World.frozen?_of_block (w := A) (a := ⟨b, 0, none⟩) (k 0 (by omega))
  have g1 : B.frozen? ⟨b + 1, 0, none⟩ = A.frozen? ⟨b + 1, 0, none⟩ := World.frozen?_of_block (w := A) (a := ⟨b + 1, 0, none⟩) (k 1 (by omega))
  have g2 : B.frozen? ⟨b + 2, 0, none⟩ = A.frozen? ⟨b + 2, 0, none⟩ := World.frozen?_of_block (w := A) (a := ⟨b + 2, 0, none⟩) (k 2 (by omega))
  exact ⟨t, pt, rest, sm, e0.trans h.c0, e1.trans h.c1, e2.trans h.c2, g0.trans h.f0, g1.trans h.f1, g2.trans h.f2, h.isN.moves hm, h.bal, h.no, h.yes,
    h.hB.trans ⟨hm.os, hm.tape, hm.output, hm.size, fun i hi => hm.block i (Nat.lt_of_lt_of_le hi (Nat.le_trans hb h.hB.size)) (by omega)⟩⟩

theorem madeJ_next {w W : World} {b : Nat} {l t : T} {pt : Option Addr} {pre : List ByteArray} {x r0 : ByteArray} {sm : Bool}
    (c0 : W.cell? ⟨b, 0, none⟩ = some (.pointer pt)) (c1 : W.cell? ⟨b + 1, 0, none⟩ = some (.string r0)) (c2 : W.cell? ⟨b + 2, 0, none⟩ = some (.bool sm))
    (f0 : W.frozen? ⟨b, 0, none⟩ = false) (f1 : W.frozen? ⟨b + 1, 0, none⟩ = false) (f2 : W.frozen? ⟨b + 2, 0, none⟩ = false)
    (hN : IsN W pt t) (hb : t.Bal) (ht : t.text = l.text ++ flat pre) (hx : 0 < x.size) (hB : Below b w W) :
    MadeJ w b l (pre ++ [x]) ((W.setCell ⟨b + 1, 0, none⟩ (.string x)).setCell ⟨b + 2, 0, none⟩ (.bool true)) := by
  have c2' : (W.setCell ⟨b + 1, 0, none⟩ (.string x)).cell? ⟨b + 2, 0, none⟩ = some (.bool sm) := by rw [World.cell?_setCell_other _ _ _ _ (by simp)]; exact c2
  refine ⟨t, pt, x, true, ?_, ?_, ?_, ?_, ?_, ?_, ?_, hb, fun h => (by cases h), fun _ => ⟨by rw [flat_snoc, ht, ByteArray.append_assoc], hx⟩, (hB.setCell (p := ⟨b + 1, 0, none⟩) (Nat.le_succ _) _).setCell (p := ⟨b + 2, 0, none⟩) (by simp) _⟩
  · rw [World.cell?_setCell_other _ _ _ _ (by simp), World.cell?_setCell_other _ _ _ _ (by simp)]; exact c0
  · rw [World.cell?_setCell_other _ _ _ _ (by simp)]; exact World.cell?_setCell_same' _ _ _ (by rw [c1]; rfl)
  · exact World.cell?_setCell_same' _ _ _ (by rw [c2']; rfl)
  · rw [World.frozen?_setCell, World.frozen?_setCell]; exact f0
  · rw [World.frozen?_setCell, World.frozen?_setCell]; exact f1
  · rw [World.frozen?_setCell, World.frozen?_setCell]; exact f2
  · exact (hN.setCell (by intro z hz; rw [c1] at hz; cases hz) _).setCell (by intro z hz; rw [c2'] at hz; cases hz) _

theorem IsN.below' {B : Nat} {w w' : World} (hb : Below B w w') (hB : w.heap.size ≤ B) {t : T} {p : Option Addr} (h : IsN w p t) : IsN w' p t := h.below (hb.mono hB)

theorem keepsOthers_below {A B : World} (h : Below A.heap.size A B) : KeepsOthers A B := ⟨h.size, fun k _ hk _ => (h.block k (Array.getElem?_eq_some_iff.1 hk).1).trans hk⟩

/-- A tree of a text has come back, balanced. -/
def GotT (x : ByteArray) (w : World) (e : Ending) (w' : World) : Prop := ∃ p t, e = .returned (.pointer p) ∧ IsN w' p t ∧ t.Bal ∧ t.text = x ∧ Below w.heap.size w w'

set_option maxRecDepth 100000 in
set_option maxHeartbeats 4000000 in
theorem made_any (pl pr : Option Addr) (l r : T) (s : ByteArray) (w : World) (hl : IsN w pl l) (hr : IsN w pr r) (bl : l.Bal) (br : r.Bal) (h1 : l.sz + s.size + r.sz ≤ 549755813888) :
    Calls Tryd.prog 63 #[.pointer pl, .string s, .pointer pr] w (GotT (l.text ++ s ++ r.text) w) := by
  refine (callsIn_wide (n := 6)).1 ?_
  refine callsIn_of_wp_marks Tryd.func63 rfl trivial ?_ rfl
  simp only [Tryd.ntmps63, List.size_toArray, List.length_cons, List.length_nil, Nat.reduceAdd, Nat.reduceSub, Array.replicate_succ, Array.replicate_zero, List.push_toArray, List.append_toArray, List.nil_append, List.cons_append]
  gi_wp2_with (refine ⟨trivial, ?_⟩; gi_at_call 83; refine (callsIn_wide.2 (pieces_any s _)).mono ?_; rintro e w' ⟨rfl, rfl⟩)
  obtain ⟨w1, hw1⟩ : ∃ w1, ((((w.alloc (.cells #[.pointer pl] 85)).alloc (.cells #[.string { data := #[] }] 9)).alloc (.cells #[.bool false] 4)).alloc (.cells #[.string s] 9)) = w1 := ⟨_, rfl⟩
  have hB1 : Below w.heap.size w w1 := by rw [← hw1]; exact ((((Below.refl _ w).alloc (Nat.le_refl _) _).alloc (by simp) _).alloc (by simp; omega) _).alloc (by simp; omega) _
  have hz1 : w1.heap.size = w.heap.size + 4 := by rw [← hw1]; simp
  have hc0 : w1.cell? ⟨w.heap.size, 0, none⟩ = some (.pointer pl) := by rw [← hw1]; simp [go_sem]
  have hc1 : w1.cell? ⟨w.heap.size + 1, 0, none⟩ = some (.string { data := #[] }) := by rw [← hw1]; simp [go_sem]
  have hc2 : w1.cell? ⟨w.heap.size + 2, 0, none⟩ = some (.bool false) := by rw [← hw1]; simp [go_sem]
  have hc3 : w1.cell? ⟨w.heap.size + 3, 0, none⟩ = some (.string s) := by rw [← hw1]; simp [go_sem]
  have hf0 : w1.frozen? ⟨w.heap.size, 0, none⟩ = false := by rw [← hw1]; simp [go_sem]
  have hf1 : w1.frozen? ⟨w.heap.size + 1, 0, none⟩ = false := by rw [← hw1]; simp [go_sem]
  have hf2 : w1.frozen? ⟨w.heap.size + 2, 0, none⟩ = false := by rw [← hw1]; simp [go_sem]
  have hf3 : w1.frozen? ⟨w.heap.size + 3, 0, none⟩ = false := by rw [← hw1]; simp [go_sem]
  rw [hw1]
  clear hw1
  have hsz : l.text.size = l.sz := (sz_text l).symm
  refine wpIn_rangeFunc_B rfl (by omega) (gf := 90) (lb := #[.pointer (some ⟨w.heap.size + 3, 0, none⟩)]) rfl trivial (enters_of Tryd.func90 (by kernel_rfl) rfl)
    (by omega) (pieces_seq (6 - 1) (by omega) (w.heap.size + 3) s w1 hc3 hf3) (fun _ => rfl)
    (MadeJ w w.heap.size l) (madeJ_own (Nat.le_refl _) (by omega)) (madeJ_moves (Nat.le_refl _))
    ⟨l, pl, _, false, hc0, hc1, hc2, hf0, hf1, hf2, hl.below hB1, bl, fun _ => ⟨rfl, rfl⟩, fun h => (by cases h), hB1⟩
    (fun x => { tmps := #[.pointer pl, .string s, .pointer pr, .pointer (some ⟨w.heap.size, 0, none⟩), undef, undef, .pointer none, .pointer (some ⟨w.heap.size + 1, 0, none⟩), .pointer (some ⟨w.heap.size + 2, 0, none⟩), .string x, .string s,
      .func (.func 90) #[] #[.pointer (some ⟨w.heap.size + 3, 0, none⟩)], .string x, undef, undef, undef, undef, undef, undef, undef, undef, undef, undef, undef, undef, undef, undef, undef, undef, undef, undef, undef, undef, undef, undef], defers := [] }) ?assign ?body ?done
  case assign =>
    intro l x W K hK
    gi_wp2
    simpa using hK
  case body =>
    rintro lp pre x W ⟨t, pt, rest, sm, h⟩ ⟨hp, tl, htl⟩ hBnW
    obtain ⟨c0, c1, c2, f0, f1, f2, hN, hbal, hno, hyes, hB⟩ := h
    have hx0 : 0 < x.size := hp x (by simp)
    have hszs := congrArg ByteArray.size htl
    rw [flat_snoc, size_app, size_app] at hszs
    have HNO := Lib.hid hno
    have HYES := Lib.hid hyes
    have HTL := Lib.hid htl
    clear hno hyes htl hp
    cases sm with
    | false =>
      obtain ⟨rfl, rfl⟩ := HNO.out rfl
      gi_wp2_with (fail)
      refine ⟨(KeepsOthers.setCell _ _ _).trans (KeepsOthers.setCell _ _ _), ?_, ?_⟩
      · unfold SameBlk; rw [Below.heap_setCell _ _ _ _ (by simp), Below.heap_setCell _ _ _ _ (by simp)]
      · exact madeJ_next c0 c1 c2 f0 f1 f2 hN hbal (by rw [flat_nil, ByteArray.append_empty]) hx0 hB
    | true =>
      obtain ⟨hy1, hy2⟩ := HYES.out rfl
      have hy3 := congrArg ByteArray.size hy1
      rw [size_app, size_app, ← sz_text] at hy3
      have HY1 := Lib.hid hy1
      clear hy1 HNO HYES
      have k0 := World.block_lt_of_cell? W _ c0
      have k1 := World.block_lt_of_cell? W _ c1
      have k2 := World.block_lt_of_cell? W _ c2
      gi_wp2_with (refine ⟨trivial, ?_⟩; gi_at_call 81; refine (CallsIn.inRound lp (callsIn_wide.2 (join_any pt none t .nil rest W hN rfl hbal trivial hy2 (by simp only [T.sz]; omega)))).mono ?_; rintro e w2 ⟨p3, rfl, hn3, hb3⟩; have d0 := (hb3.cell k0).trans c0; have d1 := (hb3.cell k1).trans c1; have d2 := (hb3.cell k2).trans c2; have g0 := (hb3.frozen k0).trans f0; have g1 := (hb3.frozen k1).trans f1; have g2 := (hb3.frozen k2).trans f2)
      refine ⟨((keepsOthers_below hb3).trans (KeepsOthers.setCell _ _ _)).trans ((KeepsOthers.setCell _ _ _).trans (KeepsOthers.setCell _ _ _)), ?_, ?_⟩
      · unfold SameBlk; rw [Below.heap_setCell _ _ _ _ (by simp), Below.heap_setCell _ _ _ _ (by simp), Below.heap_setCell _ _ _ _ (by simp)]
        exact hb3.block _ hBnW
      · refine madeJ_next (pt := p3) (t := join t rest .nil) (r0 := rest) (sm := true) ?_ ?_ ?_ ?_ ?_ ?_ ?_ (join_bal hbal trivial hy2) (by rw [join_text, text_nil, ByteArray.append_empty]; exact HY1.out) hx0 ((hB.trans (hb3.mono hB.size)).setCell (p := ⟨w.heap.size, 0, none⟩) (Nat.le_refl _) _)
        · exact World.cell?_setCell_same' _ _ _ (by rw [d0]; rfl)
        · rw [World.cell?_setCell_other _ _ _ _ (by simp)]; exact d1
        · rw [World.cell?_setCell_other _ _ _ _ (by simp)]; exact d2
        · rw [World.frozen?_setCell]; exact g0
        · rw [World.frozen?_setCell]; exact g1
        · rw [World.frozen?_setCell]; exact g2
        · exact hn3.setCell (by intro z hz; rw [d0] at hz; cases hz) _
  case done =>
    rintro D xs W hD ⟨hp, hx⟩ ⟨t, pt, rest, sm, h⟩ hK
    obtain ⟨c0, c1, c2, f0, f1, f2, hN, hbal, hno, hyes, hB⟩ := h
    have HNO := Lib.hid hno
    have HYES := Lib.hid hyes
    have HX := Lib.hid hx
    clear hno hyes hp hx
    have k0 := World.block_lt_of_cell? W _ c0
    have k1 := World.block_lt_of_cell? W _ c1
    have hrW := hr.below' hB (Nat.le_refl _)
    cases sm with
    | true =>
      obtain ⟨hy1, hy2⟩ := HYES.out rfl
      rw [HX.out] at hy1
      have hy3 := congrArg ByteArray.size hy1
      rw [size_app, size_app, ← sz_text] at hy3
      have HY1 := Lib.hid hy1
      clear hy1 HNO HYES HX
      gi_wp2_with (refine ⟨trivial, ?_⟩; gi_at_call 81; refine (callsIn_wide.2 (join_any pt pr t r rest W hN hrW hbal br hy2 (by omega))).mono ?_; rintro e w2 ⟨p3, rfl, hn3, hb3⟩)
      have hK2 : w2.heap[D]? = some (.deferred (some [])) := (hb3.block D (Array.getElem?_eq_some_iff.1 hK).1).trans hK
      refine ⟨by simp, .inl ⟨_, _, rfl, run_takeDeferred hK2, ?_⟩⟩
      refine ⟨_, results_tmp rfl _ _ _, p3, _, rfl, hn3.put hK2, join_bal hbal br hy2, ?_, ?_⟩
      · rw [join_text, HY1.out]
      · exact (hB.trans (hb3.mono hB.size)).trans (belowK_b (w := w) (Nat.le_refl _) w2 D _ _ (by omega) hK2 rfl rfl)
    | false =>
      obtain ⟨rfl, rfl⟩ := HNO.out rfl
      have hs0 : s = ByteArray.empty := HX.out.symm
      subst hs0
      have hz0 : ByteArray.empty.size = 0 := rfl
      cases t with
      | nil =>
        obtain rfl : pt = none := hN
        gi_wp2_with (fail)
        refine ⟨by simp, .inl ⟨_, _, rfl, run_takeDeferred hK, ?_⟩⟩
        refine ⟨_, results_tmp rfl _ _ _, pr, r, rfl, hrW.put hK, br, ?_, ?_⟩
        · first
            | rfl
            | (rw [text_nil]; simp only [ByteArray.empty_append])
            | (rw [text_nil, ByteArray.empty_append])
        · exact hB.trans (belowK_b (w := w) (Nat.le_refl _) W D _ _ (by omega) hK rfl rfl)
      | node tl ts tr =>
        have hN' := hN
        obtain ⟨x, _, _, rfl, -, -, -⟩ := hN'
        have hl1 := last_all (.node tl ts tr)
        obtain ⟨hl3, hl4, -, -⟩ := hl1.2 hbal
        have hl5 := hl4 (by simp)
        have hl2 := congrArg ByteArray.size hl1.1
        rw [size_app, ← sz_text, ← sz_text] at hl2
        have HL1 := Lib.hid hl1.1
        clear hl1 hl4 HYES HX HNO
        have hla := last_any (.node tl ts tr) _ W hN hbal (by omega)
        obtain ⟨lt, hlt⟩ : ∃ lt, (last (.node tl ts tr)).1 = lt := ⟨_, rfl⟩
        obtain ⟨ls, hls⟩ : ∃ ls, (last (.node tl ts tr)).2 = ls := ⟨_, rfl⟩
        rw [hlt, hls] at hla hl2 HL1
        rw [hlt] at hl3
        rw [hls] at hl5
        clear hlt hls
        have HLA := Lib.hid hla
        clear hla
        gi_wp2_with (refine ⟨trivial, ?_⟩; gi_at_call 61; refine (callsIn_wide.2 HLA.out).mono ?_; rintro e w2 ⟨p2, rfl, hn2, hb2⟩; have d0 := (hb2.cell k0).trans c0; have d1 := (hb2.cell k1).trans c1; have g0 := (hb2.frozen k0).trans f0; have g1 := (hb2.frozen k1).trans f1)
        obtain ⟨w3, hw3⟩ : ∃ w3, (w2.setCell ⟨w.heap.size, 0, none⟩ (.pointer p2)).setCell ⟨w.heap.size + 1, 0, none⟩ (.string ls) = w3 := ⟨_, rfl⟩
        have e1 : (w2.setCell ⟨w.heap.size, 0, none⟩ (.pointer p2)).cell? ⟨w.heap.size + 1, 0, none⟩ = some (.string rest) := by rw [World.cell?_setCell_other _ _ _ _ (by simp)]; exact d1
        have hB3 : Below w.heap.size w w3 := by rw [← hw3]; exact ((hB.trans (hb2.mono hB.size)).setCell (p := ⟨w.heap.size, 0, none⟩) (Nat.le_refl _) _).setCell (p := ⟨w.heap.size + 1, 0, none⟩) (Nat.le_succ _) _
        have hn3 : IsN w3 p2 lt := by rw [← hw3]; exact (hn2.setCell (by intro z hz; rw [d0] at hz; cases hz) _).setCell (by intro z hz; rw [e1] at hz; cases hz) _
        have hr3 : IsN w3 pr r := hr.below' hB3 (Nat.le_refl _)
        have hK2 : w2.heap[D]? = some (.deferred (some [])) := (hb2.block D (Array.getElem?_eq_some_iff.1 hK).1).trans hK
        have hK3 : w3.heap[D]? = some (.deferred (some [])) := by
          rw [← hw3]
          exact ((KeepsOthers.setCell w2 ⟨w.heap.size, 0, none⟩ (.pointer p2)).trans (KeepsOthers.setCell _ ⟨w.heap.size + 1, 0, none⟩ (.string ls))).same _ _ hK2 rfl
        rw [hw3]
        refine ⟨trivial, ?_⟩
        refine (callsIn_wide.2 (join_any p2 pr lt r ls w3 hn3 hr3 hl3 br hl5 (by omega))).mono ?_
        rintro e w4 ⟨p4, rfl, hn4, hb4⟩
        gi_wp2_with (fail)
        have hK4 : w4.heap[D]? = some (.deferred (some [])) := (hb4.block D (Array.getElem?_eq_some_iff.1 hK3).1).trans hK3
        refine ⟨by simp, .inl ⟨_, _, rfl, run_takeDeferred hK4, ?_⟩⟩
        refine ⟨_, results_tmp rfl _ _ _, p4, _, rfl, hn4.put hK4, join_bal hl3 br hl5, ?_, ?_⟩
        · rw [join_text, HL1.out]
          try rw [ByteArray.append_empty]
        · exact (hB3.trans (hb4.mono hB3.size)).trans (belowK_b (w := w) (Nat.le_refl _) w4 D _ _ (by omega) hK4 rfl rfl)
end Go.Proofs.YtejipknbhiokeaaDoor

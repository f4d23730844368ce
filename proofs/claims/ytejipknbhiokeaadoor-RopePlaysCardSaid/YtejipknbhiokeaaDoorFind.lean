/-
  CONTRACT of Rope.Find.
-/
import Derived.Test.YtejipknbhiokeaaDoorLine
namespace Go.Proofs.YtejipknbhiokeaaDoor
open Go.RowKit Rp

theorem find_nil (k : Int) (w : World) : Calls Tryd.prog 36 #[.pointer none, .int .i64 k] w (Gives (.tuple #[.int .i64 0, .int .i64 8]) w) := by
  go_enter Tryd.func36, Tryd.ntmps36
  go_wp2_with (fail)
  go_ret2
  exact ⟨rfl, Below.refl _ _⟩

theorem find_out (q : Option Addr) (s : ByteArray) (i : Int) (w : World) (h : IsR w q s) (hi : i < 0 ∨ (s.size : Int) < i) : Calls Tryd.prog 36 #[.pointer q, .int .i64 i] w (Gives (.tuple #[.int .i64 0, .int .i64 5]) w) := by
  have h' := h
  obtain ⟨x, _, _, rfl, -, -, -, -, -⟩ := h'
  by_cases h0 : i < 0
  · have hd : decide (i < 0) = true := by simpa using h0
    go_enter Tryd.func36, Tryd.ntmps36
    go_wp2_with (fail)
    go_ret2
    exact ⟨rfl, Below.refl _ _⟩
  · have hd : decide (i < 0) = false := by simpa using h0
    have hd2 : decide ((s.size : Int) < i) = true := by simp; omega
    go_enter Tryd.func36, Tryd.ntmps36
    go_wp2_with (fail)
    refine (rlen_any _ s _ h).mono ?_
    rintro e w1 ⟨rfl, hb1⟩
    go_wp2_with (fail)
    go_ret2
    exact ⟨rfl, hb1⟩

set_option maxRecDepth 100000 in
set_option maxHeartbeats 4000000 in
theorem find_in (q : Option Addr) (s : ByteArray) (i : Nat) (w : World) (h : IsR w q s) (hi : i ≤ s.size) : Calls Tryd.prog 36 #[.pointer q, .int .i64 i] w (Gives (.tuple #[.int .i64 (Rp.lf (s.extract 0 i)), .int .i64 0]) w) := by
  have hs := h.size
  have hn := rlen_any q s w h
  have hlf := lf_le (s.extract 0 i)
  rw [ByteArray.size_extract] at hlf
  obtain ⟨x, p, t, rfl, hxc, hN, -, ht, -⟩ := h
  have hts : t.sz = s.size := by rw [sz_text, ht]
  obtain ⟨res, hres⟩ : ∃ res, Rp.lf (s.extract 0 i) = res := ⟨_, rfl⟩
  rw [hres] at hlf ⊢
  rw [← ht] at hres
  have HN := Lib.hid hn
  have HR := Lib.hid hres
  have HT := Lib.hid hts
  clear hn hres ht hts
  have hd : decide ((i : Int) < 0) = false := by simp
  have hd2 : decide ((s.size : Int) < (i : Int)) = false := by simp; omega
  have hd2' : decide (s.size < i) = false := by simp; omega
  have hxl := World.block_lt_of_cell? w _ hxc
  go_enter Tryd.func36, Tryd.ntmps36
  go_wp2_with (go_at_call 37; refine (HN.out).mono ?_; rintro e w1 ⟨rfl, hb1⟩; have hx1 := (hb1.cell hxl).trans hxc)
  go_loopw [1, 6, 7] (fun po pn px wr => ∃ (pc : Option Addr) (tc : T) (oc nc : Nat), px = .pointer pc ∧ po = .int .i64 oc ∧ pn = .int .i64 nc ∧ IsN wr pc tc ∧ oc ≤ tc.sz ∧ nc + Rp.lf (tc.text.extract 0 oc) = res ∧ nc + tc.lf ≤ 1048576 ∧ tc.sz ≤ 1048576 ∧ Below w.heap.size w wr)
    (fun _ _ px wr => dOf px wr)
  case atStart =>
    have := lf_sz t
    refine ⟨p, t, i, 0, rfl, rfl, rfl, hN.below hb1, by rw [HT.out]; exact hi, by rw [HR.out]; omega, ?_, ?_, hb1⟩
    · rw [HT.out] at this; omega
    · rw [HT.out]; exact hs
  case round =>
    obtain ⟨pc, tc, oc, nc, rfl, rfl, rfl, hNc, hoc, hE, hnc, hzc, hB⟩ := hrel
    have hdm := dOf_is hNc
    cases tc with
    | nil =>
      obtain rfl : pc = none := hNc
      have hE' : nc = res := by rw [text_nil, ext_none _ (by simp)] at hE; simpa [lf_nil] using hE
      subst hE'
      clear hE
      go_wp2_with (fail)
      go_ret2
      exact ⟨rfl, hB⟩
    | node l u r =>
      obtain ⟨y, pl, pr, rfl, hcy, hl, hr⟩ := hNc
      have hlt := hcy.lt
      have hz' : (T.node l u r).sz = l.sz + u.size + r.sz := rfl
      have hf' : (T.node l u r).lf = l.lf + Rp.lf u + r.lf := rfl
      have hd' : (T.node l u r).d = max l.d r.d + 1 := rfl
      rw [hz'] at hoc hzc
      rw [hf'] at hnc
      rw [text_node] at hE
      have q1 := lf_sz l
      have q2 := lf_le u
      have q3 := lf_sz r
      have HE := Lib.hid hE
      clear hE HN HR HT hd hd2 hd2' hlf hi hb1 hx1
      obtain ⟨-, -, c2, c3, c4, c5, c6, -⟩ := hcy
      go_wp2_with (fail)
      refine (all_any pl l _ hl).mono ?_
      rintro e w1 ⟨rfl, hb1⟩
      obtain ⟨w2, hw2⟩ : ∃ w2, w1.alloc (.cells #[.int .i64 l.sz, .int .i64 l.lf] 95) = w2 := ⟨_, rfl⟩
      have hB2 : Below wr.heap.size wr w2 := by rw [← hw2]; exact hb1.alloc hb1.size _
      have o0 : w2.cell? ⟨w1.heap.size, 0, none⟩ = some (.int .i64 l.sz) := by rw [← hw2]; simp [go_sem]
      have o1 : w2.cell? ⟨w1.heap.size, 1, none⟩ = some (.int .i64 l.lf) := by rw [← hw2]; simp [go_sem]
      obtain ⟨k2, k3, k4, -⟩ := keep2 hB2 hlt c2 c3 c4
      have k6 := (hB2.cell (p := ⟨y, 6, none⟩) hlt).trans c6
      have hB3 := hB.trans (hB2.mono hB.size)
      by_cases e1 : oc ≤ l.sz
      · have hd1 : decide (oc ≤ l.sz) = true := by simpa using e1
        have hd1' : decide ((oc : Int) ≤ (l.sz : Int)) = true := by simpa using e1
        go_wp2_with (fail)
        go_roundw
        case rel =>
          refine ⟨pl, l, oc, nc, rfl, rfl, rfl, hl.below hB2, e1, ?_, by omega, by omega, hB3⟩
          have := HE.out
          rwa [ext_app, ext_app, ext_none u (.inr (by rw [← sz_text]; omega)), ext_none r.text (.inr (by rw [size_app, ← sz_text]; omega)), ByteArray.append_empty, ByteArray.append_empty] at this
        case measure =>
          show dOf (.pointer pl) w2 < dOf (.pointer (some ⟨y, 0, none⟩)) wr
          rw [dOf_is (hl.below hB2), hdm, hd']
          omega
      · have hd1 : decide (oc ≤ l.sz) = false := by simpa using e1
        have hd1' : decide ((oc : Int) ≤ (l.sz : Int)) = false := by simpa using e1
        obtain ⟨j, rfl⟩ : ∃ j, oc = l.sz + j := ⟨oc - l.sz, by omega⟩
        have hsb : IntKind.i64.wrap (((l.sz + j : Nat) : Int) - (l.sz : Int)) = (j : Int) := (w64 (by omega) (by omega)).trans (by omega)
        by_cases e2 : j ≤ u.size
        · have hd2 : decide (j ≤ u.size) = true := by simpa using e2
          have hd2' : decide ((j : Int) ≤ (u.size : Int)) = true := by simpa using e2
          have hcl := lf_le (u.extract 0 j)
          rw [ByteArray.size_extract] at hcl
          have hE2 : nc + (l.lf + Rp.lf (u.extract 0 j)) = res := by
            have := HE.out
            rw [ext_app, ext_app, ext_all l.text (by rw [← sz_text]; omega), ext_none r.text (.inr (by rw [size_app, ← sz_text]; omega)), ByteArray.append_empty, lf_app, ← lf_text, ← sz_text] at this
            rwa [show u.extract (0 - l.sz) (l.sz + j - l.sz) = u.extract 0 j from by congr 1 <;> omega] at this
          have hc : ∀ W, Calls Tryd.prog 66 #[.string (u.extract 0 j), .string ⟨#[10]⟩] W fun e w' => e = .returned (.int .i64 (Rp.lf (u.extract 0 j))) ∧ w' = W := fun W => Tryd.strings_Count_one (u.extract 0 j) 10 W
          obtain ⟨cn, hcn⟩ : ∃ cn, Rp.lf (u.extract 0 j) = cn := ⟨_, rfl⟩
          rw [hcn] at hcl hc hE2
          have HC := Lib.hid hc
          clear hc
          go_wp2_with (fail)
          refine (HC.out _).mono ?_
          rintro e w3 ⟨rfl, rfl⟩
          go_wp2_with (fail)
          go_ret2
          refine ⟨?_, hB3⟩
          rw [← hE2]
          go_num
        · have hd2 : decide (j ≤ u.size) = false := by simpa using e2
          have hd2' : decide ((j : Int) ≤ (u.size : Int)) = false := by simpa using e2
          go_wp2_with (fail)
          go_roundw
          case rel =>
            refine ⟨pr, r, j - u.size, nc + l.lf + Rp.lf u, rfl, by go_num, by go_num, hr.below hB2, by omega, ?_, by omega, by omega, hB3⟩
            have := HE.out
            rw [ext_app, ext_app, ext_all l.text (by rw [← sz_text]; omega), ext_all' u (by rw [← sz_text]; omega) (by rw [← sz_text]; omega), size_app, ← sz_text, lf_app, lf_app, ← lf_text] at this
            rw [show r.text.extract 0 (j - u.size) = r.text.extract (0 - (l.sz + u.size)) (l.sz + j - (l.sz + u.size)) from by congr 1 <;> omega]
            omega
          case measure =>
            show dOf (.pointer pr) w2 < dOf (.pointer (some ⟨y, 0, none⟩)) wr
            rw [dOf_is (hr.below hB2), hdm, hd']
            omega
end Go.Proofs.YtejipknbhiokeaaDoor

/-
  PROVED HERE: the statement Rows.RopePlaysCardSaid: ropes that come of any edits tell what the document says, edit by edit; each stays as it was. No condition beyond the row's own.
-/
import Derived.Test.YtejipknbhiokeaaDoorPlays
import Derived.Test.YtejipknbhiokeaaDoorCards
import Derived.Test.YtejipknbhiokeaaDoorTie
namespace Go.Proofs.YtejipknbhiokeaaDoor.LawRopePlays
open Go.ChangeShapes Go.WideShapes Go.ChangeAt Go.RowKit
open Go.ChangeMaps (open_string shut_string)

theorem splice_both (q : Option Addr) (s : ByteArray) (pos del : Int) (ins : ByteArray) (w : World) (h : IsR w q s) (hok : EdOk (pos, del, ins)) :
    (∃ c : Int, c ≠ 0 ∧ (∀ W, Below w.heap.size w W → Calls Tryd.prog 34 #[.pointer q, ed pos del ins] W (Gives (.tuple #[.pointer none, .int .i64 c]) W)) ∧ ∀ W, Calls Tryd.prog 55 #[.string s, ed pos del ins] W (Gives (.tuple #[.string ByteArray.empty, .int .i64 c]) W)) ∨
    (∃ t : ByteArray, (∀ W, Below w.heap.size w W → Calls Tryd.prog 34 #[.pointer q, ed pos del ins] W fun e w' => ∃ y, e = .returned (.tuple #[.pointer (some y), .int .i64 0]) ∧ IsR w' (some y) t ∧ Below W.heap.size W w') ∧ ∀ W, Calls Tryd.prog 55 #[.string s, ed pos del ins] W (Gives (.tuple #[.string t, .int .i64 0]) W)) := by
  obtain ⟨⟨p1, p2⟩, ⟨d1, d2⟩, hm⟩ := hok
  dsimp only at p1 p2 d1 d2 hm
  have hs := h.size
  by_cases hx : pos < 0 ∨ del < 0 ∨ (s.size : Int) < pos ∨ (s.size : Int) - pos < del
  · exact .inl ⟨5, by decide, fun W hW => splice_out q s pos del ins W (h.below hW) p1 p2 hx, fun W => refsplice_out s pos del ins W hs p1 p2 hx⟩
  · obtain ⟨p, rfl⟩ := Int.eq_ofNat_of_zero_le (show 0 ≤ pos by omega)
    obtain ⟨d, rfl⟩ := Int.eq_ofNat_of_zero_le (show 0 ≤ del by omega)
    by_cases hl : 1048576 < ins.size ∨ 1048576 < s.size - d + ins.size
    · exact .inl ⟨2, by decide, fun W hW => splice_long q s p d ins W (h.below hW) (by omega) hl, fun W => refsplice_long s p d ins W hs (by omega) hl⟩
    · refine .inr ⟨_, fun W hW => (splice_ok q s p d ins W (h.below hW) (by omega) (by omega) (by omega)).mono ?_, fun W => refsplice_ok s p d ins W hs (by omega) (by omega) (by omega)⟩
      rintro e w' ⟨q', rfl, hr, hb⟩
      have hr' := hr
      obtain ⟨x, _, _, rfl, -⟩ := hr'
      exact ⟨_, rfl, hr, hb⟩

set_option maxRecDepth 100000 in
set_option maxHeartbeats 16000000 in
theorem walk (s : ByteArray) (v : Value) (l : List (Int × Int × ByteArray)) (at' kk a c : Int) (w : World) (_ : s.size ≤ maxLen) (hx : IsEdits w v l) (_ : -9223372036854775808 ≤ at' ∧ at' ≤ 9223372036854775807) (_ : -9223372036854775808 ≤ kk ∧ kk ≤ 9223372036854775807) (_ : -9223372036854775808 ≤ a ∧ a ≤ 9223372036854775807) (_ : -9223372036854775808 ≤ c ∧ c ≤ 9223372036854775807) (hw : Rows w) :
    Calls Tryd.prog 18 #[.string s, v, .int .i64 at', .int .i64 kk, .int .i64 a, .int .i64 c] w fun e w' => e = .returned (.bool true) ∧ Below w.heap.size w w' := by
  obtain ⟨p, cap, rfl, hv⟩ := edits_view hx
  obtain ⟨n, hn⟩ : ∃ n, l.length = n := ⟨_, rfl⟩
  rw [hn] at hv ⊢
  clear hx
  have HV := Lib.hid hv
  clear hv
  obtain ⟨ir, hir⟩ := Option.isSome_iff_exists.1 (show (Tryd.prog.info? 36).isSome = true by kernel_rfl)
  have rz0 := show (Tryd.prog.info? 36).bind (·.zero) = some (.pointer none) by kernel_rfl
  have rz1 := show (Tryd.prog.info? 36).map (·.size) = some 1 by kernel_rfl
  have rz2 := show (Tryd.prog.info? 36).map (·.bytes) = some 8 by kernel_rfl
  rw [hir] at rz0 rz1 rz2
  simp only [Option.bind_some, Option.map_some, Option.some.injEq] at rz0 rz1 rz2
  obtain ⟨it, hit⟩ := Option.isSome_iff_exists.1 (show (Tryd.prog.info? 9).isSome = true by kernel_rfl)
  have tz0 := show (Tryd.prog.info? 9).bind (·.zero) = some (.string ByteArray.empty) by kernel_rfl
  have tz1 := show (Tryd.prog.info? 9).map (·.size) = some 1 by kernel_rfl
  have tz2 := show (Tryd.prog.info? 9).map (·.bytes) = some 16 by kernel_rfl
  rw [hit] at tz0 tz1 tz2
  simp only [Option.bind_some, Option.map_some, Option.some.injEq] at tz0 tz1 tz2
  have stop : ∀ (W : World), Below w.heap.size w W → Calls Tryd.prog 42 #[] W (Gives (.bool true) W) := fun W hW => wakes2_any W (hw.below hW hw.size)
  have STOP := Lib.hid stop
  clear stop
  by_cases h0 : 65536 < s.size
  · have hd : decide ((65536 : Int) < (s.size : Int)) = true := decide_eq_true (by omega)
    have hd' : decide (65536 < s.size) = true := decide_eq_true h0
    go_enter Tryd.func18, Tryd.ntmps18
    go_wp2_with (fail)
    refine (STOP.out _ (Below.refl _ _)).mono ?_
    rintro e w2 ⟨rfl, b2⟩
    go_wp2_with (fail)
    go_ret
    exact ⟨rfl, b2⟩
  · have hd : decide ((65536 : Int) < (s.size : Int)) = false := decide_eq_false (by omega)
    have hd' : decide (65536 < s.size) = false := decide_eq_false h0
    by_cases h1 : 60 < n
    · have hd1 : decide ((60 : Int) < (n : Int)) = true := decide_eq_true (by omega)
      have hd1' : decide (60 < n) = true := decide_eq_true h1
      go_enter Tryd.func18, Tryd.ntmps18
      go_wp2_with (fail)
      refine (STOP.out _ (Below.refl _ _)).mono ?_
      rintro e w2 ⟨rfl, b2⟩
      go_wp2_with (fail)
      go_ret
      exact ⟨rfl, b2⟩
    · have hd1 : decide ((60 : Int) < (n : Int)) = false := decide_eq_false (by omega)
      have hd1' : decide (60 < n) = false := decide_eq_false h1
      go_enter Tryd.func18, Tryd.ntmps18
      go_wp2_with (fail)
      go_loopw [13] (fun vi wr => ∃ i : Nat, vi = .int .i64 i ∧ i ≤ n ∧ wr = w) (fun vi _ => n - (intOf vi).toNat)
      case atStart => exact ⟨0, rfl, Nat.zero_le _, rfl⟩
      case round =>
        obtain ⟨i, rfl, hi, hwr⟩ := hrel
        have hwr' := hwr.symm
        subst hwr'
        clear hwr
        by_cases hlt : i < n
        · have e1 : decide ((i : Int) < (n : Int)) = true := decide_eq_true (by omega)
          have e1' : decide (i < n) = true := decide_eq_true hlt
          obtain ⟨b, o, pos, del, ins, rfl, hcap, hbb, -, hok, c0, c1, c2⟩ := HV.out i hlt
          have hm := hok.2.2
          dsimp only at hm
          clear hok c0 c1
          by_cases h2 : 16384 < ins.size
          · have e2 : decide ((16384 : Int) < (ins.size : Int)) = true := decide_eq_true (by omega)
            have e2' : decide (16384 < ins.size) = true := decide_eq_true h2
            go_wp2_with (fail)
            refine (STOP.out _ (Below.refl _ _)).mono ?_
            rintro e w2 ⟨rfl, b2⟩
            go_wp2_with (fail)
            go_ret
            exact ⟨rfl, b2⟩
          · have e2 : decide ((16384 : Int) < (ins.size : Int)) = false := decide_eq_false (by omega)
            have e2' : decide (16384 < ins.size) = false := decide_eq_false h2
            go_wp2_with (fail)
            go_roundw
            case rel => exact ⟨i + 1, by go_num, by omega, trivial⟩
            case measure => simp [intOf]; omega
        · obtain rfl : i = n := by omega
          have e1 : decide ((i : Int) < (i : Int)) = false := by simp
          go_wp2_with (fail)
          refine (of_short s _ (by omega)).mono ?_
          rintro e w1 ⟨q, rfl, i1, b1⟩
          obtain ⟨w2, hw2⟩ : ∃ w2, (w1.alloc (.cells #[.pointer q] 36)).alloc (.cells #[.string s] 9) = w2 := ⟨_, rfl⟩
          have b2 : Below w1.heap.size w1 w2 := by rw [← hw2]; exact ((Below.refl _ _).alloc (Nat.le_refl _) _).alloc (by simp) _
          have hbw := b1.size
          have T0 : Two w.heap.size [(q, s)] (.slice (some ⟨w1.heap.size, 0, none⟩) 1 1) (.slice (some ⟨w1.heap.size + 1, 0, none⟩) 1 1) w2 := by
            refine ⟨⟨rfl, .inr ⟨_, 1, #[.pointer q], rfl, hbw, ?_, Nat.le_refl _, by decide, rfl, rfl⟩⟩, ⟨rfl, .inr ⟨_, 1, #[.string s], rfl, by omega, ?_, Nat.le_refl _, by decide, rfl, rfl⟩⟩, fun x hx => ?_⟩
            · rw [← hw2]; exact (Below.heap_alloc _ _ _ (by simp)).trans (World.alloc_heap_new w1 _)
            · rw [← hw2]; have := World.alloc_heap_new (w1.alloc (.cells #[.pointer q] 36)) (.cells #[.string s] 9); rwa [World.size_alloc] at this
            · rw [List.mem_singleton.1 hx]; exact i1.below b2
          have I2 := i1.below b2
          have B2 := b1.trans (b2.mono b1.size)
          go_wp2_with (fail)
          clear hw2 b2 i1
          go_loopw [0, 14, 15, 16, 17] (fun vs vr vl vt vj wx => ∃ (j : Nat) (r : Option Addr) (t : ByteArray) (L : List (Option Addr × ByteArray)), vs = .string t ∧ vr = .pointer r ∧ vj = .int .i64 j ∧ j ≤ i ∧ L ≠ [] ∧ L.length ≤ j + 1 ∧ IsR wx r t ∧ Two w.heap.size L vl vt wx ∧ Below w.heap.size w wx) (fun _ _ _ _ vj _ => i - (intOf vj).toNat)
          case atStart => exact ⟨0, q, s, [(q, s)], rfl, rfl, rfl, Nat.zero_le _, by simp, by simp, I2, T0, B2⟩
          case round =>
            obtain ⟨j, r, t, L, rfl, rfl, rfl, hj, hLn, hLl, hr, hT, hB⟩ := hrel
            have R := Lib.hid hr
            have TT := Lib.hid hT
            clear I2 T0 B2 hr hT
            by_cases hlt2 : j < i
            · have g1 : decide ((j : Int) < (i : Int)) = true := decide_eq_true (by omega)
              have g1' : decide (j < i) = true := decide_eq_true hlt2
              obtain ⟨b, o, pos, del, ins, rfl, hcap, hbb, -, hok, c0, c1, c2⟩ := HV.out j hlt2
              have k0 := (hB.cell (p := ⟨b, o + j * 3, none⟩) hbb).trans c0
              have k1 := (hB.cell (p := ⟨b, o + j * 3 + 1, none⟩) hbb).trans c1
              have k2 := (hB.cell (p := ⟨b, o + j * 3 + 2, none⟩) hbb).trans c2
              clear c0 c1 c2
              rcases splice_both r t pos del ins _ R.out hok with ⟨cd, hcd, s1, s2⟩ | ⟨t', s1, s2⟩
              · unfold ed at s1 s2
                have S1 := Lib.hid s1
                have S2 := Lib.hid s2
                have e3 : (cd == 0) = false := by simpa using hcd
                have e4 : decide (cd = 0) = false := by simpa using hcd
                have e5 : (cd != 0) = true := by simpa using hcd
                clear s1 s2 hok hcd
                go_wp2_with (fail)
                refine (S1.out _ (Below.refl _ _)).mono ?_
                rintro e w3 ⟨rfl, b3⟩
                have C3 := hB.trans (b3.mono hB.size)
                have k0' := (b3.cell (World.block_lt_of_cell? _ _ k0)).trans k0
                have k1' := (b3.cell (World.block_lt_of_cell? _ _ k1)).trans k1
                have k2' := (b3.cell (World.block_lt_of_cell? _ _ k2)).trans k2
                go_wp2_with (fail)
                refine (S2.out _).mono ?_
                rintro e w4 ⟨rfl, b4⟩
                have b34 := b3.trans (b4.mono b3.size)
                go_wp2_with (fail)
                refine ⟨⟨j + 1, r, t, L, rfl, rfl, by go_num, by omega, hLn, by omega, R.out.below b34, TT.out.below b34, hB.trans (b34.mono hB.size)⟩, ?_⟩
                simp [intOf]; omega
              · unfold ed at s1 s2
                have S1 := Lib.hid s1
                have S2 := Lib.hid s2
                clear s1 s2 hok
                go_wp2_with (fail)
                refine (S1.out _ (Below.refl _ _)).mono ?_
                rintro e w3 ⟨y, rfl, i3, b3⟩
                have C3 := hB.trans (b3.mono hB.size)
                have I3 := Lib.hid i3
                have k0' := (b3.cell (World.block_lt_of_cell? _ _ k0)).trans k0
                have k1' := (b3.cell (World.block_lt_of_cell? _ _ k1)).trans k1
                have k2' := (b3.cell (World.block_lt_of_cell? _ _ k2)).trans k2
                clear i3
                go_wp2_with (fail)
                refine (S2.out _).mono ?_
                rintro e w4 ⟨rfl, b4⟩
                have b34 := b3.trans (b4.mono b3.size)
                go_wp2_with (fail)
                refine (tells_any (some y) t' at' kk a c _ (I3.out.below b4)).mono ?_
                rintro e w5 ⟨rfl, b5⟩
                have b45 := b4.trans (b5.mono b4.size)
                have b35 := b3.trans (b45.mono b3.size)
                have C5 := hB.trans (b35.mono hB.size)
                have T5 := TT.out.below b35
                have I5 := I3.out.below b45
                have hown := T5.ropes
                have hz5 := C5.size
                go_wp2_with (first
                  | (at_builtin; go_loud (refine wpList_append_own _ rfl _ _ 71 rfl w.heap.size 36 ir (.pointer none) 1 8 Tryd.underlying71 hir rz0 rz1 rz2 rfl (by decide) _ _ _ rfl (hown.alloc _) ⟨w5.heap.size, 0, none⟩ 1 1 [.pointer (some y)] rfl rfl ?c1 ?c2 ?c3 ?c4 ?c5 ?_)))
                case c1 =>
                  intro j' u hj'
                  match j', hj' with
                  | 0, h => simp at h; subst h; simp [Addr.add, go_sem]
                case c2 => intro u hu; simp at hu; subst hu; rfl
                case c3 => unfold maxLen; omega
                case c4 => omega
                case c5 => simp; omega
                · intro vr' w6 hown6 hg6 _
                  have hB6 : Below w.heap.size w w6 := (C5.alloc C5.size _).grown hg6 (by simp; omega) (fun k e => (hown.lt k e).1)
                  have TA : Two w.heap.size L u15 u16 (w5.alloc (.cells #[.pointer (some y)] 36)) := T5.below ((Below.refl _ _).alloc (Nat.le_refl _) _)
                  obtain ⟨t1, t2, t3⟩ := TA.rope hLn (I5.below ((Below.refl _ _).alloc (Nat.le_refl _) _)) hg6 hown6
                  have hz6 := hB6.size
                  clear TA T5 hown hg6 b3 b4 b5 b34 b45 b35
                  go_wp2_with (first
                    | (at_builtin; go_loud (refine wpList_append_own _ rfl _ _ 72 rfl w.heap.size 9 it (.string ByteArray.empty) 1 16 Tryd.underlying72 hit tz0 tz1 tz2 rfl (by decide) _ _ _ rfl (t1.alloc _) ⟨w6.heap.size, 0, none⟩ 1 1 [.string t'] rfl rfl ?c1 ?c2 ?c3 ?c4 ?c5 ?_)))
                  case c1 =>
                    intro j' u hj'
                    match j', hj' with
                    | 0, h => simp at h; subst h; simp [Addr.add, go_sem]
                  case c2 => intro u hu; simp at hu; subst hu; rfl
                  case c3 => unfold maxLen; omega
                  case c4 => omega
                  case c5 => simp; omega
                  · intro vt' w7 hown7 hg7 _
                    have hB7 : Below w.heap.size w w7 := (hB6.alloc hB6.size _).grown hg7 (by simp; omega) (fun k e => (t1.lt k e).1)
                    have bA : Below w6.heap.size w6 (w6.alloc (.cells #[.string t'] 9)) := (Below.refl _ _).alloc (Nat.le_refl _) _
                    obtain ⟨T7, I7⟩ := two_text (W := w6.alloc (.cells #[.string t'] 9)) hLn (hown6.alloc _) (t1.alloc _) (fun x hx => (t2 x hx).below bA) (t3.below bA) hg7 hown7
                    clear t1 t2 t3 hown6 hown7 hg7 bA
                    go_wp2_with (fail)
                    refine ⟨⟨j + 1, some y, t', L ++ [(some y, t')], rfl, rfl, by go_num, by omega, by simp, by simp; omega, I7, T7, hB7⟩, ?_⟩
                    simp [intOf]; omega
            · obtain rfl : j = i := by omega
              have g1 : decide ((j : Int) < (j : Int)) = false := by simp
              have RT := TT.out.ropes
              rcases RT.2 with ⟨hvl, h00⟩ | ⟨gr, cr, curR, rfl, hR⟩
              · exact absurd (List.length_eq_zero_iff.1 h00) hLn
              have TX := TT.out.texts
              rcases TX.2 with ⟨hvl, h00⟩ | ⟨gt, ct, curT, rfl, hT⟩
              · exact absurd (List.length_eq_zero_iff.1 h00) hLn
              clear RT TX hR hT
              obtain ⟨m, hm⟩ : ∃ m, L.length = m := ⟨_, rfl⟩
              have HM := Lib.hid hm
              rw [hm] at hLl
              have hmb : m ≤ 61 := by omega
              rw [hm]
              clear hm
              go_wp2_with (fail)
              go_loopw [22] (fun vi wx => ∃ z : Nat, vi = .int .i64 z ∧ z ≤ m ∧ Below wr.heap.size wr wx) (fun vi _ => m - (intOf vi).toNat)
              case atStart => exact ⟨0, rfl, Nat.zero_le _, Below.refl _ _⟩
              case round =>
                obtain ⟨z, rfl, hz, hx3⟩ := hrel
                have HX := Lib.hid hx3
                have B3 := Lib.hid (hB.trans (hx3.mono hB.size))
                by_cases hzm : z < m
                · have y1 : decide ((z : Int) < (m : Int)) = true := decide_eq_true (by omega)
                  have y1' : decide (z < m) = true := decide_eq_true hzm
                  have hT2 := TT.out.below hx3
                  have hzl : z < L.length := by rw [HM.out]; exact hzm
                  have hel := List.getElem?_eq_getElem hzl
                  obtain ⟨⟨rq, rt⟩, hrq⟩ : ∃ x, L[z] = x := ⟨_, rfl⟩
                  rw [hrq] at hel
                  have hQ := hT2.all (rq, rt) (by rw [← hrq]; exact List.getElem_mem hzl)
                  have q0 := hT2.ropes.cells (g := gr) rfl z (.pointer rq) (by rw [List.getElem?_map, hel]; rfl)
                  have q1 := hT2.texts.cells (g := gt) rfl z (.string rt) (by rw [List.getElem?_map, hel]; rfl)
                  rw [add_none, Nat.zero_add] at q0 q1
                  clear hT2 hzl hel hrq hx3
                  have hcq := hQ.size
                  have Q := Lib.hid hQ
                  have ge := World.block_lt_of_cell? _ _ q0
                  have gf := World.block_lt_of_cell? _ _ q1
                  have QS := Lib.hid (fun W (hW : Below wr.heap.size wr W) => (⟨(hW.cell ge).trans q0, (hW.cell gf).trans q1, hW⟩ : W.cell? ⟨gr, z, none⟩ = some (.pointer rq) ∧ W.cell? ⟨gt, z, none⟩ = some (.string rt) ∧ Below wr.heap.size wr W))
                  have hBq : Below wr.heap.size wr wr := Below.refl _ _
                  go_wp2_with (fail)
                  go_region_held3 (fun w' => w'.cell? ⟨gr, z, none⟩ = some (.pointer rq) ∧ w'.cell? ⟨gt, z, none⟩ = some (.string rt) ∧ Below wr.heap.size wr w')
                    (exact QS.out _ (by first | assumption | exact Below.drew (by assumption)))
                    (first
                      | (go_at_call 38; refine (Gives.at (w0 := wr) (by first | assumption | exact Below.drew (by assumption)) (text_any rq rt _ (Q.out.below (by first | assumption | exact Below.drew (by assumption))))).mono ?_; rintro e w5 ⟨rfl, b5, C5⟩)
                      | (go_at_call 37; refine (Gives.at (w0 := wr) (by first | assumption | exact Below.drew (by assumption)) (rlen_any rq rt _ (Q.out.below (by first | assumption | exact Below.drew (by assumption))))).mono ?_; rintro e w5 ⟨rfl, b5, C5⟩)
                      | (go_at_call 40; refine (Gives.at (w0 := wr) (by first | assumption | exact Below.drew (by assumption)) (rsteps_any rq rt _ (Q.out.below (by first | assumption | exact Below.drew (by assumption))) (hw.below (B3.out.trans (Below.mono (by first | assumption | exact Below.drew (by assumption)) B3.out.size)) hw.size))).mono ?_; rintro e w5 ⟨rfl, b5, C5⟩)
                      | (go_at_call 54; refine (Gives.at (w0 := wr) (by first | assumption | exact Below.drew (by assumption)) (refsteps_any rt _ (by unfold maxLen; omega))).mono ?_; rintro e w5 ⟨rfl, b5, C5⟩))
                  all_goals
                    go_wp2_with (fail)
                    go_roundw
                    case rel => exact ⟨z + 1, by go_num, by omega, HX.out.trans (C5.mono HX.out.size)⟩
                    case measure => simp [intOf]; omega
                · obtain rfl : z = m := by omega
                  have y1 : decide ((z : Int) < (z : Int)) = false := by simp
                  go_wp2_with (fail)
                  refine (STOP.out _ B3.out).mono ?_
                  rintro e w5 ⟨rfl, b5⟩
                  go_wp2_with (fail)
                  go_ret
                  exact ⟨rfl, B3.out.trans (b5.mono B3.out.size)⟩

set_option maxRecDepth 100000 in
theorem contract (H : Type) (enc : TypeId × Value → H) (W : World) (base : Nat) (args : Array Value) (ds gs : List (DataW H)) (before : List MemPlace)
    (hval : ∀ (j : Nat) t v, Tryd.f18.params[j]? = some t → args[j]? = some v → Value.okWide Tryd.prog W .any base t v)
    (hW : DataW.Whole enc Tryd.prog Tryd.f18.params.toList Rows.ropePlaysSpec.vars false W args.toList ds gs before) (hL : laidMetH Tryd.prog Rows.ropePlaysRow.laid W) :
    Calls Tryd.prog 18 args W fun e W' => ∃ v, e = .returned v ∧ Rows.ropePlaysSpec.post enc Tryd.prog Tryd.f18 false true false false W args v W' := by
  have hW' := hW
  obtain ⟨p, q, hA0, hV, rfl, hfz, hnd⟩ := hW
  have hA : DataW.TrodAll enc Tryd.prog W 0 (fun _ => true) true Tryd.f18.params.toList args.toList ds p := hA0
  rw [Tryd.params18] at hA hval
  obtain ⟨v0, vs0, d0, ds0, p0, q0, hargs, rfl, rfl, h0, r0⟩ := trodAll_cons hA
  obtain ⟨v1, vs1, d1, ds1, p1, q1, rfl, rfl, rfl, h1, r1⟩ := trodAll_cons r0
  obtain ⟨v2, vs2, d2, ds2, p2, q2, rfl, rfl, rfl, h2, r2⟩ := trodAll_cons r1
  obtain ⟨v3, vs3, d3, ds3, p3, q3, rfl, rfl, rfl, h3, r3⟩ := trodAll_cons r2
  obtain ⟨v4, vs4, d4, ds4, p4, q4, rfl, rfl, rfl, h4, r4⟩ := trodAll_cons r3
  obtain ⟨v5, vs5, d5, ds5, p5, q5, rfl, rfl, rfl, h5, r5⟩ := trodAll_cons r4
  obtain ⟨rfl, rfl, rfl⟩ := trodAll_nil r5
  obtain rfl : args = #[v0, v1, v2, v3, v4, v5] := by cases args; simp_all
  obtain ⟨rfl, rfl⟩ := trodVars_none hV
  obtain ⟨x0, rfl, rfl, rfl, hs0⟩ := open_string Tryd.underlying9 (hval 0 9 v0 rfl rfl) h0
  have hk1 := h1
  obtain ⟨x1, hx1⟩ := open_edits (hval 1 53 v1 rfl rfl) h1
  obtain ⟨x2, rfl, rfl, rfl, wx2⟩ := open_int Tryd.underlying3 (hval 2 3 v2 rfl rfl) h2
  have bx2 := bounds_i64 wx2
  obtain ⟨x3, rfl, rfl, rfl, wx3⟩ := open_int Tryd.underlying3 (hval 3 3 v3 rfl rfl) h3
  have bx3 := bounds_i64 wx3
  obtain ⟨x4, rfl, rfl, rfl, wx4⟩ := open_int Tryd.underlying3 (hval 4 3 v4 rfl rfl) h4
  have bx4 := bounds_i64 wx4
  obtain ⟨x5, rfl, rfl, rfl, wx5⟩ := open_int Tryd.underlying3 (hval 5 3 v5 rfl rfl) h5
  have bx5 := bounds_i64 wx5
  refine (walk x0 v1 x1 x2 x3 x4 x5 W hs0 hx1 bx2 bx3 bx4 bx5 (table hL)).mono fun e W' ⟨he, hg⟩ => ?_
  subst he
  refine ⟨_, rfl, _, _, _, [], ([] ++ (p1 ++ ([] ++ ([] ++ ([] ++ ([] ++ [])))))), [], hW', ?_, ?_, ?_, hg.frame _, fun h => by cases h⟩
  · exact trodAll_cons_mk (shut_bool Tryd.underlying4 _) trodAll_mk0
  · exact trodAll_cons_mk (shut_string Tryd.underlying9 hs0) (trodAll_cons_mk (Below.trod laidOut (by kernel_rfl) (of_decide_eq_true (by kernel_rfl)) hk1 hg (fun x hx => by simpa using hW'.lt x (by simp [hx]))) (trodAll_cons_mk (shut_int Tryd.underlying3 wx2) (trodAll_cons_mk (shut_int Tryd.underlying3 wx3) (trodAll_cons_mk (shut_int Tryd.underlying3 wx4) (trodAll_cons_mk (shut_int Tryd.underlying3 wx5) trodAll_mk0)))))
  · rfl

theorem laid_met (os : Os) : laidMet Tryd.prog Rows.ropePlaysRow.laid ((laidWorld os).forCall (fun _ _ => 0) ⟨#[], #[.string ByteArray.empty, .slice none 0 0, .int .i64 0, .int .i64 0, .int .i64 0, .int .i64 0], []⟩).memory :=
  laidMet_of_run' 8 (by kernel_rfl) (by kernel_rfl)
theorem reads (os : Os) {H : Type} (enc : TypeId × Value → H) : ∃ places, DataW.whole enc Tryd.prog ((laidWorld os).forCall (fun _ _ => 0) ⟨#[], #[.string ByteArray.empty, .slice none 0 0, .int .i64 0, .int .i64 0, .int .i64 0, .int .i64 0], []⟩).memory Tryd.f18.params.toList Rows.ropePlaysSpec.vars false (#[.string ByteArray.empty, .slice none 0 0, .int .i64 0, .int .i64 0, .int .i64 0, .int .i64 0] : Array Value).toList 8 = some ([.lit (.string []), .nil, .lit (.int .i64 0), .lit (.int .i64 0), .lit (.int .i64 0), .lit (.int .i64 0)], [], places) :=
  ⟨[], by kernel_rfl⟩

set_option maxRecDepth 100000 in
theorem lifted (os : Os) (started : os.Started) (H : Type) (enc : TypeId × Value → H) (F : Stop.Interp) :
    ReturnsInHanded {} Tryd.checked os 18 .any ((OpenSpec.ofChange Rows.ropePlaysSpec).preRow enc Tryd.prog Tryd.f18 Rows.ropePlaysRow.domain false Rows.ropePlaysRow.laid) (((OpenSpec.ofChange Rows.ropePlaysSpec).at F).post enc Tryd.prog Tryd.f18 false true false false) := by
  obtain ⟨places, hx⟩ := reads os enc
  refine returnsInHanded_of_row (C := Tryd.checked) (s := OpenSpec.ofChange Rows.ropePlaysSpec) own started (by kernel_rfl) Tryd.func18
    (witness_row_at (enc := enc) (C := Tryd.checked) false (laidWorld os) #[.string ByteArray.empty, .slice none 0 0, .int .i64 0, .int .i64 0, .int .i64 0, .int .i64 0] rfl (by kernel_rfl) (by kernel_rfl) (by kernel_rfl)
      (OpenSpec.preRow_of_cond 8 hx (by kernel_rfl) (fun k hk => by cases hk) (by kernel_rfl) (laid_met os))) ?_
  intro W base args ds gs before hval hW _ _ _ hL _ _
  exact contract H enc W base args ds gs before hval hW hL

theorem said : Rows.RopePlaysSaid :=
  OpenClaim.holds_of_cond 18 Tryd.f18 rfl rfl rfl rfl rfl rfl rfl ⟨rfl, rfl, rfl, rfl, rfl⟩ rfl rfl rfl rfl rfl (by kernel_rfl) Tryd.func18 (by kernel_rfl)
    (of_decide_eq_true (by kernel_rfl)) (by unfold Func.isWrapper; first | (rw [if_pos (by decide +kernel)]; kernel_rfl) | (rw [if_neg (by decide +kernel)]; exact ⟨rfl, rfl⟩))
    (fun os started H enc _ F => by rw [OpenClaim.pre_eq_preRow]; exact lifted os started H enc F)

theorem plain (f : FuncId) (fn : Func) (hf : Tryd.pinned.checked.prog.funcNamed "indenture/indenturelaw02.RopePlays" = some f) (hfn : Tryd.pinned.checked.prog.funcs[f]? = some fn) :
    false = Tryd.pinned.checked.prog.looks [] ∧ ∀ (j : Nat) t, fn.params[j]? = some t → Tryd.pinned.checked.prog.wantsStandIn t = false := by
  obtain rfl : f = 18 := Option.some.inj ((show Tryd.prog.funcNamed "indenture/indenturelaw02.RopePlays" = some 18 by kernel_rfl).symm.trans hf) |>.symm
  obtain rfl : fn = Tryd.f18 := (Option.some.inj (Tryd.func18.symm.trans hfn)).symm
  refine ⟨by kernel_rfl, fun j t ht => ?_⟩
  rw [Tryd.params18] at ht
  have ht' := Array.mem_of_getElem? ht
  have hd : t = 9 ∨ t = 53 ∨ t = 3 ∨ t = 3 ∨ t = 3 ∨ t = 3 := by simpa using ht'
  rcases hd with rfl | rfl | rfl | rfl | rfl | rfl
  · exact (show Tryd.prog.wantsStandIn 9 = false by kernel_rfl)
  · exact (show Tryd.prog.wantsStandIn 53 = false by kernel_rfl)
  · exact (show Tryd.prog.wantsStandIn 3 = false by kernel_rfl)
  · exact (show Tryd.prog.wantsStandIn 3 = false by kernel_rfl)
  · exact (show Tryd.prog.wantsStandIn 3 = false by kernel_rfl)
  · exact (show Tryd.prog.wantsStandIn 3 = false by kernel_rfl)

/-- THE CARD. -/
theorem card : Rows.RopePlaysCardSaid :=
  Claim7.holds_tied_plain_at .later [] _ _ _ _ said (fun _ h => by cases h) (by kernel_rfl) (fun _ h => by cases h) ropePlays_row_tie rfl ⟨rfl, rfl⟩ (by kernel_rfl) rfl plain (by kernel_rfl)
#print axioms card
end Go.Proofs.YtejipknbhiokeaaDoor.LawRopePlays

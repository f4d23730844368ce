/-
  CONTRACT of rope.behind.
-/
import Derived.Test.YtejipknbhiokeaaDoorSplice
import Derived.Test.YtejipknbhiokeaaDoorPlain6
import Derived.LoopTactic
namespace Go.Proofs.YtejipknbhiokeaaDoor
open Go.RowKit Rp

/-- How deep the node is, that the value points to. -/
def dOf (v : Value) (w : World) : Nat :=
  match v with
  | .pointer (some a) => match w.cell? ⟨a.block, 7, none⟩ with | some (.int _ n) => n.toNat | _ => 0
  | _ => 0
theorem dOf_is {w : World} {p : Option Addr} {t : T} (h : IsN w p t) : dOf (.pointer p) w = t.d := by
  cases t with
  | nil =>
    obtain rfl : p = none := h
    rfl
  | node l s r =>
    obtain ⟨b, pl, pr, rfl, ⟨-, -, -, -, -, -, -, c7⟩, -, -⟩ := h
    simp only [dOf, c7]
    rfl

theorem behind_zero (p : Option Addr) (w : World) : Calls Tryd.prog 64 #[.pointer p, .int .i64 0] w (Gives (.int .i64 0) w) := by
  go_enter Tryd.func64, Tryd.ntmps64
  go_wp2_with (fail)
  go_ret
  exact ⟨rfl, Below.refl _ _⟩

set_option maxRecDepth 100000 in
set_option maxHeartbeats 4000000 in
theorem behind_any (p : Option Addr) (t : T) (k : Nat) (w : World) (h : IsN w p t) (hk0 : 0 < k) (hk : k ≤ t.lf) (hz : t.sz ≤ 1048576) : Calls Tryd.prog 64 #[.pointer p, .int .i64 k] w (Gives (.int .i64 (bh t.text k)) w) := by
  have hd0 : ((k : Int) == 0) = false := by simp; omega
  have hb := bh_le t.text k
  rw [← sz_text] at hb
  obtain ⟨res, hres⟩ : ∃ res, bh t.text k = res := ⟨_, rfl⟩
  rw [hres] at hb ⊢
  go_enter Tryd.func64, Tryd.ntmps64
  go_wp2_with (fail)
  go_loopw [0, 1, 5] (fun px pk pa wr => ∃ (pc : Option Addr) (tc : T) (kc ac : Nat), px = .pointer pc ∧ pk = .int .i64 kc ∧ pa = .int .i64 ac ∧ IsN wr pc tc ∧ 0 < kc ∧ kc ≤ tc.lf ∧ ac + tc.sz ≤ 1048576 ∧ ac + bh tc.text kc = res ∧ Below w.heap.size w wr)
    (fun px _ _ wr => dOf px wr)
  case atStart =>
    exact ⟨p, t, k, 0, rfl, rfl, rfl, h, hk0, hk, by omega, by omega, Below.refl _ _⟩
  case round =>
    obtain ⟨pc, tc, kc, ac, rfl, rfl, rfl, hN, hkc0, hkc, hzc, hE, hB⟩ := hrel
    have hdm := dOf_is hN
    cases tc with
    | nil => simp only [T.lf] at hkc; omega
    | node l s r =>
      obtain ⟨x, pl, pr, rfl, hcx, hl, hr⟩ := hN
      have hlt := hcx.lt
      have hz' : (T.node l s r).sz = l.sz + s.size + r.sz := rfl
      have hf' : (T.node l s r).lf = l.lf + Rp.lf s + r.lf := rfl
      have hd' : (T.node l s r).d = max l.d r.d + 1 := rfl
      rw [hz'] at hzc
      rw [hf'] at hkc
      rw [text_node] at hE
      have q1 := lf_sz l
      have q2 := lf_le s
      have q3 := lf_sz r
      have HE := Lib.hid hE
      clear hE hk hz hb hres hk0 hd0 h
      obtain ⟨-, -, c2, c3, c4, c5, c6, -⟩ := hcx
      go_wp2_with (fail)
      refine (all_any pl l _ hl).mono ?_
      rintro e w1 ⟨rfl, hb1⟩
      obtain ⟨w2, hw2⟩ : ∃ w2, w1.alloc (.cells #[.int .i64 l.sz, .int .i64 l.lf] 95) = w2 := ⟨_, rfl⟩
      have hB2 : Below wr.heap.size wr w2 := by rw [← hw2]; exact hb1.alloc hb1.size _
      have o0 : w2.cell? ⟨w1.heap.size, 0, none⟩ = some (.int .i64 l.sz) := by rw [← hw2]; simp [go_sem]
      have o1 : w2.cell? ⟨w1.heap.size, 1, none⟩ = some (.int .i64 l.lf) := by rw [← hw2]; simp [go_sem]
      obtain ⟨k2, k3, k4, -⟩ := keep2 hB2 hlt c2 c3 c4
      have k6 := (hB2.cell (p := ⟨x, 6, none⟩) hlt).trans c6
      by_cases e1 : kc ≤ l.lf
      · have hd1 : decide (kc ≤ l.lf) = true := by simpa using e1
        have hd1' : decide ((kc : Int) ≤ (l.lf : Int)) = true := by simpa using e1
        go_wp2_with (fail)
        go_roundw
        case rel =>
          refine ⟨pl, l, kc, ac, rfl, rfl, rfl, hl.below hB2, hkc0, e1, by omega, ?_, hB.trans (hB2.mono hB.size)⟩
          have := HE.out
          rwa [ByteArray.append_assoc, bh_left _ _ (by rw [← lf_text]; exact e1)] at this
        case measure =>
          show dOf (.pointer pl) w2 < dOf (.pointer (some ⟨x, 0, none⟩)) wr
          rw [dOf_is (hl.below hB2), hdm, hd']
          omega
      · have hd1 : decide (kc ≤ l.lf) = false := by simpa using e1
        have hd1' : decide ((kc : Int) ≤ (l.lf : Int)) = false := by simpa using e1
        by_cases e2 : l.lf + Rp.lf s < kc
        · have hd2 : decide ((l.lf : Int) + (Rp.lf s : Int) < (kc : Int)) = true := by simp; omega
          have hd2' : decide (l.lf + Rp.lf s < kc) = true := by simp; omega
          go_wp2_with (fail)
          go_quiet (fail)
          go_wp2_with (fail)
          go_quiet (fail)
          go_wp2_with (fail)
          go_quiet (fail)
          go_wp2_with (fail)
          go_roundw
          case rel =>
            refine ⟨pr, r, kc - (l.lf + Rp.lf s), ac + (l.sz + s.size), rfl, by go_num, by go_num, hr.below (below_drewN hB2 _), by omega, by omega, by omega, ?_, hB.trans ((below_drewN hB2 _).mono hB.size)⟩
            have h1 := HE.out
            rw [bh_right _ _ (by rw [lf_app, ← lf_text]; exact e2), lf_app, ← lf_text, size_app, ← sz_text] at h1
            omega
          case measure =>
            show dOf (.pointer pr) _ < dOf (.pointer (some ⟨x, 0, none⟩)) wr
            rw [dOf_is (hr.below (below_drewN hB2 _)), hdm, hd']
            omega
        · have hd2 : decide ((l.lf : Int) + (Rp.lf s : Int) < (kc : Int)) = false := by simp; omega
          have hd2' : decide (l.lf + Rp.lf s < kc) = false := by simp; omega
          go_wp2_with (fail)
          go_quiet (fail)
          go_wp2_with (fail)
          have hB3 : Below w.heap.size w (w2.drewN nq) := hB.trans ((below_drewN hB2 _).mono hB.size)
          have k4' : (w2.drewN nq).cell? ⟨x, 4, none⟩ = some (.string s) := ((below_drewN hB2 nq).cell (p := ⟨x, 4, none⟩) hlt).trans c4
          obtain ⟨w3, hw3⟩ : ∃ w3, w2.drewN nq = w3 := ⟨_, rfl⟩
          rw [hw3] at hB3 k4' ⊢
          have hget := Ut.get_bt s
          go_loopw [72, 1] (fun vi vk wx => ∃ (i kk : Nat), vi = .int .i64 i ∧ vk = .int .i64 kk ∧ i ≤ s.size ∧ 0 < kk ∧ kk ≤ (s.data.toList.drop i).count 10 ∧ ac + l.sz + i + bhL (s.data.toList.drop i) kk = res ∧ wx.cell? ⟨x, 4, none⟩ = some (.string s) ∧ Below w.heap.size w wx)
            (fun vi _ _ => s.size - (intOf vi).toNat)
          case atStart =>
            refine ⟨0, kc - l.lf, rfl, by go_num, Nat.zero_le _, by omega, ?_, ?_, k4', hB3⟩
            · rw [List.drop_zero]; show _ ≤ Rp.lf s; omega
            · have h1 := HE.out
              rw [List.drop_zero]
              rw [ByteArray.append_assoc, bh_right _ _ (by rw [← lf_text]; omega), bh_left _ _ (by rw [← lf_text]; omega), ← sz_text, ← lf_text] at h1
              unfold bh at h1
              omega
          case round =>
            obtain ⟨i, kk, rfl, rfl, hi, hkk, hkk2, hE2, hs4, hBx⟩ := hrel
            have HE2 := Lib.hid hE2
            clear hE2 HE hw3 k2 k3 k4 k6 o0 o1 hw2 hB2 hb1 c2 c3 c4 c5 c6 hl hr hdm k4' hB3 hd1 hd1' hd2 hd2'
            have hlt' : i < s.size := by
              rcases Nat.lt_or_ge i s.size with h | h
              · exact h
              · rw [count_end s h] at hkk2; omega
            rw [count_drop s hlt'] at hkk2
            obtain ⟨m, rfl⟩ : ∃ m, kk = m + 1 := ⟨kk - 1, by omega⟩
            have hcl : (s.data.toList.drop (i + 1)).count 10 ≤ s.size := Nat.le_trans List.count_le_length (by simp)
            have hmb : m ≤ 1048577 := by split at hkk2 <;> omega
            have HD := Lib.hid (bhL_drop s (k := m) hlt')
            by_cases hc : s[i] = 10
            · have hb10 : Ut.bt s i = 10 := by rw [Ut.bt_at s hlt', hc]; rfl
              rw [if_pos hc] at hkk2
              have HC := Lib.hid hc
              clear hc
              by_cases hm : m = 0
              · subst hm
                go_wp2_with (fail)
                go_ret
                refine ⟨?_, hBx⟩
                have h1 := HE2.out
                rw [HD.out, if_pos HC.out, bhL_zero] at h1
                rw [← h1]
                go_num
              · have hm' : ((m : Int) == 0) = false := by simp; omega
                have hm'' : (m == 0) = false := by simp; omega
                go_wp2_with (fail)
                go_roundw
                case rel =>
                  refine ⟨i + 1, m, by go_num, by go_num, by omega, by omega, by omega, ?_, hs4, hBx⟩
                  have h1 := HE2.out
                  rw [HD.out, if_pos HC.out] at h1
                  omega
                case measure => simp [intOf]; omega
            · have hb10 : ¬ Ut.bt s i = 10 := by
                rw [Ut.bt_at s hlt']
                intro h
                apply hc
                exact UInt8.toNat_inj.1 (by have : s[i].toNat = 10 := by omega
                                            simpa using this)
              rw [if_neg hc] at hkk2
              have HC := Lib.hid hc
              clear hc
              go_wp2_with (fail)
              go_roundw
              case rel =>
                refine ⟨i + 1, m + 1, by go_num, by go_num, by omega, by omega, by omega, ?_, hs4, hBx⟩
                have h1 := HE2.out
                rw [HD.out, if_neg HC.out] at h1
                omega
              case measure => simp [intOf]; omega
end Go.Proofs.YtejipknbhiokeaaDoor

/-
  PLAIN LAWS of lines, places and characters. No program in sight.
-/
import Derived.Test.YtejipknbhiokeaaDoorRef3b
import Derived.Test.YtejipknbhiokeaaDoorPlain5
namespace Go.Proofs.YtejipknbhiokeaaDoor
open Rp Ut

/-- A step ahead of a last LF is what it is without that. -/
theorem rn_lf {u : ByteArray} {i : Nat} (hi : i < u.size) : rn (u ++ ⟨#[10]⟩) i = rn u i := by
  have hz : (u ++ (⟨#[10]⟩ : ByteArray)).size = u.size + 1 := by rw [size_app]; rfl
  cases hb : rb u i with
  | true => exact (rd_left hi hb).2
  | false =>
    rw [(rb_no hb).2]
    cases hb2 : rb (u ++ ⟨#[10]⟩) i with
    | false => exact (rb_no hb2).2
    | true =>
      exfalso
      obtain ⟨⟨hv, hl, hj⟩, hn⟩ := rb_stands (by omega) hb2
      rw [hz] at hl
      have hpos : 1 ≤ (en (rc (u ++ ⟨#[10]⟩) i)).length := by have := rn_bd (s := u ++ ⟨#[10]⟩) (i := i) (by omega); omega
      by_cases c : i + (en (rc (u ++ ⟨#[10]⟩) i)).length ≤ u.size
      · have hs : Stands (fun t => bt u (i + t)) (u.size - i) (rc (u ++ ⟨#[10]⟩) i) := ⟨hv, by omega, fun t ht => by
          rw [← hj t ht]; exact (bt_left u _ (by omega)).symm⟩
        have e := rd_stands (bytes_bt _ _) hs
        unfold rb at hb
        rw [e] at hb
        cases hb
      · have hlast := hj (u.size - i) (by omega)
        have hc := cont hv (j := u.size - i) (by omega) (by omega)
        rw [← hlast] at hc
        have : bt (u ++ ⟨#[10]⟩) (i + (u.size - i)) = 10 := by
          rw [show i + (u.size - i) = u.size + 0 by omega, bt_right]; decide
        simp only [this] at hc
        omega

theorem cut_app (t : ByteArray) : cut t = t ∨ t = cut t ++ ⟨#[10]⟩ := by
  unfold cut
  split
  · rename_i h
    right
    refine ext_bt ?_ ?_
    · rw [size_app, ByteArray.size_extract]; show t.size = min (t.size - 1) t.size - 0 + 1; omega
    · intro j hj
      have hz : (t.extract 0 (t.size - 1)).size = t.size - 1 := by rw [ByteArray.size_extract]; omega
      by_cases hc : j < t.size - 1
      · rw [bt_left _ _ (by rw [hz]; exact hc), bt_extract t 0 (t.size - 1) j (by omega) (by omega), Nat.zero_add]
      · have hj2 : j = (t.extract 0 (t.size - 1)).size + 0 := by rw [hz]; omega
        rw [hj2, bt_right, hz, Nat.add_zero, h.2]; decide
  · exact .inl rfl
theorem rn_cut {t : ByteArray} {i : Nat} (hi : i < (cut t).size) : rn t i = rn (cut t) i := by
  rcases cut_app t with h | h
  · rw [h]
  · rw [congrArg (fun x => rn x i) h]; exact rn_lf hi

/-- Going by so many steps, and counting them. -/
theorem chOff_chn (t : ByteArray) : ∀ n i a, i ≤ (cut t).size → chOff (cut t) n i = some a → chn t a i = n ∧ i + n ≤ a ∧ a ≤ i + 4 * n ∧ a ≤ (cut t).size := by
  intro n
  induction n with
  | zero =>
    intro i a hi h
    simp only [chOff, Option.some.injEq] at h
    subst h
    exact ⟨chn_end (Nat.le_refl _), by omega, by omega, hi⟩
  | succ n ih =>
    intro i a hi h
    rw [chOff] at h
    split at h
    · rename_i hlt
      have hb := rn_bd hlt
      obtain ⟨h1, h2, h3, h4⟩ := ih _ _ (by omega) h
      have hct := cut_le t
      refine ⟨?_, by omega, by omega, h4⟩
      rw [chn_in (by omega) (by omega), rn_cut hlt, h1]
    · cases h
/-- One step more. -/
theorem chOff_succ (t : ByteArray) : ∀ n i, chOff t (n + 1) i = (chOff t n i).bind fun a => if a < t.size then some (a + rn t a) else none := by
  intro n
  induction n with
  | zero => intro i; simp only [chOff]; rfl
  | succ n ih =>
    intro i
    rw [chOff]
    split
    · rename_i h
      rw [ih, chOff, if_pos h]
    · rename_i h
      rw [chOff, if_neg h]; rfl
/-- Within the next step there is one more. -/
theorem chn_within (t : ByteArray) : ∀ n i a m, i ≤ (cut t).size → chOff (cut t) n i = some a → a < m → m ≤ a + rn t a → a < t.size → chn t m i = n + 1 := by
  intro n
  induction n with
  | zero =>
    intro i a m hi h h1 h2 h3
    simp only [chOff, Option.some.injEq] at h
    subst h
    rw [chn_in h1 h3, chn_end h2]
  | succ n ih =>
    intro i a m hi h h1 h2 h3
    rw [chOff] at h
    split at h
    · rename_i hlt
      have hb := rn_bd hlt
      have hct := cut_le t
      have hg := chOff_chn t n _ _ (by omega) h
      rw [chn_in (by omega) (by omega), rn_cut hlt, ih _ _ m (by omega) h h1 h2 h3]
    · cases h

/-- A place of a line, its LF not counted, lies in that line. -/
theorem line_place {s : ByteArray} {k a : Nat} (hk : k ≤ Rp.lf s) (ha : a ≤ (cut (lnB s k)).size) : bh s k + a ≤ s.size ∧ Rp.lf (s.extract 0 (bh s k + a)) = k := by
  obtain ⟨hb1, hb2⟩ := bh_lnTo (s := s) (k := k)
  have hz : (lnB s k).size = lnTo s k - bh s k := by unfold lnB; rw [ByteArray.size_extract]; omega
  have hct := cut_le (lnB s k)
  refine ⟨by omega, ?_⟩
  rw [lf_take]
  have hge : k ≤ (s.data.toList.take (bh s k + a)).count 10 := by
    have h1 := bhL_count s.data.toList k hk
    have h2 := count_take_mono s.data.toList (show bhL s.data.toList k ≤ bh s k + a by unfold bh; omega)
    omega
  rcases Nat.lt_or_ge k ((s.data.toList.take (bh s k + a)).count 10) with h | h
  · exfalso
    -- the LF number k + 1 lies ahead of the place: so the line ends there
    have hk2 : k < Rp.lf s := by
      have : (s.data.toList.take (bh s k + a)).count 10 ≤ Rp.lf s := (List.take_sublist _ _).count_le _
      omega
    have h3 := bhL_mono s.data.toList (k + 1) _ h ((List.take_sublist _ _).count_le _)
    have h4 := bhL_take s.data.toList (bh s k + a)
    have hto : lnTo s k = bh s (k + 1) := by unfold lnTo; rw [if_pos hk2]
    have h5 : lnTo s k ≤ bh s k + a := by rw [hto]; unfold bh at *; omega
    -- the line with its LF: its last byte is that LF
    have h6 : (cut (lnB s k)).size = (lnB s k).size := by omega
    have hpos : 0 < bh s (k + 1) - bh s k := by
      have e1 := bhL_count s.data.toList k hk
      have e2 := bhL_count s.data.toList (k + 1) hk2
      have : bh s k ≠ bh s (k + 1) := by
        intro h
        unfold bh at h
        rw [h] at e1
        omega
      have := bh_mono (s := s) (k := k) (j := k + 1) (by omega) hk2
      omega
    have hbt : bt (lnB s k) ((lnB s k).size - 1) = 10 := by
      unfold lnB
      rw [ByteArray.size_extract, bt_extract s _ _ _ hb2 (by omega)]
      have e2 := bhL_count s.data.toList (k + 1) hk2
      have hj : bh s (k + 1) - 1 < s.size := by have := bh_le s (k + 1); omega
      have hc := count_take_succ s hj
      rw [show bh s (k + 1) - 1 + 1 = bh s (k + 1) by omega] at hc
      rw [show bh s k + (min (lnTo s k) s.size - bh s k - 1) = bh s (k + 1) - 1 by omega]
      by_cases hb : bt s (bh s (k + 1) - 1) = 10
      · exact hb
      · exfalso
        rw [if_neg hb] at hc
        have h7 := bhL_take s.data.toList (bh s (k + 1) - 1)
        have h8 : (s.data.toList.take (bh s (k + 1))).count 10 = k + 1 := e2
        rw [← Nat.add_zero (List.count 10 _), ← hc, h8] at h7
        unfold bh at h7 hpos
        omega
    have hcs : (cut (lnB s k)).size = (lnB s k).size - 1 := by
      unfold cut
      rw [if_pos ⟨by omega, hbt⟩, ByteArray.size_extract]; omega
    omega
  · omega
end Go.Proofs.YtejipknbhiokeaaDoor

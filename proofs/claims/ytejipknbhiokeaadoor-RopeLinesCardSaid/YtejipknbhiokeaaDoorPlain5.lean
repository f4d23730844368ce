/-
  PLAIN LAWS OF CHARACTERS AS BYTES, on: texts put together; a step by itself.
-/
import Derived.Test.YtejipknbhiokeaaDoorPlain4
namespace Ut

theorem rd_right (a b : ByteArray) (j : Nat) : rb (a ++ b) (a.size + j) = rb b j ∧ rn (a ++ b) (a.size + j) = rn b j := by
  have e : (fun t => bt (a ++ b) (a.size + j + t)) = fun t => bt b (j + t) := by
    funext t
    rw [Nat.add_assoc, bt_right]
  have z : (a ++ b).size - (a.size + j) = b.size - j := by rw [ByteArray.size_append]; omega
  unfold rb rn
  rw [e, z]
  exact ⟨rfl, rfl⟩

theorem rd_left {a b : ByteArray} {i : Nat} (hi : i < a.size) (h : rb a i = true) : rb (a ++ b) i = true ∧ rn (a ++ b) i = rn a i := by
  obtain ⟨⟨hv, hl, hj⟩, hn⟩ := rb_stands hi h
  have hs : Stands (fun t => bt (a ++ b) (i + t)) ((a ++ b).size - i) (rc a i) := ⟨hv, by rw [ByteArray.size_append]; omega, fun t ht => by
    rw [← hj t ht]; exact bt_left a b (by omega)⟩
  have e := rd_stands (bytes_bt _ _) hs
  unfold rb
  unfold rn
  rw [e]
  exact ⟨rfl, hn.symm⟩

theorem stp_right (a b : ByteArray) : ∀ (d j : Nat), b.size - j ≤ d → (stp (a ++ b) (a.size + j)).length = (stp b j).length ∧ (stp (a ++ b) (a.size + j)).all (·.2) = (stp b j).all (·.2) := by
  intro d
  induction d with
  | zero =>
    intro j h
    rw [stp_end (s := b) (by omega), stp_end (by rw [ByteArray.size_append]; omega)]
    exact ⟨rfl, rfl⟩
  | succ d ih =>
    intro j h
    by_cases hj : j < b.size
    · obtain ⟨e1, e2⟩ := rd_right a b j
      have hr := rn_bd hj
      rw [stp_in hj, stp_in (show a.size + j < (a ++ b).size by rw [ByteArray.size_append]; omega), e1, e2, Nat.add_assoc]
      obtain ⟨i1, i2⟩ := ih (j + rn b j) (by omega)
      simp only [List.length_cons, List.all_cons, i1, i2, and_self]
    · rw [stp_end (s := b) (by omega), stp_end (by rw [ByteArray.size_append]; omega)]
      exact ⟨rfl, rfl⟩

theorem stp_left (a b : ByteArray) : ∀ (d i : Nat), a.size - i ≤ d → i ≤ a.size → (stp a i).all (·.2) = true →
    (stp (a ++ b) i).length = (stp a i).length + (stp (a ++ b) a.size).length ∧ (stp (a ++ b) i).all (·.2) = (stp (a ++ b) a.size).all (·.2) ∧ (st (a ++ b) i = true → st (a ++ b) a.size = true) := by
  intro d
  induction d with
  | zero =>
    intro i h hi _
    obtain rfl : i = a.size := by omega
    rw [stp_end (s := a) (by omega)]
    simp
  | succ d ih =>
    intro i h hi hv
    by_cases hlt : i < a.size
    · have hr := rn_bd hlt
      rw [stp_in hlt, List.all_cons, Bool.and_eq_true] at hv
      obtain ⟨hb, hv⟩ := hv
      have hb' : rb a i = true := hb
      obtain ⟨e1, e2⟩ := rd_left (b := b) hlt hb'
      have hlt2 : i < (a ++ b).size := by rw [ByteArray.size_append]; omega
      obtain ⟨i1, i2, i3⟩ := ih (i + rn a i) (by omega) (by omega) hv
      refine ⟨?_, ?_, fun hs => i3 ?_⟩
      · rw [stp_in hlt, stp_in hlt2, e2, List.length_cons, List.length_cons, i1]; omega
      · rw [stp_in hlt2, e2, List.all_cons, i2, e1]; rfl
      · have := st_next hlt2 hs
        rwa [e2] at this
    · obtain rfl : i = a.size := by omega
      rw [stp_end (s := a) (by omega)]
      simp

/-- Texts without lone bytes, put together. -/
theorem joins {a b : ByteArray} (ha : vld a = true) (hb : vld b = true) : vld (a ++ b) = true ∧ cnt (a ++ b) = cnt a + cnt b ∧ st (a ++ b) a.size = true := by
  unfold vld cnt at *
  obtain ⟨l1, l2, l3⟩ := stp_left a b a.size 0 (by omega) (by omega) ha
  obtain ⟨r1, r2⟩ := stp_right a b b.size 0 (by omega)
  rw [Nat.add_zero] at r1 r2
  exact ⟨by rw [l2, r2]; exact hb, by rw [l1, r1], l3 (st_zero _)⟩

/-- A step by itself. -/
theorem alone {s : ByteArray} {i : Nat} (hi : i < s.size) : cnt (s.extract i (i + rn s i)) = 1 ∧ vld (s.extract i (i + rn s i)) = rb s i := by
  have hr := rn_bd hi
  have hz : (s.extract i (i + rn s i)).size = rn s i := by rw [ByteArray.size_extract]; omega
  have hbt : ∀ t, t < rn s i → bt (s.extract i (i + rn s i)) (0 + t) = bt s (i + t) := fun t ht => by
    rw [Nat.zero_add, bt_extract s i (i + rn s i) t hr.2.2 (by omega)]
  have key : rb (s.extract i (i + rn s i)) 0 = rb s i ∧ rn (s.extract i (i + rn s i)) 0 = rn s i := by
    cases hb : rb s i with
    | true =>
      obtain ⟨⟨hv, hl, hj⟩, hn⟩ := rb_stands hi hb
      have hs : Stands (fun t => bt (s.extract i (i + rn s i)) (0 + t)) ((s.extract i (i + rn s i)).size - 0) (rc s i) := ⟨hv, by omega, fun t ht => by
        rw [← hj t ht]; exact hbt t (by omega)⟩
      have e := rd_stands (bytes_bt _ _) hs
      generalize s.extract i (i + rn s i) = x at *
      unfold rb rn
      rw [e]
      exact ⟨rfl, hn.symm⟩
    | false =>
      have hn := (rb_no hb).2
      have hlt : (0 : Nat) < (s.extract i (i + rn s i)).size := by omega
      cases hx : rb (s.extract i (i + rn s i)) 0 with
      | false => exact ⟨rfl, by rw [(rb_no hx).2, hn]⟩
      | true =>
        exfalso
        obtain ⟨⟨hv, hl, hj⟩, hn'⟩ := rb_stands hlt hx
        have hr' := rn_bd hlt
        have hs : Stands (fun t => bt s (i + t)) (s.size - i) (rc (s.extract i (i + rn s i)) 0) := ⟨hv, by omega, fun t ht => by
          rw [← hj t ht]; exact (hbt t (by omega)).symm⟩
        have e := rd_stands (bytes_bt _ _) hs
        unfold rb at hb
        rw [e] at hb
        cases hb
  unfold cnt vld
  rw [stp_in (by omega), key.1, key.2, stp_end (by omega)]
  simp

/-- Within a character no step begins. -/
theorem st_within {s : ByteArray} {i j : Nat} (hi : i < s.size) (h1 : 1 ≤ j) (h2 : j < rn s i) : st s (i + j) = false := by
  cases hst : st s (i + j) with
  | false => rfl
  | true =>
    exfalso
    have hr := rn_bd hi
    cases hb : rb s i with
    | true => have := st_iff.1 hst i (by omega) (by omega) hb; omega
    | false => have := (rb_no hb).2; omega
end Ut

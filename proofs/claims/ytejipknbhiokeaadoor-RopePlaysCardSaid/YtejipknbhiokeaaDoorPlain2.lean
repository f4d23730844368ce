/-
  PLAIN LAWS OF CHARACTERS AS BYTES, on: texts by their bytes; what the reference looks for; steps.
-/
import Derived.Test.YtejipknbhiokeaaDoorPlain
namespace Ut

theorem bt_end (s : ByteArray) {k : Nat} (h : s.size ≤ k) : bt s k = 0 := by unfold bt; rw [dif_neg (by omega)]
theorem bt_at (s : ByteArray) {k : Nat} (h : k < s.size) : bt s k = ((s[k]'h).toNat : Int) := by unfold bt; rw [dif_pos h]

theorem ext_bt {a b : ByteArray} (hs : a.size = b.size) (h : ∀ j, j < a.size → bt a j = bt b j) : a = b := by
  apply ByteArray.ext_getElem hs
  intro j h1 h2
  have := h j h1
  rw [bt_at a h1, bt_at b h2] at this
  exact UInt8.toNat_inj.1 (by omega)

theorem bt_extract (s : ByteArray) (a b j : Nat) (hb : b ≤ s.size) (hj : a + j < b) : bt (s.extract a b) j = bt s (a + j) := by
  have h1 : j < (s.extract a b).size := by rw [ByteArray.size_extract]; omega
  rw [bt_at _ h1, bt_at s (show a + j < s.size by omega), ByteArray.getElem_extract]

theorem bt_left (a b : ByteArray) {j : Nat} (h : j < a.size) : bt (a ++ b) j = bt a j := by
  rw [bt_at _ (show j < (a ++ b).size by rw [ByteArray.size_append]; omega), bt_at a h, ByteArray.getElem_append_left h]
theorem bt_right (a b : ByteArray) (j : Nat) : bt (a ++ b) (a.size + j) = bt b j := by
  by_cases h : j < b.size
  · rw [bt_at _ (show a.size + j < (a ++ b).size by rw [ByteArray.size_append]; omega), bt_at b h, ByteArray.getElem_append_right (by omega)]
    congr 3; omega
  · rw [bt_end _ (by rw [ByteArray.size_append]; omega), bt_end _ (by omega)]

theorem sn_size (xs : List Int) : (sn xs).size = xs.length := by simp [sn, ByteArray.size]
theorem mk_get (a : Array UInt8) (j : Nat) (h : j < a.size) {x : UInt8} (e : a[j] = x) : (⟨a⟩ : ByteArray)[j]'h = x := e
theorem bt_sn (xs : List Int) (h : ∀ x, x ∈ xs → 0 ≤ x ∧ x ≤ 255) (j : Nat) : bt (sn xs) j = xs.getD j 0 := by
  by_cases hj : j < xs.length
  · rw [bt_at _ (show j < (sn xs).size by rw [sn_size]; exact hj)]
    have hx := h xs[j] (List.getElem_mem hj)
    have e : (sn xs)[j]'(by rw [sn_size]; exact hj) = UInt8.ofNat (xs[j]).toNat := by
      exact mk_get _ j (by simpa using hj) (by simp)
    rw [e, List.getD_eq_getElem?_getD, List.getElem?_eq_getElem hj]
    simp only [Option.getD_some, UInt8.toNat_ofNat']
    omega
  · rw [bt_end _ (by rw [sn_size]; omega), List.getD_eq_getElem?_getD, List.getElem?_eq_none (by omega)]; rfl

theorem en_bytes {c : Int} (h : Val c) : ∀ x, x ∈ en c → 0 ≤ x ∧ x ≤ 255 := by
  obtain ⟨v0, v1, v2⟩ := h
  unfold en
  intro x
  repeat' split
  all_goals simp only [List.mem_cons, List.not_mem_nil, or_false]; rintro h; omega

theorem ps_val {c : Int} (h : Val c) : ps c = sn (en c) := if_pos h
theorem ps_no {c : Int} (h : ¬ Val c) : ps c = ByteArray.empty := if_neg h
theorem bt_ps {c : Int} (h : Val c) (j : Nat) : bt (ps c) j = (en c).getD j 0 := by rw [ps_val h, bt_sn _ (en_bytes h)]
theorem ps_size {c : Int} (h : Val c) : (ps c).size = (en c).length := by rw [ps_val h, sn_size]

/-- A character's bytes lie at place i. -/
theorem lies_iff {s : ByteArray} {i n : Nat} {c : Int} (hv : Val c) (hn : i + n ≤ s.size) :
    ps c = s.extract i (i + n) ↔ (en c).length = n ∧ ∀ j, j < n → bt s (i + j) = (en c).getD j 0 := by
  constructor
  · intro h
    have hz : (en c).length = n := by rw [← ps_size hv, h, ByteArray.size_extract]; omega
    refine ⟨hz, fun j hj => ?_⟩
    rw [← bt_ps hv j, h, bt_extract s i (i + n) j hn (by omega)]
  · rintro ⟨hz, h⟩
    apply ext_bt
    · rw [ps_size hv, ByteArray.size_extract]; omega
    · intro j hj
      rw [ps_size hv] at hj
      rw [bt_ps hv j, bt_extract s i (i + n) j hn (by omega), h j (by omega)]

/-- The number that n bytes would be. -/
def vv (f : Nat → Int) (n : Nat) : Int :=
  match n with
  | 1 => f 0
  | 2 => f 0 % 32 * 64 + f 1 % 64
  | 3 => (f 0 % 16 * 64 + f 1 % 64) * 64 + f 2 % 64
  | _ => ((f 0 % 8 * 64 + f 1 % 64) * 64 + f 2 % 64) * 64 + f 3 % 64

theorem vv_en {f : Nat → Int} {c : Int} (hv : Val c) (h : ∀ j, j < (en c).length → f j = (en c).getD j 0) : vv f (en c).length = c := by
  obtain ⟨v0, v1, v2⟩ := hv
  unfold en at h ⊢
  by_cases c1 : c < 128
  · simp only [if_pos c1, List.length_cons, List.length_nil] at h ⊢
    exact h 0 (by omega)
  · by_cases c2 : c < 2048
    · simp only [if_neg c1, if_pos c2, List.length_cons, List.length_nil] at h ⊢
      have e0 : f 0 = 192 + c / 64 := h 0 (by omega)
      have e1 : f 1 = 128 + c % 64 := h 1 (by omega)
      show f 0 % 32 * 64 + f 1 % 64 = c
      omega
    · by_cases c3 : c < 65536
      · simp only [if_neg c1, if_neg c2, if_pos c3, List.length_cons, List.length_nil] at h ⊢
        have e0 : f 0 = 224 + c / 4096 := h 0 (by omega)
        have e1 : f 1 = 128 + c / 64 % 64 := h 1 (by omega)
        have e2 : f 2 = 128 + c % 64 := h 2 (by omega)
        show (f 0 % 16 * 64 + f 1 % 64) * 64 + f 2 % 64 = c
        omega
      · simp only [if_neg c1, if_neg c2, if_neg c3, List.length_cons, List.length_nil] at h ⊢
        have e0 : f 0 = 240 + c / 262144 := h 0 (by omega)
        have e1 : f 1 = 128 + c / 4096 % 64 := h 1 (by omega)
        have e2 : f 2 = 128 + c / 64 % 64 := h 2 (by omega)
        have e3 : f 3 = 128 + c % 64 := h 3 (by omega)
        show ((f 0 % 8 * 64 + f 1 % 64) * 64 + f 2 % 64) * 64 + f 3 % 64 = c
        omega

/-- The reference's test of n bytes. -/
def tst (s : ByteArray) (i n : Nat) : Prop := Val (vv (fun j => bt s (i + j)) n) ∧ ps (vv (fun j => bt s (i + j)) n) = s.extract i (i + n)

theorem tst_yes {s : ByteArray} {i n : Nat} (hn : i + n ≤ s.size) (h : tst s i n) : rb s i = true ∧ rn s i = n ∧ rc s i = vv (fun j => bt s (i + j)) n := by
  obtain ⟨hv, he⟩ := h
  obtain ⟨hz, hj⟩ := (lies_iff hv hn).1 he
  have hs : Stands (fun j => bt s (i + j)) (s.size - i) (vv (fun j => bt s (i + j)) n) := ⟨hv, by omega, fun j h => hj j (by omega)⟩
  have := rd_stands (bytes_bt s i) hs
  simp only [rb, rn, rc, this, hz, and_self]

theorem rb_stands {s : ByteArray} {i : Nat} (hi : i < s.size) (h : rb s i = true) : Stands (fun j => bt s (i + j)) (s.size - i) (rc s i) ∧ rn s i = (en (rc s i)).length :=
  rd_yes (bytes_bt s i) (by omega) h

theorem tst_of {s : ByteArray} {i : Nat} (hi : i < s.size) (h : rb s i = true) : tst s i (rn s i) := by
  obtain ⟨⟨hv, hl, hj⟩, hn⟩ := rb_stands hi h
  have e : vv (fun j => bt s (i + j)) (rn s i) = rc s i := by rw [hn]; exact vv_en hv hj
  unfold tst
  rw [e]
  exact ⟨hv, (lies_iff hv (by omega)).2 ⟨hn.symm, fun j h => hj j (by omega)⟩⟩

theorem rn_bd {s : ByteArray} {i : Nat} (hi : i < s.size) : 1 ≤ rn s i ∧ rn s i ≤ 4 ∧ i + rn s i ≤ s.size := by
  have h1 := rd_len (fun j => bt s (i + j)) (s.size - i)
  have h2 := rd_le (fun j => bt s (i + j)) (s.size - i) (by omega)
  unfold rn
  omega
theorem rb_no {s : ByteArray} {i : Nat} (h : rb s i = false) : rc s i = 0 ∧ rn s i = 1 := by
  have := rd_no h
  unfold rc rn
  rw [this]
  exact ⟨rfl, rfl⟩
theorem rb_none {s : ByteArray} {i : Nat} (hi : i < s.size) (h : ∀ n, 1 ≤ n → n ≤ 4 → i + n ≤ s.size → ¬ tst s i n) : rb s i = false := by
  cases hb : rb s i with
  | false => rfl
  | true =>
    have hr := rn_bd hi
    exact absurd (tst_of hi hb) (h _ hr.1 hr.2.1 hr.2.2)
end Ut

/-
  PLAIN LAWS OF CHARACTERS AS BYTES: no program in sight. What stands at a place of a text ('rd'), how a character is written ('en'), and where steps begin.
-/
namespace Ut

/-- Byte k of a text, as a number; 0 behind its end. -/
def bt (s : ByteArray) (k : Nat) : Int := if h : k < s.size then ((s[k]'h).toNat : Int) else 0
theorem get_bt (s : ByteArray) : ∀ (n : Nat) (h : n < s.size), ((s[n]'h).toNat : Int) = bt s n := fun n h => by unfold bt; rw [dif_pos h]
theorem bt_nonneg (s : ByteArray) (k : Nat) : 0 ≤ bt s k := by unfold bt; split <;> omega
theorem bt_le (s : ByteArray) (k : Nat) : bt s k ≤ 255 := by
  unfold bt; split
  · have := (s[k]).toNat_lt; omega
  · omega

/-- What stands at the begin of bytes f, of which there are n: the number, how many bytes, whether it is a character. -/
def rd (f : Nat → Int) (n : Nat) : Int × Nat × Bool :=
  if f 0 < 128 then (f 0, 1, true)
  else if (192 ≤ f 0 ∧ f 0 < 224) ∧ 2 ≤ n ∧ f 1 / 64 = 2 ∧ 128 ≤ f 0 % 32 * 64 + f 1 % 64 then (f 0 % 32 * 64 + f 1 % 64, 2, true)
  else if (224 ≤ f 0 ∧ f 0 < 240) ∧ 3 ≤ n ∧ f 1 / 64 = 2 ∧ f 2 / 64 = 2 ∧ 2048 ≤ (f 0 % 16 * 64 + f 1 % 64) * 64 + f 2 % 64 ∧ ((f 0 % 16 * 64 + f 1 % 64) * 64 + f 2 % 64) / 2048 ≠ 27 then
    ((f 0 % 16 * 64 + f 1 % 64) * 64 + f 2 % 64, 3, true)
  else if (240 ≤ f 0 ∧ f 0 < 248) ∧ 4 ≤ n ∧ f 1 / 64 = 2 ∧ f 2 / 64 = 2 ∧ f 3 / 64 = 2 ∧ 65536 ≤ ((f 0 % 8 * 64 + f 1 % 64) * 64 + f 2 % 64) * 64 + f 3 % 64 ∧ ((f 0 % 8 * 64 + f 1 % 64) * 64 + f 2 % 64) * 64 + f 3 % 64 ≤ 1114111 then
    (((f 0 % 8 * 64 + f 1 % 64) * 64 + f 2 % 64) * 64 + f 3 % 64, 4, true)
  else (0, 1, false)

/-- At place i of s: the number, how many bytes, whether it is a character. -/
def rc (s : ByteArray) (i : Nat) : Int := (rd (fun j => bt s (i + j)) (s.size - i)).1
def rn (s : ByteArray) (i : Nat) : Nat := (rd (fun j => bt s (i + j)) (s.size - i)).2.1
def rb (s : ByteArray) (i : Nat) : Bool := (rd (fun j => bt s (i + j)) (s.size - i)).2.2

/-- A number that is a character. -/
def Val (c : Int) : Prop := 0 ≤ c ∧ c ≤ 1114111 ∧ (c < 55296 ∨ 57343 < c)
instance (c : Int) : Decidable (Val c) := by unfold Val; exact inferInstance

/-- A character's bytes. -/
def en (c : Int) : List Int :=
  if c < 128 then [c]
  else if c < 2048 then [192 + c / 64, 128 + c % 64]
  else if c < 65536 then [224 + c / 4096, 128 + c / 64 % 64, 128 + c % 64]
  else [240 + c / 262144, 128 + c / 4096 % 64, 128 + c / 64 % 64, 128 + c % 64]

/-- Bytes as a text. -/
def sn (xs : List Int) : ByteArray := ⟨(xs.map fun n => UInt8.ofNat n.toNat).toArray⟩
/-- A number's bytes: none, if it is no character. -/
def ps (c : Int) : ByteArray := if Val c then sn (en c) else ByteArray.empty

/-- The character c stands at the begin of bytes f, of which there are n. -/
def Stands (f : Nat → Int) (n : Nat) (c : Int) : Prop := Val c ∧ (en c).length ≤ n ∧ ∀ j, j < (en c).length → f j = (en c).getD j 0

def Bytes (f : Nat → Int) : Prop := ∀ j, 0 ≤ f j ∧ f j ≤ 255

theorem en_len (c : Int) : 1 ≤ (en c).length ∧ (en c).length ≤ 4 := by
  unfold en; repeat' split
  all_goals simp

theorem rd_len (f : Nat → Int) (n : Nat) : 1 ≤ (rd f n).2.1 ∧ (rd f n).2.1 ≤ 4 := by
  unfold rd; repeat' split
  all_goals simp
theorem rd_le (f : Nat → Int) (n : Nat) (hn : 1 ≤ n) : (rd f n).2.1 ≤ n := by
  unfold rd; repeat' split
  all_goals (simp only; omega)
theorem rd_no {f : Nat → Int} {n : Nat} (h : (rd f n).2.2 = false) : rd f n = (0, 1, false) := by
  revert h; unfold rd; repeat' split
  all_goals simp

theorem rd_stands {f : Nat → Int} {n : Nat} {c : Int} (hf : Bytes f) (hs : Stands f n c) : rd f n = (c, (en c).length, true) := by
  obtain ⟨⟨v0, v1, v2⟩, hl, hj⟩ := hs
  have b0 := hf 0
  unfold en at hl hj ⊢
  by_cases c1 : c < 128
  · simp only [if_pos c1, List.length_cons, List.length_nil] at hl hj ⊢
    have e0 : f 0 = c := hj 0 (by omega)
    unfold rd
    rw [if_pos (by omega), e0]
  · by_cases c2 : c < 2048
    · simp only [if_neg c1, if_pos c2, List.length_cons, List.length_nil] at hl hj ⊢
      have e0 : f 0 = 192 + c / 64 := hj 0 (by omega)
      have e1 : f 1 = 128 + c % 64 := hj 1 (by omega)
      unfold rd
      rw [if_neg (by omega), if_pos (by omega)]
      simp only [Prod.mk.injEq, and_true]
      omega
    · by_cases c3 : c < 65536
      · simp only [if_neg c1, if_neg c2, if_pos c3, List.length_cons, List.length_nil] at hl hj ⊢
        have e0 : f 0 = 224 + c / 4096 := hj 0 (by omega)
        have e1 : f 1 = 128 + c / 64 % 64 := hj 1 (by omega)
        have e2 : f 2 = 128 + c % 64 := hj 2 (by omega)
        have ev : (f 0 % 16 * 64 + f 1 % 64) * 64 + f 2 % 64 = c := by omega
        unfold rd
        rw [if_neg (by omega), if_neg (by omega), if_pos (by rw [ev]; omega), ev]
      · simp only [if_neg c1, if_neg c2, if_neg c3, List.length_cons, List.length_nil] at hl hj ⊢
        have e0 : f 0 = 240 + c / 262144 := hj 0 (by omega)
        have e1 : f 1 = 128 + c / 4096 % 64 := hj 1 (by omega)
        have e2 : f 2 = 128 + c / 64 % 64 := hj 2 (by omega)
        have e3 : f 3 = 128 + c % 64 := hj 3 (by omega)
        have ev : ((f 0 % 8 * 64 + f 1 % 64) * 64 + f 2 % 64) * 64 + f 3 % 64 = c := by omega
        unfold rd
        rw [if_neg (by omega), if_neg (by omega), if_neg (by omega), if_pos (by rw [ev]; omega), ev]

theorem lt2 {p : Nat → Prop} (h0 : p 0) (h1 : p 1) : ∀ j, j < 2 → p j := fun j hj => by match j, hj with | 0, _ => exact h0 | 1, _ => exact h1
theorem lt3 {p : Nat → Prop} (h0 : p 0) (h1 : p 1) (h2 : p 2) : ∀ j, j < 3 → p j := fun j hj => by match j, hj with | 0, _ => exact h0 | 1, _ => exact h1 | 2, _ => exact h2
theorem lt4 {p : Nat → Prop} (h0 : p 0) (h1 : p 1) (h2 : p 2) (h3 : p 3) : ∀ j, j < 4 → p j := fun j hj => by match j, hj with | 0, _ => exact h0 | 1, _ => exact h1 | 2, _ => exact h2 | 3, _ => exact h3

theorem rd_yes {f : Nat → Int} {n : Nat} (hf : Bytes f) (hn : 1 ≤ n) (h : (rd f n).2.2 = true) : Stands f n (rd f n).1 ∧ (rd f n).2.1 = (en (rd f n).1).length := by
  have b0 := hf 0
  have b1 := hf 1
  have b2 := hf 2
  have b3 := hf 3
  unfold rd at h ⊢
  by_cases c1 : f 0 < 128
  · simp only [if_pos c1] at h ⊢
    unfold Stands en Val
    simp only [if_pos c1, List.length_cons, List.length_nil]
    exact ⟨⟨by omega, by omega, fun j hj => by cases j with
      | zero => rfl
      | succ _ => omega⟩, by omega⟩
  · rw [if_neg c1] at h ⊢
    by_cases c2 : (192 ≤ f 0 ∧ f 0 < 224) ∧ 2 ≤ n ∧ f 1 / 64 = 2 ∧ 128 ≤ f 0 % 32 * 64 + f 1 % 64
    · simp only [if_pos c2] at h ⊢
      unfold Stands en Val
      rw [if_neg (by omega), if_pos (by omega)]
      simp only [List.length_cons, List.length_nil, and_true, Nat.zero_add, Nat.reduceAdd]
      refine ⟨by omega, by omega, lt2 ?_ ?_⟩ <;> simp only [List.getD_cons_zero, List.getD_cons_succ] <;> omega
    · rw [if_neg c2] at h ⊢
      by_cases c3 : (224 ≤ f 0 ∧ f 0 < 240) ∧ 3 ≤ n ∧ f 1 / 64 = 2 ∧ f 2 / 64 = 2 ∧ 2048 ≤ (f 0 % 16 * 64 + f 1 % 64) * 64 + f 2 % 64 ∧ ((f 0 % 16 * 64 + f 1 % 64) * 64 + f 2 % 64) / 2048 ≠ 27
      · simp only [if_pos c3] at h ⊢
        unfold Stands en Val
        rw [if_neg (by omega), if_neg (by omega), if_pos (by omega)]
        simp only [List.length_cons, List.length_nil, and_true, Nat.zero_add, Nat.reduceAdd]
        refine ⟨by omega, by omega, lt3 ?_ ?_ ?_⟩ <;> simp only [List.getD_cons_zero, List.getD_cons_succ] <;> omega
      · rw [if_neg c3] at h ⊢
        by_cases c4 : (240 ≤ f 0 ∧ f 0 < 248) ∧ 4 ≤ n ∧ f 1 / 64 = 2 ∧ f 2 / 64 = 2 ∧ f 3 / 64 = 2 ∧ 65536 ≤ ((f 0 % 8 * 64 + f 1 % 64) * 64 + f 2 % 64) * 64 + f 3 % 64 ∧ ((f 0 % 8 * 64 + f 1 % 64) * 64 + f 2 % 64) * 64 + f 3 % 64 ≤ 1114111
        · simp only [if_pos c4] at h ⊢
          unfold Stands en Val
          rw [if_neg (by omega), if_neg (by omega), if_neg (by omega)]
          simp only [List.length_cons, List.length_nil, and_true, Nat.zero_add, Nat.reduceAdd]
          refine ⟨by omega, by omega, lt4 ?_ ?_ ?_ ?_⟩ <;> simp only [List.getD_cons_zero, List.getD_cons_succ] <;> omega
        · rw [if_neg c4] at h; simp at h

/-- Two characters that stand at one place are one. -/
theorem Stands.unique {f : Nat → Int} {n : Nat} {c d : Int} (hf : Bytes f) (h : Stands f n c) (k : Stands f n d) : c = d := by
  have a := rd_stands hf h
  have b := rd_stands hf k
  rw [a] at b
  exact (Prod.mk.inj b).1

theorem bytes_bt (s : ByteArray) (i : Nat) : Bytes (fun j => bt s (i + j)) := fun _ => ⟨bt_nonneg _ _, bt_le _ _⟩
end Ut

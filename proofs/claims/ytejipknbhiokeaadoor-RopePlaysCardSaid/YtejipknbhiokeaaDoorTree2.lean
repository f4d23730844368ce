/-
  The plain tree, on: how many bytes, how many line feeds; how deep at most.
-/
import Derived.Test.YtejipknbhiokeaaDoorTree
namespace Rp

/-- How many line feeds. -/
def lf (s : ByteArray) : Nat := s.data.toList.count 10
theorem lf_app (a b : ByteArray) : lf (a ++ b) = lf a + lf b := by unfold lf; rw [ByteArray.toList_data_append, List.count_append]
theorem lf_nil : lf ByteArray.empty = 0 := rfl
theorem lf_le (s : ByteArray) : lf s ≤ s.size := by
  unfold lf
  have := List.count_le_length (a := (10 : UInt8)) (l := s.data.toList)
  simpa using this

def T.sz : T → Nat
  | .nil => 0
  | .node l s r => l.sz + s.size + r.sz
def T.lf : T → Nat
  | .nil => 0
  | .node l s r => l.lf + Rp.lf s + r.lf
theorem sz_text (t : T) : t.sz = t.text.size := by
  induction t with
  | nil => rfl
  | node l s r ihl ihr => rw [text_node, size_app, size_app, T.sz, ihl, ihr]
theorem lf_text (t : T) : t.lf = lf t.text := by
  induction t with
  | nil => rfl
  | node l s r ihl ihr => rw [text_node, lf_app, lf_app, T.lf, ihl, ihr]
theorem lf_sz (t : T) : t.lf ≤ t.sz := by rw [lf_text, sz_text]; exact lf_le _

theorem d_le_sz {t : T} (h : t.Bal) : t.d ≤ t.sz := by
  induction t with
  | nil => exact Nat.le_refl _
  | node l s r ihl ihr =>
    obtain ⟨h1, h2, h3, h4, h5⟩ := h
    have := ihl h1
    have := ihr h2
    rw [d_node, T.sz]
    omega

/-- A balanced tree of depth d has many bytes: at least 2 to the half of d, less one. -/
theorem deep_sz : ∀ (d : Nat) (t : T), t.Bal → t.d = d → 2 ^ ((d + 1) / 2) ≤ t.sz + 1 := by
  intro d
  induction d using Nat.strongRecOn with
  | _ d ih =>
    intro t hb hd
    cases t with
    | nil =>
      rw [d_nil] at hd
      subst hd
      simp [T.sz]
    | node l s r =>
      obtain ⟨h1, h2, h3, h4, h5⟩ := hb
      rw [d_node] at hd
      rw [T.sz]
      by_cases hd2 : d ≤ 2
      · have hd3 : (d + 1) / 2 = 1 := by omega
        rw [hd3]
        omega
      · have hl := ih l.d (by omega) l h1 rfl
        have hr := ih r.d (by omega) r h2 rfl
        have e1 : 2 ^ ((d - 2 + 1) / 2) ≤ l.sz + 1 := Nat.le_trans (Nat.pow_le_pow_right (by decide) (by omega)) hl
        have e2 : 2 ^ ((d - 2 + 1) / 2) ≤ r.sz + 1 := Nat.le_trans (Nat.pow_le_pow_right (by decide) (by omega)) hr
        have e3 : (d + 1) / 2 = (d - 2 + 1) / 2 + 1 := by omega
        rw [e3, Nat.pow_succ]
        omega
end Rp

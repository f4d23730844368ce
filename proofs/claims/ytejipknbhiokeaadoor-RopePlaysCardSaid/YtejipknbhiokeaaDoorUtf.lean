/-
  CONTRACTS of package utf: read, Len, Char, Put, Start, Count, Valid.
-/
import Derived.Test.YtejipknbhiokeaaDoorRead
namespace Go.Proofs.YtejipknbhiokeaaDoor
open Go.RowKit Ut

/-- What read returns, and the world behind it. -/
def Back (w : World) (c : Int) (n : Nat) (b : Bool) (e : Ending) (w' : World) : Prop := e = .returned (.tuple #[.int .i32 c, .int .i64 n, .bool b]) ∧ Below w.heap.size w w'

theorem read_any (s : ByteArray) (i : Nat) (w : World) (hs : s.size ≤ maxLen) (hi : i < s.size) (hw : Rows w) :
    Calls Tryd.prog 56 #[.string s, .int .i64 i] w (Back w (rc s i) (rn s i) (rb s i)) := by
  have h0 := bt_nonneg s i
  have h00 := bt_le s i
  have key : ∀ {c : Int} {n : Nat} {b : Bool}, rd (fun j => bt s (i + j)) (s.size - i) = (c, n, b) → Calls Tryd.prog 56 #[.string s, .int .i64 i] w (Back w c n b) →
      Calls Tryd.prog 56 #[.string s, .int .i64 i] w (Back w (rc s i) (rn s i) (rb s i)) := by
    intro c n b e h
    simpa only [rc, rn, rb, e] using h
  by_cases c1 : bt s i < 128
  · exact key (by simp only [rd, Nat.add_zero]; rw [if_pos (by omega)]) (read_good0 s i w hs hi hw c1)
  by_cases c2 : bt s i < 192
  · exact key (by simp only [rd, Nat.add_zero]; rw [if_neg (by omega), if_neg (by omega), if_neg (by omega), if_neg (by omega)]) (read_none s i w hs hi hw (by omega) c2)
  by_cases c3 : bt s i < 224
  · by_cases l : s.size < i + 2
    · exact key (by simp only [rd, Nat.add_zero]; rw [if_neg (by omega), if_neg (by omega), if_neg (by omega), if_neg (by omega)]) (read_short1 s i w hs hi hw (by omega) c3 l)
    by_cases d1 : bt s (i + 1) / 64 = 2
    · by_cases v : 128 ≤ bt s i % 32 * 64 + bt s (i + 1) % 64
      · exact key (by simp only [rd, Nat.add_zero]; rw [if_neg (by omega), if_pos (by omega)]) (read_good1 s i w hs hi hw (by omega) c3 (by omega) d1 v)
      · exact key (by simp only [rd, Nat.add_zero]; rw [if_neg (by omega), if_neg (by omega), if_neg (by omega), if_neg (by omega)]) (read_low1 s i w hs hi hw (by omega) c3 (by omega) d1 (by omega))
    · exact key (by simp only [rd, Nat.add_zero]; rw [if_neg (by omega), if_neg (by omega), if_neg (by omega), if_neg (by omega)]) (read_bad11 s i w hs hi hw (by omega) c3 (by omega) d1)
  by_cases c4 : bt s i < 240
  · by_cases l : s.size < i + 3
    · exact key (by simp only [rd, Nat.add_zero]; rw [if_neg (by omega), if_neg (by omega), if_neg (by omega), if_neg (by omega)]) (read_short2 s i w hs hi hw (by omega) c4 l)
    by_cases d1 : bt s (i + 1) / 64 = 2
    · by_cases d2 : bt s (i + 2) / 64 = 2
      · by_cases v : 2048 ≤ (bt s i % 16 * 64 + bt s (i + 1) % 64) * 64 + bt s (i + 2) % 64
        · by_cases q : ((bt s i % 16 * 64 + bt s (i + 1) % 64) * 64 + bt s (i + 2) % 64) / 2048 = 27
          · exact key (by simp only [rd, Nat.add_zero]; rw [if_neg (by omega), if_neg (by omega), if_neg (by omega), if_neg (by omega)]) (read_half2 s i w hs hi hw (by omega) c4 (by omega) d1 d2 v q)
          · exact key (by simp only [rd, Nat.add_zero]; rw [if_neg (by omega), if_neg (by omega), if_pos (by omega)]) (read_good2 s i w hs hi hw (by omega) c4 (by omega) d1 d2 v q)
        · exact key (by simp only [rd, Nat.add_zero]; rw [if_neg (by omega), if_neg (by omega), if_neg (by omega), if_neg (by omega)]) (read_low2 s i w hs hi hw (by omega) c4 (by omega) d1 d2 (by omega))
      · exact key (by simp only [rd, Nat.add_zero]; rw [if_neg (by omega), if_neg (by omega), if_neg (by omega), if_neg (by omega)]) (read_bad22 s i w hs hi hw (by omega) c4 (by omega) d1 d2)
    · exact key (by simp only [rd, Nat.add_zero]; rw [if_neg (by omega), if_neg (by omega), if_neg (by omega), if_neg (by omega)]) (read_bad12 s i w hs hi hw (by omega) c4 (by omega) d1)
  by_cases c5 : bt s i < 248
  · by_cases l : s.size < i + 4
    · exact key (by simp only [rd, Nat.add_zero]; rw [if_neg (by omega), if_neg (by omega), if_neg (by omega), if_neg (by omega)]) (read_short3 s i w hs hi hw (by omega) c5 l)
    by_cases d1 : bt s (i + 1) / 64 = 2
    · by_cases d2 : bt s (i + 2) / 64 = 2
      · by_cases d3 : bt s (i + 3) / 64 = 2
        · by_cases v : 65536 ≤ ((bt s i % 8 * 64 + bt s (i + 1) % 64) * 64 + bt s (i + 2) % 64) * 64 + bt s (i + 3) % 64
          · by_cases q : ((bt s i % 8 * 64 + bt s (i + 1) % 64) * 64 + bt s (i + 2) % 64) * 64 + bt s (i + 3) % 64 ≤ 1114111
            · exact key (by simp only [rd, Nat.add_zero]; rw [if_neg (by omega), if_neg (by omega), if_neg (by omega), if_pos (by omega)]) (read_good3 s i w hs hi hw (by omega) c5 (by omega) d1 d2 d3 v q)
            · exact key (by simp only [rd, Nat.add_zero]; rw [if_neg (by omega), if_neg (by omega), if_neg (by omega), if_neg (by omega)]) (read_high3 s i w hs hi hw (by omega) c5 (by omega) d1 d2 d3 v (by omega))
          · exact key (by simp only [rd, Nat.add_zero]; rw [if_neg (by omega), if_neg (by omega), if_neg (by omega), if_neg (by omega)]) (read_low3 s i w hs hi hw (by omega) c5 (by omega) d1 d2 d3 (by omega))
        · exact key (by simp only [rd, Nat.add_zero]; rw [if_neg (by omega), if_neg (by omega), if_neg (by omega), if_neg (by omega)]) (read_bad33 s i w hs hi hw (by omega) c5 (by omega) d1 d2 d3)
      · exact key (by simp only [rd, Nat.add_zero]; rw [if_neg (by omega), if_neg (by omega), if_neg (by omega), if_neg (by omega)]) (read_bad23 s i w hs hi hw (by omega) c5 (by omega) d1 d2)
    · exact key (by simp only [rd, Nat.add_zero]; rw [if_neg (by omega), if_neg (by omega), if_neg (by omega), if_neg (by omega)]) (read_bad13 s i w hs hi hw (by omega) c5 (by omega) d1)
  · exact key (by simp only [rd, Nat.add_zero]; rw [if_neg (by omega), if_neg (by omega), if_neg (by omega), if_neg (by omega)]) (read_none' s i w hs hi hw (by omega))

end Go.Proofs.YtejipknbhiokeaaDoor

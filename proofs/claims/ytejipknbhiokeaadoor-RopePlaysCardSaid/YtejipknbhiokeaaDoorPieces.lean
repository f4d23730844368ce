/-
  CONTRACTS of rope.pieces: an iterator that cuts its captured text.
-/
import Derived.Test.YtejipknbhiokeaaDoorRange
import Derived.Test.YtejipknbhiokeaaDoorLast
import Derived.RangeFuncNested
import Derived.RangeFuncBound
import Derived.RangeFuncLeaves
import Derived.Shelf.Abstract
import Derived.Shelf.RegionOpen
import Derived.OwnWalkIn
import Derived.TacticsInMore
import Derived.LoopNIn
import Derived.LoopIn
namespace Go.Proofs.YtejipknbhiokeaaDoor
open Go.RowKit Go.Shelf Rp
attribute [local go_sem] Oper.semAt_some

def flat (l : List ByteArray) : ByteArray := l.foldl (· ++ ·) ByteArray.empty
theorem flat_snoc (l : List ByteArray) (x : ByteArray) : flat (l ++ [x]) = flat l ++ x := by simp [flat]
theorem flat_nil : flat [] = ByteArray.empty := rfl
def SpP (s : ByteArray) (xs : List ByteArray) : Prop := (∀ p ∈ xs, 0 < p.size) ∧ ∃ rest, flat xs ++ rest = s
def SP (s : ByteArray) (xs : List ByteArray) : Prop := (∀ p ∈ xs, 0 < p.size) ∧ flat xs = s

theorem pieces_any (s : ByteArray) (w : World) :
    Calls Tryd.prog 83 #[.string s] w fun e w' => e = .returned (.func (.func 90) #[] #[.pointer (some ⟨w.heap.size, 0, none⟩)]) ∧ w' = w.alloc (.cells #[.string s] 9) := by
  go_enter Tryd.func83, Tryd.ntmps83
  go_wp2
  go_ret
  exact ⟨rfl, rfl⟩

theorem movesAt_setCell {W : World} {Bn : Nat} {s : ByteArray} (h : W.cell? ⟨Bn, 0, none⟩ = some (.string s)) (v : Value) : MovesAt Bn W (W.setCell ⟨Bn, 0, none⟩ v) := by
  have h2 := (Below.refl 0 W).setCell (p := ⟨Bn, 0, none⟩) (Nat.zero_le _) v
  exact ⟨h2.os, h2.tape, h2.output, h2.size, fun i _ hi => Below.heap_setCell W ⟨Bn, 0, none⟩ v i hi, s, h⟩

def cellLen (Bn : Nat) (W : World) : Nat := match W.cell? ⟨Bn, 0, none⟩ with | some (.string t) => t.size | _ => 0
theorem cellLen_of {Bn : Nat} {W : World} {t : ByteArray} (h : W.cell? ⟨Bn, 0, none⟩ = some (.string t)) : cellLen Bn W = t.size := by unfold cellLen; rw [h]

set_option maxRecDepth 100000 in
theorem pieces_seq (n : Nat) (hn : 2 ≤ n) (Bn : Nat) (s : ByteArray) (w : World) (hBn : w.cell? ⟨Bn, 0, none⟩ = some (.string s)) (hfz : w.frozen? ⟨Bn, 0, none⟩ = false) :
    SeqB Fence.wide n Tryd.prog 90 #[.pointer (some ⟨Bn, 0, none⟩)] (fun x : ByteArray => #[.string x]) Bn (SP s) (SpP s) w := by
  intro l J W hW hJ hY hj0
  have hbox : W.cell? ⟨Bn, 0, none⟩ = some (.string s) := (World.cell?_of_block hW).trans hBn
  have hfz0 : W.frozen? ⟨Bn, 0, none⟩ = false := (World.frozen?_of_block hW).trans hfz
  refine callsIn_of_wp Tryd.func90 rfl trivial ?_ rfl
  simp only [Tryd.ntmps90, List.size_toArray, List.length_cons, List.length_nil, Nat.reduceAdd, Nat.reduceSub, Array.replicate_succ, Array.replicate_zero, List.push_toArray, List.append_toArray, List.nil_append, List.cons_append]
  gi_wp2
  gi_loopw [] (fun wr => ∃ (pre : List ByteArray) (t : ByteArray), wr.cell? ⟨Bn, 0, none⟩ = some (.string t) ∧ wr.frozen? ⟨Bn, 0, none⟩ = false ∧ (∀ p ∈ pre, 0 < p.size) ∧ flat pre ++ t = s ∧ J pre wr)
    (cellLen Bn)
  case atStart =>
    exact ⟨[], s, hbox, hfz0, by simp, by rw [flat_nil, ByteArray.empty_append], hj0⟩
  case round =>
    obtain ⟨pre, t, hb, hf, hp, ht, hJs⟩ := hrel
    have HT := Lib.hid ht
    have hts : t.size ≤ s.size := by rw [← ht, size_app]; omega
    clear ht
    have hm0 := cellLen_of hb
    by_cases hlt : 512 < t.size
    · have hlt' : (512 : Int) < (t.size : Int) := by omega
      have hle : (512 : Int) ≤ (t.size : Int) := by omega
      have e0 : (t.extract 0 512).size = 512 := by rw [ByteArray.size_extract]; omega
      have e1 : (t.extract 512 t.size).size = t.size - 512 := by rw [ByteArray.size_extract]; omega
      have e2 : t.extract 0 512 ++ t.extract 512 t.size = t := by rw [← ByteArray.extract_eq_extract_append_extract 512 (by omega) (by omega)]; exact ext_all t (Nat.le_refl _)
      obtain ⟨fn, tmps, assign, body, hy, hR⟩ := hY pre (t.extract 0 512) wr ⟨by intro p h; rcases List.mem_append.1 h with h | h; exact hp p h; rw [List.mem_singleton.1 h]; omega, t.extract 512 t.size, by rw [flat_snoc, ByteArray.append_assoc, e2]; exact HT.out⟩ hJs
      try dsimp only at hy hR
      gi_wp2_with (fail)
      refine ⟨fun _ => by omega, ?_⟩
      refine hR.mono ?_
      rintro e w2 ⟨rfl, hJ2, hz2, hk2⟩
      have hb2 : w2.cell? ⟨Bn, 0, none⟩ = some (.string t) := (World.cell?_of_block hk2).trans hb
      have hf2 : w2.frozen? ⟨Bn, 0, none⟩ = false := (World.frozen?_of_block hk2).trans hf
      gi_wp2
      go_roundw
      case rel => 
        refine ⟨pre ++ [t.extract 0 512], t.extract 512 t.size, ?_, ?_, ?_, ?_, hJ _ _ _ hJ2 (movesAt_setCell hb2 _)⟩
        · exact World.cell?_setCell_same' _ _ _ (by rw [hb2]; rfl)
        · rw [World.frozen?_setCell]; exact hf2
        · intro p h; rcases List.mem_append.1 h with h | h; exact hp p h; rw [List.mem_singleton.1 h]; omega
        · rw [flat_snoc, ByteArray.append_assoc, e2]; exact HT.out
      case measure =>
        rw [cellLen_of (World.cell?_setCell_same' _ _ _ (by rw [hb2]; rfl)), hm0]
        omega
    · have hlt' : ¬ (512 : Int) < (t.size : Int) := by omega
      by_cases h0 : t.size = 0
      · have he : t = ByteArray.empty := ByteArray.size_eq_zero_iff.1 h0
        subst he
        gi_wp2
        go_end0
        exact ⟨⟨_, rfl⟩, pre, ⟨hp, by have := HT.out; rwa [ByteArray.append_empty] at this⟩, hJs⟩
      · have hne : t ≠ ByteArray.empty := fun h => h0 (by rw [h]; rfl)
        obtain ⟨fn, tmps, assign, body, hy, hR⟩ := hY pre t wr ⟨by intro p h; rcases List.mem_append.1 h with h | h; exact hp p h; rw [List.mem_singleton.1 h]; omega, ByteArray.empty, by rw [flat_snoc, ByteArray.append_empty]; exact HT.out⟩ hJs
        try dsimp only at hy hR
        have hemp : t.toList.isEmpty = false := by rw [← decide_eq_emptyBytes]; simpa using hne
        gi_wp2_with (fail)
        refine ⟨fun _ => by omega, ?_⟩
        refine hR.mono ?_
        rintro e w2 ⟨rfl, hJ2, hz2, hk2⟩
        gi_wp2
        go_end0
        exact ⟨⟨_, rfl⟩, pre ++ [t], ⟨by intro p h; rcases List.mem_append.1 h with h | h; exact hp p h; rw [List.mem_singleton.1 h]; omega, by rw [flat_snoc]; exact HT.out⟩, hJ2⟩
end Go.Proofs.YtejipknbhiokeaaDoor

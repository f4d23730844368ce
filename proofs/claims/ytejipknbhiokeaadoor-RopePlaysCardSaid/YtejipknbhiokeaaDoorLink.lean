import Derived.Test.YtejipknbhiokeaaDoorNode
namespace Go.Proofs.YtejipknbhiokeaaDoor
open Go.RowKit Rp

/-- The tree t has come back. -/
def Got (t : T) (w : World) (e : Ending) (w' : World) : Prop := ∃ p, e = .returned (.pointer p) ∧ IsN w' p t ∧ Below w.heap.size w w'

set_option maxRecDepth 100000 in
theorem link_any (pl pr : Option Addr) (l r : T) (s : ByteArray) (w : World) (hl : IsN w pl l) (hr : IsN w pr r) (h1 : l.sz + s.size + r.sz ≤ 1099511627776) (h2 : l.d ≤ 1099511627776) (h3 : r.d ≤ 1099511627776) :
    Calls Tryd.prog 89 #[.pointer pl, .string s, .pointer pr] w (Got (.node l s r) w) := by
  have f1 := lf_sz l
  have f2 := lf_le s
  have f3 := lf_sz r
  have hm : max (l.d : Int) (r.d : Int) + 1 ≤ 1099511627777 := by omega
  go_enter Tryd.func89, Tryd.ntmps89
  go_wp2_with (go_at_call 93; refine (of_any s _).mono ?_; rintro e w1 ⟨rfl, hb1⟩)
  obtain ⟨w2, hw2⟩ : ∃ w2, w1.alloc (.cells #[.int .i64 s.size, .int .i64 (Rp.lf s)] 95) = w2 := ⟨_, rfl⟩
  have hB2 : Below w.heap.size w w2 := by rw [← hw2]; exact hb1.alloc hb1.size _
  have hz2 : w1.heap.size < w2.heap.size := by rw [← hw2]; simp
  have o0 : w2.cell? ⟨w1.heap.size, 0, none⟩ = some (.int .i64 s.size) := by rw [← hw2]; simp [go_sem]
  have o1 : w2.cell? ⟨w1.heap.size, 1, none⟩ = some (.int .i64 (Rp.lf s)) := by rw [← hw2]; simp [go_sem]
  rw [hw2]
  have hl2 := hl.below hB2
  have hr2 := hr.below hB2
  refine wp_region_class_tail (C := fun w' => Below w2.heap.size w2 w') 18 (by kernel_rfl) (by kernel_rfl) ⟨rfl, rfl, rfl, Nat.le_refl _, fun _ _ => rfl⟩ ?_
  simp only [List.take_succ_cons, List.take_zero, List.drop_succ_cons, List.drop_zero]
  refine wpQuiet_step (fun K hK => ?_)
  go_simp
  refine ⟨_, fun _ _ => rfl, hK _ ?_⟩
  clear hK K
  refine wpQuiet_step (fun K hK => ?_)
  go_simp
  refine ⟨_, fun w' hw' => (all_any pl l w' (hl2.below hw')).mono (fun e w'' ⟨he, hb⟩ => ⟨he, hw'.trans (hb.mono hw'.size)⟩), hK _ ?_⟩
  clear hK K
  refine wpQuiet_step (fun K hK => ?_)
  go_simp
  refine ⟨.agg #[.int .i64 s.size, .int .i64 (Rp.lf s)], fun w' hw' => ?_, hK _ ?_⟩
  · have x0 := (hw'.cell (p := ⟨w1.heap.size, 0, none⟩) hz2).trans o0
    have x1 := (hw'.cell (p := ⟨w1.heap.size, 1, none⟩) hz2).trans o1
    go_simp
  clear hK K
  refine wpQuiet_step (fun K hK => ?_)
  go_simp
  refine ⟨_, fun w' hw' => (plus_any l.sz l.lf s.size (Rp.lf s) w' (by omega) (by omega)).mono (fun e w'' ⟨he, hb⟩ => ⟨he, hw'.trans (hb.mono hw'.size)⟩), hK _ ?_⟩
  clear hK K
  refine wpQuiet_step (fun K hK => ?_)
  go_simp
  refine ⟨_, fun _ _ => rfl, hK _ ?_⟩
  clear hK K
  refine wpQuiet_step (fun K hK => ?_)
  go_simp
  refine ⟨_, fun w' hw' => (all_any pr r w' (hr2.below hw')).mono (fun e w'' ⟨he, hb⟩ => ⟨he, hw'.trans (hb.mono hw'.size)⟩), hK _ ?_⟩
  clear hK K
  refine wpQuiet_step (fun K hK => ?_)
  go_simp
  refine ⟨_, fun w' hw' => (plus_any (l.sz + s.size) (l.lf + Rp.lf s) r.sz r.lf w' (by omega) (by omega)).mono (fun e w'' ⟨he, hb⟩ => ⟨he, hw'.trans (hb.mono hw'.size)⟩), hK _ ?_⟩
  clear hK K
  refine wpQuiet_step (fun K hK => ?_)
  go_simp
  refine ⟨_, fun _ _ => rfl, hK _ ?_⟩
  clear hK K
  refine wpQuiet_step (fun K hK => ?_)
  go_simp
  refine ⟨_, fun _ _ => rfl, hK _ ?_⟩
  clear hK K
  refine wpQuiet_step (fun K hK => ?_)
  go_simp
  refine ⟨_, fun _ _ => rfl, hK _ ?_⟩
  clear hK K
  refine wpQuiet_step (fun K hK => ?_)
  go_simp
  refine ⟨.agg #[.int .i64 s.size, .int .i64 (Rp.lf s)], fun w' hw' => ?_, hK _ ?_⟩
  · have x0 := (hw'.cell (p := ⟨w1.heap.size, 0, none⟩) hz2).trans o0
    have x1 := (hw'.cell (p := ⟨w1.heap.size, 1, none⟩) hz2).trans o1
    go_simp
  clear hK K
  refine wpQuiet_step (fun K hK => ?_)
  go_simp
  refine ⟨_, fun _ _ => rfl, hK _ ?_⟩
  clear hK K
  refine wpQuiet_step (fun K hK => ?_)
  go_simp
  refine ⟨_, fun w' hw' => (deep_any pl l w' (hl2.below hw')).mono (fun e w'' ⟨he, hb⟩ => ⟨he, hb ▸ hw'⟩), hK _ ?_⟩
  clear hK K
  refine wpQuiet_step (fun K hK => ?_)
  go_simp
  refine ⟨_, fun _ _ => rfl, hK _ ?_⟩
  clear hK K
  refine wpQuiet_step (fun K hK => ?_)
  go_simp
  refine ⟨_, fun w' hw' => (deep_any pr r w' (hr2.below hw')).mono (fun e w'' ⟨he, hb⟩ => ⟨he, hb ▸ hw'⟩), hK _ ?_⟩
  clear hK K
  refine wpQuiet_step (fun K hK => ?_)
  go_simp
  refine ⟨_, fun _ _ => rfl, hK _ ?_⟩
  clear hK K
  refine wpQuiet_step (fun K hK => ?_)
  go_simp
  refine ⟨_, fun _ _ => rfl, hK _ ?_⟩
  clear hK K
  refine wpQuiet_step (fun K hK => ?_)
  go_simp
  refine ⟨_, fun _ _ => rfl, hK _ ?_⟩
  clear hK K
  refine wpQuiet_nil ?_
  intro w3 hw3
  go_wp2
  go_ret
  have hB3 : Below w.heap.size w w3 := hB2.trans (hw3.mono hB2.size)
  refine ⟨_, rfl, ⟨w3.heap.size, pl, pr, rfl, ?_, ?_, ?_⟩, hB3.alloc hB3.size _⟩
  · have e1 : (((T.node l s r).sz : Nat) : Int) = (l.sz : Int) + s.size + r.sz := by rw [T.sz]; omega
    have e2 : (((T.node l s r).lf : Nat) : Int) = (l.lf : Int) + Rp.lf s + r.lf := by rw [T.lf]; omega
    have e3 : (((T.node l s r).d : Nat) : Int) = max (l.d : Int) r.d + 1 := by rw [d_node]; omega
    unfold Cells
    rw [e1, e2, e3]
    simp only [World.cell?_alloc_new]
    exact ⟨rfl, rfl, rfl, rfl, rfl, rfl, rfl, rfl⟩
  · exact (hl2.below hw3).below ((Below.refl _ _).alloc (Nat.le_refl _) _)
  · exact (hr2.below hw3).below ((Below.refl _ _).alloc (Nat.le_refl _) _)
end Go.Proofs.YtejipknbhiokeaaDoor

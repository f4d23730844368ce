/-
  CONTRACTS of rope.over, slice; the ropes' own methods, in terms of the text alone.
-/
import Derived.Test.YtejipknbhiokeaaDoorOver
namespace Go.Proofs.YtejipknbhiokeaaDoor
open Go.RowKit Rp

theorem ext_min (s : ByteArray) (a c : Nat) : s.extract a (min c s.size) = s.extract a c := by
  apply ByteArray.ext
  simp only [ByteArray.data_extract]
  apply Array.ext
  · simp only [Array.size_extract, ByteArray.size_data]; omega
  · intro j h1 h2; simp

set_option maxRecDepth 100000 in
theorem over_any (w0 : World) (b : Nat) (t : T) : ∀ (p : Option Addr) (a c : Nat) (acc : ByteArray) (W : World), IsN w0 p t → Below w0.heap.size w0 W → Bld w0.heap.size b acc W → acc.size + t.sz ≤ 1099511627776 → c ≤ 1099511627776 →
    Calls Tryd.prog 77 #[.pointer p, .int .i64 a, .int .i64 c, .func (.func 78) #[] #[.pointer (some ⟨b, 0, none⟩)]] W fun e W' => (∃ v, e = .returned v) ∧ Bld w0.heap.size b (acc ++ t.text.extract a c) W' ∧ Below w0.heap.size W W' := by
  induction t with
  | nil =>
    intro p a c acc W h hB hb _ _
    obtain rfl : p = none := h
    refine (over_nil none a c _ W (.inl rfl)).mono ?_
    rintro e W' ⟨hv, rfl⟩
    rw [text_nil, ext_none _ (by simp), ByteArray.append_empty]
    exact ⟨hv, hb, Below.refl _ _⟩
  | node l s r ihl ihr =>
    intro p a c acc W h hB hb hz hc
    by_cases hac : c ≤ a
    · refine (over_nil p a c _ W (.inr (by omega))).mono ?_
      rintro e W' ⟨hv, rfl⟩
      rw [ext_none _ (.inr hac), ByteArray.append_empty]
      exact ⟨hv, hb, Below.refl _ _⟩
    · obtain ⟨x, pl, pr, rfl, hcx, hl, hr⟩ := h
      have hz' : (T.node l s r).sz = l.sz + s.size + r.sz := rfl
      rw [hz'] at hz
      have zl := sz_text l
      have zr := sz_text r
      have q1 : (acc ++ l.text.extract a c).size ≤ acc.size + l.sz := by rw [size_app, ByteArray.size_extract]; omega
      have q2 : (acc ++ l.text.extract a c ++ s.extract (a - l.sz) (c - l.sz)).size ≤ acc.size + l.sz + s.size := by rw [size_app, ByteArray.size_extract]; omega
      have hpc : s.extract (max a l.sz - l.sz) (min c (l.sz + s.size) - l.sz) = s.extract (a - l.sz) (c - l.sz) := by
        rw [← ext_min s (a - l.sz) (c - l.sz)]; congr 1 <;> omega
      have htx : acc ++ (T.node l s r).text.extract a c = acc ++ l.text.extract a c ++ s.extract (a - l.sz) (c - l.sz) ++ r.text.extract (a - (l.sz + s.size)) (c - (l.sz + s.size)) := by
        rw [text_node, ext_app, ext_app, size_app, ← zl]; simp only [ByteArray.append_assoc]
      rw [htx]
      refine over_node w0 x b pl pr l s (s.extract (a - l.sz) (c - l.sz)) acc (acc ++ l.text.extract a c) (acc ++ l.text.extract a c ++ s.extract (a - l.sz) (c - l.sz)) _ a c _ _ _ W hcx hl (by omega) hc (by omega) ?_ ?_ ?_ ?_ ?_ ?_ ?_ hB hb
      · intro h1 W1 hB1 hb1
        have := ihl pl a (min c l.sz) acc W1 hl hB1 hb1 (by omega) (by omega)
        rw [zl, ext_min, ← zl] at this
        rwa [show ((min c l.sz : Nat) : Int) = min (c : Int) (l.sz : Int) by omega] at this
      · intro h1 W1 hB1 hb1
        exact write_any _ b _ _ W1 hb1 (by rw [ByteArray.size_extract]; omega) hB1.size
      · intro h1 W1 hB1 hb1
        have := ihr pr (a - (l.sz + s.size)) (c - (l.sz + s.size)) _ W1 hr hB1 hb1 (by omega) (by omega)
        rwa [show ((a - (l.sz + s.size) : Nat) : Int) = max (a : Int) ((l.sz : Int) + (s.size : Int)) - ((l.sz : Int) + (s.size : Int)) by omega, show ((c - (l.sz + s.size) : Nat) : Int) = (c : Int) - ((l.sz : Int) + (s.size : Int)) by omega] at this
      · intro h1 W1
        have := run_slice_string (P := Tryd.prog) W1 9 s .i64 .i64 (max (a : Int) (l.sz : Int) - (l.sz : Int)) (min (c : Int) ((l.sz : Int) + (s.size : Int)) - (l.sz : Int)) Tryd.underlying9 (by omega) (by omega) (by omega)
        rw [this, ← hpc]
        congr 3 <;> omega
      · intro h1
        rw [ext_none _ (by omega), ByteArray.append_empty]
      · intro h1
        rw [ext_none s (by omega), ByteArray.append_empty]
      · intro h1
        rw [ext_none r.text (by omega), ByteArray.append_empty]
end Go.Proofs.YtejipknbhiokeaaDoor

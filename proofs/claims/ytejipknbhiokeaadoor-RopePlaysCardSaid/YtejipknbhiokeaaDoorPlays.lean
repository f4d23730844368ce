/-
  WHAT RopePlays KEEPS: two lists that grow, of ropes and of their texts.
-/
import Derived.Test.YtejipknbhiokeaaDoorEdits2
import Derived.Test.YtejipknbhiokeaaDoorTells
namespace Go.Proofs.YtejipknbhiokeaaDoor
open Go.RowKit Rp

/-- A rope lies where it lay, if none but a block has turned that is no rope's and no node's. -/
theorem IsR.off {w w' : World} {b : Nat} (hk : ∀ i, i < w.heap.size → i ≠ b → w'.heap[i]? = w.heap[i]?) (hb : ∀ z : Int, w.cell? ⟨b, 0, none⟩ ≠ some (.int .i64 z))
    (hp : ∀ p, w.cell? ⟨b, 0, none⟩ = some (.pointer p) → ∃ s, IsR w p s) {q : Option Addr} {s : ByteArray} (h : IsR w q s) : IsR w' q s := by
  obtain ⟨x, p, t, rfl, hc, hn, hB, ht, hs⟩ := h
  have hxb : x ≠ b := by
    rintro rfl
    obtain ⟨s', y, p', t', rfl, hc', -⟩ := hp p hc
    cases t with
    | nil => cases hn
    | node l u r =>
      obtain ⟨y', _, _, hy, hcells, -, -⟩ := hn
      cases hy
      have := hcells.1
      rw [hc'] at this
      cases this
  exact ⟨x, p, t, rfl, (World.cell?_of_block (w := w) (a := ⟨x, 0, none⟩) (hk x (World.block_lt_of_cell? w _ hc) hxb)).trans hc, hn.off hk hb, hB, ht, hs⟩

/-- The ropes and their texts, in memory of the call's own. -/
structure Two (B : Nat) (L : List (Option Addr × ByteArray)) (vr vt : Value) (W : World) : Prop where
  ropes : W.ownsRow B 36 1 vr L.length (L.map fun x => .pointer x.1)
  texts : W.ownsRow B 9 1 vt L.length (L.map fun x => .string x.2)
  all : ∀ x ∈ L, IsR W x.1 x.2

theorem own_blocks {W : World} {B B' : Nat} {v v' : Value} {n n' : Nat} {xs xs' : List Value} {e e' : TypeId} {k k' : Nat} (h : W.ownsRow B e k v n xs) (h' : W.ownsRow B' e' k' v' n' xs') (hne : e ≠ e') : v.ownBlock = none ∨ v.ownBlock ≠ v'.ownBlock := by
  rcases h.2 with ⟨rfl, -⟩ | ⟨g, cap, cur, rfl, -, hg, -⟩
  · exact .inl rfl
  · right
    rcases h'.2 with ⟨rfl, -⟩ | ⟨g', cap', cur', rfl, -, hg', -⟩
    · simp [Value.ownBlock]
    · simp only [Value.ownBlock, ne_eq, Option.some.injEq]
      rintro rfl
      rw [hg] at hg'
      simp only [Option.some.injEq, Obj.cells.injEq] at hg'
      exact hne hg'.2.1

theorem Two.below {B : Nat} {L : List (Option Addr × ByteArray)} {vr vt : Value} {W W' : World} (h : Two B L vr vt W) (hb : Below W.heap.size W W') : Two B L vr vt W' := by
  have hg : W.grownBy W' none := ⟨hb.os, hb.tape, hb.output, hb.size, fun i hi _ => hb.block i hi⟩
  exact ⟨h.ropes.kept hg (Classical.em _), h.texts.kept hg (Classical.em _), fun x hx => (h.all x hx).below hb⟩

/-- The block of a list of ropes: its first cell is a rope's pointer. -/
theorem own_first {W : World} {B : Nat} {v : Value} {n g : Nat} {xs : List Value} {e : TypeId} (h : W.ownsRow B e 1 v n xs) (hv : v.ownBlock = some g) {x : Value} (hx : xs[0]? = some x) : W.cell? ⟨g, 0, none⟩ = some x := by
  have := h.cells hv 0 x hx
  rwa [add_none] at this

/-- The list of ropes has grown by one. -/
theorem Two.rope {B : Nat} {L : List (Option Addr × ByteArray)} {vr vt vr' : Value} {W W' : World} {q : Option Addr} {s : ByteArray} (h : Two B L vr vt W) (hL : L ≠ []) (hq : IsR W q s) (hg : W.grownBy W' vr.ownBlock)
    (hown : W'.ownsRow B 36 1 vr' (L.length + 1) ((L.map fun x => .pointer x.1) ++ [.pointer q])) :
    W'.ownsRow B 9 1 vt L.length (L.map fun x => .string x.2) ∧ (∀ x ∈ L, IsR W' x.1 x.2) ∧ IsR W' q s := by
  obtain ⟨⟨q0, s0⟩, L', rfl⟩ := List.exists_cons_of_ne_nil hL
  have h0 := h.all (q0, s0) (by simp)
  have key : ∀ {q : Option Addr} {s : ByteArray}, IsR W q s → IsR W' q s := fun {q s} hx => by
    cases hb : vr.ownBlock with
    | none =>
      rw [hb] at hg
      exact hx.below ⟨hg.os, hg.tape, hg.output, hg.size, fun i hi => hg.block i hi (by simp)⟩
    | some g =>
      have hc := own_first h.ropes hb (x := .pointer q0) (by simp)
      refine hx.off (b := g) (fun i hi hne => hg.block i hi (by rw [hb]; simpa using hne)) (fun z hz => by rw [hc] at hz; cases hz) (fun p hp => ?_)
      rw [hc] at hp
      cases hp
      exact ⟨s0, h0⟩
  exact ⟨h.texts.kept hg (own_blocks h.texts h.ropes (by decide)), fun x hx => key (h.all x hx), key hq⟩

/-- The list of texts has grown by one, behind. -/
theorem two_text {B : Nat} {L : List (Option Addr × ByteArray)} {vr vt vt' : Value} {W W' : World} {q : Option Addr} {s : ByteArray} (hL : L ≠ [])
    (hr : W.ownsRow B 36 1 vr (L.length + 1) ((L.map fun x => .pointer x.1) ++ [.pointer q])) (ht : W.ownsRow B 9 1 vt L.length (L.map fun x => .string x.2)) (ha : ∀ x ∈ L, IsR W x.1 x.2) (hq : IsR W q s)
    (hg : W.grownBy W' vt.ownBlock) (hown : W'.ownsRow B 9 1 vt' (L.length + 1) ((L.map fun x => .string x.2) ++ [.string s])) : Two B (L ++ [(q, s)]) vr vt' W' ∧ IsR W' q s := by
  have key : ∀ {q : Option Addr} {s : ByteArray}, IsR W q s → IsR W' q s := fun {q s} hx => by
    cases hb : vt.ownBlock with
    | none =>
      rw [hb] at hg
      exact hx.below ⟨hg.os, hg.tape, hg.output, hg.size, fun i hi => hg.block i hi (by simp)⟩
    | some g =>
      obtain ⟨⟨q0, s0⟩, L', rfl⟩ := List.exists_cons_of_ne_nil hL
      have hc := own_first ht hb (x := .string s0) (by simp)
      exact hx.off (b := g) (fun i hi hne => hg.block i hi (by rw [hb]; simpa using hne)) (fun z hz => by rw [hc] at hz; cases hz) (fun p hp => by rw [hc] at hp; cases hp)
  refine ⟨⟨?_, ?_, ?_⟩, key hq⟩
  · rw [List.length_append, List.map_append]
    exact hr.kept hg (own_blocks hr ht (by decide))
  · rw [List.length_append, List.map_append]
    exact hown
  · intro x hx
    rcases List.mem_append.1 hx with hx | hx
    · exact key (ha x hx)
    · rw [List.mem_singleton.1 hx]; exact key hq
end Go.Proofs.YtejipknbhiokeaaDoor

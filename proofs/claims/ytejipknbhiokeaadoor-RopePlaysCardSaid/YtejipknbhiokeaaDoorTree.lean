/- The plain tree that a rope is: pieces of bytes, joined by the balanced tree's own functions. Plain Lean: no program in sight. -/
namespace Rp

inductive T where
  | nil
  | node (l : T) (s : ByteArray) (r : T)

def T.d : T → Nat
  | .nil => 0
  | .node l _ r => max l.d r.d + 1

def T.left : T → T
  | .nil => .nil
  | .node l _ _ => l
def T.right : T → T
  | .nil => .nil
  | .node _ _ r => r
def T.piece : T → ByteArray
  | .nil => ByteArray.empty
  | .node _ s _ => s

def T.text : T → ByteArray
  | .nil => ByteArray.empty
  | .node l s r => l.text ++ s ++ r.text

/-- Balanced, and no piece is empty. -/
def T.Bal : T → Prop
  | .nil => True
  | .node l s r => l.Bal ∧ r.Bal ∧ 0 < s.size ∧ l.d ≤ r.d + 1 ∧ r.d ≤ l.d + 1

def even (l : T) (s : ByteArray) (r : T) : T :=
  if r.d + 1 < l.d then
    if l.left.d < l.right.d then .node (.node l.left l.piece l.right.left) l.right.piece (.node l.right.right s r)
    else .node l.left l.piece (.node l.right s r)
  else if l.d + 1 < r.d then
    if r.right.d < r.left.d then .node (.node l s r.left.left) r.left.piece (.node r.left.right r.piece r.right)
    else .node (.node l s r.left) r.piece r.right
  else .node l s r

def join : T → ByteArray → T → T
  | .nil, s, .nil => .node .nil s .nil
  | .node ll ls lr, s, .nil => if 1 < (T.node ll ls lr).d then even ll ls (join lr s .nil) else .node (.node ll ls lr) s .nil
  | .nil, s, .node rl rs rr => if 1 < (T.node rl rs rr).d then even (join .nil s rl) rs rr else .node .nil s (.node rl rs rr)
  | .node ll ls lr, s, .node rl rs rr =>
    if (T.node rl rs rr).d + 1 < (T.node ll ls lr).d then even ll ls (join lr s (.node rl rs rr))
    else if (T.node ll ls lr).d + 1 < (T.node rl rs rr).d then even (join (.node ll ls lr) s rl) rs rr
    else .node (.node ll ls lr) s (.node rl rs rr)

theorem left_node (l s r) : (T.node l s r).left = l := rfl
theorem right_node (l s r) : (T.node l s r).right = r := rfl
theorem piece_node (l s r) : (T.node l s r).piece = s := rfl
theorem d_nil : T.nil.d = 0 := rfl
theorem d_node (l s r) : (T.node l s r).d = max l.d r.d + 1 := rfl
theorem text_node (l s r) : (T.node l s r).text = l.text ++ s ++ r.text := rfl
theorem text_nil : T.nil.text = ByteArray.empty := rfl
theorem app_nil (a : ByteArray) : a ++ ByteArray.empty = a := ByteArray.append_empty
theorem nil_app (a : ByteArray) : ByteArray.empty ++ a = a := ByteArray.empty_append

theorem even_deep {l : T} {s : ByteArray} {r : T} (h : r.d + 1 < l.d) (h2 : l.left.d < l.right.d) : even l s r = .node (.node l.left l.piece l.right.left) l.right.piece (.node l.right.right s r) := by
  unfold even; rw [if_pos h, if_pos h2]
theorem even_deep' {l : T} {s : ByteArray} {r : T} (h : r.d + 1 < l.d) (h2 : ¬ l.left.d < l.right.d) : even l s r = .node l.left l.piece (.node l.right s r) := by
  unfold even; rw [if_pos h, if_neg h2]
theorem even_low {l : T} {s : ByteArray} {r : T} (h : l.d + 1 < r.d) (h2 : r.right.d < r.left.d) : even l s r = .node (.node l s r.left.left) r.left.piece (.node r.left.right r.piece r.right) := by
  unfold even; rw [if_neg (by omega), if_pos h, if_pos h2]
theorem even_low' {l : T} {s : ByteArray} {r : T} (h : l.d + 1 < r.d) (h2 : ¬ r.right.d < r.left.d) : even l s r = .node (.node l s r.left) r.piece r.right := by
  unfold even; rw [if_neg (by omega), if_pos h, if_neg h2]
theorem even_flat {l : T} {s : ByteArray} {r : T} (h1 : l.d ≤ r.d + 1) (h2 : r.d ≤ l.d + 1) : even l s r = .node l s r := by
  unfold even; rw [if_neg (by omega), if_neg (by omega)]
/-- A tree that is deep is a node. -/
theorem is_node {x : T} (h : 0 < x.d) : ∃ l s r, x = .node l s r := by
  cases x with
  | nil => simp [T.d] at h
  | node l s r => exact ⟨l, s, r, rfl⟩

theorem even_bal {l : T} {s : ByteArray} {r : T} (hl : l.Bal) (hr : r.Bal) (hs : 0 < s.size) (h1 : l.d ≤ r.d + 2) (h2 : r.d ≤ l.d + 2) :
    (even l s r).Bal ∧ max l.d r.d ≤ (even l s r).d ∧ (even l s r).d ≤ max l.d r.d + 1 ∧ (l.d ≤ r.d + 1 → r.d ≤ l.d + 1 → (even l s r).d = max l.d r.d + 1) := by
  by_cases c1 : r.d + 1 < l.d
  · obtain ⟨ll, ls, lr, rfl⟩ := is_node (x := l) (by omega)
    obtain ⟨b1, b2, b3, b4, b5⟩ := hl
    by_cases c2 : ll.d < lr.d
    · obtain ⟨a, as, b, rfl⟩ := is_node (x := lr) (by omega)
      obtain ⟨e1, e2, e3, e4, e5⟩ := b2
      rw [even_deep c1 c2]
      simp only [left_node, right_node, piece_node, T.Bal, d_node] at *
      refine ⟨⟨⟨b1, e1, b3, by omega, by omega⟩, ⟨e2, hr, hs, by omega, by omega⟩, e3, by omega, by omega⟩, by omega, by omega, by omega⟩
    · rw [even_deep' c1 c2]
      simp only [left_node, right_node, piece_node, T.Bal, d_node] at *
      refine ⟨⟨b1, ⟨b2, hr, hs, by omega, by omega⟩, b3, by omega, by omega⟩, by omega, by omega, by omega⟩
  · by_cases c1 : l.d + 1 < r.d
    · obtain ⟨rl, rs, rr, rfl⟩ := is_node (x := r) (by omega)
      obtain ⟨b1, b2, b3, b4, b5⟩ := hr
      by_cases c2 : rr.d < rl.d
      · obtain ⟨a, as, b, rfl⟩ := is_node (x := rl) (by omega)
        obtain ⟨e1, e2, e3, e4, e5⟩ := b1
        rw [even_low c1 c2]
        simp only [left_node, right_node, piece_node, T.Bal, d_node] at *
        refine ⟨⟨⟨hl, e1, hs, by omega, by omega⟩, ⟨e2, b2, b3, by omega, by omega⟩, e3, by omega, by omega⟩, by omega, by omega, by omega⟩
      · rw [even_low' c1 c2]
        simp only [left_node, right_node, piece_node, T.Bal, d_node] at *
        refine ⟨⟨⟨hl, b1, hs, by omega, by omega⟩, b2, b3, by omega, by omega⟩, by omega, by omega, by omega⟩
    · rw [even_flat (by omega) (by omega)]
      simp only [T.Bal, d_node]
      exact ⟨⟨hl, hr, hs, by omega, by omega⟩, by omega, by omega, fun _ _ => trivial⟩

theorem even_text (l : T) (s : ByteArray) (r : T) : (even l s r).text = l.text ++ s ++ r.text := by
  by_cases c1 : r.d + 1 < l.d
  · obtain ⟨ll, ls, lr, rfl⟩ := is_node (x := l) (by omega)
    by_cases c2 : ll.d < lr.d
    · obtain ⟨a, as, b, rfl⟩ := is_node (x := lr) (by omega)
      rw [even_deep c1 c2]
      simp only [left_node, right_node, piece_node, text_node, ByteArray.append_assoc]
    · rw [even_deep' c1 c2]
      simp only [left_node, right_node, piece_node, text_node, ByteArray.append_assoc]
  · by_cases c1 : l.d + 1 < r.d
    · obtain ⟨rl, rs, rr, rfl⟩ := is_node (x := r) (by omega)
      by_cases c2 : rr.d < rl.d
      · obtain ⟨a, as, b, rfl⟩ := is_node (x := rl) (by omega)
        rw [even_low c1 c2]
        simp only [left_node, right_node, piece_node, text_node, ByteArray.append_assoc]
      · rw [even_low' c1 c2]
        simp only [left_node, right_node, piece_node, text_node, ByteArray.append_assoc]
    · rw [even_flat (by omega) (by omega)]
      rfl

/-- join by its own three ways. -/
theorem join_deep {l : T} {s : ByteArray} {r : T} (h : r.d + 1 < l.d) : join l s r = even l.left l.piece (join l.right s r) := by
  cases l with
  | nil => simp [T.d] at h
  | node ll ls lr =>
    cases r with
    | nil => simp only [d_nil] at h; rw [join, if_pos (by omega)]; rfl
    | node rl rs rr => rw [join, if_pos h]; rfl
theorem join_low {l : T} {s : ByteArray} {r : T} (h : l.d + 1 < r.d) : join l s r = even (join l s r.left) r.piece r.right := by
  cases r with
  | nil => simp [T.d] at h
  | node rl rs rr =>
    cases l with
    | nil => simp only [d_nil] at h; rw [join, if_pos (by omega)]; rfl
    | node ll ls lr => rw [join, if_neg (by omega), if_pos h]; rfl
theorem join_flat {l : T} {s : ByteArray} {r : T} (h1 : l.d ≤ r.d + 1) (h2 : r.d ≤ l.d + 1) : join l s r = .node l s r := by
  cases l with
  | nil =>
    cases r with
    | nil => rw [join]
    | node rl rs rr => simp only [d_nil] at h2; rw [join, if_neg (by omega)]
  | node ll ls lr =>
    cases r with
    | nil => simp only [d_nil] at h1; rw [join, if_neg (by omega)]
    | node rl rs rr => rw [join, if_neg (by omega), if_neg (by omega)]

theorem join_all (n : Nat) : ∀ (l : T) (s : ByteArray) (r : T), l.d + r.d ≤ n →
    (join l s r).text = l.text ++ s ++ r.text ∧
    (l.Bal → r.Bal → 0 < s.size → (join l s r).Bal ∧ max l.d r.d ≤ (join l s r).d ∧ (join l s r).d ≤ max l.d r.d + 1) := by
  induction n with
  | zero =>
    intro l s r h
    rw [join_flat (by omega) (by omega)]
    exact ⟨rfl, fun h1 h2 h3 => ⟨⟨h1, h2, h3, by omega, by omega⟩, by rw [d_node]; omega, by rw [d_node]; omega⟩⟩
  | succ n ih =>
    intro l s r h
    by_cases c1 : r.d + 1 < l.d
    · rw [join_deep c1]
      cases l with
      | nil => simp [T.d] at c1
      | node ll ls lr =>
        simp only [d_node] at h c1
        simp only [left_node, right_node, piece_node]
        obtain ⟨i1, i2⟩ := ih lr s r (by omega)
        refine ⟨by rw [even_text, i1]; simp only [text_node, ByteArray.append_assoc], fun h1 h2 h3 => ?_⟩
        obtain ⟨b1, b2, b3, b4, b5⟩ := h1
        obtain ⟨j1, j2, j3⟩ := i2 b2 h2 h3
        obtain ⟨k1, k2, k3, k4⟩ := even_bal (s := ls) b1 j1 b3 (by omega) (by omega)
        refine ⟨k1, ?_, ?_⟩
        · rw [d_node]
          by_cases e : ll.d ≤ (join lr s r).d + 1 ∧ (join lr s r).d ≤ ll.d + 1
          · rw [k4 e.1 e.2]; omega
          · omega
        · rw [d_node]
          by_cases e : ll.d ≤ (join lr s r).d + 1 ∧ (join lr s r).d ≤ ll.d + 1
          · rw [k4 e.1 e.2]; omega
          · omega
    · by_cases c2 : l.d + 1 < r.d
      · rw [join_low c2]
        cases r with
        | nil => simp [T.d] at c2
        | node rl rs rr =>
          simp only [d_node] at h c1 c2
          simp only [left_node, right_node, piece_node]
          obtain ⟨i1, i2⟩ := ih l s rl (by omega)
          refine ⟨by rw [even_text, i1]; simp only [text_node, ByteArray.append_assoc], fun h1 h2 h3 => ?_⟩
          obtain ⟨b1, b2, b3, b4, b5⟩ := h2
          obtain ⟨j1, j2, j3⟩ := i2 h1 b1 h3
          obtain ⟨k1, k2, k3, k4⟩ := even_bal (s := rs) j1 b2 b3 (by omega) (by omega)
          refine ⟨k1, ?_, ?_⟩
          · rw [d_node]
            by_cases e : (join l s rl).d ≤ rr.d + 1 ∧ rr.d ≤ (join l s rl).d + 1
            · rw [k4 e.1 e.2]; omega
            · omega
          · rw [d_node]
            by_cases e : (join l s rl).d ≤ rr.d + 1 ∧ rr.d ≤ (join l s rl).d + 1
            · rw [k4 e.1 e.2]; omega
            · omega
      · rw [join_flat (by omega) (by omega)]
        exact ⟨rfl, fun h1 h2 h3 => ⟨⟨h1, h2, h3, by omega, by omega⟩, by rw [d_node]; omega, by rw [d_node]; omega⟩⟩

theorem join_text (l : T) (s : ByteArray) (r : T) : (join l s r).text = l.text ++ s ++ r.text := (join_all _ l s r (Nat.le_refl _)).1
theorem join_bal {l : T} {s : ByteArray} {r : T} (h1 : l.Bal) (h2 : r.Bal) (h3 : 0 < s.size) : (join l s r).Bal := ((join_all _ l s r (Nat.le_refl _)).2 h1 h2 h3).1

/-- The first at bytes, and the others. -/
def split : T → Nat → T × T
  | .nil, _ => (.nil, .nil)
  | .node l s r, at' =>
    if at' ≤ l.text.size then ((split l at').1, join (split l at').2 s r)
    else if l.text.size + s.size ≤ at' then (join l s (split r (at' - l.text.size - s.size)).1, (split r (at' - l.text.size - s.size)).2)
    else (join l (s.extract 0 (at' - l.text.size)) .nil, join .nil (s.extract (at' - l.text.size) s.size) r)

theorem size_app (a b : ByteArray) : (a ++ b).size = a.size + b.size := ByteArray.size_append
theorem ext_all (a : ByteArray) {n : Nat} (h : a.size ≤ n) : a.extract 0 n = a := by
  have := ByteArray.extract_zero_max_size (a := a) (i := n)
  rwa [Nat.max_eq_left h] at this
theorem ext_none (a : ByteArray) {i n : Nat} (h : a.size ≤ i ∨ n ≤ i) : a.extract i n = ByteArray.empty := by
  rw [ByteArray.extract_eq_empty_iff]; omega
theorem ext_app (a b : ByteArray) (i j : Nat) : (a ++ b).extract i j = a.extract i j ++ b.extract (i - a.size) (j - a.size) := ByteArray.extract_append

theorem ext_all' (a : ByteArray) {i n : Nat} (h : i = 0) (h2 : a.size ≤ n) : a.extract i n = a := by subst h; exact ext_all a h2
theorem ext_end (a : ByteArray) {i n : Nat} (h : a.size ≤ n) : a.extract i n = a.extract i a.size := by
  apply ByteArray.ext
  simp only [ByteArray.data_extract]
  apply Array.ext
  · simp only [Array.size_extract, ByteArray.size_data]; omega
  · intro j h1 h2; simp

theorem split_text (x : T) : ∀ (k : Nat), k ≤ x.text.size → (split x k).1.text = x.text.extract 0 k ∧ (split x k).2.text = x.text.extract k x.text.size := by
  induction x with
  | nil => intro k h; simp only [split, text_nil]; rw [ext_none _ (by simp), ext_none _ (by simp)]; exact ⟨rfl, rfl⟩
  | node l s r ihl ihr =>
    intro k h
    rw [text_node] at h ⊢
    simp only [size_app] at h ⊢
    rw [split]
    by_cases c1 : k ≤ l.text.size
    · rw [if_pos c1]
      obtain ⟨h1, h2⟩ := ihl k c1
      constructor
      · simp only [h1, ext_app, size_app]
        rw [ext_none s (by omega), ext_none r.text (by omega), app_nil, app_nil]
      · simp only [join_text, h2, ext_app, size_app]
        rw [ext_all' s (by omega) (by omega), ext_all' r.text (by omega) (by omega), ext_end l.text (n := l.text.size + s.size + r.text.size) (by omega)]
    · rw [if_neg c1]
      by_cases c2 : l.text.size + s.size ≤ k
      · rw [if_pos c2]
        obtain ⟨h1, h2⟩ := ihr (k - l.text.size - s.size) (by omega)
        constructor
        · simp only [join_text, h1, ext_app, size_app, Nat.zero_sub]
          rw [ext_all l.text (by omega), ext_all s (by omega), Nat.sub_sub]
        · simp only [h2, ext_app, size_app]
          rw [ext_none l.text (by omega), ext_none s (by omega), nil_app, nil_app]
          congr 1 <;> omega
      · rw [if_neg c2]
        constructor
        · simp only [join_text, text_nil, ext_app, size_app, Nat.zero_sub, app_nil]
          rw [ext_all l.text (by omega), ext_none r.text (by omega), app_nil]
        · simp only [join_text, text_nil, ext_app, size_app, nil_app]
          rw [ext_none l.text (by omega), nil_app, ext_all' r.text (by omega) (by omega), ext_end s (n := l.text.size + s.size + r.text.size - l.text.size) (by omega)]

theorem split_bal {x : T} : ∀ {k : Nat}, x.Bal → (split x k).1.Bal ∧ (split x k).2.Bal := by
  induction x with
  | nil => intro k _; simp [split, T.Bal]
  | node l s r ihl ihr =>
    intro k h
    obtain ⟨h1, h2, h3, h4, h5⟩ := h
    rw [split]
    by_cases c1 : k ≤ l.text.size
    · rw [if_pos c1]; exact ⟨(ihl h1).1, join_bal (ihl h1).2 h2 h3⟩
    · rw [if_neg c1]
      by_cases c2 : l.text.size + s.size ≤ k
      · rw [if_pos c2]; exact ⟨join_bal h1 (ihr h2).1 h3, (ihr h2).2⟩
      · rw [if_neg c2]
        exact ⟨join_bal h1 trivial (by rw [ByteArray.size_extract]; omega), join_bal trivial h2 (by rw [ByteArray.size_extract]; omega)⟩

/-- A node without its last piece, and that. -/
def last : T → T × ByteArray
  | .nil => (.nil, ByteArray.empty)
  | .node l s .nil => (l, s)
  | .node l s (.node rl rs rr) => (even l s (last (.node rl rs rr)).1, (last (.node rl rs rr)).2)
/-- A node without its first piece, and that. -/
def first : T → T × ByteArray
  | .nil => (.nil, ByteArray.empty)
  | .node .nil s r => (r, s)
  | .node (.node ll ls lr) s r => (even (first (.node ll ls lr)).1 s r, (first (.node ll ls lr)).2)

theorem last_all (x : T) : (last x).1.text ++ (last x).2 = x.text ∧ (x.Bal → (last x).1.Bal ∧ (x ≠ .nil → 0 < (last x).2.size) ∧ (last x).1.d ≤ x.d ∧ x.d ≤ (last x).1.d + 1) := by
  induction x with
  | nil => simp [last, T.text, T.Bal, T.d]
  | node l s r ihl ihr =>
    cases r with
    | nil =>
      refine ⟨by simp [last, text_node, text_nil], fun h => ?_⟩
      obtain ⟨h1, h2, h3, h4, h5⟩ := h
      simp only [last, d_node, d_nil] at *
      exact ⟨h1, fun _ => h3, by omega, by omega⟩
    | node rl rs rr =>
      rw [last]
      obtain ⟨i1, i2⟩ := ihr
      generalize hx : T.node rl rs rr = x at *
      refine ⟨by rw [even_text, text_node, ByteArray.append_assoc (a := l.text ++ s), i1], fun h => ?_⟩
      obtain ⟨h1, h2, h3, h4, h5⟩ := h
      obtain ⟨j1, j2, j3, j4⟩ := i2 h2
      obtain ⟨k1, k2, k3, k4⟩ := even_bal (s := s) h1 j1 h3 (by omega) (by omega)
      refine ⟨k1, fun _ => j2 (by rw [← hx]; simp), ?_, ?_⟩ <;> dsimp only
      · rw [d_node]
        by_cases e : l.d ≤ (last x).1.d + 1 ∧ (last x).1.d ≤ l.d + 1
        · rw [k4 e.1 e.2]; omega
        · omega
      · rw [d_node]
        by_cases e : l.d ≤ (last x).1.d + 1 ∧ (last x).1.d ≤ l.d + 1
        · rw [k4 e.1 e.2]; omega
        · omega
theorem first_all (x : T) : (first x).2 ++ (first x).1.text = x.text ∧ (x.Bal → (first x).1.Bal ∧ (x ≠ .nil → 0 < (first x).2.size) ∧ (first x).1.d ≤ x.d ∧ x.d ≤ (first x).1.d + 1) := by
  induction x with
  | nil => simp [first, T.text, T.Bal, T.d]
  | node l s r ihl ihr =>
    cases l with
    | nil =>
      refine ⟨by simp [first, text_node, text_nil], fun h => ?_⟩
      obtain ⟨h1, h2, h3, h4, h5⟩ := h
      simp only [first, d_node, d_nil] at *
      exact ⟨h2, fun _ => h3, by omega, by omega⟩
    | node rl rs rr =>
      rw [first]
      obtain ⟨i1, i2⟩ := ihl
      generalize hx : T.node rl rs rr = x at *
      refine ⟨by rw [even_text, text_node, ← i1]; simp only [ByteArray.append_assoc], fun h => ?_⟩
      obtain ⟨h1, h2, h3, h4, h5⟩ := h
      obtain ⟨j1, j2, j3, j4⟩ := i2 h1
      obtain ⟨k1, k2, k3, k4⟩ := even_bal (s := s) j1 h2 h3 (by omega) (by omega)
      refine ⟨k1, fun _ => j2 (by rw [← hx]; simp), ?_, ?_⟩ <;> dsimp only
      · rw [d_node]
        by_cases e : (first x).1.d ≤ r.d + 1 ∧ r.d ≤ (first x).1.d + 1
        · rw [k4 e.1 e.2]; omega
        · omega
      · rw [d_node]
        by_cases e : (first x).1.d ≤ r.d + 1 ∧ r.d ≤ (first x).1.d + 1
        · rw [k4 e.1 e.2]; omega
        · omega

end Rp

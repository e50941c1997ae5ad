/- The ghost that ties the abstract machine's state to a world, and how it abides what happens; What ties a state of the abstract machine to a world, whole: the invariant, the frame, and what one step may turn; Operations that change no state: what the abstract machine says they yield, they yield; Operations that change no state, one by one; Operations that change no state, the rest; slice literals; Operations that change no state, all together; slice literals; Steps of the abstract machine that turn its state: what they leave; Slice literals; append; what is moved; Boxes: made, written, taken from; what is moved between temporaries; What is taken from a box and put into one; Calls: what a contract says, and what the caller's state is behind it; Boxes that a callee hands out become the caller's; An operation among others in a row, whole; An operation among others in a row: what the evaluator says, the machine does; Operations among others in whatever order: one of them; two of them; what settles behind them; Operations among others in whatever order: two of them may change places; what settles behind them; What settles behind a block of operations in whatever order; Regions: those in one order, and those that draw their order. -/
import Derived.Test.YtimfbnojmdnlnaaKAmA
import Derived.RangeFuncRecord
import Derived.RangeFuncCalls
import Derived.OrdersIn
import Derived.Deep.AppendSrc
import Derived.Deep.MidRow
import Derived.Laws.OwnMore
import Derived.WalkKit
import Derived.Great.BuildSlice
section
set_option linter.unusedVariables false
set_option linter.unusedSimpArgs false
namespace Go.Proofs.Ytimfbnojmdnlnaa
namespace AM

inductive Loc where
  | tmp (t : Nat)
  | cell (l i j : Nat)
  | res

inductive Use where
  | free
  | box (l i : Nat)
  | row (c : Loc)
  | loop (l : Nat)
  | mark

/-- The ghost: the cells that nobody writes any more; where boxes and loops' records lie; what each block is in use for. -/
structure Gh where
  G : Nat → Nat → Option Value
  bx : Nat → Nat → Nat
  lp : Nat → Nat
  use : Nat → Use

/-- All elements have as many cells. -/
def Uni (xs : List (List V)) : Prop := ∃ m, ∀ r ∈ xs, r.length = m

mutual
def Rel (g : Gh) (d : Nat) : V → Value → Prop
  | .undef, _ => True
  | .bool b, x => x = .bool b
  | .int k n, x => x = .int k n
  | .str s, x => x = .string s
  | .ptr l i o, x => l < d ∧ g.use (g.bx l i) = .box l i ∧ x = .pointer (some ⟨g.bx l i, o, none⟩)
  | .nilp, x => x = .pointer none
  | .look cs, x => ∃ b o, x = .pointer (some ⟨b, o, none⟩) ∧ AtG g b o cs
  | .slice k xs, x => ∃ a n c, x = .slice a n c ∧ n = xs.length ∧ n ≤ c ∧ Uni xs ∧ RowsG g a xs ∧ (xs ≠ [] → ∀ ad, a = some ad → ad.spot = none) ∧ (match k with | .nil => a = none ∧ c = 0 | _ => a ≠ none)
  | .func f cs, x => ∃ f' cs', x = .func f' #[] ⟨cs'⟩ ∧ RelL g d cs cs' ∧
      (match f with | .func k => f' = .func k | .yield l => cs = [] ∧ l + 1 < d ∧ g.use (g.lp l) = .loop l ∧ f' = .yield (g.lp l) | _ => False)
  | .nilf, x => x = .nilFunc
  | .ifc t v, x => ∃ y, x = .iface t y ∧ Rel g d v y
  | .nili, x => x = .nilIface
  | .agg cs, x => ∃ vs, x = .agg ⟨vs⟩ ∧ isCells cs = true ∧ RelL g d cs vs
  | .tup cs, x => ∃ vs, x = .tuple ⟨vs⟩ ∧ RelL g d cs vs
  | .fresh cs, x => ∃ b, x = .pointer (some ⟨b, 0, none⟩)
  | .mir _ _ _ _ xs, x => ∃ a n c, x = .slice a n c ∧ n = xs.length ∧ n ≤ c ∧ Uni xs ∧ RowsG g a xs ∧ (xs ≠ [] → ∀ ad, a = some ad → ad.spot = none) ∧ a ≠ none
def RelL (g : Gh) (d : Nat) : List V → List Value → Prop
  | [], vs => vs = []
  | c :: cs, vs => ∃ u us, vs = u :: us ∧ Rel g d c u ∧ RelL g d cs us
def AtG (g : Gh) (b : Nat) : Nat → List V → Prop
  | _, [] => True
  | o, c :: cs => (∃ v, g.G b o = some v ∧ isCell c = true ∧ Rel g 0 c v) ∧ AtG g b (o + 1) cs
def RowsG (g : Gh) : Option Addr → List (List V) → Prop
  | _, [] => True
  | some a, x :: xs => AtG g a.block a.off x ∧ RowsG g (some ⟨a.block, a.off + x.length, none⟩) xs
  | none, _ :: _ => False
end

/-- What the ghost g knows of levels below n the ghost g' knows too. -/
structure Le (n : Nat) (g g' : Gh) : Prop where
  G : ∀ b o v, g.G b o = some v → g'.G b o = some v
  bx : ∀ l i, l < n → g.use (g.bx l i) = .box l i → g'.bx l i = g.bx l i ∧ g'.use (g.bx l i) = .box l i
  lp : ∀ l, l + 1 < n → g.use (g.lp l) = .loop l → g'.lp l = g.lp l ∧ g'.use (g.lp l) = .loop l

theorem Le.refl (n : Nat) (g : Gh) : Le n g g := ⟨fun _ _ _ h => h, fun _ _ _ h => ⟨rfl, h⟩, fun _ _ h => ⟨rfl, h⟩⟩
theorem Le.trans {n : Nat} {a b c : Gh} (h : Le n a b) (k : Le n b c) : Le n a c := {
  G x o v e := k.G x o v (h.G x o v e)
  bx l i hl e := by
    obtain ⟨e1, u1⟩ := h.bx l i hl e
    obtain ⟨e2, u2⟩ := k.bx l i hl (by rw [e1]; exact u1)
    exact ⟨e2.trans e1, by rw [← e1]; exact u2⟩
  lp l hl e := by
    obtain ⟨e1, u1⟩ := h.lp l hl e
    obtain ⟨e2, u2⟩ := k.lp l hl (by rw [e1]; exact u1)
    exact ⟨e2.trans e1, by rw [← e1]; exact u2⟩ }
theorem Le.less {n m : Nat} {g g' : Gh} (h : Le n g g') (hm : m ≤ n) : Le m g g' :=
  ⟨h.G, fun l i hl => h.bx l i (by omega), fun l hl => h.lp l (by omega)⟩

mutual
theorem rel_mono {g g' : Gh} {n m : Nat} (h : Le n g g') (hm : n ≤ m) : ∀ (v : V) (x : Value), Rel g n v x → Rel g' m v x
  | .undef, _, _ => by simp [Rel]
  | .bool _, _, r => by simpa [Rel] using r
  | .int _ _, _, r => by simpa [Rel] using r
  | .str _, _, r => by simpa [Rel] using r
  | .ptr l i o, x, r => by
    simp only [Rel] at r ⊢
    obtain ⟨hl, hu, hx⟩ := r
    obtain ⟨e1, e2⟩ := h.bx l i hl hu
    exact ⟨by omega, by rw [e1]; exact e2, by rw [e1]; exact hx⟩
  | .nilp, _, r => by simpa [Rel] using r
  | .look cs, x, r => by
    simp only [Rel] at r ⊢
    obtain ⟨b, o, hx, hc⟩ := r
    exact ⟨b, o, hx, atG_mono (h.less (Nat.zero_le _)) b o cs hc⟩
  | .slice k xs, x, r => by
    simp only [Rel] at r ⊢
    obtain ⟨a, n', c, hx, hn, hc, hun, hr, hs, hk⟩ := r
    exact ⟨a, n', c, hx, hn, hc, hun, rowsG_mono (h.less (Nat.zero_le _)) a xs hr, hs, hk⟩
  | .func f cs, x, r => by
    simp only [Rel] at r ⊢
    obtain ⟨f', cs', hx, hc, hf⟩ := r
    refine ⟨f', cs', hx, relL_mono h hm cs cs' hc, ?_⟩
    cases f with
    | func k => exact hf
    | yield l =>
      obtain ⟨h0, hl, hu, hf⟩ := hf
      obtain ⟨e1, e2⟩ := h.lp l hl hu
      exact ⟨h0, by omega, by rw [e1]; exact e2, by rw [e1]; exact hf⟩
    | _ => exact hf
  | .nilf, _, r => by simpa [Rel] using r
  | .ifc t v, x, r => by
    simp only [Rel] at r ⊢
    obtain ⟨y, hx, hy⟩ := r
    exact ⟨y, hx, rel_mono h hm v y hy⟩
  | .nili, _, r => by simpa [Rel] using r
  | .agg cs, x, r => by
    simp only [Rel] at r ⊢
    obtain ⟨vs, hx, hi, hv⟩ := r
    exact ⟨vs, hx, hi, relL_mono h hm cs vs hv⟩
  | .tup cs, x, r => by
    simp only [Rel] at r ⊢
    obtain ⟨vs, hx, hv⟩ := r
    exact ⟨vs, hx, relL_mono h hm cs vs hv⟩
  | .fresh cs, x, r => by simpa [Rel] using r
  | .mir l i o e xs, x, r => by
    simp only [Rel] at r ⊢
    obtain ⟨a, n', c, hx, hn, hc, hun, hr, hs⟩ := r
    exact ⟨a, n', c, hx, hn, hc, hun, rowsG_mono (h.less (Nat.zero_le _)) a xs hr, hs⟩
theorem relL_mono {g g' : Gh} {n m : Nat} (h : Le n g g') (hm : n ≤ m) : ∀ (vs : List V) (xs : List Value), RelL g n vs xs → RelL g' m vs xs
  | [], _, r => by simpa [RelL] using r
  | c :: cs, xs, r => by
    simp only [RelL] at r ⊢
    obtain ⟨u, us, hx, hc, hs⟩ := r
    exact ⟨u, us, hx, rel_mono h hm c u hc, relL_mono h hm cs us hs⟩
theorem atG_mono {g g' : Gh} (h : Le 0 g g') (b : Nat) : ∀ (o : Nat) (cs : List V), AtG g b o cs → AtG g' b o cs
  | _, [], _ => by simp [AtG]
  | o, c :: cs, r => by
    simp only [AtG] at r ⊢
    obtain ⟨⟨v, hv, hi, hc⟩, hr⟩ := r
    exact ⟨⟨v, h.G _ _ _ hv, hi, rel_mono h (Nat.le_refl _) c v hc⟩, atG_mono h b (o + 1) cs hr⟩
theorem rowsG_mono {g g' : Gh} (h : Le 0 g g') : ∀ (a : Option Addr) (xs : List (List V)), RowsG g a xs → RowsG g' a xs
  | _, [], _ => by simp [RowsG]
  | some a, x :: xs, r => by
    simp only [RowsG] at r ⊢
    exact ⟨atG_mono h _ _ x r.1, rowsG_mono h _ xs r.2⟩
  | none, _ :: _, r => by simp [RowsG] at r
end

/-! ### Lists -/
theorem relL_iff {g : Gh} {d : Nat} : ∀ {vs : List V} {xs : List Value}, RelL g d vs xs ↔ vs.length = xs.length ∧ ∀ (j : Nat) (v : V) (x : Value), vs[j]? = some v → xs[j]? = some x → Rel g d v x
  | [], xs => by
    simp only [RelL]
    constructor
    · rintro rfl; simp
    · rintro ⟨h, _⟩; exact List.eq_nil_of_length_eq_zero h.symm
  | c :: cs, xs => by
    simp only [RelL]
    constructor
    · rintro ⟨u, us, rfl, hc, hr⟩
      obtain ⟨hl, hj⟩ := relL_iff.1 hr
      refine ⟨by simp [hl], fun j v x hv hx => ?_⟩
      cases j with
      | zero => simp at hv hx; subst hv; subst hx; exact hc
      | succ j => exact hj j v x (by simpa using hv) (by simpa using hx)
    · rintro ⟨hl, hj⟩
      cases xs with
      | nil => simp at hl
      | cons u us => exact ⟨u, us, rfl, hj 0 c u rfl rfl, relL_iff.2 ⟨by simpa using hl, fun j v x hv hx => hj (j + 1) v x (by simpa using hv) (by simpa using hx)⟩⟩

theorem relL_length {g : Gh} {d : Nat} {vs : List V} {xs : List Value} (h : RelL g d vs xs) : vs.length = xs.length := (relL_iff.1 h).1
theorem relL_at {g : Gh} {d : Nat} {vs : List V} {xs : List Value} (h : RelL g d vs xs) {j : Nat} {v : V} (hv : vs[j]? = some v) : ∃ x, xs[j]? = some x ∧ Rel g d v x := by
  have hl := relL_length h
  have hj := (List.getElem?_eq_some_iff.1 hv).1
  refine ⟨xs[j]'(by omega), List.getElem?_eq_getElem _, (relL_iff.1 h).2 j v _ hv (List.getElem?_eq_getElem _)⟩
theorem relL_append {g : Gh} {d : Nat} {vs ws : List V} {xs ys : List Value} (h : RelL g d vs xs) (k : RelL g d ws ys) : RelL g d (vs ++ ws) (xs ++ ys) := by
  have hl := relL_length h
  refine relL_iff.2 ⟨by simp [hl, relL_length k], fun j v x hv hx => ?_⟩
  rcases Nat.lt_or_ge j vs.length with hj | hj
  · rw [List.getElem?_append_left hj] at hv
    rw [List.getElem?_append_left (by omega)] at hx
    exact (relL_iff.1 h).2 j v x hv hx
  · rw [List.getElem?_append_right hj] at hv
    rw [List.getElem?_append_right (by omega)] at hx
    exact (relL_iff.1 k).2 (j - vs.length) v x hv (by rw [hl]; exact hx)
theorem relL_take {g : Gh} {d : Nat} {vs : List V} {xs : List Value} (n : Nat) (h : RelL g d vs xs) : RelL g d (vs.take n) (xs.take n) := by
  have hl := relL_length h
  refine relL_iff.2 ⟨by simp [hl], fun j v x hv hx => ?_⟩
  rw [List.getElem?_take] at hv hx
  split at hv
  · rw [if_pos ‹_›] at hx; exact (relL_iff.1 h).2 j v x hv hx
  · cases hv
theorem relL_drop {g : Gh} {d : Nat} {vs : List V} {xs : List Value} (n : Nat) (h : RelL g d vs xs) : RelL g d (vs.drop n) (xs.drop n) := by
  have hl := relL_length h
  refine relL_iff.2 ⟨by simp [hl], fun j v x hv hx => ?_⟩
  rw [List.getElem?_drop] at hv hx
  exact (relL_iff.1 h).2 _ v x hv hx

theorem isCells_iff : ∀ {cs : List V}, isCells cs = true ↔ ∀ c ∈ cs, isCell c = true
  | [] => by simp [isCells]
  | c :: cs => by simp [isCells, isCells_iff (cs := cs)]

/-- What a value of one cell stands for is a value of one cell. -/
theorem oneCell_of_rel {g : Gh} {d : Nat} {v : V} {x : Value} (h : isCell v = true) (r : Rel g d v x) : x.oneCell' = true := by
  cases v <;> simp only [isCell, Rel, Bool.false_eq_true] at h r
  case bool => subst r; rfl
  case int => subst r; rfl
  case str => subst r; rfl
  case ptr => obtain ⟨_, _, rfl⟩ := r; rfl
  case nilp => subst r; rfl
  case look => obtain ⟨_, _, rfl, _⟩ := r; rfl
  case slice => obtain ⟨_, _, _, rfl, _⟩ := r; rfl
  case func => obtain ⟨_, _, rfl, _⟩ := r; rfl
  case nilf => subst r; rfl
  case ifc => obtain ⟨_, rfl, _⟩ := r; rfl
  case nili => subst r; rfl
theorem oneCells_of_rel {g : Gh} {d : Nat} {cs : List V} {xs : List Value} (h : isCells cs = true) (r : RelL g d cs xs) : ∀ x ∈ xs, x.oneCell' = true := by
  intro x hx
  obtain ⟨j, hj, rfl⟩ := List.getElem_of_mem hx
  have hl := relL_length r
  exact oneCell_of_rel (isCells_iff.1 h _ (List.getElem_mem (by omega : j < cs.length))) ((relL_iff.1 r).2 j _ _ (List.getElem?_eq_getElem (by omega)) (List.getElem?_eq_getElem hj))

/-- The right to grow is dropped: it stands for the same. -/
theorem rel_strip {g : Gh} {d : Nat} {v : V} {x : Value} (r : Rel g d v x) : Rel g d (strip v) x := by
  unfold strip
  split
  · simp only [Rel] at r ⊢
    obtain ⟨a, n, c, hx, hn, hc, hun, hr, hs, hk⟩ := r
    exact ⟨a, n, c, hx, hn, hc, hun, hr, hs, hk⟩
  · exact r
theorem strip_own {v : V} {e : Nat} {xs : List (List V)} : strip v ≠ .slice (.own e) xs := by
  intro h
  cases v <;> simp [strip] at h
  rename_i k ys
  cases k <;> simp at h
theorem isCell_strip (v : V) : isCell (strip v) = isCell v := by
  unfold strip; split <;> rfl
theorem low_strip (n : Nat) (v : V) : low n (strip v) = low n v := by
  unfold strip; split <;> simp [low]
theorem strip_strip (v : V) : strip (strip v) = strip v := by
  cases v <;> try rfl
  rename_i k xs
  cases k <;> rfl

mutual
/-- What knows no level from n on stands for what it stood for, at level n. -/
theorem rel_low {g : Gh} {n d : Nat} : ∀ (v : V) (x : Value), low n v = true → Rel g d v x → Rel g n v x
  | .undef, _, h, _ => by simp [low] at h
  | .bool _, _, _, r => by simpa [Rel] using r
  | .int _ _, _, _, r => by simpa [Rel] using r
  | .str _, _, _, r => by simpa [Rel] using r
  | .ptr l i o, x, h, r => by
    simp only [Rel] at r ⊢
    simp [low] at h
    exact ⟨h, r.2⟩
  | .nilp, _, _, r => by simpa [Rel] using r
  | .look cs, x, _, r => by simpa only [Rel] using r
  | .slice k xs, x, _, r => by simpa only [Rel] using r
  | .func f cs, x, h, r => by
    simp only [Rel] at r ⊢
    simp only [low, Bool.and_eq_true] at h
    obtain ⟨f', cs', hx, hc, hf⟩ := r
    refine ⟨f', cs', hx, relL_low cs cs' h.2 hc, ?_⟩
    cases f with
    | func k => exact hf
    | yield l => exact ⟨hf.1, by simpa using h.1, hf.2.2⟩
    | _ => exact hf
  | .nilf, _, _, r => by simpa [Rel] using r
  | .ifc t v, x, h, r => by
    simp only [Rel] at r ⊢
    simp only [low] at h
    obtain ⟨y, hx, hy⟩ := r
    exact ⟨y, hx, rel_low v y h hy⟩
  | .nili, _, _, r => by simpa [Rel] using r
  | .agg cs, x, h, r => by
    simp only [Rel] at r ⊢
    simp only [low] at h
    obtain ⟨vs, hx, hi, hv⟩ := r
    exact ⟨vs, hx, hi, relL_low cs vs h hv⟩
  | .tup cs, x, h, r => by
    simp only [Rel] at r ⊢
    simp only [low] at h
    obtain ⟨vs, hx, hv⟩ := r
    exact ⟨vs, hx, relL_low cs vs h hv⟩
  | .fresh cs, x, h, _ => by simp [low] at h
  | .mir l i o e xs, x, h, _ => by simp [low] at h
theorem relL_low {g : Gh} {n d : Nat} : ∀ (vs : List V) (xs : List Value), lowL n vs = true → RelL g d vs xs → RelL g n vs xs
  | [], _, _, r => by simpa [RelL] using r
  | c :: cs, xs, h, r => by
    simp only [RelL] at r ⊢
    simp only [lowL, Bool.and_eq_true] at h
    obtain ⟨u, us, hx, hc, hs⟩ := r
    exact ⟨u, us, hx, rel_low c u h.1 hc, relL_low cs us h.2 hs⟩
end

/-- Cells that nobody writes, read off. -/
theorem atG_at {g : Gh} {b : Nat} : ∀ {o : Nat} {cs : List V}, AtG g b o cs → ∀ {j : Nat} {c : V}, cs[j]? = some c → ∃ v, g.G b (o + j) = some v ∧ isCell c = true ∧ Rel g 0 c v
  | _, [], _, j, c, h => by simp at h
  | o, c0 :: cs, r, j, c, h => by
    simp only [AtG] at r
    cases j with
    | zero => simp at h; subst h; exact r.1
    | succ j =>
      have := atG_at r.2 (j := j) (c := c) (by simpa using h)
      rwa [show o + 1 + j = o + (j + 1) from by omega] at this
theorem atG_of {g : Gh} {b : Nat} : ∀ {o : Nat} {cs : List V}, (∀ (j : Nat) (c : V), cs[j]? = some c → ∃ v, g.G b (o + j) = some v ∧ isCell c = true ∧ Rel g 0 c v) → AtG g b o cs
  | _, [], _ => by simp [AtG]
  | o, c0 :: cs, h => by
    simp only [AtG]
    refine ⟨by simpa using h 0 c0 rfl, atG_of fun j c hc => ?_⟩
    have := h (j + 1) c (by simpa using hc)
    rwa [show o + (j + 1) = o + 1 + j from by omega] at this
theorem atG_drop {g : Gh} {b o : Nat} {cs : List V} (h : AtG g b o cs) (n : Nat) : AtG g b (o + n) (cs.drop n) :=
  atG_of fun j c hc => by
    rw [List.getElem?_drop] at hc
    have := atG_at h hc
    rwa [← Nat.add_assoc] at this
theorem atG_take {g : Gh} {b o : Nat} {cs : List V} (h : AtG g b o cs) (n : Nat) : AtG g b o (cs.take n) :=
  atG_of fun j c hc => by
    rw [List.getElem?_take] at hc
    split at hc
    · exact atG_at h hc
    · cases hc

/-- The place of element j, where all elements have n cells. -/
theorem rowsG_at {g : Gh} {n : Nat} : ∀ {a : Option Addr} {xs : List (List V)}, RowsG g a xs → (∀ x ∈ xs, x.length = n) → ∀ {j : Nat} {c : List V}, xs[j]? = some c → ∃ ad, a = some ad ∧ AtG g ad.block (ad.off + j * n) c
  | _, [], _, _, j, c, h => by simp at h
  | none, _ :: _, r, _, _, _, _ => by simp [RowsG] at r
  | some ad, x :: xs, r, hn, j, c, h => by
    simp only [RowsG] at r
    cases j with
    | zero => simp at h; subst h; exact ⟨ad, rfl, by simpa using r.1⟩
    | succ j =>
      obtain ⟨ad', e, hc⟩ := rowsG_at r.2 (fun y hy => hn y (by simp [hy])) (j := j) (c := c) (by simpa using h)
      cases e
      refine ⟨ad, rfl, ?_⟩
      rw [hn x (by simp)] at hc
      simpa [Nat.succ_mul, Nat.add_assoc, Nat.add_comm n (j * n)] using hc
/-- The same without a common length: the place is the sum of what stands ahead. -/
def ahead (xs : List (List V)) (j : Nat) : Nat := ((xs.take j).map List.length).sum
theorem rowsG_drop {g : Gh} : ∀ {a : Addr} {xs : List (List V)}, RowsG g (some a) xs → ∀ (j : Nat), RowsG g (some ⟨a.block, a.off + ahead xs j, none⟩) (xs.drop j)
  | a, xs, r, 0 => by
    simp only [ahead, List.take_zero, List.map_nil, List.sum_nil, Nat.add_zero, List.drop_zero]
    cases xs with
    | nil => simp [RowsG]
    | cons x xs => simpa only [RowsG] using r
  | a, [], _, j + 1 => by simp [RowsG]
  | a, x :: xs, r, j + 1 => by
    simp only [RowsG] at r
    have := rowsG_drop r.2 j
    simpa [ahead, Nat.add_assoc] using this
theorem rowsG_take {g : Gh} : ∀ {a : Option Addr} {xs : List (List V)}, RowsG g a xs → ∀ (j : Nat), RowsG g a (xs.take j)
  | _, _, _, 0 => by simp [RowsG]
  | _, [], _, _ + 1 => by simp [RowsG]
  | none, _ :: _, r, _ => by simp [RowsG] at r
  | some a, x :: xs, r, j + 1 => by
    simp only [RowsG] at r
    simpa only [List.take_succ_cons, RowsG] using ⟨r.1, rowsG_take r.2 j⟩
theorem rowsG_append {g : Gh} : ∀ {a : Addr} {xs ys : List (List V)}, RowsG g (some a) xs → RowsG g (some ⟨a.block, a.off + (xs.map List.length).sum, none⟩) ys → RowsG g (some a) (xs ++ ys)
  | a, [], ys, _, k => by
    cases ys with
    | nil => simp [RowsG]
    | cons y ys => simpa only [List.nil_append, RowsG, List.map_nil, List.sum_nil, Nat.add_zero] using k
  | a, x :: xs, ys, r, k => by
    simp only [RowsG, List.cons_append] at r ⊢
    refine ⟨r.1, rowsG_append r.2 ?_⟩
    simpa [Nat.add_assoc] using k
theorem ahead_len {xs : List (List V)} {n : Nat} (h : ∀ x ∈ xs, x.length = n) (j : Nat) (hj : j ≤ xs.length) : ahead xs j = j * n := by
  induction xs generalizing j with
  | nil => simp at hj; subst hj; simp [ahead]
  | cons x xs ih =>
    cases j with
    | zero => simp [ahead]
    | succ j =>
      have := ih (fun y hy => h y (by simp [hy])) j (by simpa using hj)
      simp only [ahead, List.take_succ_cons, List.map_cons, List.sum_cons] at this ⊢
      rw [this, h x (by simp), Nat.succ_mul, Nat.add_comm]
theorem sum_len {xs : List (List V)} {n : Nat} (h : ∀ x ∈ xs, x.length = n) : (xs.map List.length).sum = xs.length * n := by
  have := ahead_len h xs.length (Nat.le_refl _)
  simpa [ahead] using this

end AM
end Go.Proofs.Ytimfbnojmdnlnaa
end
section
set_option linter.unusedVariables false
set_option linter.unusedSimpArgs false
namespace Go.Proofs.Ytimfbnojmdnlnaa
namespace AM

/-! ### Boxes -/
theorem getBox_lt : ∀ {T : St} {l i : Nat} {cs : List V}, getBox T l i = some cs → l < T.length
  | [], _, _, _, h => by simp [getBox] at h
  | L :: S, l, i, cs, h => by
    simp only [getBox] at h
    split at h
    · rename_i e; simp [e]
    · have := getBox_lt h; simp; omega
theorem getLp_lt : ∀ {T : St} {l : Nat} {p : Lp}, getLp T l = some p → l < T.length
  | [], _, _, h => by simp [getLp] at h
  | L :: S, l, p, h => by
    simp only [getLp] at h
    split at h
    · rename_i e; simp [e]
    · have := getLp_lt h; simp; omega
theorem length_setBox : ∀ (T : St) (l i : Nat) (cs : List V), (setBox T l i cs).length = T.length
  | [], _, _, _ => rfl
  | L :: S, l, i, cs => by simp only [setBox]; split <;> simp [length_setBox S]
theorem length_setLp : ∀ (T : St) (l : Nat) (p : Option Lp), (setLp T l p).length = T.length
  | [], _, _ => rfl
  | L :: S, l, p => by simp only [setLp]; split <;> simp [length_setLp S]
theorem getBox_setBox : ∀ {T : St} {l i : Nat} {cs cs' : List V} (h : getBox T l i = some cs) (l' i' : Nat), getBox (setBox T l i cs') l' i' = if l' = l ∧ i' = i then some cs' else getBox T l' i'
  | [], _, _, _, _, h, _, _ => by simp [getBox] at h
  | L :: S, l, i, cs, cs', h, l', i' => by
    simp only [getBox] at h
    simp only [setBox]
    split at h
    · rename_i e
      subst e
      have hi : i < L.bs.length := (List.getElem?_eq_some_iff.1 h).1
      simp only [if_true, getBox]
      by_cases hl : l' = S.length
      · subst hl
        simp only [if_true, true_and]
        by_cases hii : i' = i
        · subst hii; simp [hi]
        · simp [hii, List.getElem?_set, Ne.symm hii]
      · simp [hl]
    · rename_i e
      rw [if_neg e]
      simp only [getBox, length_setBox]
      have hlt := getBox_lt h
      by_cases hl : l' = S.length
      · subst hl
        simp only [if_true]
        rw [if_neg (by rintro ⟨rfl, _⟩; omega)]
      · rw [if_neg hl, if_neg hl, getBox_setBox h l' i']
theorem getLp_setBox : ∀ (T : St) (l i : Nat) (cs : List V) (l' : Nat), getLp (setBox T l i cs) l' = getLp T l'
  | [], _, _, _, _ => rfl
  | L :: S, l, i, cs, l' => by
    simp only [setBox]
    split
    · simp [getLp]
    · simp [getLp, length_setBox, getLp_setBox S]
theorem getBox_setLp : ∀ (T : St) (l : Nat) (p : Option Lp) (l' i' : Nat), getBox (setLp T l p) l' i' = getBox T l' i'
  | [], _, _, _, _ => rfl
  | L :: S, l, p, l', i' => by
    simp only [setLp]
    split
    · simp [getBox]
    · simp [getBox, length_setLp, getBox_setLp S]
theorem getLp_setLp : ∀ {T : St} {l : Nat} (h : l < T.length) (p : Option Lp) (l' : Nat), getLp (setLp T l p) l' = if l' = l then p else getLp T l'
  | [], _, h, _, _ => by simp at h
  | L :: S, l, h, p, l' => by
    simp only [setLp]
    split
    · rename_i e
      subst e
      simp only [getLp]
      by_cases hl : l' = S.length <;> simp [hl]
    · rename_i e
      simp only [getLp, length_setLp]
      by_cases hl : l' = S.length
      · subst hl; simp [e, Ne.symm e]
      · rw [if_neg hl, if_neg hl, getLp_setLp (by simp at h; omega)]
theorem getBox_top (bs : List (List V)) (lp : Option Lp) (R : St) (i : Nat) : getBox (⟨bs, lp⟩ :: R) R.length i = bs[i]? := by simp [getBox]
theorem getBox_push (L : Lev) (R : St) (z : List V) (l i : Nat) : getBox ({ L with bs := L.bs ++ [z] } :: R) l i = if l = R.length ∧ i = L.bs.length then some z else getBox (L :: R) l i := by
  simp only [getBox]
  by_cases hl : l = R.length
  · subst hl
    simp only [if_true, true_and]
    by_cases hi : i = L.bs.length
    · subst hi; simp
    · rw [if_neg hi]
      rcases Nat.lt_or_ge i L.bs.length with h | h
      · rw [List.getElem?_append_left h]
      · rw [List.getElem?_append_right h, List.getElem?_eq_none (by omega : L.bs.length ≤ i), List.getElem?_eq_none (by simp; omega)]
  · simp [hl]

/-! ### The invariant -/
/-- The value x in the place c owns its row: the elements are xs, of type e; no cell behind them is read by anybody. -/
def OwnAt (P : Program) (g : Gh) (w : World) (c : Loc) (e : Nat) (x : Value) (xs : List (List V)) : Prop :=
  ∃ n cs, szOf P e = some n ∧ 0 < n ∧ (∀ r ∈ xs, r.length = n) ∧ w.ownsRow 0 e n x xs.length cs ∧
    ∀ b, x.ownBlock = some b → g.use b = .row c ∧ ∀ o v, g.G b o = some v → o < xs.length * n

def BoxAt (P : Program) (g : Gh) (w : World) (l i : Nat) (cs : List V) : Prop :=
  g.use (g.bx l i) = .box l i ∧ ∃ vs e, w.heap[g.bx l i]? = some (.cells ⟨vs⟩ e (0, 0)) ∧ isCells cs = true ∧ RelL g (l + 1) cs vs ∧
    ∀ (j e' : Nat) (xs : List (List V)) (x : Value), cs[j]? = some (.slice (.own e') xs) → vs[j]? = some x → OwnAt P g w (.cell l i j) e' x xs

def isCalm : V → Bool
  | .fresh _ => false
  | .mir .. => false
  | .slice (.own _) _ => false
  | _ => true

def LpAt (P : Program) (g : Gh) (w : World) (l : Nat) (p : Lp) : Prop :=
  g.use (g.lp l) = .loop l ∧ ∃ r : Loop, w.heap[g.lp l]? = some (.loop r) ∧ r.params.toList = p.ps ∧ (∃ res, compC P r.tmps.size res r.assign = some p.asg ∧ compC P r.tmps.size res r.body = some p.body) ∧ (noRng p.asg = true ∧ noRng p.body = true) ∧ (∀ q ∈ p.ps, q < r.tmps.size) ∧ (∀ t, r.tmps.size ≤ t → p.fr t = .undef) ∧
    (∀ (t : Nat) (x : Value), r.tmps[t]? = some x → isCalm (p.fr t) = true ∧ Rel g (l + 1) (p.fr t) x) ∧
    (match p.jump with
      | none => r.state = .ready ∧ r.pending = none
      | some .nrm => r.state = .busy ∧ r.pending = none
      | some .ret => r.state = .done ∧ r.pending = some .ret
      | some (.exit id) => r.state = .done ∧ r.pending = some (.exit id)
      | _ => False)

/-- What Go's library keeps in a package-level variable and never turns. -/
def Base (P : Program) (g : Gh) : Prop := ∀ k, P.globals.toList.findIdx? (fun x => x.name == "internal/bytealg.MaxLen") = some k → ∃ m, g.G k 0 = some (.int .i64 m)

theorem Base.mono {P : Program} {g g' : Gh} {n : Nat} (h : Base P g) (hle : Le n g g') : Base P g' := fun k hk => let ⟨m, hm⟩ := h k hk; ⟨m, hle.G _ _ _ hm⟩

structure Inv (P : Program) (T : St) (g : Gh) (w : World) : Prop where
  K : Base P g
  G : ∀ b o v, g.G b o = some v → w.cell? ⟨b, o, none⟩ = some v ∧ (g.use b = .free ∨ ∃ c, g.use b = .row c)
  U : ∀ b, w.heap.size ≤ b → g.use b = .free
  B : ∀ l i cs, getBox T l i = some cs → BoxAt P g w l i cs
  L : ∀ l p, getLp T l = some p → LpAt P g w l p
  N : ∀ l i, l < T.length → getBox T l i = none → g.use (g.bx l i) ≠ .box l i

/-- What a temporary holds. -/
structure TmpAt (P : Program) (T : St) (g : Gh) (w : World) (t : Nat) (v : V) (x : Value) : Prop where
  rel : Rel g T.length v x
  own : ∀ e xs, v = .slice (.own e) xs → OwnAt P g w (.tmp t) e x xs
  fresh : ∀ z, v = .fresh z → ∃ b ty zs, x = .pointer (some ⟨b, 0, none⟩) ∧ g.use b = .row (.tmp t) ∧ w.heap[b]? = some (.cells ⟨zs⟩ ty (0, 0)) ∧ isCells z = true ∧ RelL g 0 z zs ∧ (∀ o, g.G b o = none) ∧
    ∀ (j : Nat) e ys, z[j]? ≠ some (.slice (.own e) ys)
  mir : ∀ l i o e xs, v = .mir l i o e xs → (∃ cs, getBox T l i = some cs ∧ cs[o]? = some (.slice (.own e) xs)) ∧ w.cell? ⟨g.bx l i, o, none⟩ = some x

structure FrRel (P : Program) (T : St) (g : Gh) (w : World) (nt : Nat) (F : Fr) (tmps : Array Value) : Prop where
  size : tmps.size = nt
  past : ∀ t, nt ≤ t → F t = .undef
  tmp : ∀ (t : Nat) (x : Value), tmps[t]? = some x → TmpAt P T g w t (F t) x

/-- What of the world and the ghost a stretch of a run leaves as it was, for whoever stands outside. -/
structure Frm (g : Gh) (w : World) (g' : Gh) (w' : World) : Prop where
  os : w'.os = w.os
  tape : w'.tape = w.tape
  output : w'.output = w.output
  size : w.heap.size ≤ w'.heap.size
  old : ∀ b, b < w.heap.size → g.use b = .free → w'.heap[b]? = w.heap[b]? ∧ g'.use b = .free ∧ ∀ o, g'.G b o = g.G b o

theorem Frm.refl (g : Gh) (w : World) : Frm g w g w := ⟨rfl, rfl, rfl, Nat.le_refl _, fun _ _ h => ⟨rfl, h, fun _ => rfl⟩⟩
theorem Frm.trans {g1 g2 g3 : Gh} {w1 w2 w3 : World} (h : Frm g1 w1 g2 w2) (k : Frm g2 w2 g3 w3) : Frm g1 w1 g3 w3 := {
  os := k.os.trans h.os
  tape := k.tape.trans h.tape
  output := k.output.trans h.output
  size := Nat.le_trans h.size k.size
  old b hb hu := by
    obtain ⟨e1, u1, o1⟩ := h.old b hb hu
    obtain ⟨e2, u2, o2⟩ := k.old b (Nat.lt_of_lt_of_le hb h.size) u1
    exact ⟨e2.trans e1, u2, fun o => (o2 o).trans (o1 o)⟩ }

/-- One step: but for blocks in a use of U, all old blocks are as they were. -/
structure Same (U : Use → Prop) (g : Gh) (w : World) (g' : Gh) (w' : World) : Prop where
  os : w'.os = w.os
  tape : w'.tape = w.tape
  output : w'.output = w.output
  size : w.heap.size ≤ w'.heap.size
  old : ∀ b, b < w.heap.size → ¬ U (g.use b) → w'.heap[b]? = w.heap[b]? ∧ g'.use b = g.use b ∧ ∀ o, g'.G b o = g.G b o

theorem Same.frm {U : Use → Prop} {g : Gh} {w : World} {g' : Gh} {w' : World} (h : Same U g w g' w') (hU : ¬ U .free) : Frm g w g' w' :=
  ⟨h.os, h.tape, h.output, h.size, fun b hb hu => by
    obtain ⟨e1, e2, e3⟩ := h.old b hb (by rw [hu]; exact hU)
    exact ⟨e1, e2.trans hu, e3⟩⟩
theorem Same.refl (U : Use → Prop) (g : Gh) (w : World) : Same U g w g w := ⟨rfl, rfl, rfl, Nat.le_refl _, fun _ _ _ => ⟨rfl, rfl, fun _ => rfl⟩⟩

theorem ownBlock_lt {w : World} {base e n k : Nat} {x : Value} {cs : List Value} (h : w.ownsRow base e n x k cs) {b : Nat} (hb : x.ownBlock = some b) : b < w.heap.size := (h.lt b hb).2

section
variable {P : Program} {T T' : St} {U : Use → Prop} {g : Gh} {w : World} {g' : Gh} {w' : World}

theorem ownsRow_same {base e n k : Nat} {x : Value} {cs : List Value} (h : w.ownsRow base e n x k cs) (hb : ∀ b, x.ownBlock = some b → w'.heap[b]? = w.heap[b]?) : w'.ownsRow base e n x k cs := by
  refine ⟨h.1, ?_⟩
  rcases h.2 with hn | ⟨b, cap, cur, rfl, hb0, hh, r⟩
  · exact .inl hn
  · exact .inr ⟨b, cap, cur, rfl, hb0, by rw [hb b rfl]; exact hh, r⟩

theorem OwnAt.same {c : Loc} {e : Nat} {x : Value} {xs : List (List V)} (h : OwnAt P g w c e x xs) (S : Same U g w g' w') (hU : ¬ U (.row c)) : OwnAt P g' w' c e x xs := by
  obtain ⟨n, cs, h1, h2, h3, h4, h5⟩ := h
  have hk : ∀ b, x.ownBlock = some b → w'.heap[b]? = w.heap[b]? ∧ g'.use b = g.use b ∧ ∀ o, g'.G b o = g.G b o := fun b hb =>
    S.old b (ownBlock_lt h4 hb) (by rw [(h5 b hb).1]; exact hU)
  refine ⟨n, cs, h1, h2, h3, ownsRow_same h4 fun b hb => (hk b hb).1, fun b hb => ⟨(hk b hb).2.1.trans (h5 b hb).1, fun o v hv => (h5 b hb).2 o v ?_⟩⟩
  rw [← (hk b hb).2.2 o]; exact hv

theorem BoxAt.same {l i : Nat} {cs : List V} (h : BoxAt P g w l i cs) (I : Inv P T g w) (S : Same U g w g' w') (hle : Le (l + 1) g g') (hU : ¬ U (.box l i)) (hU' : ∀ j, ¬ U (.row (.cell l i j))) : BoxAt P g' w' l i cs := by
  obtain ⟨hu, vs, e, hh, hi, hr, ho⟩ := h
  obtain ⟨e1, u1⟩ := hle.bx l i (Nat.lt_succ_self l) hu
  have hlt : g.bx l i < w.heap.size := (Array.getElem?_eq_some_iff.1 hh).1
  refine ⟨by rw [e1]; exact u1, vs, e, ?_, hi, relL_mono hle (Nat.le_refl _) cs vs hr, fun j e' xs x hj hx => (ho j e' xs x hj hx).same S (hU' j)⟩
  rw [e1, (S.old _ hlt (by rw [hu]; exact hU)).1]
  exact hh

theorem LpAt.same {l : Nat} {p : Lp} (h : LpAt P g w l p) (S : Same U g w g' w') (hle : Le (l + 1) g g') (hlp : g'.lp l = g.lp l ∧ g'.use (g.lp l) = .loop l) (hU : ¬ U (.loop l)) : LpAt P g' w' l p := by
  obtain ⟨hu, r, hh, hp, hc, hrg, hq, hn, hf, hj⟩ := h
  obtain ⟨e1, u1⟩ := hlp
  have hlt : g.lp l < w.heap.size := (Array.getElem?_eq_some_iff.1 hh).1
  refine ⟨by rw [e1]; exact u1, r, ?_, hp, hc, hrg, hq, hn, fun t x hx => ⟨(hf t x hx).1, rel_mono hle (Nat.le_refl _) _ _ (hf t x hx).2⟩, hj⟩
  rw [e1, (S.old _ hlt (by rw [hu]; exact hU)).1]
  exact hh

theorem cell?_eq {w w' : World} {b : Nat} (h : w'.heap[b]? = w.heap[b]?) (o : Nat) : w'.cell? ⟨b, o, none⟩ = w.cell? ⟨b, o, none⟩ := by
  simp only [World.cell?, h]

/-- The invariant behind a step. -/
theorem Inv.step (I : Inv P T g w) (S : Same U g w g' w') (hle : Le T.length g g')
    (hG : ∀ b o v, g'.G b o = some v → (U (g.use b) ∧ b < w.heap.size ∨ w.heap.size ≤ b) → w'.cell? ⟨b, o, none⟩ = some v ∧ (g'.use b = .free ∨ ∃ c, g'.use b = .row c))
    (hU : ∀ b, w'.heap.size ≤ b → g'.use b = .free)
    (hB : ∀ l i cs, getBox T' l i = some cs → (getBox T l i = some cs ∧ ¬ U (.box l i) ∧ ∀ j, ¬ U (.row (.cell l i j))) ∨ BoxAt P g' w' l i cs)
    (hL : ∀ l p, getLp T' l = some p → (getLp T l = some p ∧ ¬ U (.loop l) ∧ l + 1 < T.length) ∨ LpAt P g' w' l p)
    (hN : ∀ l i, l < T'.length → getBox T' l i = none → g'.use (g'.bx l i) ≠ .box l i) : Inv P T' g' w' := {
  K := I.K.mono hle
  N := hN
  G b o v hv := by
    rcases Nat.lt_or_ge b w.heap.size with hb | hb
    · by_cases hu : U (g.use b)
      · exact hG b o v hv (.inl ⟨hu, hb⟩)
      · obtain ⟨e1, e2, e3⟩ := S.old b hb hu
        rw [e3] at hv
        obtain ⟨h1, h2⟩ := I.G b o v hv
        exact ⟨by rw [cell?_eq e1]; exact h1, by rw [e2]; exact h2⟩
    · exact hG b o v hv (.inr hb)
  U := hU
  B l i cs hc := by
    rcases hB l i cs hc with ⟨h1, h2, h3⟩ | h
    · exact (I.B l i cs h1).same I S (hle.less (getBox_lt h1)) h2 h3
    · exact h
  L l p hp := by
    rcases hL l p hp with ⟨h1, h2, h3⟩ | h
    · exact (I.L l p h1).same S (hle.less (getLp_lt h1)) (hle.lp l h3 (I.L l p h1).1) h2
    · exact h }

/-- A temporary behind a step that doesn't touch it. -/
theorem TmpAt.same {t : Nat} {v : V} {x : Value} (h : TmpAt P T g w t v x) (I : Inv P T g w) (S : Same U g w g' w') (hle : Le T.length g g') (hlen : T'.length = T.length) (hU : ¬ U (.row (.tmp t)))
    (hm : (∀ l i o e xs, v ≠ .mir l i o e xs) ∨ (T' = T ∧ ∀ l i, ¬ U (.box l i))) : TmpAt P T' g' w' t v x := {
  rel := by rw [hlen]; exact rel_mono hle (Nat.le_refl _) v x h.rel
  own e xs hv := (h.own e xs hv).same S hU
  fresh z hv := by
    obtain ⟨b, ty, zs, hx, hu, hh, hi, hr, hg, ho⟩ := h.fresh z hv
    obtain ⟨e1, e2, e3⟩ := S.old b (Array.getElem?_eq_some_iff.1 hh).1 (by rw [hu]; exact hU)
    exact ⟨b, ty, zs, hx, e2.trans hu, e1.trans hh, hi, relL_mono (hle.less (Nat.zero_le _)) (Nat.le_refl _) z zs hr, fun o => (e3 o).trans (hg o), ho⟩
  mir l i o e xs hv := by
    obtain ⟨⟨cs, h1, h2⟩, h3⟩ := h.mir l i o e xs hv
    rcases hm with hm | ⟨rfl, hm⟩
    · exact absurd hv (hm l i o e xs)
    · obtain ⟨hu, vs, e', hh, _⟩ := I.B l i cs h1
      obtain ⟨e1, u1⟩ := hle.bx l i (getBox_lt h1) hu
      obtain ⟨k1, _, _⟩ := S.old (g.bx l i) (Array.getElem?_eq_some_iff.1 hh).1 (by rw [hu]; exact hm l i)
      exact ⟨⟨cs, h1, h2⟩, by rw [e1, cell?_eq k1]; exact h3⟩ }

end

theorem put_same (F : Fr) (d : Nat) (v : V) : put F d v d = v := by simp [put]
theorem put_ne (F : Fr) {d t : Nat} (v : V) (h : t ≠ d) : put F d v t = F t := by simp [put, h]

theorem putO_past {F : Fr} {nt : Nat} {d : Option Nat} {v : V} (h : ∀ t, nt ≤ t → F t = .undef) (hd : inNt nt d = true) : ∀ t, nt ≤ t → putO F d v t = .undef := by
  intro t ht
  cases d with
  | none => exact h t ht
  | some d =>
    simp only [inNt, decide_eq_true_eq] at hd
    simp only [putO]
    rw [put_ne _ _ (by omega)]
    exact h t ht

/-- The frame behind an operation that has yielded x for v. -/
theorem FrRel.put {P : Program} {T : St} {g : Gh} {w : World} {nt : Nat} {F : Fr} {a : Act} {d : Option Nat} {v : V} {x : Value} (hs : a.tmps.size = nt) (hp : ∀ t, nt ≤ t → F t = .undef) (hd : inNt nt d = true)
    (h : ∀ (t : Nat) (y : Value), d ≠ some t → a.tmps[t]? = some y → TmpAt P T g w t (F t) y)
    (hv : ∀ t, d = some t → TmpAt P T g w t v x) : FrRel P T g w nt (putO F d v) (a.put d x).tmps := {
  size := by cases d <;> simp [Act.put, hs]
  past := putO_past hp hd
  tmp t y hy := by
    cases d with
    | none => exact h t y (by simp) hy
    | some d =>
      simp only [Act.put] at hy
      by_cases e : t = d
      · subst e
        have : y = x := by
          rw [Array.getElem?_setIfInBounds] at hy
          simp at hy
          exact hy.2.symm
        subst this
        simp only [putO, put_same]
        exact hv t rfl
      · rw [Array.getElem?_setIfInBounds_ne (Ne.symm e)] at hy
        simp only [putO, put_ne _ _ e]
        exact h t y (by simpa using Ne.symm e) hy }

end AM
end Go.Proofs.Ytimfbnojmdnlnaa
end
section
set_option linter.unusedVariables false
set_option linter.unusedSimpArgs false
namespace Go.Proofs.Ytimfbnojmdnlnaa
namespace AM

theorem add_lit (b o n : Nat) : (⟨b, o, none⟩ : Addr).add n = ⟨b, o + n, none⟩ := by
  unfold Addr.add; split <;> simp_all

theorem isCalm_strip {v : V} (h : tame v = true) : isCalm (strip v) = true := by
  cases v <;> try (simp [tame] at h) <;> try rfl
  all_goals try rfl
  rename_i k xs
  cases k <;> rfl
theorem isCalm_cp {v u : V} (h : cp v = some u) : isCalm u = true := by
  cases v <;> simp [cp] at h <;> subst h <;> try rfl
  rename_i k xs
  cases k <;> rfl
theorem rel_cp {g : Gh} {d : Nat} {v u : V} {x : Value} (h : cp v = some u) (r : Rel g d v x) : Rel g d u x := by
  cases v <;> simp [cp] at h <;> (subst h; first | exact r | exact rel_strip r | (simp only [Rel] at r ⊢; exact r))

theorem tames_iff : ∀ {vs : List V}, tames vs = true ↔ ∀ v ∈ vs, tame v = true
  | [] => by simp [tames]
  | v :: vs => by simp [tames, tames_iff (vs := vs)]

/-! ### Operands and constants -/
theorem rel_ofCell {g : Gh} {d : Nat} {x : Value} {v : V} (h : ofCell x = some v) : Rel g d v x ∧ isCell v = true ∧ ∀ e xs, v ≠ .slice (.own e) xs := by
  unfold ofCell at h
  split at h <;> first | (cases h; done) | skip
  all_goals (injection h with h; subst h)
  case h_5 => exact ⟨by simp only [Rel]; exact ⟨none, 0, 0, rfl, rfl, Nat.le_refl _, ⟨0, by simp⟩, by simp [RowsG], by simp, rfl, rfl⟩, rfl, by simp⟩
  all_goals exact ⟨by simp [Rel], rfl, by simp⟩
theorem relL_ofCells {g : Gh} {d : Nat} : ∀ {xs : List Value} {vs : List V}, xs.mapM ofCell = some vs → RelL g d vs xs ∧ isCells vs = true ∧ ∀ v ∈ vs, ∀ e ys, v ≠ .slice (.own e) ys
  | [], vs, h => by
    simp at h; subst h; simp [RelL, isCells]
  | x :: xs, vs, h => by
    simp only [List.mapM_cons, Option.pure_def, Option.bind_eq_bind, Option.bind_eq_some_iff] at h
    obtain ⟨v, hv, vs', hvs, h⟩ := h
    simp at h
    subst h
    obtain ⟨h1, h2, h3⟩ := rel_ofCell (g := g) (d := d) hv
    obtain ⟨k1, k2, k3⟩ := relL_ofCells (g := g) (d := d) hvs
    refine ⟨by simp only [RelL]; exact ⟨x, xs, rfl, h1, k1⟩, by simp [isCells, h2, k2], fun u hu => ?_⟩
    rcases List.mem_cons.1 hu with rfl | hu
    · exact h3
    · exact k3 u hu
theorem rel_ofValue {g : Gh} {d : Nat} {x : Value} {v : V} (h : ofValue x = some v) : Rel g d v x ∧ isCalm v = true := by
  unfold ofValue at h
  split at h
  · rename_i cs
    obtain ⟨vs, hvs, rfl⟩ := Option.map_eq_some_iff.1 h
    obtain ⟨h1, h2, _⟩ := relL_ofCells (g := g) (d := d) hvs
    exact ⟨by simp only [Rel]; exact ⟨cs.toList, by simp, h2, h1⟩, rfl⟩
  · obtain ⟨h1, h2, h3⟩ := rel_ofCell (g := g) (d := d) h
    refine ⟨h1, ?_⟩
    cases v <;> simp [isCell] at h2 <;> try rfl
    rename_i k ys
    cases k <;> first | rfl | exact absurd rfl (h3 _ _)

section
variable {P : Program} {T : St} {g : Gh} {w : World} {nt : Nat} {F : Fr} {a : Act}

theorem rel_tmp (hF : FrRel P T g w nt F a.tmps) (t : Nat) : Rel g T.length (F t) (a.tmps.getD t undef) := by
  rcases Nat.lt_or_ge t a.tmps.size with h | h
  · have := (hF.tmp t a.tmps[t] (Array.getElem?_eq_getElem h)).rel
    simpa [h] using this
  · rw [hF.past t (by rw [← hF.size]; exact h)]
    simp [Rel]

theorem rel_opd (hF : FrRel P T g w nt F a.tmps) {x : Operand} {X : Opd} (h : opd x = some X) : Rel g T.length (evO F X) (a.eval x) := by
  unfold opd at h
  split at h
  · injection h with h; subst h; exact rel_tmp hF _
  · obtain ⟨v, hv, rfl⟩ := Option.map_eq_some_iff.1 h
    exact (rel_ofValue hv).1
  · injection h with h; subst h
    simp only [evO, Act.eval, Rel, RelL]
    exact ⟨_, [], rfl, rfl, rfl⟩
  · cases h

theorem mapM_get {α β : Type} {f : α → Option β} : ∀ {xs : List α} {ys : List β}, xs.mapM f = some ys → ys.length = xs.length ∧ ∀ (j : Nat) (x : α), xs[j]? = some x → ∃ y, ys[j]? = some y ∧ f x = some y
  | [], ys, h => by simp at h; subst h; simp
  | x :: xs, ys, h => by
    simp only [List.mapM_cons, Option.pure_def, Option.bind_eq_bind, Option.bind_eq_some_iff] at h
    obtain ⟨y, hy, ys', hys, h⟩ := h
    simp at h
    subst h
    obtain ⟨hl, hj⟩ := mapM_get hys
    refine ⟨by simp [hl], fun j u hu => ?_⟩
    cases j with
    | zero => simp at hu; subst hu; exact ⟨y, rfl, hy⟩
    | succ j => simpa using hj j u (by simpa using hu)

theorem rel_opds (hF : FrRel P T g w nt F a.tmps) : ∀ {xs : List Operand} {Xs : List Opd}, xs.mapM opd = some Xs → RelL g T.length (Xs.map (evO F)) (xs.map a.eval)
  | [], Xs, h => by simp at h; subst h; simp [RelL]
  | x :: xs, Xs, h => by
    simp only [List.mapM_cons, Option.pure_def, Option.bind_eq_bind, Option.bind_eq_some_iff] at h
    obtain ⟨X, hX, Xs', hXs, h⟩ := h
    simp at h
    subst h
    simp only [List.map_cons, RelL]
    exact ⟨_, _, rfl, rel_opd hF hX, rel_opds hF hXs⟩

theorem relL_strip {g : Gh} {d : Nat} : ∀ {vs : List V} {xs : List Value}, RelL g d vs xs → RelL g d (vs.map strip) xs
  | [], _, r => by simpa [RelL] using r
  | v :: vs, xs, r => by
    simp only [RelL, List.map_cons] at r ⊢
    obtain ⟨u, us, hx, hu, hs⟩ := r
    exact ⟨u, us, hx, rel_strip hu, relL_strip hs⟩
theorem isCells_strip : ∀ (vs : List V), isCells (vs.map strip) = isCells vs
  | [] => rfl
  | v :: vs => by simp [isCells, isCell_strip, isCells_strip vs]

/-- A value's cells. -/
theorem rel_cellsOf {g : Gh} {d : Nat} {v : V} {x : Value} {cs : List V} (h : cellsOf v = some cs) (r : Rel g d v x) : RelL g d cs x.cells.toList ∧ isCells cs = true := by
  unfold cellsOf at h
  split at h
  · injection h with h; subst h
    simp only [Rel] at r
    obtain ⟨vs, rfl, hi, hr⟩ := r
    exact ⟨by simpa [Value.cells] using relL_strip hr, by rw [isCells_strip]; exact hi⟩
  · split at h
    · rename_i hc
      injection h with h; subst h
      have h1 := oneCell_of_rel hc r
      have : x.cells = #[x] := by cases x <;> simp_all [Value.oneCell', Value.cells]
      rw [this]
      exact ⟨by simp only [RelL]; exact ⟨x, [], rfl, r, rfl⟩, by simp [isCells, hc]⟩
    · cases h

theorem cellsOf_own {v : V} {cs : List V} (h : cellsOf v = some cs) {j e : Nat} {xs : List (List V)} (hj : cs[j]? = some (.slice (.own e) xs)) : j = 0 ∧ v = .slice (.own e) xs := by
  unfold cellsOf at h
  split at h
  · injection h with h; subst h
    rw [List.getElem?_map, Option.map_eq_some_iff] at hj
    obtain ⟨u, _, hu⟩ := hj
    exact absurd hu strip_own
  · split at h
    · injection h with h; subst h
      cases j with
      | zero => simp at hj; exact ⟨rfl, hj⟩
      | succ j => simp at hj
    · cases h

/-- A variable's value out of its cells. -/
theorem rel_ofCells {g : Gh} {d : Nat} {gg : Bool} {cs : List V} {vs : List Value} {v : V} (h : ofCells gg cs = some v) (hi : isCells cs = true) (r : RelL g d cs vs) :
    (gg = true ∧ Rel g d v (.agg ⟨vs⟩)) ∨ (gg = false ∧ ∃ x, vs = [x] ∧ Rel g d v x) := by
  unfold ofCells at h
  split at h
  · rename_i hg
    injection h with h; subst h
    exact .inl ⟨hg, by simp only [Rel]; exact ⟨vs, rfl, hi, r⟩⟩
  · rename_i hg
    split at h
    · injection h with h; subst h
      simp only [RelL] at r
      obtain ⟨u, us, rfl, hu, rfl⟩ := r
      exact .inr ⟨by simpa using hg, u, rfl, hu⟩
    · cases h
theorem isCalm_ofCells {gg : Bool} {cs : List V} {v : V} (h : ofCells gg (cs.map strip) = some v) (hi : isCells cs = true) : isCalm v = true := by
  unfold ofCells at h
  split at h
  · injection h with h; subst h; rfl
  · cases cs with
    | nil => simp at h
    | cons c cs =>
      cases cs with
      | nil =>
        simp at h
        subst h
        simp only [isCells, Bool.and_true] at hi
        refine isCalm_strip ?_
        cases c <;> simp_all [isCell, tame]
      | cons _ _ => simp at h

/-! ### Types -/
theorem run_sizeOf {t n : Nat} (h : szOf P t = some n) (w : World) : (sizeOf t).run P w = .ok n w := by
  unfold szOf at h
  obtain ⟨i, hi, rfl⟩ := Option.map_eq_some_iff.1 h
  simp [sizeOf, typeInfo, hi]
theorem run_isAgg {t : Nat} {b : Bool} (h : aggOf P t = some b) (w : World) : (isAgg t).run P w = .ok b w := by
  unfold aggOf at h
  split at h
  · rename_i hu; injection h with h; subst h; simp [isAgg, run_underlying hu]
  · rename_i hu; injection h with h; subst h; simp [isAgg, run_underlying hu]
  · rename_i d h1 h2 hu; injection h with h; subst h
    simp only [isAgg, Sem.run_bind, run_underlying hu, Result.andThen_ok]
    cases d <;> simp_all
  · cases h

/-- Cells that lie side by side, read. -/
theorem run_cells (b o : Nat) (vs : List Value) (h : ∀ (j : Nat) (v : Value), vs[j]? = some v → w.cell? ⟨b, o + j, none⟩ = some v) : (loadCells ⟨b, o, none⟩ vs.length).run P w = .ok ⟨vs⟩ w :=
  run_loadCells_list w _ vs fun j v hv => by rw [add_lit]; exact h j v hv

theorem run_loadAt {ty n : Nat} {gg : Bool} {b o : Nat} {cs : List V} {vs : List Value} {v : V} {d : Nat} (hn : szOf P ty = some n) (hg : aggOf P ty = some gg) (hl : cs.length = n)
    (hc : ∀ (j : Nat) (v : Value), vs[j]? = some v → w.cell? ⟨b, o + j, none⟩ = some v) (hv : ofCells gg cs = some v) (hi : isCells cs = true) (r : RelL g d cs vs) :
    ∃ x, (Instr.loadAt ty (.pointer (some ⟨b, o, none⟩))).run P w = .ok x w ∧ Rel g d v x := by
  have hlen := relL_length r
  rcases rel_ofCells hv hi r with ⟨hgg, hr⟩ | ⟨hgg, x, hx, hr⟩
  · refine ⟨_, ?_, hr⟩
    have := run_cells (P := P) b o vs hc
    rw [← hlen, hl] at this
    simp [Instr.loadAt, Instr.sureAddr, loadVar, run_isAgg hg, hgg, run_sizeOf hn, this]
  · refine ⟨x, ?_, hr⟩
    have h0 := hc 0 x (by simp [hx])
    simp only [Nat.add_zero] at h0
    simp [Instr.loadAt, Instr.sureAddr, loadVar, run_isAgg hg, hgg, h0]

theorem run_part {ty n : Nat} {gg : Bool} {o : Nat} {cs : List V} {vs : List Value} {c : List V} {v : V} {d : Nat} (hn : szOf P ty = some n) (hg : aggOf P ty = some gg)
    (hc : cutL cs o n = some c) (hv : ofCells gg (c.map strip) = some v) (hi : isCells cs = true) (r : RelL g d cs vs) :
    ∃ x, (part ty ⟨vs⟩ o).run P w = .ok x w ∧ Rel g d v x ∧ isCalm v = true := by
  unfold cutL at hc
  split at hc
  · rename_i hle
    injection hc with hc; subst hc
    have hr := relL_strip (relL_take n (relL_drop o r))
    have hi' : isCells ((cs.drop o).take n) = true := isCells_iff.2 fun y hy => isCells_iff.1 hi y (List.mem_of_mem_drop (List.mem_of_mem_take hy))
    have hlen := relL_length r
    rcases rel_ofCells hv (by rw [isCells_strip]; exact hi') hr with ⟨hgg, hr⟩ | ⟨hgg, x, hx, hr⟩
    · refine ⟨_, ?_, hr, isCalm_ofCells hv hi'⟩
      simp [part, run_isAgg hg, hgg, run_sizeOf hn]
    · refine ⟨x, ?_, hr, isCalm_ofCells hv hi'⟩
      have h0 : vs[o]? = some x := by
        have : ((vs.drop o).take n)[0]? = some x := by rw [hx]; rfl
        rw [List.getElem?_take] at this
        split at this
        · rw [List.getElem?_drop] at this; simpa using this
        · cases this
      simp [part, run_isAgg hg, hgg, h0]
  · cases hc
end

end AM
end Go.Proofs.Ytimfbnojmdnlnaa
end
section
set_option linter.unusedVariables false
set_option linter.unusedSimpArgs false
namespace Go.Proofs.Ytimfbnojmdnlnaa
namespace AM

section
variable {P : Program} {T : St} {g : Gh} {w : World} {nt : Nat} {F : Fr} {a : Act} {tk : Option Nat → Bool} {o : Oper} {cE : CE}

/-- The operation yields, in w, what v stands for, and changes nothing. -/
def Yields (P : Program) (T : St) (g : Gh) (w : World) (a : Act) (o : Oper) (v : V) : Prop :=
  ∃ x, (execOp a.eval o).run P w = .ok (.value x) w ∧ Rel g T.length v x ∧ isCalm v = true

theorem y_move (hF : FrRel P T g w nt F a.tmps) {x : Operand} {X : Opd} {v : V} (he : o.op = .move x ∨ o.op = .assign x) (hx : opd x = some X) (hv : cp (evO F X) = some v) : Yields P T g w a o v := by
  refine ⟨a.eval x, ?_, rel_cp hv (rel_opd hF hx), isCalm_cp hv⟩
  rcases he with he | he <;> simp [execOp, he]

theorem y_pick (hF : FrRel P T g w nt F a.tmps) {c x y : Operand} {C X Y : Opd} {v : V} {t : Bool} (he : o.op = .pick c x y) (hc : opd c = some C) (hx : opd x = some X) (hy : opd y = some Y)
    (ht : evO F C = .bool t) (hv : cp (if t then evO F X else evO F Y) = some v) : Yields P T g w a o v := by
  have hb := rel_opd hF hc
  rw [ht] at hb
  simp only [Rel] at hb
  cases t
  · exact ⟨a.eval y, by simp [execOp, he, hb, asBool], rel_cp hv (rel_opd hF hy), isCalm_cp hv⟩
  · exact ⟨a.eval x, by simp [execOp, he, hb, asBool], rel_cp hv (rel_opd hF hx), isCalm_cp hv⟩

theorem atG_cell (I : Inv P T g w) {b o : Nat} {cs : List V} (h : AtG g b o cs) : ∃ vs, RelL g 0 cs vs ∧ isCells cs = true ∧ ∀ (j : Nat) (x : Value), vs[j]? = some x → w.cell? ⟨b, o + j, none⟩ = some x := by
  induction cs generalizing o with
  | nil => exact ⟨[], by simp [RelL], rfl, by simp⟩
  | cons c cs ih =>
    simp only [AtG] at h
    obtain ⟨⟨x, hx, hi, hr⟩, h2⟩ := h
    obtain ⟨vs, k1, k2, k3⟩ := ih h2
    refine ⟨x :: vs, by simp only [RelL]; exact ⟨x, vs, rfl, hr, k1⟩, by simp [isCells, hi, k2], fun j y hy => ?_⟩
    cases j with
    | zero => simp at hy; subst hy; exact (I.G b o x hx).1
    | succ j =>
      have := k3 j y (by simpa using hy)
      rwa [show o + 1 + j = o + (j + 1) from by omega] at this

theorem cutL_some {α : Type} {xs ys : List α} {o n : Nat} (h : cutL xs o n = some ys) : o + n ≤ xs.length ∧ ys = (xs.drop o).take n ∧ ys.length = n := by
  unfold cutL at h
  split at h
  · injection h with h; subst h; refine ⟨‹_›, rfl, by simp; omega⟩
  · cases h

theorem y_load (I : Inv P T g w) (hF : FrRel P T g w nt F a.tmps) {t n : Nat} {gg : Bool} {x : Operand} {X : Opd} {v : V} (he : o.op = .load t x) (hn : szOf P t = some n) (hg : aggOf P t = some gg) (hx : opd x = some X)
    (hv : valOp cE F T (.ld false n gg X) = some (.ret v)) : Yields P T g w a o v := by
  have hr := rel_opd hF hx
  simp only [valOp] at hv
  split at hv
  · rename_i cs hX
    rw [hX] at hr
    simp only [Rel] at hr
    obtain ⟨b, off, hxe, hat⟩ := hr
    simp only [Option.bind_eq_some_iff, Option.map_eq_some_iff] at hv
    obtain ⟨c, hc, u, hu, hv⟩ := hv
    simp at hv
    subst hv
    obtain ⟨h1, rfl, h3⟩ := cutL_some hc
    obtain ⟨vs, k1, k2, k3⟩ := atG_cell I (atG_take (atG_drop hat 0) n)
    obtain ⟨y, hy, hry⟩ := run_loadAt (P := P) (w := w) (vs := vs) (b := b) (o := off + 0) hn hg (by rw [List.length_map]; exact h3) k3 hu (by rw [isCells_strip]; exact k2) (relL_strip k1)
    refine ⟨y, ?_, rel_mono (Le.refl 0 g) (Nat.zero_le _) _ _ hry, isCalm_ofCells hu k2⟩
    simp only [Nat.add_zero] at hy
    simp [execOp, he, hxe, hy]
  · rename_i l i off hX
    rw [hX] at hr
    simp only [Rel] at hr
    obtain ⟨hl, hu0, hxe⟩ := hr
    simp only [Option.bind_eq_some_iff, Option.map_eq_some_iff] at hv
    obtain ⟨cs, hcs, c, hc, u, hu, hv⟩ := hv
    simp at hv
    subst hv
    obtain ⟨h1, rfl, h3⟩ := cutL_some hc
    obtain ⟨_, vs, ty, hh, hi, hrel, _⟩ := I.B l i cs hcs
    have k2 : isCells ((cs.drop off).take n) = true := isCells_iff.2 fun y hy => isCells_iff.1 hi y (List.mem_of_mem_drop (List.mem_of_mem_take hy))
    have k1 := relL_take n (relL_drop off hrel)
    obtain ⟨y, hy, hry⟩ := run_loadAt (P := P) (w := w) (vs := (vs.drop off).take n) (b := g.bx l i) (o := off) hn hg (by rw [List.length_map]; exact h3) (fun j z hz => by
      rw [List.getElem?_take] at hz
      split at hz
      · rw [List.getElem?_drop] at hz
        simp [World.cell?, hh, hz]
      · cases hz) hu (by rw [isCells_strip]; exact k2) (relL_strip k1)
    refine ⟨y, ?_, rel_mono (Le.refl _ g) (by omega) _ _ hry, isCalm_ofCells hu k2⟩
    simp [execOp, he, hxe, hy]
  · cases hv

theorem y_nc (hF : FrRel P T g w nt F a.tmps) {x : Operand} {X : Opd} {v : V} (he : o.op = .nilCheck x) (hx : opd x = some X) (hv : valOp cE F T (.nc X) = some (.ret v)) : Yields P T g w a o v := by
  have hr := rel_opd hF hx
  simp only [valOp] at hv
  split at hv
  · rename_i l i off hX
    rw [hX] at hr
    simp at hv; subst hv
    have hr' := hr
    simp only [Rel] at hr
    obtain ⟨_, _, hxe⟩ := hr
    exact ⟨.pointer (some ⟨g.bx l i, off, none⟩), by simp [execOp, he, hxe], by rw [hxe] at hr'; exact hr', rfl⟩
  · rename_i cs hX
    rw [hX] at hr
    simp at hv; subst hv
    have hr' := hr
    simp only [Rel] at hr
    obtain ⟨b, off, hxe, _⟩ := hr
    exact ⟨.pointer (some ⟨b, off, none⟩), by simp [execOp, he, hxe], by rw [hxe] at hr'; exact hr', rfl⟩
  · cases hv

theorem arith_run {op : BinOp} {k : IntKind} {m n : Int} {v : V} (t : Nat) (h : arith op k m n = some v) : ∃ x, (binOp op t (.int k m) (.int k n)).run P w = .ok x w ∧ (∀ (g : Gh) (d : Nat), Rel g d v x) ∧ isCalm v = true := by
  unfold arith at h
  split at h
  case h_12 => cases h
  case h_4 =>
    split at h
    · cases h
    · rename_i hn
      injection h with h; subst h
      exact ⟨_, by simp [binOp, Op.intDiv, hn]; rfl, fun _ _ => by simp [Rel], rfl⟩
  case h_5 =>
    split at h
    · cases h
    · rename_i hn
      injection h with h; subst h
      exact ⟨_, by simp [binOp, Op.intDiv, hn]; rfl, fun _ _ => by simp [Rel], rfl⟩
  all_goals
    injection h with h; subst h
    first
      | exact ⟨_, by simp [binOp, Op.intArith]; rfl, fun _ _ => by simp [Rel], rfl⟩
      | exact ⟨_, by simp [binOp, Op.intCmp]; rfl, fun _ _ => by simp [Rel], rfl⟩

theorem run_equalIn_bool {t : Nat} (hu : P.underlying t = some .bool) (d : Nat) (m n : Bool) : (Op.equalIn (d + 1) t (.bool m) (.bool n)).run P w = .ok (m == n) w := by
  simp [Op.equalIn, run_underlying hu]

theorem bin_run {op : BinOp} {t tk : Nat} {X Y v : V} {x y : Value} (ht : tk = 1 → P.underlying t = some .bool) (h : bin op tk X Y = some v) {d : Nat} (rx : Rel g d X x) (ry : Rel g d Y y) (xo yo : Operand) :
    ∃ z, ((do eqGuard op t xo yo x y; binOp op t x y : Sem Value)).run P w = .ok z w ∧ Rel g d v z ∧ isCalm v = true := by
  unfold bin at h
  split at h
  · rename_i k m k' n
    split at h
    · rename_i hk
      subst hk
      simp only [Rel] at rx ry
      subst rx; subst ry
      obtain ⟨z, h1, h2, h3⟩ := arith_run (P := P) (w := w) t h
      refine ⟨z, ?_, h2 g d, h3⟩
      have : eqGuard op t xo yo (.int k m) (.int k n) = pure () := by cases op <;> rfl
      simp [this, h1]
    · cases h
  · rename_i m n
    simp only [Rel] at rx ry
    subst rx; subst ry
    have : eqGuard op t xo yo (.string m) (.string n) = pure () := by cases op <;> rfl
    split at h
    · injection h with h; subst h
      exact ⟨_, by simp [this, binOp, Op.stringOp]; rfl, by simp [Rel], rfl⟩
    · injection h with h; subst h
      exact ⟨_, by simp [this, binOp, Op.stringOp]; rfl, by simp [Rel], rfl⟩
    · split at h
      · rename_i hle
        injection h with h; subst h
        have h2 : ¬ (((m.size + n.size : Nat) : Int) > IntKind.i64.max) := by
          have : (IntKind.i64.max : Int) = 9223372036854775807 := rfl
          rw [this]; omega
        refine ⟨.string (m ++ n), ?_, by simp [Rel], rfl⟩
        simp only [this, Sem.run_bind, Sem.run_pure, Result.andThen_ok, binOp, Op.stringOp]
        rw [if_neg h2]
        rfl
      · cases h
    · cases h
  · rename_i m n
    simp only [Rel] at rx ry
    subst rx; subst ry
    have : eqGuard op t xo yo (.bool m) (.bool n) = pure () := by cases op <;> rfl
    split at h
    · rename_i htk
      have hu := ht htk
      split at h
      · injection h with h; subst h
        refine ⟨.bool (m == n), ?_, by simp [Rel], rfl⟩
        simp only [this, Sem.run_bind, Sem.run_pure, Result.andThen_ok, binOp, Op.equal, Op.maxDepth, run_equalIn_bool (w := w) hu 9999]
      · injection h with h; subst h
        refine ⟨.bool (!(m == n)), ?_, by simp [Rel], rfl⟩
        simp only [this, Sem.run_bind, Sem.run_pure, Result.andThen_ok, binOp, Op.equal, Op.maxDepth, run_equalIn_bool (w := w) hu 9999]
      · cases h
    · cases h
  · cases h

theorem un_run {op : UnOp} {X v : V} {x : Value} (h : un op X = some v) {d : Nat} (rx : Rel g d X x) : ∃ z, (Op.unary op x).run P w = .ok z w ∧ Rel g d v z ∧ isCalm v = true := by
  unfold un at h
  split at h
  · injection h with h; subst h
    simp only [Rel] at rx; subst rx
    exact ⟨_, by simp [Op.unary, Op.intArith]; rfl, by simp [Rel], rfl⟩
  · injection h with h; subst h
    simp only [Rel] at rx; subst rx
    exact ⟨_, by simp [Op.unary]; rfl, by simp [Rel], rfl⟩
  · cases h

end

end AM
end Go.Proofs.Ytimfbnojmdnlnaa
end
section
set_option linter.unusedVariables false
set_option linter.unusedSimpArgs false
namespace Go.Proofs.Ytimfbnojmdnlnaa
namespace AM

section
variable {P : Program} {T : St} {g : Gh} {w : World} {nt : Nat} {F : Fr} {a : Act} {tk : Option Nat → Bool} {o : Oper} {cE : CE}

/-- Some cells of a list are written over. -/
theorem relL_setAt {d : Nat} {cs ds : List V} {xs ys : List Value} {off : Nat} (h : RelL g d cs xs) (k : RelL g d ds ys) : RelL g d (setAt cs off ds) (xs.take off ++ ys ++ xs.drop (off + ys.length)) := by
  unfold setAt
  rw [← relL_length k]
  exact relL_append (relL_append (relL_take _ h) k) (relL_drop _ h)
theorem isCells_setAt {cs ds : List V} {off : Nat} (h : isCells cs = true) (k : isCells ds = true) : isCells (setAt cs off ds) = true := by
  refine isCells_iff.2 fun c hc => ?_
  unfold setAt at hc
  rcases List.mem_append.1 hc with hc | hc
  · rcases List.mem_append.1 hc with hc | hc
    · exact isCells_iff.1 h c (List.mem_of_mem_take hc)
    · exact isCells_iff.1 k c hc
  · exact isCells_iff.1 h c (List.mem_of_mem_drop hc)

theorem foldl_setAt (xs : List Value) (off : Nat) (v : Value) (h : off + v.cells.size ≤ xs.length) :
    v.cells.zipIdx.foldl (fun cs (c, j) => cs.setIfInBounds (off + j) c) (⟨xs⟩ : Array Value) = ⟨xs.take off ++ v.cells.toList ++ xs.drop (off + v.cells.size)⟩ := by
  have e : v.cells.zipIdx.foldl (fun cs (c, j) => cs.setIfInBounds (off + j) c) (⟨xs⟩ : Array Value) = (v.cells.toList.zipIdx 0).foldl (fun cs (x : Value × Nat) => cs.setIfInBounds (off + x.2) x.1) ⟨xs⟩ := by
    rw [← Array.foldl_toList, Array.toList_zipIdx]
  rw [e]
  obtain ⟨h1, h2⟩ := Great.foldl_set off v.cells.toList 0 ⟨xs⟩
  apply Array.ext_getElem?
  intro k
  rw [h2 k]
  simp only [Nat.add_zero, Array.length_toList, List.getElem?_toArray]
  have hl : v.cells.toList.length = v.cells.size := by simp
  by_cases h3 : off ≤ k ∧ k < off + v.cells.size ∧ k < xs.length
  · rw [if_pos (by simpa using h3), List.append_assoc, List.getElem?_append_right (by simp; omega)]
    rw [List.getElem?_append_left (by simp; omega)]
    congr 1
    simp
    omega
  · rw [if_neg (by simpa using h3)]
    rcases Nat.lt_or_ge k off with hk | hk
    · rw [List.append_assoc, List.getElem?_append_left (by simp; omega), List.getElem?_take, if_pos hk]
    · rw [List.getElem?_append_right (by simp; omega), List.getElem?_drop]
      simp only [List.length_append, List.length_take, hl]
      rcases Nat.lt_or_ge k xs.length with hx | hx
      · congr 1
        omega
      · rw [List.getElem?_eq_none (by omega), List.getElem?_eq_none (by omega)]

theorem fill_ok (hF : FrRel P T g w nt F a.tmps) {pl : Nat → Option (Nat × Nat)} : ∀ {ps : List (Nat × Operand)} {qs : List (Nat × Nat × Opd)} {cs ds : List V} {xs : List Value},
    qs.length = ps.length → (∀ (j i : Nat) (x : Operand), ps[j]? = some (i, x) → ∃ off n X, qs[j]? = some (off, n, X) ∧ pl i = some (off, n) ∧ opd x = some X) →
    fill F cs qs = some ds → isCells cs = true → RelL g T.length cs xs →
    ∃ ys, Instr.fill pl ⟨xs⟩ (ps.map fun (i, x) => (i, a.eval x)) = some ⟨ys⟩ ∧ RelL g T.length ds ys ∧ isCells ds = true
  | [], qs, cs, ds, xs, hl, _, hf, hi, hr => by
    cases qs with
    | nil => simp [fill] at hf; subst hf; exact ⟨xs, rfl, hr, hi⟩
    | cons _ _ => simp at hl
  | (i, x) :: ps, qs, cs, ds, xs, hl, hp, hf, hi, hr => by
    cases qs with
    | nil => simp at hl
    | cons q qs =>
      obtain ⟨off, n, X, hq, hpl, hX⟩ := hp 0 i x rfl
      simp at hq
      subst hq
      simp only [fill] at hf
      split at hf
      · rename_i vs hvs
        split at hf
        · rename_i hle
          obtain ⟨k1, k2⟩ := rel_cellsOf hvs (rel_strip (rel_opd hF hX))
          have hlen := relL_length k1
          have hlen2 := relL_length hr
          have hsz : (a.eval x).cells.size = n := by have := hle.1; simp at hlen; omega
          have hr' : RelL g T.length (setAt cs off vs) (xs.take off ++ (a.eval x).cells.toList ++ xs.drop (off + (a.eval x).cells.size)) := by
            have := relL_setAt (off := off) hr k1
            simpa using this
          obtain ⟨ys, h1, h2, h3⟩ := fill_ok hF (pl := pl) (ps := ps) (qs := qs) (by simpa using hl) (fun j i' x' h => by simpa using hp (j + 1) i' x' (by simpa using h)) hf (isCells_setAt hi k2) hr'
          refine ⟨ys, ?_, h2, h3⟩
          simp only [List.map_cons, Instr.fill, hpl]
          rw [if_neg (by simp [hsz]; omega), foldl_setAt xs off _ (by rw [hsz]; omega)]
          exact h1
        · cases hf
      · cases hf

theorem rel_zeroOf {t : Nat} {z : List V} {d : Nat} (h : zeroOf P t = some z) : ∃ i v, P.info? t = some i ∧ i.zero = some v ∧ RelL g d z v.cells.toList ∧ isCells z = true ∧ ∀ u ∈ z, ∀ e ys, u ≠ .slice (.own e) ys := by
  unfold zeroOf at h
  simp only [Option.bind_eq_some_iff] at h
  obtain ⟨v, ⟨i, hi, hz⟩, hv⟩ := h
  obtain ⟨h1, h2, h3⟩ := relL_ofCells (g := g) (d := d) hv
  exact ⟨i, v, hi, hz, h1, h2, h3⟩

theorem y_build (hF : FrRel P T g w nt F a.tmps) {t : Nat} {ps : Array (Nat × Operand)} {op : AOp} {v : V} (he : o.op = .build t ps) (hc : compOp P tk o = some op) (hv : valOp cE F T op = some (.ret v)) : Yields P T g w a o v := by
  unfold compOp at hc
  rw [he] at hc
  simp only [Option.bind_eq_some_iff, Option.map_eq_some_iff] at hc
  obtain ⟨z, hz, pl, hpl, qs, hqs, rfl⟩ := hc
  obtain ⟨it, zv, hit, hzv, hzr, hzi, _⟩ := rel_zeroOf (P := P) (g := g) (d := T.length) hz
  simp only [valOp, Option.map_eq_some_iff] at hv
  obtain ⟨ds, hds, hv⟩ := hv
  simp at hv
  subst hv
  obtain ⟨hl, hj⟩ := mapM_get hqs
  obtain ⟨ys, h1, h2, h3⟩ := fill_ok hF (pl := pl) (ps := ps.toList) (qs := qs) hl (fun j i x hx => by
    obtain ⟨q, hq, hf⟩ := hj j (i, x) hx
    simp only [Option.bind_eq_some_iff, Option.map_eq_some_iff] at hf
    obtain ⟨r, hr, X, hX, rfl⟩ := hf
    exact ⟨r.1, r.2, X, hq, hr, hX⟩) hds hzi hzr
  have hb : P.built t (ps.map fun (i, x) => (i, a.eval x)).toList = some ⟨ys⟩ := by
    have e : (⟨zv.cells.toList⟩ : Array Value) = zv.cells := by simp
    rw [e] at h1
    rw [Array.toList_map]
    unfold placesOf at hpl
    split at hpl
    · rename_i fs hu
      obtain ⟨places, hp, rfl⟩ := Option.map_eq_some_iff.1 hpl
      simp only [Program.built, hit, hu, hzv, hp]
      exact h1
    · rename_i n e hu
      obtain ⟨ie, hp, rfl⟩ := Option.map_eq_some_iff.1 hpl
      simp only [Program.built, hit, hu, hzv, hp]
      exact h1
    · cases hpl
  refine ⟨.agg ⟨ys⟩, ?_, by simp only [Rel]; exact ⟨ys, rfl, h3, h2⟩, rfl⟩
  simp only [execOp, he, Sem.run_bind, run_build w t _ _ hb, Result.andThen_ok]
  rfl

theorem y_un (hF : FrRel P T g w nt F a.tmps) {op : UnOp} {t : Nat} {x : Operand} {X : Opd} {v : V} (he : o.op = .unOp op t x) (hx : opd x = some X) (hv : un op (evO F X) = some v) : Yields P T g w a o v := by
  obtain ⟨z, h1, h2, h3⟩ := un_run (P := P) (w := w) hv (rel_opd hF hx)
  exact ⟨z, by simp [execOp, he, h1], h2, h3⟩

theorem y_bin (hF : FrRel P T g w nt F a.tmps) {op : BinOp} {t k u : Nat} {x y : Operand} {X Y : Opd} {v : V} (he : o.op = .binOp op t x y u) (hk : tkOf P t = some k) (hx : opd x = some X) (hy : opd y = some Y) (hv : bin op k (evO F X) (evO F Y) = some v) : Yields P T g w a o v := by
  have ht : k = 1 → P.underlying t = some .bool := by
    intro hk1
    unfold tkOf at hk
    split at hk <;> simp_all
  obtain ⟨z, h1, h2, h3⟩ := bin_run (P := P) (w := w) (t := t) ht hv (rel_opd hF hx) (rel_opd hF hy) x y
  refine ⟨z, ?_, h2, h3⟩
  simp only [execOp, he]
  rw [Sem.run_bind, h1]
  rfl

theorem y_conv (hF : FrRel P T g w nt F a.tmps) {s d : Nat} {ks k k' : IntKind} {n : Int} {x : Operand} {X : Opd} (he : o.op = .convert s d x) (hs : P.underlying s = some (.int ks)) (hd : P.underlying d = some (.int k)) (hx : opd x = some X) (hX : evO F X = .int k' n) :
    Yields P T g w a o (.int k (k.wrap n)) := by
  have hr := rel_opd hF hx
  rw [hX] at hr
  simp only [Rel] at hr
  refine ⟨.int k (k.wrap n), ?_, by simp [Rel], rfl⟩
  simp [execOp, he, hr, convert, run_underlying hs, run_underlying hd, Conv.intToInt]

theorem y_fn (hF : FrRel P T g w nt F a.tmps) {f : Nat} {cs : Array Operand} {Cs : List Opd} (he : o.op = .makeFunc (.func f) #[] cs) (hc : opds cs = some Cs) (ht : tames (Cs.map fun c => evO F c) = true) :
    Yields P T g w a o (.func (.func f) (Cs.map fun c => strip (evO F c))) := by
  have hr := relL_strip (rel_opds hF hc)
  rw [List.map_map] at hr
  refine ⟨.func (.func f) #[] ⟨cs.toList.map a.eval⟩, ?_, by simp only [Rel]; exact ⟨_, _, rfl, hr, rfl⟩, rfl⟩
  simp [execOp, he, Instr.makeFunc]
  apply Array.ext'
  simp

theorem y_mki (hF : FrRel P T g w nt F a.tmps) {t : Nat} {d : TypeDesc} {x : Operand} {X : Opd} {v : V} (he : o.op = .makeInterface t x) (hu : P.underlying t = some d) (hd : (match d with | .interface _ => false | _ => true) = true) (hx : opd x = some X)
    (hv : valOp cE F T (.mki t X) = some (.ret v)) : Yields P T g w a o v := by
  have hr := rel_opd hF hx
  simp only [valOp] at hv
  have hrun : (execOp a.eval o).run P w = .ok (.value (.iface t (a.eval x))) w := by
    simp only [execOp, he, Instr.makeInterface, Sem.run_bind, run_underlying hu, Result.andThen_ok]
    cases d <;> first | rfl | simp at hd
  split at hv
  · simp at hv; subst hv
    exact ⟨_, hrun, by simp only [Rel]; exact ⟨_, rfl, rel_strip hr⟩, rfl⟩
  · split at hv
    · rename_i cs hX
      simp at hv; subst hv
      rw [hX] at hr
      exact ⟨_, hrun, by simp only [Rel] at hr ⊢; exact ⟨_, rfl, hr⟩, rfl⟩
    · cases hv

theorem y_fa (I : Inv P T g w) (hF : FrRel P T g w nt F a.tmps) {s i n : Nat} {fs : Array Field} {f : Field} {x : Operand} {X : Opd} {v : V} (he : o.op = .fieldAddr s x i) (hu : P.underlying s = some (.struct fs)) (hf : fs[i]? = some f) (hn : szOf P f.type = some n) (h0 : n ≠ 0)
    (hx : opd x = some X) (hv : valOp cE F T (.fa f.offset X) = some (.ret v)) : Yields P T g w a o v := by
  have hr := rel_opd hF hx
  simp only [valOp] at hv
  have hplace : ∀ b off, a.eval x = .pointer (some ⟨b, off, none⟩) → (execOp a.eval o).run P w = .ok (.value (.pointer (some ⟨b, off + f.offset, none⟩))) w := by
    intro b off hxe
    simp [execOp, he, Instr.fieldAt, run_underlying hu, hf, hxe, Instr.sureAddr, fieldPlace, run_sizeOf hn, h0, add_lit]
  split at hv
  · rename_i l j off hX
    rw [hX] at hr
    simp at hv; subst hv
    simp only [Rel] at hr
    exact ⟨_, hplace _ _ hr.2.2, by simp only [Rel]; exact ⟨hr.1, hr.2.1, trivial⟩, rfl⟩
  · rename_i cs hX
    rw [hX] at hr
    simp only [Rel] at hr
    obtain ⟨b, off, hxe, hat⟩ := hr
    split at hv
    · simp at hv; subst hv
      exact ⟨_, hplace _ _ hxe, by simp only [Rel]; exact ⟨b, _, rfl, atG_drop hat _⟩, rfl⟩
    · cases hv
  · cases hv

theorem y_fd (hF : FrRel P T g w nt F a.tmps) {s i n : Nat} {gg : Bool} {fs : Array Field} {f : Field} {x : Operand} {X : Opd} {v : V} (he : o.op = .field s x i) (hu : P.underlying s = some (.struct fs)) (hf : fs[i]? = some f) (hn : szOf P f.type = some n) (hg : aggOf P f.type = some gg)
    (hx : opd x = some X) (hv : valOp cE F T (.fd f.offset n gg X) = some (.ret v)) : Yields P T g w a o v := by
  have hr := rel_opd hF hx
  simp only [valOp] at hv
  split at hv
  · rename_i cs hX
    rw [hX] at hr
    simp only [Rel] at hr
    obtain ⟨vs, hxe, hi, hrel⟩ := hr
    simp only [Option.bind_eq_some_iff, Option.map_eq_some_iff] at hv
    obtain ⟨c, hc, u, hu', hv⟩ := hv
    simp at hv; subst hv
    obtain ⟨y, h1, h2, h3⟩ := run_part (P := P) (w := w) hn hg hc hu' hi hrel
    refine ⟨y, ?_, h2, h3⟩
    simp only [execOp, he, Instr.field, Sem.run_bind, run_underlying hu, Result.andThen_ok, hf, hxe, asAgg, Sem.run_pure, h1]
  · cases hv

theorem y_ia (hF : FrRel P T g w nt F a.tmps) {t e n : Nat} {x y : Operand} {X Y : Opd} {v : V} (he : o.op = .indexAddr t x y) (hu : P.underlying t = some (.slice e)) (hn : szOf P e = some n) (hx : opd x = some X) (hy : opd y = some Y)
    (hv : valOp cE F T (.ia n X Y) = some (.ret v)) : Yields P T g w a o v := by
  have hr := rel_opd hF hx
  have hs := rel_opd hF hy
  simp only [valOp] at hv
  split at hv
  · rename_i sk xs k j hX hY
    rw [hX] at hr
    rw [hY] at hs
    simp only [Rel] at hr hs
    obtain ⟨ad, m, c, hxe, hm, _, ⟨u, hun⟩, hrow, hsp, _⟩ := hr
    split at hv
    · rename_i hj0
      split at hv
      · rename_i cs hcs
        split at hv
        · rename_i hlen
          simp at hv; subst hv
          have hjl := (List.getElem?_eq_some_iff.1 hcs).1
          have hun' : u = n := by rw [← hun cs (List.mem_of_getElem? hcs)]; exact hlen
          subst hun'
          obtain ⟨⟨b, off, sp⟩, rfl, hat⟩ := rowsG_at hrow hun hcs
          have hsp' := hsp (by rintro rfl; simp at hcs) _ rfl
          simp at hsp'
          subst hsp'
          refine ⟨.pointer (some ⟨b, off + j.toNat * u, none⟩), ?_, by simp only [Rel]; exact ⟨b, _, rfl, hat⟩, rfl⟩
          have hin : 0 ≤ j ∧ j < (m : Int) := by subst hm; omega
          simp [execOp, he, hxe, hs, Instr.indexAt, asIntOf, run_underlying hu, run_sizeOf hn, hin, add_lit]
        · cases hv
      · cases hv
    · cases hv
  · cases hv

theorem y_sx (hF : FrRel P T g w nt F a.tmps) {t : Nat} {x y : Operand} {X Y : Opd} {v : V} (he : o.op = .index t x y) (hu : P.underlying t = some .string) (hx : opd x = some X) (hy : opd y = some Y)
    (hv : valOp cE F T (.sx X Y) = some (.ret v)) : Yields P T g w a o v := by
  have hr := rel_opd hF hx
  have hs := rel_opd hF hy
  simp only [valOp] at hv
  split at hv
  · rename_i s k j hX hY
    rw [hX] at hr
    rw [hY] at hs
    simp only [Rel] at hr hs
    split at hv
    · rename_i hj0
      split at hv
      · rename_i b hb
        simp at hv; subst hv
        refine ⟨.int .u8 b.toNat, ?_, by simp [Rel], rfl⟩
        have hb' : s[j.toNat]? = some b := by
          have h1 := (List.getElem?_eq_some_iff.1 hb)
          obtain ⟨h2, h3⟩ := h1
          have h4 : j.toNat < s.size := by simpa using h2
          rw [getElem?_pos s j.toNat h4]
          congr 1
        simp [execOp, he, hr, hs, Instr.index, asIntOf, run_underlying hu, hj0, hb']
      · cases hv
    · cases hv
  · cases hv

theorem y_ax (hF : FrRel P T g w nt F a.tmps) {t e n len : Nat} {gg : Bool} {x y : Operand} {X Y : Opd} {v : V} (he : o.op = .index t x y) (hu : P.underlying t = some (.array len e)) (hn : szOf P e = some n) (hg : aggOf P e = some gg) (hx : opd x = some X) (hy : opd y = some Y)
    (hv : valOp cE F T (.ax n len gg X Y) = some (.ret v)) : Yields P T g w a o v := by
  have hr := rel_opd hF hx
  have hs := rel_opd hF hy
  simp only [valOp] at hv
  split at hv
  · rename_i cs k j hX hY
    rw [hX] at hr
    rw [hY] at hs
    simp only [Rel] at hr hs
    obtain ⟨vs, hxe, hi, hrel⟩ := hr
    split at hv
    · rename_i hj
      simp only [Option.bind_eq_some_iff, Option.map_eq_some_iff] at hv
      obtain ⟨c, hc, u, hu', hv⟩ := hv
      simp at hv; subst hv
      obtain ⟨z, h1, h2, h3⟩ := run_part (P := P) (w := w) hn hg hc hu' hi hrel
      refine ⟨z, ?_, h2, h3⟩
      simp only [execOp, he, hs, Instr.index, asIntOf, Sem.run_bind, Sem.run_pure, Result.andThen_ok, run_underlying hu, hxe]
      rw [if_pos hj]
      simp only [Sem.run_bind, run_sizeOf hn, Result.andThen_ok, h1]
    · cases hv
  · cases hv

theorem y_ex (hF : FrRel P T g w nt F a.tmps) {i : Nat} {x : Operand} {X : Opd} {v : V} (he : o.op = .extract x i) (hx : opd x = some X) (hv : valOp cE F T (.ex X i) = some (.ret v)) : Yields P T g w a o v := by
  have hr := rel_opd hF hx
  simp only [valOp] at hv
  split at hv
  · rename_i vs hX
    rw [hX] at hr
    simp only [Rel] at hr
    obtain ⟨xs, hxe, hrel⟩ := hr
    simp only [Option.bind_eq_some_iff, Option.map_eq_some_iff] at hv
    obtain ⟨u, hu, u', hu', hv⟩ := hv
    simp at hv; subst hv
    obtain ⟨y, hy, hry⟩ := relL_at hrel hu
    refine ⟨y, ?_, rel_cp hu' hry, isCalm_cp hu'⟩
    simp [execOp, he, hxe, Instr.extract, hy]
  · cases hv

theorem y_len (hF : FrRel P T g w nt F a.tmps) {t : Nat} {sb : Bool} {x : Operand} {X : Opd} {v : V} (he : o.op = .call { callee := .builtin .len, args := #[x], argTypes := #[t] })
    (hu : if sb = true then P.underlying t = some .string else ∃ e, P.underlying t = some (.slice e)) (hx : opd x = some X) (hv : valOp cE F T (.len sb X) = some (.ret v)) : Yields P T g w a o v := by
  have hr := rel_opd hF hx
  simp only [valOp] at hv
  split at hv
  · rename_i k xs hX
    rw [hX] at hr
    split at hv
    · rename_i hsb
      subst hsb
      simp at hv; subst hv
      obtain ⟨e, hu⟩ : ∃ e, P.underlying t = some (.slice e) := by simpa using hu
      simp only [Rel] at hr
      obtain ⟨ad, m, c, hxe, hm, _⟩ := hr
      subst hm
      refine ⟨.int .i64 xs.length, ?_, by simp [Rel], rfl⟩
      simp [execOp, he, hxe, resolve, invoke, builtin, Builtin.len_, run_underlying hu, goInt]
    · cases hv
  · rename_i s hX
    rw [hX] at hr
    split at hv
    · rename_i hsb
      subst hsb
      simp at hv; subst hv
      have hu : P.underlying t = some .string := by simpa using hu
      simp only [Rel] at hr
      refine ⟨.int .i64 s.size, ?_, by simp [Rel], rfl⟩
      simp [execOp, he, hr, resolve, invoke, builtin, Builtin.len_, run_underlying hu, goInt]
    · cases hv
  · cases hv

theorem y_mm (hF : FrRel P T g w nt F a.tmps) {mx : Bool} {ts : Array TypeId} {x y : Operand} {X Y : Opd} {v : V} (he : o.op = .call { callee := .builtin (if mx then .max else .min), args := #[x, y], argTypes := ts }) (hx : opd x = some X) (hy : opd y = some Y)
    (hv : valOp cE F T (.mm mx X Y) = some (.ret v)) : Yields P T g w a o v := by
  have hr := rel_opd hF hx
  have hs := rel_opd hF hy
  simp only [valOp] at hv
  split at hv
  · rename_i k m k' n hX hY
    rw [hX] at hr
    rw [hY] at hs
    simp only [Rel] at hr hs
    split at hv
    · rename_i hk
      subst hk
      simp at hv; subst hv
      cases mx
      · refine ⟨.int k (if n < m then n else m), ?_, by simp [Rel], rfl⟩
        simp [execOp, he, hr, hs, resolve, invoke, builtin, Builtin.min_, Builtin.min2]
      · refine ⟨.int k (if n > m then n else m), ?_, by simp [Rel], rfl⟩
        simp [execOp, he, hr, hs, resolve, invoke, builtin, Builtin.max_, Builtin.max2]
    · cases hv
  · cases hv

theorem y_isn (hF : FrRel P T g w nt F a.tmps) {op : BinOp} {neg : Bool} {t e u : Nat} {x : Operand} {X : Opd} {v : V} (he : o.op = .binOp op t x (.const (.slice none 0 0)) u) (hop : op = if neg then .neq else .eql) (hu : P.underlying t = some (.slice e)) (hx : opd x = some X)
    (hv : valOp cE F T (.isn neg X) = some (.ret v)) : Yields P T g w a o v := by
  have hr := rel_opd hF hx
  simp only [valOp] at hv
  split at hv
  · rename_i k xs hX
    rw [hX] at hr
    simp at hv; subst hv
    simp only [Rel] at hr
    obtain ⟨ad, m, c, hxe, _, _, _, _, _, hk⟩ := hr
    refine ⟨.bool (isNilK k != neg), ?_, by simp [Rel], rfl⟩
    have hz : a.eval (.const (.slice none 0 0)) = .slice none 0 0 := rfl
    have hnil : ad.isNone = isNilK k := by
      cases k with
      | nil => rw [hk.1]; rfl
      | shut => cases ad with
        | none => exact absurd rfl hk
        | some _ => rfl
      | own _ => cases ad with
        | none => exact absurd rfl hk
        | some _ => rfl
    have heq : ∀ d, (Op.equalIn (d + 1) t (.slice ad m c) (.slice none 0 0)).run P w = .ok (isNilK k) w := by
      intro d
      cases ad with
      | none => simp [Op.equalIn, run_underlying hu, ← hnil]
      | some _ => simp [Op.equalIn, run_underlying hu, ← hnil]
    cases neg <;> simp only [Bool.false_eq_true, if_false, if_true] at hop <;> subst hop
    · simp [execOp, he, hxe, hz, eqGuard, binOp, Op.equal, Op.maxDepth, heq 9999]
    · simp [execOp, he, hxe, hz, eqGuard, binOp, Op.equal, Op.maxDepth, heq 9999]
  · cases hv

theorem rel_bnd (hF : FrRel P T g w nt F a.tmps) {x : Option Operand} {X : Option Opd} {n h : Nat} (hx : opdO x = some X) (hb : bndHi F n X = some h) : (x = none ∧ h = n) ∨ ∃ y k, x = some y ∧ a.eval y = .int k h ∧ h ≤ n := by
  cases x with
  | none =>
    simp [opdO] at hx; subst hx
    simp [bndHi] at hb; subst hb
    exact .inl ⟨rfl, rfl⟩
  | some y =>
    simp only [opdO, Option.map_eq_some_iff] at hx
    obtain ⟨Y, hY, rfl⟩ := hx
    simp only [bndHi, natIn] at hb
    split at hb
    · rename_i k i hYe
      split at hb
      · rename_i hi
        injection hb with hb; subst hb
        have := rel_opd hF hY
        rw [hYe] at this
        simp only [Rel] at this
        exact .inr ⟨y, k, rfl, by rw [this]; congr 1; omega, by omega⟩
      · cases hb
    · cases hb
theorem rel_bndLo (hF : FrRel P T g w nt F a.tmps) {x : Option Operand} {X : Option Opd} {n h : Nat} (hx : opdO x = some X) (hb : bndLo F n X = some h) : (x = none ∧ h = 0) ∨ ∃ y k, x = some y ∧ a.eval y = .int k h ∧ h ≤ n := by
  cases x with
  | none =>
    simp [opdO] at hx; subst hx
    simp [bndLo] at hb; subst hb
    exact .inl ⟨rfl, rfl⟩
  | some y =>
    simp only [opdO, Option.map_eq_some_iff] at hx
    obtain ⟨Y, hY, rfl⟩ := hx
    simp only [bndLo, natIn] at hb
    split at hb
    · rename_i k i hYe
      split at hb
      · rename_i hi
        injection hb with hb; subst hb
        have := rel_opd hF hY
        rw [hYe] at this
        simp only [Rel] at this
        exact .inr ⟨y, k, rfl, by rw [this]; congr 1; omega, by omega⟩
      · cases hb
    · cases hb
theorem run_bounds (hF : FrRel P T g w nt F a.tmps) {lo hi : Option Operand} {Lo Hi : Option Opd} {sl : Bool} {n c l h : Nat} (hlo : opdO lo = some Lo) (hhi : opdO hi = some Hi) (hb : bndHi F n Hi = some h) (hl : bndLo F h Lo = some l) (hc : n ≤ c) :
    (Instr.sliceBounds sl n c (lo.map a.eval) (hi.map a.eval) none).run P w = .ok (l, h, c) w ∧ l ≤ h ∧ h ≤ n := by
  rcases rel_bnd hF hhi hb with ⟨rfl, rfl⟩ | ⟨y, k, rfl, hy, hle⟩ <;> rcases rel_bndLo hF hlo hl with ⟨rfl, rfl⟩ | ⟨z, k', rfl, hz, hle'⟩
  · exact ⟨by simp [Instr.sliceBounds], Nat.zero_le _, Nat.le_refl _⟩
  · refine ⟨?_, hle', Nat.le_refl _⟩
    simp [Instr.sliceBounds, Instr.sliceBound, hz, asIntOf, hle']
  · refine ⟨?_, Nat.zero_le _, hle⟩
    have : h ≤ c := Nat.le_trans hle hc
    cases sl <;> simp [Instr.sliceBounds, Instr.sliceBound, hy, asIntOf, this]
  · refine ⟨?_, hle', hle⟩
    have : h ≤ c := Nat.le_trans hle hc
    cases sl <;> simp [Instr.sliceBounds, Instr.sliceBound, hy, hz, asIntOf, this, hle']

theorem y_scut (hF : FrRel P T g w nt F a.tmps) {t : Nat} {x : Operand} {lo hi : Option Operand} {X : Opd} {Lo Hi : Option Opd} {v : V} (he : o.op = .slice t x lo hi none) (hu : P.underlying t = some .string) (hx : opd x = some X) (hlo : opdO lo = some Lo) (hhi : opdO hi = some Hi)
    (hv : valOp cE F T (.scut X Lo Hi) = some (.ret v)) : Yields P T g w a o v := by
  have hr := rel_opd hF hx
  simp only [valOp] at hv
  split at hv
  · rename_i s hX
    rw [hX] at hr
    simp only [Rel] at hr
    simp only [Option.bind_eq_some_iff] at hv
    obtain ⟨h, hb, l, hl, hv⟩ := hv
    simp at hv; subst hv
    obtain ⟨h1, h2, h3⟩ := run_bounds (P := P) (sl := false) hF hlo hhi hb hl (Nat.le_refl _)
    refine ⟨.string (s.extract l h), ?_, by simp [Rel], rfl⟩
    simp only [execOp, he, Instr.sliceAt, Sem.run_bind, run_underlying hu, Result.andThen_ok, Instr.slice, hr, Option.map_none, Option.isSome_none, Bool.false_eq_true, if_false, h1, Sem.run_pure]
  · cases hv

theorem y_cut (hF : FrRel P T g w nt F a.tmps) {t e n : Nat} {x : Operand} {lo hi : Option Operand} {X : Opd} {Lo Hi : Option Opd} {v : V} (he : o.op = .slice t x lo hi none) (hu : P.underlying t = some (.slice e)) (hn : szOf P e = some n) (hx : opd x = some X) (hlo : opdO lo = some Lo) (hhi : opdO hi = some Hi)
    (hv : valOp cE F T (.cut n X Lo Hi) = some (.ret v)) : Yields P T g w a o v := by
  have hr := rel_opd hF hx
  simp only [valOp] at hv
  split at hv
  · rename_i k xs hX
    rw [hX] at hr
    simp only [Rel] at hr
    obtain ⟨ad, m, c, hxe, hm, hmc, ⟨u, hun⟩, hrow, hsp, hk⟩ := hr
    subst hm
    split at hv
    · rename_i hlen
      simp only [Option.bind_eq_some_iff] at hv
      obtain ⟨h, hb, l, hl, hv⟩ := hv
      simp at hv; subst hv
      obtain ⟨h1, h2, h3⟩ := run_bounds (P := P) (sl := true) hF hlo hhi hb hl hmc
      have hrun : (execOp a.eval o).run P w = .ok (.value (.slice (if c = l then ad else ad.map (·.add (l * n))) (h - l) (c - l))) w := by
        simp [execOp, he, Instr.sliceAt, Instr.slice, run_underlying hu, hxe, h1, run_sizeOf hn]
      refine ⟨_, hrun, ?_, by cases k <;> rfl⟩
      simp only [Rel]
      refine ⟨_, _, _, rfl, by simp; omega, by omega, ⟨u, fun r hr => hun r (List.mem_of_mem_take (List.mem_of_mem_drop hr))⟩, ?_, ?_, ?_⟩
      rotate_right
      · cases k with
        | nil =>
          obtain ⟨rfl, rfl⟩ := hk
          exact ⟨by split <;> rfl, by omega⟩
        | shut => show (if c = l then ad else ad.map (·.add (l * n))) ≠ none; cases ad with
          | none => exact absurd rfl hk
          | some ad => split <;> simp
        | own e' => show (if c = l then ad else ad.map (·.add (l * n))) ≠ none; cases ad with
          | none => exact absurd rfl hk
          | some ad => split <;> simp
      · -- the rows of what is left
        by_cases hcl : c = l
        · have : (xs.take h).drop l = [] := List.drop_eq_nil_of_le (by simp; omega)
          rw [this]
          cases (if c = l then ad else ad.map (·.add (l * n))) <;> simp [RowsG]
        · rw [if_neg hcl]
          cases ad with
          | none =>
            cases xs with
            | nil => simp [RowsG]
            | cons y ys => simp [RowsG] at hrow
          | some ad =>
            by_cases hx0 : xs = []
            · subst hx0; simp [RowsG]
            obtain ⟨b, off, sp⟩ := ad
            have hsp' := hsp hx0 _ rfl
            simp at hsp'
            subst hsp'
            simp only [Option.map_some, add_lit]
            have k1 := rowsG_take (rowsG_drop hrow l) (h - l)
            rw [List.drop_take]
            have : ahead xs l = l * n := by
              rcases Nat.eq_zero_or_pos xs.length with h0 | h0
              · have : xs = [] := List.eq_nil_of_length_eq_zero h0
                subst this
                have : l = 0 := by simp at h3; omega
                subst this
                simp [ahead]
              · have : u = n := by
                  obtain ⟨y, hy⟩ : ∃ y, y ∈ xs := List.exists_mem_of_length_pos h0
                  rw [← hun y hy]
                  have := List.all_eq_true.1 hlen y hy
                  simpa using this
                subst this
                exact ahead_len hun l (by omega)
            rw [← this]
            exact k1
      · intro hne ad' had
        have hx0 : xs ≠ [] := by rintro rfl; simp at hne
        split at had
        · exact hsp hx0 ad' had
        · cases ad with
          | none => simp at had
          | some ad =>
            simp at had
            subst had
            have := hsp hx0 _ rfl
            unfold Addr.add
            split
            · exact this
            · rfl
    · cases hv
  · cases hv

end

end AM
end Go.Proofs.Ytimfbnojmdnlnaa
end
section
set_option linter.unusedVariables false
set_option linter.unusedSimpArgs false
namespace Go.Proofs.Ytimfbnojmdnlnaa
namespace AM

section
variable {P : Program} {T : St} {g : Gh} {w : World} {nt : Nat} {F : Fr} {a : Act} {tk : Option Nat → Bool} {o : Oper} {cE : CE}

theorem valOp_ok (I : Inv P T g w) (hF : FrRel P T g w nt F a.tmps) {op : AOp} {v : V} (hc : compOp P tk o = some op) (hv : valOp cE F T op = some (.ret v))
    (hrow : ∀ e n ps, op ≠ .row e n ps) (hcall : ∀ f xs, op ≠ .call f xs) : Yields P T g w a o v := by
  have hc0 := hc
  unfold compOp at hc
  split at hc
  · rename_i x he
    obtain ⟨X, hX, rfl⟩ := Option.map_eq_some_iff.1 hc
    cases ht : tk o.dst <;> rw [ht] at hv <;> simp only [valOp, Option.map_eq_some_iff, reduceCtorEq] at hv
    obtain ⟨u, hu, hv⟩ := hv
    simp at hv; subst hv
    exact y_move hF (.inl he) hX hu
  · rename_i x he
    obtain ⟨X, hX, rfl⟩ := Option.map_eq_some_iff.1 hc
    simp [valOp] at hv
  · rename_i c x y he
    simp only [Option.bind_eq_some_iff, Option.map_eq_some_iff] at hc
    obtain ⟨C, hC, X, hX, Y, hY, rfl⟩ := hc
    simp only [valOp] at hv
    split at hv
    · rename_i t ht
      simp only [Option.map_eq_some_iff] at hv
      obtain ⟨u, hu, hv⟩ := hv
      simp at hv; subst hv
      exact y_pick hF he hC hX hY ht hu
    · cases hv
  · obtain ⟨z, hz, rfl⟩ := Option.map_eq_some_iff.1 hc
    simp [valOp] at hv
  · simp only [Option.bind_eq_some_iff, Option.map_eq_some_iff] at hc
    obtain ⟨n, hn, X, hX, rfl⟩ := hc
    simp [valOp] at hv
  · rename_i t ps he
    exact y_build hF he hc0 hv
  · split at hc
    · split at hc
      · simp only [Option.bind_eq_some_iff, Option.map_eq_some_iff] at hc
        obtain ⟨n, hn, _, _, qs, hqs, rfl⟩ := hc
        exact absurd rfl (hrow _ _ _)
      · cases hc
    · cases hc
  · rename_i t x he
    simp only [Option.bind_eq_some_iff, Option.map_eq_some_iff] at hc
    obtain ⟨n, hn, gg, hg, X, hX, rfl⟩ := hc
    cases ht : tk o.dst <;> rw [ht] at hv
    · exact y_load I hF he hn hg hX hv
    · simp [valOp] at hv
  · simp only [Option.bind_eq_some_iff, Option.map_eq_some_iff] at hc
    obtain ⟨n, hn, X, hX, Y, hY, rfl⟩ := hc
    simp [valOp] at hv
  · rename_i x he
    obtain ⟨X, hX, rfl⟩ := Option.map_eq_some_iff.1 hc
    exact y_nc hF he hX hv
  · rename_i op' t x y u he
    split at hc
    · rename_i e hu
      obtain ⟨X, hX, rfl⟩ := Option.map_eq_some_iff.1 hc
      exact y_isn hF he rfl hu hX hv
    · rename_i e hu
      obtain ⟨X, hX, rfl⟩ := Option.map_eq_some_iff.1 hc
      exact y_isn hF he rfl hu hX hv
    · simp only [Option.bind_eq_some_iff, Option.map_eq_some_iff] at hc
      obtain ⟨k, hk, X, hX, Y, hY, rfl⟩ := hc
      simp only [valOp, Option.map_eq_some_iff] at hv
      obtain ⟨z, hz, hv⟩ := hv
      simp at hv; subst hv
      exact y_bin hF he hk hX hY hz
  · rename_i op' t x he
    obtain ⟨X, hX, rfl⟩ := Option.map_eq_some_iff.1 hc
    simp only [valOp, Option.map_eq_some_iff] at hv
    obtain ⟨z, hz, hv⟩ := hv
    simp at hv; subst hv
    exact y_un hF he hX hz
  · rename_i s d x he
    split at hc
    · rename_i ks k hs hd
      obtain ⟨X, hX, rfl⟩ := Option.map_eq_some_iff.1 hc
      simp only [valOp] at hv
      split at hv
      · rename_i k' n hXe
        simp at hv; subst hv
        exact y_conv hF he hs hd hX hXe
      · cases hv
    · cases hc
  · rename_i t x he
    split at hc
    · cases hc
    · rename_i d hd hu
      obtain ⟨X, hX, rfl⟩ := Option.map_eq_some_iff.1 hc
      exact y_mki hF he hu (by cases d <;> first | rfl | exact absurd rfl (hd _)) hX hv
    · cases hc
  · rename_i f fs cs he
    split at hc
    · rename_i hfs
      have hfs' : fs = #[] := Array.ext' hfs
      subst hfs'
      obtain ⟨X, hX, rfl⟩ := Option.map_eq_some_iff.1 hc
      simp only [valOp] at hv
      split at hv
      · rename_i ht
        simp at hv; subst hv
        exact y_fn hF he hX ht
      · cases hv
    · cases hc
  · rename_i t x lo hi he
    split at hc
    · rename_i e hu
      simp only [Option.bind_eq_some_iff, Option.map_eq_some_iff] at hc
      obtain ⟨n, hn, X, hX, Lo, hLo, Hi, hHi, rfl⟩ := hc
      exact y_cut hF he hu hn hX hLo hHi hv
    · rename_i hu
      simp only [Option.bind_eq_some_iff, Option.map_eq_some_iff] at hc
      obtain ⟨X, hX, Lo, hLo, Hi, hHi, rfl⟩ := hc
      exact y_scut hF he hu hX hLo hHi hv
    · cases hc
  · rename_i s x i he
    split at hc
    · rename_i fs hu
      simp only [Option.bind_eq_some_iff] at hc
      obtain ⟨f, hf, n, hn, hc⟩ := hc
      split at hc
      · cases hc
      · rename_i h0
        obtain ⟨X, hX, rfl⟩ := Option.map_eq_some_iff.1 hc
        exact y_fa I hF he hu hf hn h0 hX hv
    · cases hc
  · rename_i s x i he
    split at hc
    · rename_i fs hu
      simp only [Option.bind_eq_some_iff, Option.map_eq_some_iff] at hc
      obtain ⟨f, hf, n, hn, gg, hg, X, hX, rfl⟩ := hc
      exact y_fd hF he hu hf hn hg hX hv
    · cases hc
  · rename_i t x i he
    split at hc
    · rename_i e hu
      simp only [Option.bind_eq_some_iff, Option.map_eq_some_iff] at hc
      obtain ⟨n, hn, X, hX, Y, hY, rfl⟩ := hc
      exact y_ia hF he hu hn hX hY hv
    · cases hc
  · rename_i t x i he
    split at hc
    · rename_i hu
      simp only [Option.bind_eq_some_iff, Option.map_eq_some_iff] at hc
      obtain ⟨X, hX, Y, hY, rfl⟩ := hc
      exact y_sx hF he hu hX hY hv
    · rename_i n e hu
      simp only [Option.bind_eq_some_iff, Option.map_eq_some_iff] at hc
      obtain ⟨m, hm, gg, hg, X, hX, Y, hY, rfl⟩ := hc
      exact y_ax hF he hu hm hg hX hY hv
    · cases hc
  · rename_i x i he
    obtain ⟨X, hX, rfl⟩ := Option.map_eq_some_iff.1 hc
    exact y_ex hF he hX hv
  · rename_i c he
    obtain ⟨callee, args, tys⟩ := c
    unfold compCall at hc
    simp only at hc
    split at hc
    · unfold compBuiltin at hc
      split at hc
      · rename_i x t h1 h2
        have e1 : args = #[x] := Array.ext' h1
        have e2 : tys = #[t] := Array.ext' h2
        subst e1; subst e2
        split at hc
        · rename_i e hu
          obtain ⟨X, hX, rfl⟩ := Option.map_eq_some_iff.1 hc
          exact y_len hF he (by simpa using ⟨e, hu⟩) hX hv
        · rename_i hu
          obtain ⟨X, hX, rfl⟩ := Option.map_eq_some_iff.1 hc
          exact y_len hF he (by simpa using hu) hX hv
        · cases hc
      · split at hc
        · simp only [Option.bind_eq_some_iff] at hc
          obtain ⟨i, hi, z, hz, hc⟩ := hc
          split at hc
          · simp only [Option.bind_eq_some_iff, Option.map_eq_some_iff] at hc
            obtain ⟨X, hX, Y, hY, rfl⟩ := hc
            simp [valOp] at hv
          · cases hc
        · cases hc
      · rename_i x y h1
        have e1 : args = #[x, y] := Array.ext' h1
        subst e1
        simp only [Option.bind_eq_some_iff, Option.map_eq_some_iff] at hc
        obtain ⟨X, hX, Y, hY, rfl⟩ := hc
        exact y_mm (mx := true) hF (by simpa using he) hX hY hv
      · rename_i x y h1
        have e1 : args = #[x, y] := Array.ext' h1
        subst e1
        simp only [Option.bind_eq_some_iff, Option.map_eq_some_iff] at hc
        obtain ⟨X, hX, Y, hY, rfl⟩ := hc
        exact y_mm (mx := false) hF (by simpa using he) hX hY hv
      · cases hc
    · split at hc
      · obtain ⟨X, hX, rfl⟩ := Option.map_eq_some_iff.1 hc
        exact absurd rfl (hcall _ _)
      · simp only [Option.bind_eq_some_iff, Option.map_eq_some_iff] at hc
        obtain ⟨X, hX, Y, hY, rfl⟩ := hc
        simp [valOp] at hv
    · simp only [Option.bind_eq_some_iff, Option.map_eq_some_iff] at hc
      obtain ⟨X, hX, Y, hY, rfl⟩ := hc
      simp [valOp] at hv
  · obtain ⟨X, hX, rfl⟩ := Option.map_eq_some_iff.1 hc
    simp [valOp] at hv
  · cases hc

end
end AM
end Go.Proofs.Ytimfbnojmdnlnaa
end
section
set_option linter.unusedVariables false
set_option linter.unusedSimpArgs false
namespace Go.Proofs.Ytimfbnojmdnlnaa
namespace AM

/-- The fence of an activation of a function, or of a round. -/
def fen (ro : Option Nat) : Fence := { Fence.wide with round := ro }

theorem wpIn_of_run {P : Program} {o : Oper} {a : Act} {w : World} {K : Act → World → Prop} {Q : Exit → Act → World → Prop} {r : Result Next} {ro : Option Nat} (hnd : ∀ c, o.op ≠ .defer c)
    (hrun : (execOp a.eval o).run P w = r) (h : o.uponIn (fen ro) 0 P a K Q r) : o.wpIn (fen ro) 0 P a w K Q :=
  ⟨fun _ _ => trivial, by rw [Oper.semAt_eq _ _ _ hnd, hrun]; exact h⟩

theorem compOp_defer {P : Program} {tk : Option Nat → Bool} {o : Oper} {op : AOp} (h : compOp P tk o = some op) : ∀ c, o.op ≠ .defer c := by
  intro c e
  unfold compOp at h
  rw [e] at h
  cases h

def Flat : St → Prop
  | ⟨_, none⟩ :: _ => True
  | _ => False

theorem Flat.lp {T : St} (h : Flat T) {l : Nat} {p : Lp} (hp : getLp T l = some p) : l + 1 < T.length := by
  match T, h with
  | ⟨bs, none⟩ :: R, _ =>
    simp only [getLp] at hp
    split at hp
    · cases hp
    · have := getLp_lt hp; simp; omega

theorem Flat.pos {T : St} (h : Flat T) : ∃ bs R, T = ⟨bs, none⟩ :: R := by
  match T, h with
  | ⟨bs, none⟩ :: R, _ => exact ⟨bs, R, rfl⟩

theorem Flat.setBox {T : St} (h : Flat T) (l i : Nat) (cs : List V) : Flat (setBox T l i cs) := by
  obtain ⟨bs, R, rfl⟩ := h.pos
  simp only [AM.setBox]
  split <;> trivial

/-- What a step leaves, where nothing went wrong. -/
structure StepTo (P : Program) (T : St) (g : Gh) (w : World) (a : Act) (nt : Nat) (T' : St) (F' : Fr) (g' : Gh) (w' : World) (a' : Act) : Prop where
  le : Le T.length g g'
  frm : Frm g w g' w'
  inv : Inv P T' g' w'
  fr : FrRel P T' g' w' nt F' a'.tmps
  len : T'.length = T.length
  flat : Flat T'
  defs : a'.defers = a.defers
  marks : ∀ b, b < w.heap.size → g.use b = .mark → g'.use b = .mark ∧ w'.heap[b]? = w.heap[b]?

theorem StepTo.trans {P : Program} {T T1 T2 : St} {g g1 g2 : Gh} {w w1 w2 : World} {a a1 a2 : Act} {nt : Nat} {F1 F2 : Fr} (h : StepTo P T g w a nt T1 F1 g1 w1 a1) (k : StepTo P T1 g1 w1 a1 nt T2 F2 g2 w2 a2) : StepTo P T g w a nt T2 F2 g2 w2 a2 := {
  le := h.le.trans (by have := k.le; rwa [h.len] at this)
  frm := h.frm.trans k.frm
  inv := k.inv
  fr := k.fr
  len := k.len.trans h.len
  flat := k.flat
  defs := k.defs.trans h.defs
  marks b hb hu := by
    obtain ⟨u1, e1⟩ := h.marks b hb hu
    obtain ⟨u2, e2⟩ := k.marks b (Nat.lt_of_lt_of_le hb h.frm.size) u1
    exact ⟨u2, e2.trans e1⟩ }

section
variable {P : Program} {T : St} {g : Gh} {w : World} {nt : Nat} {F : Fr} {a : Act} {tk : Option Nat → Bool} {o : Oper} {cE : CE}

theorem TmpAt.calm {t : Nat} {v : V} {x : Value} (h : isCalm v = true) (r : Rel g T.length v x) : TmpAt P T g w t v x := {
  rel := r
  own e xs hv := by subst hv; cases h
  fresh z hv := by subst hv; cases h
  mir l i o e xs hv := by subst hv; cases h }

theorem put_defs (a : Act) (d : Option Nat) (x : Value) : (a.put d x).defers = a.defers := by cases d <;> rfl

theorem FrRel.eval {F : Fr} (hF : FrRel P T g w nt F a.tmps) (hfl : Flat T) (I : Inv P T g w) : StepTo P T g w a nt T F g w a :=
  ⟨Le.refl _ _, Frm.refl _ _, I, hF, rfl, hfl, rfl, fun _ _ h => ⟨h, rfl⟩⟩

/-- A value is put, nothing else turns. -/
theorem step_quiet (I : Inv P T g w) (hF : FrRel P T g w nt F a.tmps) (hfl : Flat T) {d : Option Nat} (hd : inNt nt d = true) {v : V} {x : Value} (hv : ∀ t, d = some t → TmpAt P T g w t v x) : StepTo P T g w a nt T (putO F d v) g w (a.put d x) :=
  ⟨Le.refl _ _, Frm.refl _ _, I, FrRel.put hF.size hF.past hd (fun t y _ hy => hF.tmp t y hy) hv, rfl, hfl, put_defs _ _ _, fun _ _ h => ⟨h, rfl⟩⟩

/-- A frame whose value in s is stripped. -/
theorem FrRel.strip (hF : FrRel P T g w nt F a.tmps) (s : Nat) : FrRel P T g w nt (AM.put F s (AM.strip (F s))) a.tmps := {
  size := hF.size
  past t ht := by
    by_cases e : t = s
    · subst e; rw [put_same, hF.past t ht]; rfl
    · rw [put_ne _ _ e]; exact hF.past t ht
  tmp t x hx := by
    by_cases e : t = s
    · subst e
      rw [put_same]
      have h := hF.tmp t x hx
      refine ⟨rel_strip h.rel, fun e xs hv => absurd hv strip_own, fun z hv => h.fresh z ?_, fun l i o e xs hv => h.mir l i o e xs ?_⟩
      · revert hv; cases hFt : F t <;> simp [AM.strip]
        rename_i k _; cases k <;> simp
      · revert hv; cases hFt : F t <;> simp [AM.strip]
        rename_i k _; cases k <;> simp
    · rw [put_ne _ _ e]; exact hF.tmp t x hx }

theorem use_lt (I : Inv P T g w) {b : Nat} (h : g.use b ≠ .free) : b < w.heap.size := Nat.lt_of_not_le fun hb => h (I.U b hb)
theorem G_lt (I : Inv P T g w) {b o : Nat} {v : Value} (h : g.G b o = some v) : b < w.heap.size := World.block_lt_of_cell? w _ (I.G b o v h).1

/-- The ghost where block b is in use u and holds c up to n. -/
def Gh.lay (g : Gh) (b n : Nat) (u : Use) (c : List Value) : Gh := ⟨fun b' o => if b' = b ∧ o < n then c[o]? else g.G b' o, g.bx, g.lp, fun b' => if b' = b then u else g.use b'⟩

/-- Block b is new, or no box and no record. -/
theorem le_lay (I : Inv P T g w) {b n : Nat} {u : Use} {c : List Value} (m : Nat) (hb : ∀ o v, g.G b o = some v → o < n → c[o]? = some v) (hu : (∀ l i, g.use b ≠ .box l i) ∧ ∀ l, g.use b ≠ .loop l) : Le m g (g.lay b n u c) := {
  G b' o v h := by
    simp only [Gh.lay]
    split
    · rename_i e; obtain ⟨rfl, ho⟩ := e; exact hb o v h ho
    · exact h
  bx l i _ h := by
    refine ⟨rfl, ?_⟩
    simp only [Gh.lay]
    split
    · rename_i e; rw [e] at h; exact absurd h (hu.1 l i)
    · exact h
  lp l _ h := by
    refine ⟨rfl, ?_⟩
    simp only [Gh.lay]
    split
    · rename_i e; rw [e] at h; exact absurd h (hu.2 l)
    · exact h }

/-- The uses in question: the temporary's own rows. -/
def OfTmp (so : Option Nat) (u : Use) : Prop := ∃ s, so = some s ∧ u = .row (.tmp s)

theorem ofTmp_free {so : Option Nat} : ¬ OfTmp so .free := by rintro ⟨s, _, h⟩; cases h
theorem ofTmp_box {so : Option Nat} {l i : Nat} : ¬ OfTmp so (.box l i) := by rintro ⟨s, _, h⟩; cases h
theorem ofTmp_cell {so : Option Nat} {l i j : Nat} : ¬ OfTmp so (.row (.cell l i j)) := by rintro ⟨s, _, h⟩; cases h
theorem ofTmp_loop {so : Option Nat} {l : Nat} : ¬ OfTmp so (.loop l) := by rintro ⟨s, _, h⟩; cases h
theorem ofTmp_mark {so : Option Nat} : ¬ OfTmp so .mark := by rintro ⟨s, _, h⟩; cases h

theorem relL_flat {g : Gh} {b : Nat} : ∀ {xs : List (List V)} {vs : List Value} {o : Nat}, RelL g 0 xs.flatten vs → isCells xs.flatten = true → (∀ (j : Nat) (v : Value), vs[j]? = some v → g.G b (o + j) = some v) → RowsG g (some ⟨b, o, none⟩) xs
  | [], _, _, _, _, _ => by simp [RowsG]
  | x :: xs, vs, o, hr, hi, hG => by
    simp only [List.flatten_cons] at hr hi
    simp only [RowsG]
    have hl := relL_length hr
    simp only [List.length_append] at hl
    constructor
    · refine atG_of fun j c hc => ?_
      have hj := (List.getElem?_eq_some_iff.1 hc).1
      have hc' : (x ++ xs.flatten)[j]? = some c := by rw [List.getElem?_append_left hj]; exact hc
      obtain ⟨v, hv, hrv⟩ := relL_at hr hc'
      exact ⟨v, hG j v hv, isCells_iff.1 hi c (List.mem_of_getElem? hc'), hrv⟩
    · refine relL_flat (vs := vs.drop x.length) ?_ (isCells_iff.2 fun c hc => isCells_iff.1 hi c (List.mem_append_right _ hc)) fun j v hv => ?_
      · have := relL_drop x.length hr
        simpa using this
      · rw [List.getElem?_drop] at hv
        have := hG _ v hv
        rwa [← Nat.add_assoc] at this

/-- The values that the rows stand for, read. -/
theorem rowsG_vals {g : Gh} : ∀ {ad : Option Addr} {xs : List (List V)}, RowsG g ad xs → ∃ vs, RelL g 0 xs.flatten vs ∧ isCells xs.flatten = true ∧ ∀ b o, ad = some ⟨b, o, none⟩ → ∀ (j : Nat) (v : Value), vs[j]? = some v → g.G b (o + j) = some v
  | _, [], _ => ⟨[], by simp [RelL], rfl, by simp⟩
  | none, _ :: _, h => by simp [RowsG] at h
  | some ad, x :: xs, h => by
    simp only [RowsG] at h
    obtain ⟨vs, h1, h2, h3⟩ := rowsG_vals h.2
    obtain ⟨us, k1, k2, k3⟩ : ∃ us, RelL g 0 x us ∧ isCells x = true ∧ ∀ (j : Nat) (v : Value), us[j]? = some v → g.G ad.block (ad.off + j) = some v := by
      have hat := h.1
      generalize ad.off = o at hat
      induction x generalizing o with
      | nil => exact ⟨[], by simp [RelL], rfl, by simp⟩
      | cons c cs ih =>
        simp only [AtG] at hat
        obtain ⟨⟨v, hv, hi, hr⟩, hat⟩ := hat
        have h2' : RowsG g (some ⟨ad.block, ad.off + cs.length, none⟩) xs ∨ True := .inr trivial
        obtain ⟨us, k1, k2, k3⟩ : ∃ us, RelL g 0 cs us ∧ isCells cs = true ∧ ∀ (j : Nat) (v : Value), us[j]? = some v → g.G ad.block (o + 1 + j) = some v := by
          clear ih h h2' h3 hv hr
          generalize o + 1 = o' at hat
          induction cs generalizing o' with
          | nil => exact ⟨[], by simp [RelL], rfl, by simp⟩
          | cons c' cs' ih =>
            simp only [AtG] at hat
            obtain ⟨⟨v, hv, hi, hr⟩, hat⟩ := hat
            obtain ⟨us, k1, k2, k3⟩ := ih (o' + 1) hat
            refine ⟨v :: us, by simp only [RelL]; exact ⟨v, us, rfl, hr, k1⟩, by simp [isCells, hi, k2], fun j u hu => ?_⟩
            cases j with
            | zero => simp at hu; subst hu; exact hv
            | succ j =>
              have := k3 j u (by simpa using hu)
              rwa [show o' + 1 + j = o' + (j + 1) from by omega] at this
        refine ⟨v :: us, by simp only [RelL]; exact ⟨v, us, rfl, hr, k1⟩, by simp [isCells, hi, k2], fun j u hu => ?_⟩
        cases j with
        | zero => simp at hu; subst hu; exact hv
        | succ j =>
          have := k3 j u (by simpa using hu)
          rwa [show o + 1 + j = o + (j + 1) from by omega] at this
    refine ⟨us ++ vs, ?_, ?_, fun b o hbo j v hv => ?_⟩
    · simp only [List.flatten_cons]; exact relL_append k1 h1
    · simp only [List.flatten_cons]
      exact isCells_iff.2 fun c hc => (List.mem_append.1 hc).elim (isCells_iff.1 k2 c) (isCells_iff.1 h2 c)
    · injection hbo with hbo
      subst hbo
      have hlx := relL_length k1
      rcases Nat.lt_or_ge j us.length with hj | hj
      · rw [List.getElem?_append_left hj] at hv
        exact k3 j v hv
      · rw [List.getElem?_append_right hj] at hv
        have := h3 _ _ rfl _ v hv
        rwa [show o + x.length + (j - us.length) = o + j from by omega] at this

theorem length_flat {n : Nat} : ∀ {xs : List (List V)}, (∀ r ∈ xs, r.length = n) → xs.flatten.length = xs.length * n
  | [], _ => by simp
  | x :: xs, h => by
    simp only [List.flatten_cons, List.length_append, List.length_cons, Nat.succ_mul]
    rw [h x (by simp), length_flat fun r hr => h r (by simp [hr]), Nat.add_comm]

/-- A row of one's own is laid, or grows in its place. -/
theorem step_own (I : Inv P T g w) (hF : FrRel P T g w nt F a.tmps) (hfl : Flat T) {d so : Option Nat} (hd : inNt nt d = true) {b e n cap : Nat} {xs : List (List V)} {cells : List Value} {w' : World}
    (hn : szOf P e = some n) (hn0 : 0 < n) (hlen : ∀ r ∈ xs, r.length = n) (hown : w'.ownsRow 0 e n (.slice (some ⟨b, 0, none⟩) xs.length cap) xs.length cells)
    (hr : RelL g 0 xs.flatten cells) (hi : isCells xs.flatten = true)
    (hos : w'.os = w.os) (htp : w'.tape = w.tape) (hout : w'.output = w.output) (hsz : w.heap.size ≤ w'.heap.size) (hold : ∀ k, k < w.heap.size → k ≠ b → w'.heap[k]? = w.heap[k]?)
    (hb : b < w.heap.size → OfTmp so (g.use b)) (hb' : b < w'.heap.size)
    (hG : ∀ o v, g.G b o = some v → o < xs.length * n ∧ cells[o]? = some v)
    (hs : ∀ s, so = some s → isCalm (F s) = true) :
    ∃ g', StepTo P T g w a nt T (putO F d (.slice (.own e) xs)) g' w' (a.put d (.slice (some ⟨b, 0, none⟩) xs.length cap)) := by
  let u : Use := match d with | some d => .row (.tmp d) | none => .free
  let g' := g.lay b (xs.length * n) u cells
  have hfree : w.heap.size ≤ b → g.use b = .free := I.U b
  have hnb : (∀ l i, g.use b ≠ .box l i) ∧ ∀ l, g.use b ≠ .loop l := by
    rcases Nat.lt_or_ge b w.heap.size with h | h
    · obtain ⟨s, _, hu⟩ := hb h
      rw [hu]; exact ⟨fun _ _ => by simp, fun _ => by simp⟩
    · rw [hfree h]; exact ⟨fun _ _ => by simp, fun _ => by simp⟩
  have hle : ∀ m, Le m g g' := fun m => le_lay I m (fun o v h _ => (hG o v h).2) hnb
  have hsame : Same (OfTmp so) g w g' w' := ⟨hos, htp, hout, hsz, fun k hk hu => by
    have hkb : k ≠ b := fun e => hu (e ▸ hb (e ▸ hk))
    refine ⟨hold k hk hkb, ?_, fun o => ?_⟩
    · simp [g', Gh.lay, hkb]
    · simp [g', Gh.lay, hkb]⟩
  have hcell : ∀ j v, j < xs.length * n → cells[j]? = some v → w'.cell? ⟨b, j, none⟩ = some v := fun j v hj hv => by rw [hown.cellAt j hj]; exact hv
  have hcl := hown.1
  have hinv : Inv P T g' w' := by
    refine I.step hsame (hle _) (fun b' o v hv hc => ?_) (fun b' hb'' => ?_) (fun l i cs hc => .inl ⟨hc, ofTmp_box, fun j => ofTmp_cell⟩) (fun l p hp => .inl ⟨hp, ofTmp_loop, hfl.lp hp⟩) (fun l i hl hn => ?_)
    · by_cases hbb : b' = b
      · subst hbb
        have hu' : g'.use b' = u := by simp [g', Gh.lay]
        refine ⟨?_, by rw [hu']; cases d <;> simp [u]⟩
        simp only [g', Gh.lay, true_and] at hv
        split at hv
        · exact hcell o v ‹_› hv
        · obtain ⟨h1, h2⟩ := hG o v hv
          exact hcell o v h1 h2
      · have hv' : g.G b' o = some v := by simpa [g', Gh.lay, hbb] using hv
        have hlt := G_lt I hv'
        obtain ⟨h1, h2⟩ := I.G b' o v hv'
        refine ⟨by rw [cell?_eq (hold b' hlt hbb)]; exact h1, ?_⟩
        simpa [g', Gh.lay, hbb] using h2
    · have : b' ≠ b := by omega
      simp only [g', Gh.lay, this, if_false]
      exact I.U b' (by omega)
    · simp only [g', Gh.lay]
      split
      · cases d <;> simp [u]
      · exact I.N l i hl hn
  refine ⟨g', hle _, hsame.frm ofTmp_free, hinv, ?_, rfl, hfl, put_defs _ _ _, fun k hk hu => ?_⟩
  · refine FrRel.put hF.size hF.past hd (fun t y hne hy => ?_) (fun t ht => ?_)
    · by_cases hts : so = some t
      · refine TmpAt.calm (hs t hts) (rel_mono (hle _) (Nat.le_refl _) _ _ (hF.tmp t y hy).rel)
      · exact (hF.tmp t y hy).same I hsame (hle _) rfl (by rintro ⟨s, h1, h2⟩; cases h2; exact hts h1) (.inr ⟨rfl, fun _ _ => ofTmp_box⟩)
    · subst ht
      have hrel : Rel g' T.length (.slice (.own e) xs) (.slice (some ⟨b, 0, none⟩) xs.length cap) := by
        simp only [Rel]
        have hcap : xs.length ≤ cap := by
          rcases hown.2 with ⟨h, _⟩ | ⟨g0, cap0, cur, h, _, _, h1, _⟩
          · cases h
          · cases h; exact h1
        refine ⟨_, _, _, rfl, rfl, hcap, ⟨n, hlen⟩, relL_flat (vs := cells) (relL_mono (hle 0) (Nat.le_refl _) _ _ hr) hi (fun j v hv => ?_), fun _ ad had => by cases had; rfl, by simp⟩
        have hj : j < cells.length := (List.getElem?_eq_some_iff.1 hv).1
        simp only [g', Gh.lay, Nat.zero_add]
        rw [if_pos ⟨trivial, by rw [← hcl]; exact hj⟩]
        exact hv
      refine ⟨hrel, fun e' xs' hv => ?_, fun z hv => by simp at hv, fun l i o e xs hv => by simp at hv⟩
      simp only [V.slice.injEq, SK.own.injEq] at hv
      obtain ⟨rfl, rfl⟩ := hv
      refine ⟨n, cells, hn, hn0, hlen, hown, fun b' hb'' => ?_⟩
      simp only [Value.ownBlock, Option.some.injEq] at hb''
      subst hb''
      refine ⟨by simp [g', Gh.lay, u], fun o v hv => ?_⟩
      simp only [g', Gh.lay, true_and] at hv
      split at hv
      · assumption
      · exact (hG o v hv).1
  · obtain ⟨h1, h2, _⟩ := hsame.old k hk (by rw [hu]; exact ofTmp_mark)
    exact ⟨h2.trans hu, h1⟩

end
end AM
end Go.Proofs.Ytimfbnojmdnlnaa
end
section
set_option linter.unusedVariables false
set_option linter.unusedSimpArgs false
namespace Go.Proofs.Ytimfbnojmdnlnaa
namespace AM

section
variable {P : Program} {T : St} {g : Gh} {w : World} {nt : Nat} {F : Fr} {a : Act} {tk : Option Nat → Bool} {o : Oper} {cE : CE}

theorem rows_ok (hF : FrRel P T g w nt F a.tmps) {n : Nat} : ∀ {ps : List Operand} {Ps : List Opd} {xs : List (List V)}, ps.mapM opd = some Ps → rows F n Ps = some xs →
    RelL g 0 xs.flatten ((ps.map a.eval).flatMap fun v => v.cells.toList) ∧ isCells xs.flatten = true ∧ (∀ r ∈ xs, r.length = n) ∧ xs.length = ps.length ∧ ∀ v ∈ ps.map a.eval, v.cells.size = n
  | [], Ps, xs, h, hr => by
    simp at h; subst h
    simp [rows] at hr; subst hr
    simp [RelL, isCells]
  | p :: ps, Ps, xs, h, hr => by
    simp only [List.mapM_cons, Option.pure_def, Option.bind_eq_bind, Option.bind_eq_some_iff] at h
    obtain ⟨X, hX, Xs, hXs, h⟩ := h
    simp at h; subst h
    simp only [rows] at hr
    split at hr
    · rename_i vs hvs
      split at hr
      · rename_i hc
        simp only [Option.map_eq_some_iff] at hr
        obtain ⟨ys, hys, rfl⟩ := hr
        obtain ⟨h1, h2, h3, h4, h5⟩ := rows_ok hF hXs hys
        obtain ⟨k1, k2⟩ := rel_cellsOf hvs (rel_strip (rel_opd hF hX))
        have k1' := relL_low _ _ hc.2 k1
        have hsz : (a.eval p).cells.size = n := by
          have := relL_length k1
          simp at this
          omega
        refine ⟨?_, ?_, ?_, by simp [h4], ?_⟩
        · simp only [List.flatten_cons, List.map_cons, List.flatMap_cons]
          exact relL_append k1' h1
        · simp only [List.flatten_cons]
          exact isCells_iff.2 fun c hc => (List.mem_append.1 hc).elim (isCells_iff.1 k2 c) (isCells_iff.1 h2 c)
        · intro r hr
          rcases List.mem_cons.1 hr with rfl | hr
          · exact hc.1
          · exact h3 r hr
        · intro v hv
          simp only [List.map_cons] at hv
          rcases List.mem_cons.1 hv with rfl | hv
          · exact hsz
          · exact h5 v hv
      · cases hr
    · cases hr

theorem oneCell_flat {g : Gh} {d : Nat} {cs : List V} {vs : List Value} (hi : isCells cs = true) (r : RelL g d cs vs) : ∀ u ∈ vs, u.oneCell' = true := oneCells_of_rel hi r

/-- Operations that change no state, whatever they are. -/
def isVal : AOp → Bool
  | .pick .. => true
  | .bld .. => true
  | .nc _ => true
  | .bin .. => true
  | .un .. => true
  | .cv .. => true
  | .mki .. => true
  | .fn .. => true
  | .cut .. => true
  | .scut .. => true
  | .fa .. => true
  | .fd .. => true
  | .ia .. => true
  | .sx .. => true
  | .ax .. => true
  | .ex .. => true
  | .len .. => true
  | .mm .. => true
  | .isn .. => true
  | _ => false

/-- Where an operation of the abstract machine comes from. -/
inductive CompOf (P : Program) (tk : Option Nat → Bool) (o : Oper) : AOp → Prop where
  | move (x : Operand) (X : Opd) : o.op = .move x → opd x = some X → CompOf P tk o (.mv (tk o.dst) X)
  | assign (x : Operand) (X : Opd) : o.op = .assign x → opd x = some X → CompOf P tk o (.mv true X)
  | alloc (e : Nat) (z : List V) : o.op = .alloc e → zeroOf P e = some z → CompOf P tk o (.al z)
  | box (e n : Nat) (x : Operand) (X : Opd) : o.op = .box e x → szOf P e = some n → opd x = some X → CompOf P tk o (.box n X)
  | row (t e len n : Nat) (ps : Array (Nat × Operand)) (z : List V) (Ps : List Opd) : o.op = .buildSlice t len ps → P.underlying t = some (.slice e) → ps.toList.map (·.1) = List.range len → szOf P e = some n → zeroOf P e = some z →
      (ps.toList.mapM fun p => opd p.2) = some Ps → CompOf P tk o (.row e n Ps)
  | load (t n : Nat) (gg : Bool) (x : Operand) (X : Opd) : o.op = .load t x → szOf P t = some n → aggOf P t = some gg → opd x = some X → CompOf P tk o (.ld (tk o.dst) n gg X)
  | store (t n : Nat) (x y : Operand) (X Y : Opd) : o.op = .store t x y → szOf P t = some n → opd x = some X → opd y = some Y → CompOf P tk o (.st n X Y)
  | app (x y : Operand) (X Y : Opd) (t e : Nat) (i : TypeInfo) (z : List V) : o.op = .call { callee := .builtin .append, args := #[x, y], argTypes := #[t, t] } → P.underlying t = some (.slice e) → P.info? e = some i → zeroOf P e = some z → 0 < i.size → 0 < i.bytes → z.length = i.size →
      opd x = some X → opd y = some Y → CompOf P tk o (.app e i.size i.bytes X Y)
  | call (f : Nat) (args : Array Operand) (ts : Array TypeId) (Xs : List Opd) : o.op = .call { callee := .value (.func f), args := args, argTypes := ts } → opds args = some Xs → CompOf P tk o (.call f Xs)
  | callv (x : Operand) (X : Opd) (args : Array Operand) (ts : Array TypeId) (Xs : List Opd) : o.op = .call { callee := .value x, args := args, argTypes := ts } → opd x = some X → opds args = some Xs → CompOf P tk o (.callv X Xs)
  | inv (x : Operand) (X : Opd) (m : String) (args : Array Operand) (ts : Array TypeId) (Xs : List Opd) : o.op = .call { callee := .invoke x m, args := args, argTypes := ts } → opd x = some X → opds args = some Xs → CompOf P tk o (.inv X m Xs)
  | pan (x : Operand) (X : Opd) : o.op = .panic x → opd x = some X → CompOf P tk o (.pan X)
  | val (op : AOp) : isVal op = true → CompOf P tk o op

theorem compOp_inv {op : AOp} (hc : compOp P tk o = some op) : CompOf P tk o op := by
  unfold compOp at hc
  split at hc
  · rename_i x he
    obtain ⟨X, hX, rfl⟩ := Option.map_eq_some_iff.1 hc
    exact .move x X he hX
  · rename_i x he
    obtain ⟨X, hX, rfl⟩ := Option.map_eq_some_iff.1 hc
    exact .assign x X he hX
  · simp only [Option.bind_eq_some_iff, Option.map_eq_some_iff] at hc
    obtain ⟨C, hC, X, hX, Y, hY, rfl⟩ := hc
    exact .val _ rfl
  · rename_i e he
    obtain ⟨z, hz, rfl⟩ := Option.map_eq_some_iff.1 hc
    exact .alloc e z he hz
  · rename_i e x he
    simp only [Option.bind_eq_some_iff, Option.map_eq_some_iff] at hc
    obtain ⟨n, hn, X, hX, rfl⟩ := hc
    exact .box e n x X he hn hX
  · simp only [Option.bind_eq_some_iff, Option.map_eq_some_iff] at hc
    obtain ⟨z, hz, pl, hpl, qs, hqs, rfl⟩ := hc
    exact .val _ rfl
  · rename_i t len ps he
    split at hc
    · rename_i e hu
      split at hc
      · rename_i hps
        simp only [Option.bind_eq_some_iff, Option.map_eq_some_iff] at hc
        obtain ⟨n, hn, z, hz, qs, hqs, rfl⟩ := hc
        exact .row t e len n ps z qs he hu hps hn hz hqs
      · cases hc
    · cases hc
  · rename_i t x he
    simp only [Option.bind_eq_some_iff, Option.map_eq_some_iff] at hc
    obtain ⟨n, hn, gg, hg, X, hX, rfl⟩ := hc
    exact .load t n gg x X he hn hg hX
  · rename_i t x y he
    simp only [Option.bind_eq_some_iff, Option.map_eq_some_iff] at hc
    obtain ⟨n, hn, X, hX, Y, hY, rfl⟩ := hc
    exact .store t n x y X Y he hn hX hY
  · obtain ⟨X, hX, rfl⟩ := Option.map_eq_some_iff.1 hc
    exact .val _ rfl
  · split at hc
    · obtain ⟨X, hX, rfl⟩ := Option.map_eq_some_iff.1 hc
      exact .val _ rfl
    · obtain ⟨X, hX, rfl⟩ := Option.map_eq_some_iff.1 hc
      exact .val _ rfl
    · simp only [Option.bind_eq_some_iff, Option.map_eq_some_iff] at hc
      obtain ⟨k, hk, X, hX, Y, hY, rfl⟩ := hc
      exact .val _ rfl
  · obtain ⟨X, hX, rfl⟩ := Option.map_eq_some_iff.1 hc
    exact .val _ rfl
  · split at hc
    · obtain ⟨X, hX, rfl⟩ := Option.map_eq_some_iff.1 hc
      exact .val _ rfl
    · cases hc
  · split at hc
    · cases hc
    · obtain ⟨X, hX, rfl⟩ := Option.map_eq_some_iff.1 hc
      exact .val _ rfl
    · cases hc
  · split at hc
    · obtain ⟨X, hX, rfl⟩ := Option.map_eq_some_iff.1 hc
      exact .val _ rfl
    · cases hc
  · split at hc
    · simp only [Option.bind_eq_some_iff, Option.map_eq_some_iff] at hc
      obtain ⟨n, hn, X, hX, Lo, hLo, Hi, hHi, rfl⟩ := hc
      exact .val _ rfl
    · simp only [Option.bind_eq_some_iff, Option.map_eq_some_iff] at hc
      obtain ⟨X, hX, Lo, hLo, Hi, hHi, rfl⟩ := hc
      exact .val _ rfl
    · cases hc
  · split at hc
    · simp only [Option.bind_eq_some_iff] at hc
      obtain ⟨f, hf, n, hn, hc⟩ := hc
      split at hc
      · cases hc
      · obtain ⟨X, hX, rfl⟩ := Option.map_eq_some_iff.1 hc
        exact .val _ rfl
    · cases hc
  · split at hc
    · simp only [Option.bind_eq_some_iff, Option.map_eq_some_iff] at hc
      obtain ⟨f, hf, n, hn, gg, hg, X, hX, rfl⟩ := hc
      exact .val _ rfl
    · cases hc
  · split at hc
    · simp only [Option.bind_eq_some_iff, Option.map_eq_some_iff] at hc
      obtain ⟨n, hn, X, hX, Y, hY, rfl⟩ := hc
      exact .val _ rfl
    · cases hc
  · split at hc
    · simp only [Option.bind_eq_some_iff, Option.map_eq_some_iff] at hc
      obtain ⟨X, hX, Y, hY, rfl⟩ := hc
      exact .val _ rfl
    · simp only [Option.bind_eq_some_iff, Option.map_eq_some_iff] at hc
      obtain ⟨m, hm, gg, hg, X, hX, Y, hY, rfl⟩ := hc
      exact .val _ rfl
    · cases hc
  · obtain ⟨X, hX, rfl⟩ := Option.map_eq_some_iff.1 hc
    exact .val _ rfl
  · rename_i c he
    obtain ⟨callee, args, tys⟩ := c
    unfold compCall at hc
    simp only at hc
    split at hc
    · unfold compBuiltin at hc
      split at hc
      · split at hc
        · obtain ⟨X, hX, rfl⟩ := Option.map_eq_some_iff.1 hc
          exact .val _ rfl
        · obtain ⟨X, hX, rfl⟩ := Option.map_eq_some_iff.1 hc
          exact .val _ rfl
        · cases hc
      · rename_i x y t u h1 h2
        split at hc
        · rename_i e hu
          simp only [Option.bind_eq_some_iff] at hc
          obtain ⟨i, hi, z, hz, hc⟩ := hc
          split at hc
          · rename_i h3
            simp only [Option.bind_eq_some_iff, Option.map_eq_some_iff] at hc
            obtain ⟨X, hX, Y, hY, rfl⟩ := hc
            have e1 : args = #[x, y] := Array.ext' h1
            have e2 : tys = #[t, u] := Array.ext' h2
            obtain ⟨h4, h5, rfl, h6⟩ := h3
            exact .app x y X Y t e i z (by rw [he, e1, e2]) hu hi hz h4 h5 h6 hX hY
          · cases hc
        · cases hc
      · simp only [Option.bind_eq_some_iff, Option.map_eq_some_iff] at hc
        obtain ⟨X, hX, Y, hY, rfl⟩ := hc
        exact .val _ rfl
      · simp only [Option.bind_eq_some_iff, Option.map_eq_some_iff] at hc
        obtain ⟨X, hX, Y, hY, rfl⟩ := hc
        exact .val _ rfl
      · cases hc
    · split at hc
      · obtain ⟨X, hX, rfl⟩ := Option.map_eq_some_iff.1 hc
        exact .call _ _ _ _ he hX
      · simp only [Option.bind_eq_some_iff, Option.map_eq_some_iff] at hc
        obtain ⟨X, hX, Y, hY, rfl⟩ := hc
        exact .callv _ _ _ _ _ he hX hY
    · simp only [Option.bind_eq_some_iff, Option.map_eq_some_iff] at hc
      obtain ⟨X, hX, Y, hY, rfl⟩ := hc
      exact .inv _ _ _ _ _ _ he hX hY
  · rename_i x he
    obtain ⟨X, hX, rfl⟩ := Option.map_eq_some_iff.1 hc
    exact .pan x X he hX
  · cases hc

theorem G_new (I : Inv P T g w) {o : Nat} {v : Value} : g.G w.heap.size o ≠ some v := fun h => absurd (G_lt I h) (Nat.lt_irrefl _)

theorem run_buildNone (w : World) (t e : Nat) (it : TypeInfo) (hu : P.underlying t = some (.slice e)) (hit : P.info? e = some it) : (Instr.buildSlice t 0 #[]).run P w = .ok (.slice (some ⟨w.heap.size, 0, none⟩) 0 0) (w.alloc (.cells #[] e)) := by
  have h0 : Array.map (fun x => default) (Array.range 0) = (#[] : Array Value) := by apply Array.ext'; simp
  simp [Instr.buildSlice, run_underlying hu, sizeOf, typeInfo, hit, newRow, Instr.fill, h0]

/-- A slice literal. -/
theorem step_row (I : Inv P T g w) (hF : FrRel P T g w nt F a.tmps) (hfl : Flat T) {d : Option Nat} (hd : inNt nt d = true) {e n : Nat} {ps : List Opd} {v : V}
    (hc : CompOf P tk o (.row e n ps)) (hv : valOp cE F T (.row e n ps) = some (.ret v)) :
    ∃ x w' g', (execOp a.eval o).run P w = .ok (.value x) w' ∧ StepTo P T g w a nt T (putO F d v) g' w' (a.put d x) := by
  cases hc with
  | val _ h => cases h
  | row t _ len _ qs z _ he hu hps hn hz hqs =>
    simp only [valOp] at hv
    split at hv
    · rename_i hsz
      obtain ⟨h1, h2⟩ := hsz
      simp only [Option.map_eq_some_iff] at hv
      obtain ⟨xs, hxs, hv⟩ := hv
      simp at hv; subst hv
      have hqs' : (qs.toList.map (·.2)).mapM opd = some ps := by rw [List.mapM_map]; exact hqs
      obtain ⟨k1, k2, k3, k4, k5⟩ := rows_ok hF hqs' hxs
      obtain ⟨it, zv, hit, hzv, _, _, _⟩ := rel_zeroOf (P := P) (g := g) (d := 0) hz
      have hsize : it.size = n := by
        unfold szOf at hn
        rw [hit] at hn
        simpa using hn
      have hlen : len = qs.toList.length := by
        have := congrArg List.length hps
        simpa using this.symm
      have hpl : ps.length = qs.toList.length := by
        have := (mapM_get hqs).1
        exact this
      have hparts : (qs.map fun (i, x) => (i, a.eval x)).toList = (((qs.toList.map (·.2)).map a.eval).zipIdx 0).map fun x => (x.2, x.1) := by
        apply List.ext_getElem?
        intro j
        simp only [Array.toList_map, List.getElem?_map, List.getElem?_zipIdx, Nat.zero_add]
        cases hj : qs.toList[j]? with
        | none => simp
        | some q =>
          have : (qs.toList.map (·.1))[j]? = some q.1 := by simp [hj]
          rw [hps] at this
          have : q.1 = j := by
            rw [List.getElem?_range (by have := (List.getElem?_eq_some_iff.1 hj).1; omega)] at this
            simpa using this.symm
          simp [this]
      have hfill := Great.fill_whole (s := n) h2 ((qs.toList.map (·.2)).map a.eval) ((Array.range (len * it.size)).map (zv.cells[· % zv.cells.size]!)) k5 (by simp [hlen, hsize])
      rw [← hparts] at hfill
      have hrun : (Instr.buildSlice t len (qs.map fun (i, x) => (i, a.eval x))).run P w = .ok (.slice (some ⟨w.heap.size, 0, none⟩) len len) (w.alloc (.cells (((qs.toList.map (·.2)).map a.eval).flatMap fun v => v.cells.toList).toArray e)) := by
        rcases Nat.eq_zero_or_pos qs.toList.length with h0 | hpos
        · have hq0 : qs.toList = [] := List.eq_nil_of_length_eq_zero h0
          have hq1 : qs = #[] := Array.ext' hq0
          rw [hq1, show len = 0 from by rw [hlen, h0]]
          have hr := run_buildNone w t e it hu hit
          simpa using hr
        · have hbig : ¬ len * it.size > 2 ^ 24 := by rw [hsize, hlen, ← hpl]; omega
          have hnz : ¬ len * it.size = 0 := by
            rw [hsize, hlen]
            have := Nat.mul_pos hpos h2
            omega
          have hr := run_buildSlice (P := P) w t e len (qs.map fun (i, x) => (i, a.eval x)) _ it zv hu hit hzv hbig hnz (by rw [hsize]; rw [hsize] at hfill; exact hfill)
          exact hr
      have hxl : xs.length = len := by rw [k4, hlen]; simp
      have hcl := relL_length k1
      rw [length_flat k3] at hcl
      have hexec : (execOp a.eval o).run P w = .ok (.value (.slice (some ⟨w.heap.size, 0, none⟩) len len)) (w.alloc (.cells (((qs.toList.map (·.2)).map a.eval).flatMap fun v => v.cells.toList).toArray e)) := by
        simp only [execOp, he, Sem.run_bind, hrun, Result.andThen_ok]
        rfl
      have hown := World.ownsRow_lit (base := 0) (e := e) (size := n) w (((qs.toList.map (·.2)).map a.eval).flatMap fun v => v.cells.toList).toArray len (Nat.zero_le _) (by
        have h4 : len * 1 ≤ len * n := Nat.mul_le_mul_left _ h2
        have h5 : len * n ≤ 16777216 := by rw [hlen, ← hpl]; exact h1
        simp only [maxLen]
        omega) (by rw [List.size_toArray, ← hcl, hxl])
      obtain ⟨g', hg'⟩ := step_own (so := none) I hF hfl hd (b := w.heap.size) (e := e) (n := n) (cap := len) (xs := xs) (w' := w.alloc (.cells (((qs.toList.map (·.2)).map a.eval).flatMap fun v => v.cells.toList).toArray e)) hn h2 k3 (by rw [hxl]; simpa using hown) k1 k2 rfl rfl rfl (by simp)
        (fun k hk _ => heap_alloc_old w _ k hk) (fun h => absurd h (Nat.lt_irrefl _)) (by simp) (fun o v h => absurd h (G_new I)) (by simp)
      rw [hxl] at hg'
      exact ⟨_, _, g', hexec, hg'⟩
    · cases hv


/-- append onto a row of one's own, and where the result lies. -/
theorem run_append_all (t ty e : TypeId) (i : TypeInfo) (z : Value) (ht : P.underlying t = some (.slice e)) (hi : P.info? e = some i) (hz : i.zero = some z) (hzs : z.cells.size = i.size) (hsz : 0 < i.size)
    (v : Value) (n : Nat) (xs : List Value) (hown : w.ownsRow 0 e i.size v n xs) (ad : Addr) (m c : Nat) (news : List Value) (hl : news.length = m * i.size) (hnews : ∀ j u, news[j]? = some u → w.cell? (ad.add j) = some u) (h1 : ∀ u ∈ news, u.oneCell' = true)
    (h63 : n + m ≤ maxLen) (hbytes : (n + m) * i.bytes ≤ 140737488355328) :
    ∃ v' w', (Builtin.append_ #[t, t] ty #[v, .slice (some ad) m c]).run P w = .ok v' w' ∧ w'.ownsRow 0 e i.size v' (n + m) (xs ++ news) ∧ w.grownBy w' v.ownBlock ∧
      ((v' = .slice none 0 0 ∧ (v = .slice none 0 0 ∧ m = 0) ∧ w' = w) ∨ ∃ b cap, v' = .slice (some ⟨b, 0, none⟩) (n + m) cap ∧ ¬ (v = .slice none 0 0 ∧ m = 0) ∧ (v.ownBlock = some b ∨ w.heap.size = b) ∧ ∀ k, k < w.heap.size → k ≠ b → w'.heap[k]? = w.heap[k]?) := by
  obtain ⟨v', w', hr, h2, h3, h4⟩ := run_append_own (P := P) w 0 t ty e i z i.size i.bytes ht hi hz rfl rfl hzs hsz v n xs hown ad m c news hl hnews h1 h63 hbytes (Nat.zero_le _)
  refine ⟨v', w', hr, h2, h3, ?_⟩
  rcases h2.2 with ⟨rfl, h⟩ | ⟨b, cap, cur, rfl, _⟩
  · obtain ⟨rfl, rfl⟩ := h4.1 rfl
    have h0 : n = 0 := by omega
    subst h0
    refine .inl ⟨rfl, ⟨rfl, rfl⟩, ?_⟩
    have hg : (Builtin.append_ #[t, t] ty #[.slice none 0 0, .slice (some ad) 0 c]).run P w = .ok (.slice none 0 0) w := by
      simp [Builtin.append_, run_underlying ht, sizeOf, typeInfo, hi, Builtin.lenOf, Builtin.firstCells, loadCells, loadCellsFrom]
    rw [hr] at hg
    injection hg
  refine .inr ⟨b, cap, rfl, fun h => by have := h4.2 h; simp at this, ?_⟩
  have hs63 : (((n + m : Nat) : Nat) : Int) ≤ 9223372036854775807 := by simp only [maxLen] at h63; omega
  rcases hown.2 with ⟨rfl, rfl⟩ | ⟨g, cap0, cur0, rfl, _, _, hnc, _⟩
  · by_cases hm : m = 0
    · have := h4.2 ⟨rfl, hm⟩
      simp at this
    · have hx : xs = [] := List.eq_nil_of_length_eq_zero (by simpa using hown.1)
      subst hx
      have hg := run_append_grow_src (P := P) w t t ty e i z ht hi hz none 0 0 [] (by simpa using run_firstCells_none (P := P) w.drew i.size 0 0 0) (.slice (some ad) m c) m news (Src.ofSlice w ht ad m c news hl hnews h1) (by omega) hs63 (growslice_fits (by omega) hbytes)
      rw [hr] at hg
      simp only [Result.ok.injEq, Value.slice.injEq, Option.some.injEq, Addr.mk.injEq] at hg
      exact ⟨.inr hg.1.1.1.symm, fun k hk _ => by rw [hg.2]; exact heap_alloc_old w.drew _ k hk⟩
  · by_cases hroom : n + m ≤ cap0
    · obtain ⟨w'', hf, _, hgr⟩ := run_append_fits (P := P) w 0 t ty e i i.size ht hi rfl g n cap0 xs hown ad m c news hl hnews h1 hroom
      rw [hr] at hf
      simp only [Result.ok.injEq, Value.slice.injEq, Option.some.injEq, Addr.mk.injEq] at hf
      have hbg : b = g := hf.1.1.1
      subst hbg
      exact ⟨.inl rfl, fun k hk hkb => by rw [hf.2]; exact hgr.block k hk (by simp [hkb])⟩
    · have hcells : ∀ j u, xs[j]? = some u → w.drew.cell? ((⟨g, 0, none⟩ : Addr).add j) = some u := fun j u hu => hown.cells (g := g) rfl j u hu
      have hg := run_append_grow_src (P := P) w t t ty e i z ht hi hz (some ⟨g, 0, none⟩) n cap0 xs (run_firstCells_some (P := P) w.drew i.size n ⟨g, 0, none⟩ n cap0 xs hown.1 hcells) (.slice (some ad) m c) m news (Src.ofSlice w ht ad m c news hl hnews h1) (by omega) hs63 (growslice_fits (by omega) hbytes)
      rw [hr] at hg
      simp only [Result.ok.injEq, Value.slice.injEq, Option.some.injEq, Addr.mk.injEq] at hg
      exact ⟨.inr hg.1.1.1.symm, fun k hk _ => by rw [hg.2]; exact heap_alloc_old w.drew _ k hk⟩

theorem run_append_nothing (t ty e : TypeId) (i : TypeInfo) (ht : P.underlying t = some (.slice e)) (hi : P.info? e = some i) (v : Value) (n : Nat) (xs : List Value) (hown : w.ownsRow 0 e i.size v n xs) (c : Nat) :
    (Builtin.append_ #[t, t] ty #[v, .slice none 0 c]).run P w = .ok v w := by
  rcases hown.2 with ⟨rfl, rfl⟩ | ⟨g, cap, cur, rfl, _, _, hnc, _⟩
  · simp [Builtin.append_, run_underlying ht, sizeOf, typeInfo, hi, Builtin.lenOf, Builtin.firstCells]
  · simp [Builtin.append_, run_underlying ht, sizeOf, typeInfo, hi, Builtin.lenOf, Builtin.firstCells, hnc, storeCells]

/-- The rows of an owner are what its cells hold. -/
theorem own_vals (I : Inv P T g w) {b e n cap : Nat} {xs : List (List V)} {cs : List Value} (hlen : ∀ r ∈ xs, r.length = n) (hown : w.ownsRow 0 e n (.slice (some ⟨b, 0, none⟩) xs.length cap) xs.length cs) (hr : RowsG g (some ⟨b, 0, none⟩) xs) :
    RelL g 0 xs.flatten cs ∧ isCells xs.flatten = true ∧ ∀ (j : Nat) (v : Value), cs[j]? = some v → g.G b j = some v := by
  obtain ⟨vs, h1, h2, h3⟩ := rowsG_vals hr
  have hG := h3 b 0 rfl
  have hl : vs.length = xs.length * n := by rw [← relL_length h1, length_flat hlen]
  have : vs = cs := by
    apply List.ext_getElem?
    intro j
    rcases Nat.lt_or_ge j vs.length with hj | hj
    · have hv := List.getElem?_eq_getElem hj
      have h4 := hG j _ hv
      simp only [Nat.zero_add] at h4
      have h5 := (I.G _ _ _ h4).1
      rw [hown.cellAt j (by omega)] at h5
      rw [hv, h5]
    · rw [List.getElem?_eq_none hj, List.getElem?_eq_none (by rw [hown.1]; omega)]
  subst this
  exact ⟨h1, h2, fun j v hv => by simpa using hG j v hv⟩

theorem evO_own (hF : FrRel P T g w nt F a.tmps) {x : Operand} {X : Opd} (hX : opd x = some X) {e : Nat} {xs : List (List V)} (h : evO F X = .slice (.own e) xs) : ∃ s, X = .t s ∧ x = .tmp s ∧ F s = .slice (.own e) xs ∧ OwnAt P g w (.tmp s) e (a.eval x) xs := by
  unfold opd at hX
  split at hX
  · rename_i s
    injection hX with hX; subst hX
    simp only [evO] at h
    refine ⟨s, rfl, rfl, h, ?_⟩
    rcases Nat.lt_or_ge s a.tmps.size with hs | hs
    · have := (hF.tmp s a.tmps[s] (Array.getElem?_eq_getElem hs)).own e xs h
      simpa [Act.eval, hs] using this
    · rw [hF.past s (by rw [← hF.size]; exact hs)] at h
      cases h
  · obtain ⟨v, hv, rfl⟩ := Option.map_eq_some_iff.1 hX
    have := (rel_ofValue (g := g) (d := 0) hv).2
    simp only [evO] at h
    subst h
    cases this
  · injection hX with hX; subst hX
    simp [evO] at h
  · cases hX

/-- append. -/
theorem step_app (I : Inv P T g w) (hF : FrRel P T g w nt F a.tmps) (hfl : Flat T) {d : Option Nat} (hd : inNt nt d = true) {e n b : Nat} {X Y : Opd} {v : V}
    (hc : CompOf P tk o (.app e n b X Y)) (hv : appOf F e n b X Y = some v) :
    ∃ x w' g', (execOp a.eval o).run P w = .ok (.value x) w' ∧ StepTo P T g w a nt T (putO (unown F X) d v) g' w' (a.put d x) := by
  cases hc with
  | val _ h => cases h
  | app x y _ _ t _ i z he hu hi hz h0 hb0 hzl hX hY =>
    unfold appOf at hv
    split at hv <;> try (cases hv; done)
    rename_i k xs k' ys hXe hYe
    split at hv <;> try (cases hv; done)
    rename_i hcond
    obtain ⟨hgrow, hall, hbytes, hlen⟩ := hcond
    injection hv with hv; subst hv
    obtain ⟨it, zv, hit, hzv, hzr, _, _⟩ := rel_zeroOf (P := P) (g := g) (d := 0) hz
    rw [hi] at hit; injection hit with hit; subst hit
    have hzs : zv.cells.size = i.size := by rw [← hzl, relL_length hzr]; simp
    have hsz : szOf P e = some i.size := by simp [szOf, hi]
    have hrx := rel_opd hF hX
    have hry := rel_opd hF hY
    rw [hXe] at hrx
    rw [hYe] at hry
    simp only [Rel] at hrx hry
    obtain ⟨ax, nx, cx, hxe, hnx, hcx, _, hrowx, hspx, hkx⟩ := hrx
    obtain ⟨ay, ny, cy, hye, hny, hcy, _, hrowy, hspy, _⟩ := hry
    -- who grows
    obtain ⟨so, cs, hown, hlx, hblk, hso⟩ : ∃ so cs, w.ownsRow 0 e i.size (a.eval x) xs.length cs ∧ (∀ r ∈ xs, r.length = i.size) ∧
        (∀ b, (a.eval x).ownBlock = some b → OfTmp so (g.use b) ∧ ∀ o v, g.G b o = some v → o < xs.length * i.size) ∧ (so = none ∨ ∃ s, so = some s ∧ X = .t s) := by
      cases k with
      | nil =>
        simp only [mayGrow, beq_iff_eq] at hgrow
        have hxs : xs = [] := List.eq_nil_of_length_eq_zero hgrow
        subst hxs
        obtain ⟨rfl, rfl⟩ := hkx
        subst hnx
        refine ⟨none, [], ?_, by simp, fun b hb => ?_, .inl rfl⟩
        · rw [hxe]; exact World.ownsRow_nil w 0 e i.size
        · rw [hxe] at hb; simp [Value.ownBlock] at hb
      | shut => simp [mayGrow] at hgrow
      | own e' =>
        simp only [mayGrow, beq_iff_eq] at hgrow
        subst hgrow
        obtain ⟨s, rfl, rfl, hFs, hO⟩ := evO_own hF hX hXe
        obtain ⟨n', cs, h1, h2, h3, h4, h5⟩ := hO
        rw [hsz] at h1; injection h1 with h1; subst h1
        exact ⟨some s, cs, h4, h3, fun b hb => ⟨⟨s, rfl, (h5 b hb).1⟩, (h5 b hb).2⟩, .inr ⟨s, rfl, rfl⟩⟩
    -- the frame with the right dropped
    let F1 : Fr := unown F X
    have hF1 : FrRel P T g w nt F1 a.tmps := by
      cases X with
      | t s => exact hF.strip s
      | c _ => exact hF
    have hcalm : ∀ s, so = some s → isCalm (F1 s) = true := by
      intro s hs
      rcases hso with rfl | ⟨s', hs', rfl⟩
      · cases hs
      · rw [hs'] at hs; injection hs with hs; subst hs
        simp only [F1, unown, put_same]
        simp only [evO] at hXe
        exact isCalm_strip (by rw [hXe]; rfl)
    -- what is appended
    obtain ⟨news, hn1, hn2, hn3⟩ := rowsG_vals hrowy
    have hly : ∀ r ∈ ys, r.length = i.size := fun r hr => by simpa using List.all_eq_true.1 hall r hr
    have hnl : news.length = ys.length * i.size := by rw [← relL_length hn1, length_flat hly]
    have hone := oneCells_of_rel hn2 hn1
    have hexec : ∀ v' w', (Builtin.append_ #[t, t] o.type #[a.eval x, a.eval y]).run P w = .ok v' w' → (execOp a.eval o).run P w = .ok (.value v') w' := by
      intro v' w' hr
      simp only [execOp, he, resolve, invoke, builtin, Sem.run_bind, Sem.run_pure, Result.andThen_ok, List.map_toArray, List.map_cons, List.map_nil, hr]
    have hlxy : ∀ r ∈ xs ++ ys, r.length = i.size := fun r hr => (List.mem_append.1 hr).elim (hlx r) (hly r)
    -- the old cells
    have holds : RelL g 0 xs.flatten cs ∧ isCells xs.flatten = true ∧ ∀ b, (a.eval x).ownBlock = some b → ∀ (j : Nat) (v : Value), cs[j]? = some v → g.G b j = some v := by
      rcases hown.2 with ⟨hv, h0'⟩ | ⟨b, cap, cur, hv, _⟩
      · have hxs : xs = [] := List.eq_nil_of_length_eq_zero h0'
        subst hxs
        have : cs = [] := List.eq_nil_of_length_eq_zero (by simpa using hown.1)
        subst this
        exact ⟨by simp [RelL], rfl, fun b hb j v h => by simp at h⟩
      · rw [hv] at hown
        have hax : ax = some ⟨b, 0, none⟩ := by rw [hxe] at hv; simp only [Value.slice.injEq] at hv; exact hv.1
        subst hax
        obtain ⟨h1, h2, h3⟩ := own_vals I hlx hown hrowx
        refine ⟨h1, h2, fun b' hb' => ?_⟩
        rw [hv] at hb'
        simp only [Value.ownBlock, Option.some.injEq] at hb'
        subst hb'
        exact h3
    have hrel : RelL g 0 (xs ++ ys).flatten (cs ++ news) := by rw [List.flatten_append]; exact relL_append holds.1 hn1
    have hic : isCells (xs ++ ys).flatten = true := by
      rw [List.flatten_append]
      exact isCells_iff.2 fun c hc => (List.mem_append.1 hc).elim (isCells_iff.1 holds.2.1 c) (isCells_iff.1 hn2 c)
    have hll : (xs ++ ys).length = xs.length + ys.length := List.length_append
    -- one result for all arms
    obtain ⟨v', w', hr, ho', hg', hwhere⟩ : ∃ v' w', (Builtin.append_ #[t, t] o.type #[a.eval x, a.eval y]).run P w = .ok v' w' ∧ w'.ownsRow 0 e i.size v' (xs.length + ys.length) (cs ++ news) ∧ w.grownBy w' (a.eval x).ownBlock ∧
        ((v' = .slice none 0 0 ∧ (a.eval x = .slice none 0 0 ∧ ys.length = 0) ∧ w' = w) ∨ ∃ b cap, v' = .slice (some ⟨b, 0, none⟩) (xs.length + ys.length) cap ∧ ¬ (a.eval x = .slice none 0 0 ∧ ys.length = 0) ∧ ((a.eval x).ownBlock = some b ∨ w.heap.size = b) ∧ ∀ k, k < w.heap.size → k ≠ b → w'.heap[k]? = w.heap[k]?) := by
      cases ay with
      | none =>
        have hys : ys = [] := by
          cases ys with
          | nil => rfl
          | cons _ _ => simp [RowsG] at hrowy
        subst hys
        have hnews : news = [] := List.eq_nil_of_length_eq_zero (by simpa using hnl)
        subst hnews
        subst hny
        refine ⟨a.eval x, w, ?_, by simpa using hown, ⟨rfl, rfl, rfl, Nat.le_refl _, fun _ _ _ => rfl⟩, ?_⟩
        · rw [hye]; exact run_append_nothing t o.type e i hu hi _ _ cs hown cy
        · rcases hown.2 with ⟨hv, h0'⟩ | ⟨b, cap, cur, hv, _⟩
          · exact .inl ⟨hv, ⟨hv, rfl⟩, rfl⟩
          · exact .inr ⟨b, cap, by simpa using hv, (by rw [hv]; simp), .inl (by rw [hv]; rfl), fun _ _ _ => rfl⟩
      | some ad =>
        rw [hye, hny]
        refine run_append_all t o.type e i zv hu hi hzv hzs h0 (a.eval x) xs.length cs hown ad ys.length cy news hnl (fun j u hj => ?_) hone (by simp only [maxLen]; omega) hbytes
        by_cases hy0 : ys = []
        · subst hy0
          have : news = [] := List.eq_nil_of_length_eq_zero (by simpa using hnl)
          subst this
          simp at hj
        · obtain ⟨b, off, sp⟩ := ad
          have hsp := hspy hy0 _ rfl
          simp only at hsp
          subst hsp
          rw [add_lit]
          exact (I.G _ _ _ (hn3 b off rfl j u hj)).1
    refine ⟨v', w', ?_⟩
    rcases hwhere with ⟨rfl, ⟨hxn, hy0⟩, hw⟩ | ⟨b, cap, rfl, hnn, hb, hkept⟩
    · -- nothing at all
      have hys : ys = [] := List.eq_nil_of_length_eq_zero hy0
      subst hys
      have hkn : k = .nil := by
        cases k with
        | nil => rfl
        | shut => rw [hxe] at hxn; simp only [Value.slice.injEq] at hxn; exact absurd hxn.1 hkx
        | own _ => rw [hxe] at hxn; simp only [Value.slice.injEq] at hxn; exact absurd hxn.1 hkx
      subst hkn
      subst hw
      have hrn : Rel g T.length (.slice .nil []) (.slice none 0 0) := by
        simp only [Rel]
        exact ⟨none, 0, 0, rfl, rfl, Nat.le_refl _, ⟨0, by simp⟩, by simp [RowsG], by simp, rfl, rfl⟩
      exact ⟨g, hexec _ _ hr, step_quiet I hF1 hfl hd fun t' _ => TmpAt.calm rfl hrn⟩
    · have hV : appV k e xs ys = V.slice (.own e) (xs ++ ys) := by
        cases k with
        | nil =>
          cases ys with
          | nil =>
            obtain ⟨rfl, rfl⟩ := hkx
            simp only [mayGrow, beq_iff_eq] at hgrow
            rw [hgrow] at hnx
            exact absurd ⟨by rw [hxe, hnx], rfl⟩ hnn
          | cons _ _ => rfl
        | shut => rfl
        | own _ => rfl
      rw [hV]
      rw [← hll] at ho' hr ⊢
      obtain ⟨g', hg''⟩ := step_own (so := so) I hF1 hfl hd (b := b) (e := e) (n := i.size) (cap := cap) (xs := xs ++ ys) (w' := w') hsz h0 hlxy ho' hrel hic hg'.os hg'.tape hg'.output hg'.size
        hkept
        (fun hlt => by
          rcases hb with hb | hb
          · exact (hblk b hb).1
          · omega)
        (by
          rcases ho'.2 with ⟨h, _⟩ | ⟨b', cap', cur, h, _, hh, _⟩
          · cases h
          · simp only [Value.slice.injEq, Option.some.injEq, Addr.mk.injEq, and_true, true_and] at h
            obtain ⟨rfl, rfl⟩ := h
            exact (Array.getElem?_eq_some_iff.1 hh).1)
        (fun oo u hu' => by
          rcases hb with hb | hb
          · have h1 := (hblk b hb).2 oo u hu'
            have h2 : cs[oo]? = some u := by
              have hc' : oo < cs.length := by rw [hown.1]; exact h1
              have h3 := holds.2.2 b hb oo _ (List.getElem?_eq_getElem hc')
              rw [hu'] at h3
              injection h3 with h3
              rw [h3]; exact List.getElem?_eq_getElem hc'
            refine ⟨?_, ?_⟩
            · rw [hll, Nat.add_mul]; omega
            · rw [List.getElem?_append_left (by rw [hown.1]; exact h1)]; exact h2
          · subst hb
            exact absurd hu' (G_new I))
        hcalm
      exact ⟨g', hexec _ _ hr, hg''⟩

end
end AM
end Go.Proofs.Ytimfbnojmdnlnaa
end
section
set_option linter.unusedVariables false
set_option linter.unusedSimpArgs false
namespace Go.Proofs.Ytimfbnojmdnlnaa
namespace AM

section
variable {P : Program} {T : St} {g : Gh} {w : World} {nt : Nat} {F : Fr} {a : Act} {tk : Option Nat → Bool} {o : Oper} {cE : CE}

theorem isCalm_of {v : V} (ht : tame v = true) (ho : ∀ e xs, v ≠ .slice (.own e) xs) : isCalm v = true := by
  cases v <;> try rfl
  · rename_i k xs
    cases k <;> first | rfl | exact absurd rfl (ho _ _)
  · cases ht
  · cases ht
theorem not_mir {v : V} (h : tame v = true) : ∀ l i o e xs, v ≠ .mir l i o e xs := by
  intro l i o e xs hv; subst hv; cases h
theorem tame_putO {F : Fr} {d : Option Nat} {v : V} (h : ∀ t, tame (F t) = true) (hv : tame v = true) : ∀ t, tame (putO F d v t) = true := by
  intro t
  cases d with
  | none => exact h t
  | some d =>
    simp only [putO, put]
    split
    · exact hv
    · exact h t
theorem tame_strip {v : V} (h : tame v = true) : tame (strip v) = true := by
  unfold strip; split
  · rfl
  · exact h
theorem tame_unown {F : Fr} {X : Opd} (h : ∀ t, tame (F t) = true) : ∀ t, tame (unown F X t) = true := by
  intro t
  cases X with
  | c _ => exact h t
  | t s =>
    simp only [unown, put]
    split
    · exact tame_strip (h s)
    · exact h t
theorem tame_of_calm {v : V} (h : isCalm v = true) : tame v = true := by
  cases v <;> first | rfl | cases h

/-- The ghost where block b is the box number i of level l. -/
def Gh.boxed (g : Gh) (b l i : Nat) : Gh := ⟨g.G, fun l' i' => if l' = l ∧ i' = i then b else g.bx l' i', g.lp, fun b' => if b' = b then .box l i else g.use b'⟩

/-- A block becomes a box of the top level. -/
theorem inv_box (I : Inv P T g w) {bs : List (List V)} {R : St} (hT : T = ⟨bs, none⟩ :: R) {b e : Nat} {z : List V} {vs : List Value} {w' : World} {so : Option Nat}
    (hh : w'.heap[b]? = some (.cells ⟨vs⟩ e (0, 0))) (hG : ∀ o v, g.G b o ≠ some v) (hu : g.use b = .free ∧ w.heap.size ≤ b ∨ OfTmp so (g.use b))
    (hi : isCells z = true) (hr : RelL g (R.length + 1) z vs) (hz : ∀ (j : Nat) e xs, z[j]? ≠ some (.slice (.own e) xs))
    (hos : w'.os = w.os) (htp : w'.tape = w.tape) (hout : w'.output = w.output) (hsz : w.heap.size ≤ w'.heap.size) (hold : ∀ k, k < w.heap.size → w'.heap[k]? = w.heap[k]?) :
    Le T.length g (g.boxed b R.length bs.length) ∧ Same (OfTmp so) g w (g.boxed b R.length bs.length) w' ∧ Inv P (⟨bs ++ [z], none⟩ :: R) (g.boxed b R.length bs.length) w' := by
  subst hT
  have hnb : (∀ l i, g.use b ≠ .box l i) ∧ ∀ l, g.use b ≠ .loop l := by
    rcases hu with ⟨h, _⟩ | ⟨s, _, h⟩ <;> rw [h] <;> exact ⟨fun _ _ => by simp, fun _ => by simp⟩
  have hfree : getBox (⟨bs, none⟩ :: R) R.length bs.length = none := by rw [getBox_top]; simp
  have hNew : g.use (g.bx R.length bs.length) ≠ .box R.length bs.length := I.N _ _ (by simp) hfree
  have hle : Le (⟨bs, none⟩ :: R : St).length g (g.boxed b R.length bs.length) := by
    refine ⟨fun _ _ _ h => h, fun l i hl h => ?_, fun l hl h => ?_⟩
    · have h1 : ¬ (l = R.length ∧ i = bs.length) := by rintro ⟨rfl, rfl⟩; exact hNew h
      have h2 : g.bx l i ≠ b := fun e => hnb.1 l i (e ▸ h)
      simp only [Gh.boxed, h1, h2, if_false]
      exact ⟨trivial, h⟩
    · have h2 : g.lp l ≠ b := fun e => hnb.2 l (e ▸ h)
      simp only [Gh.boxed, h2, if_false]
      exact ⟨trivial, h⟩
  have hsame : Same (OfTmp so) g w (g.boxed b R.length bs.length) w' := ⟨hos, htp, hout, hsz, fun k hk hku => by
    have hkb : k ≠ b := fun e => by
      subst e
      rcases hu with ⟨_, h⟩ | h
      · omega
      · exact hku h
    exact ⟨hold k hk, by simp [Gh.boxed, hkb], fun o => rfl⟩⟩
  refine ⟨hle, hsame, I.step hsame hle (fun b' o v hv hc => ?_) (fun b' hb' => ?_) (fun l i cs hc => ?_) (fun l p hp => ?_) (fun l i hl hn => ?_)⟩
  · have hv' : g.G b' o = some v := hv
    have hb' : b' ≠ b := fun e => hG o v (e ▸ hv')
    obtain ⟨h1, h2⟩ := I.G b' o v hv'
    exact ⟨by rw [cell?_eq (hold b' (G_lt I hv'))]; exact h1, by simpa [Gh.boxed, hb'] using h2⟩
  · have h1 : b < w'.heap.size := (Array.getElem?_eq_some_iff.1 hh).1
    have h2 : b' ≠ b := by omega
    simp only [Gh.boxed, h2, if_false]
    exact I.U b' (by omega)
  · have hpush := getBox_push ⟨bs, none⟩ R z l i
    simp only at hpush
    rw [hpush] at hc
    split at hc
    · rename_i hli
      obtain ⟨rfl, rfl⟩ := hli
      injection hc with hc; subst hc
      right
      refine ⟨by simp [Gh.boxed], vs, e, by simpa [Gh.boxed] using hh, hi, relL_mono hle (by simp) _ _ hr, fun j e' xs x hj _ => absurd hj (hz j e' xs)⟩
    · exact .inl ⟨hc, ofTmp_box, fun _ => ofTmp_cell⟩
  · have hp' : getLp (⟨bs, none⟩ :: R) l = some p := by simpa [getLp] using hp
    exact .inl ⟨hp', ofTmp_loop, Flat.lp (T := ⟨bs, none⟩ :: R) trivial hp'⟩
  · have hpush := getBox_push ⟨bs, none⟩ R z l i
    simp only at hpush
    rw [hpush] at hn
    split at hn
    · cases hn
    · rename_i hli
      simp only [Gh.boxed, hli, if_false]
      split
      · intro h
        simp only [Use.box.injEq] at h
        exact hli ⟨h.1.symm, h.2.symm⟩
      · exact I.N l i (by simpa using hl) hn

theorem zero_at {z : List V} (h : ∀ u ∈ z, ∀ (e : Nat) (ys : List (List V)), u ≠ .slice (.own e) ys) : ∀ (j : Nat) e xs, z[j]? ≠ some (.slice (.own e) xs) := fun j e xs hj => h _ (List.mem_of_getElem? hj) e xs rfl

/-- A new box. -/
theorem step_new (I : Inv P T g w) (hF : FrRel P T g w nt F a.tmps) (ht : ∀ t, tame (F t) = true) {d : Option Nat} (hd : inNt nt d = true) {bs : List (List V)} {R : St} (hT : T = ⟨bs, none⟩ :: R) {e : Nat} {z : List V} {cells : Array Value}
    (hi : isCells z = true) (hr : RelL g T.length z cells.toList) (hz : ∀ (j : Nat) e xs, z[j]? ≠ some (.slice (.own e) xs)) :
    ∃ g', StepTo P T g w a nt (⟨bs ++ [z], none⟩ :: R) (putO F d (.ptr R.length bs.length 0)) g' (w.alloc (.cells cells e)) (a.put d (.pointer (some ⟨w.heap.size, 0, none⟩))) := by
  have hlen : T.length = R.length + 1 := by rw [hT]; rfl
  obtain ⟨hle, hsame, hinv⟩ := inv_box (so := none) I hT (b := w.heap.size) (e := e) (z := z) (vs := cells.toList) (w' := w.alloc (.cells cells e)) (by rw [heap_alloc_new]) (fun o v h => absurd h (G_new I)) (.inl ⟨I.U _ (Nat.le_refl _), Nat.le_refl _⟩)
    hi (by rw [hlen] at hr; exact hr) hz rfl rfl rfl (by simp) (fun k hk => heap_alloc_old w _ k hk)
  refine ⟨_, hle, hsame.frm ofTmp_free, hinv, ?_, by rw [hT]; rfl, trivial, put_defs _ _ _, fun b hb hu => ?_⟩
  · refine FrRel.put hF.size hF.past hd (fun t y _ hy => (hF.tmp t y hy).same I hsame hle (by rw [hT]; rfl) (by rintro ⟨s, h, _⟩; cases h) (.inl (not_mir (ht t)))) (fun t _ => TmpAt.calm rfl ?_)
    simp only [Rel]
    exact ⟨by simp, by simp [Gh.boxed], by simp [Gh.boxed]⟩
  · obtain ⟨h1, h2, _⟩ := hsame.old b hb (by rw [hu]; exact ofTmp_mark)
    exact ⟨h2.trans hu, h1⟩

theorem step_al (I : Inv P T g w) (hF : FrRel P T g w nt F a.tmps) (ht : ∀ t, tame (F t) = true) {d : Option Nat} (hd : inNt nt d = true) {bs : List (List V)} {R : St} (hT : T = ⟨bs, none⟩ :: R) {z : List V} (hc : CompOf P tk o (.al z)) :
    ∃ x w' g', (execOp a.eval o).run P w = .ok (.value x) w' ∧ StepTo P T g w a nt (⟨bs ++ [z], none⟩ :: R) (putO F d (.ptr R.length bs.length 0)) g' w' (a.put d x) := by
  cases hc with
  | val _ h => cases h
  | alloc e _ he hz =>
    obtain ⟨it, zv, hit, hzv, hzr, hzi, hzo⟩ := rel_zeroOf (P := P) (g := g) (d := T.length) hz
    obtain ⟨g', hg'⟩ := step_new (e := e) I hF ht hd hT hzi hzr (zero_at hzo)
    refine ⟨_, _, g', ?_, hg'⟩
    simp [execOp, he, Instr.alloc, zeroValue, typeInfo, hit, hzv, newVar, newRow]

theorem step_bx (I : Inv P T g w) (hF : FrRel P T g w nt F a.tmps) (ht : ∀ t, tame (F t) = true) {d : Option Nat} (hd : inNt nt d = true) {bs : List (List V)} {R : St} (hT : T = ⟨bs, none⟩ :: R) {n : Nat} {X : Opd} {cs : List V} (hc : CompOf P tk o (.box n X)) (hcs : cellsOf (strip (evO F X)) = some cs) :
    ∃ x w' g', (execOp a.eval o).run P w = .ok (.value x) w' ∧ StepTo P T g w a nt (⟨bs ++ [cs], none⟩ :: R) (putO F d (.ptr R.length bs.length 0)) g' w' (a.put d x) := by
  cases hc with
  | val _ h => cases h
  | box e _ x _ he hn hX =>
    obtain ⟨h1, h2⟩ := rel_cellsOf hcs (rel_strip (rel_opd hF hX))
    obtain ⟨g', hg'⟩ := step_new (e := e) I hF ht hd hT h2 h1 (fun j e' xs hj => strip_own (cellsOf_own hcs hj).2)
    refine ⟨_, _, g', ?_, hg'⟩
    simp [execOp, he, Instr.box, newVar, newRow]

/-- A right to grow that is moved from one temporary to another. -/
theorem step_mv (I : Inv P T g w) (hF : FrRel P T g w nt F a.tmps) (hfl : Flat T) {d : Option Nat} (hd : inNt nt d = true) {s : Nat} (ht : tame (F s) = true) :
    ∃ g', StepTo P T g w a nt T (putO (put F s (strip (F s))) d (F s)) g' w (a.put d (a.eval (.tmp s))) := by
  have hF1 := hF.strip s
  have hrel : Rel g T.length (F s) (a.eval (.tmp s)) := rel_tmp hF s
  by_cases ho : ∃ e xs, F s = .slice (.own e) xs
  · obtain ⟨e, xs, hFs⟩ := ho
    obtain ⟨_, hs0, hs1, _, hO⟩ := evO_own (x := .tmp s) (X := .t s) hF rfl hFs
    cases hs0
    obtain ⟨n, cs, h1, h2, h3, h4, h5⟩ := hO
    rw [hFs] at hrel hF1 ⊢
    rcases h4.2 with ⟨hv, h0⟩ | ⟨b, cap, cur, hv, _, hh, _⟩
    · rw [hv]
      have hxs : xs = [] := List.eq_nil_of_length_eq_zero h0
      subst hxs
      have hq : ∀ t', d = some t' → TmpAt P T g w t' (.slice (.own e) []) (.slice none 0 0) := fun t' _ => by
        refine ⟨by rw [hv] at hrel; exact hrel, fun e' xs' hv => ?_, fun z hv => (by cases hv), fun l i o e xs hv => (by cases hv)⟩
        simp only [V.slice.injEq, SK.own.injEq] at hv
        obtain ⟨rfl, rfl⟩ := hv
        exact ⟨n, [], h1, h2, by simp, World.ownsRow_nil _ 0 e n, fun b hb => by simp [Value.ownBlock] at hb⟩
      exact ⟨g, step_quiet I hF1 hfl hd hq⟩
    · rw [hv] at hrel h4 h5 ⊢
      simp only [Rel] at hrel
      obtain ⟨ad, nx, cx, hxe, _, _, _, hrow, _⟩ := hrel
      simp only [Value.slice.injEq] at hxe
      obtain ⟨rfl, rfl, rfl⟩ := hxe
      obtain ⟨k1, k2, k3⟩ := own_vals I h3 h4 hrow
      have hb := h5 b rfl
      exact step_own (so := some s) I hF1 hfl hd h1 h2 h3 h4 k1 k2 rfl rfl rfl (Nat.le_refl _) (fun _ _ _ => rfl) (fun _ => ⟨s, rfl, hb.1⟩) (Array.getElem?_eq_some_iff.1 hh).1
        (fun oo u hu => by
          have h6 := hb.2 oo u hu
          refine ⟨h6, ?_⟩
          have hc' : oo < cs.length := by rw [h4.1]; exact h6
          have h7 := k3 oo _ (List.getElem?_eq_getElem hc')
          rw [hu] at h7
          injection h7 with h7
          rw [h7]; exact List.getElem?_eq_getElem hc')
        (fun s' hs' => by injection hs' with hs'; subst hs'; rw [put_same]; rfl)
  · exact ⟨g, step_quiet I hF1 hfl hd fun t' _ => TmpAt.calm (isCalm_of ht fun e xs h => ho ⟨e, xs, h⟩) hrel⟩

end
end AM
end Go.Proofs.Ytimfbnojmdnlnaa
end
section
set_option linter.unusedVariables false
set_option linter.unusedSimpArgs false
namespace Go.Proofs.Ytimfbnojmdnlnaa
namespace AM

section
variable {P : Program} {T : St} {g : Gh} {w : World} {nt : Nat} {F : Fr} {a : Act} {tk : Option Nat → Bool} {o : Oper} {cE : CE}

/-- The ghost where block ob, if any, is in use u. -/
def Gh.use1 (g : Gh) (ob : Option Nat) (u : Use) : Gh := ⟨g.G, g.bx, g.lp, fun b' => if ob = some b' then u else g.use b'⟩

theorem le_use1 {ob : Option Nat} {c : Loc} {u : Use} (n : Nat) (hu : ∀ b, ob = some b → g.use b = .row c) : Le n g (g.use1 ob u) := {
  G _ _ _ h := h
  bx l i _ h := by
    refine ⟨rfl, ?_⟩
    simp only [Gh.use1]
    split
    · rename_i e; rw [hu _ e] at h; cases h
    · exact h
  lp l _ h := by
    refine ⟨rfl, ?_⟩
    simp only [Gh.use1]
    split
    · rename_i e; rw [hu _ e] at h; cases h
    · exact h }
theorem same_use1 {ob : Option Nat} {c : Loc} {u : Use} (hu : ∀ b, ob = some b → g.use b = .row c) : Same (· = .row c) g w (g.use1 ob u) w :=
  ⟨rfl, rfl, rfl, Nat.le_refl _, fun b hb h => ⟨rfl, by
    simp only [Gh.use1]
    split
    · rename_i e; exact absurd (hu _ e) h
    · rfl, fun _ => rfl⟩⟩

def tmpUse (d : Option Nat) : Use := match d with | some d => .row (.tmp d) | none => .free
theorem tmpUse_row (d : Option Nat) : tmpUse d = .free ∨ ∃ c, tmpUse d = .row c := by cases d <;> simp [tmpUse]

theorem OwnAt.use1 {c : Loc} {e : Nat} {x : Value} {xs : List (List V)} (h : OwnAt P g w c e x xs) (c' : Loc) : OwnAt P (g.use1 x.ownBlock (.row c')) w c' e x xs := by
  obtain ⟨n, cs, h1, h2, h3, h4, h5⟩ := h
  exact ⟨n, cs, h1, h2, h3, h4, fun b hb => ⟨by simp [Gh.use1, hb], (h5 b hb).2⟩⟩

theorem lt_set {α : Type} {xs : List α} {o j : Nat} {v : α} : (xs.set o v)[j]? = if j = o then (if o < xs.length then some v else none) else xs[j]? := by
  rw [List.getElem?_set]
  by_cases h : o = j
  · subst h; simp
  · simp [h, Ne.symm h]

theorem isCells_set {cs : List V} {o : Nat} {v : V} (h : isCells cs = true) (hv : isCell v = true) : isCells (cs.set o v) = true := by
  refine isCells_iff.2 fun c hc => ?_
  rcases List.mem_or_eq_of_mem_set hc with h1 | rfl
  · exact isCells_iff.1 h c h1
  · exact hv

/-- What a box owns goes to a temporary. -/
theorem inv_take (I : Inv P T g w) (hfl : Flat T) {l i o e : Nat} {xs : List (List V)} {cs : List V} (hb : getBox T l i = some cs) (ho : cs[o]? = some (.slice (.own e) xs)) (d : Option Nat) :
    ∃ x g', w.cell? ⟨g.bx l i, o, none⟩ = some x ∧ Rel g T.length (.slice (.own e) xs) x ∧ (∀ n, Le n g g') ∧ Same (· = .row (.cell l i o)) g w g' w ∧ Inv P (setBox T l i (cs.set o (.slice .shut xs))) g' w ∧
      ∀ t, d = some t → OwnAt P g' w (.tmp t) e x xs := by
  obtain ⟨hu, vs, ty, hh, hi, hr, hown⟩ := I.B l i cs hb
  obtain ⟨x, hx, hrx⟩ := relL_at hr ho
  have hO := hown o e xs x ho hx
  have huse : ∀ b, x.ownBlock = some b → g.use b = .row (.cell l i o) := fun b hb => by
    obtain ⟨n, cs', h1, h2, h3, h4, h5⟩ := hO
    exact (h5 b hb).1
  have hsame : Same (· = .row (.cell l i o)) g w (g.use1 x.ownBlock (tmpUse d)) w := same_use1 huse
  have hlt := getBox_lt hb
  refine ⟨x, g.use1 x.ownBlock (tmpUse d), by simp [World.cell?, hh, hx], rel_mono (Le.refl _ g) (by omega) _ _ hrx, fun n => le_use1 n huse, hsame, ?_, fun t ht => by subst ht; exact hO.use1 _⟩
  refine I.step hsame (le_use1 _ huse) (fun b o' v hv hc => ?_) (fun b hb' => ?_) (fun l' i' cs' hc => ?_) (fun l' p hp => ?_) (fun l' i' hl hn => ?_)
  · obtain ⟨h1, h2⟩ := I.G b o' v hv
    refine ⟨h1, ?_⟩
    simp only [Gh.use1]
    split
    · exact tmpUse_row d
    · exact h2
  · simp only [Gh.use1]
    split
    · rename_i he
      have := use_lt I (b := b) (by rw [huse b he]; simp)
      omega
    · exact I.U b hb'
  · rw [getBox_setBox hb] at hc
    split at hc
    · rename_i hli
      obtain ⟨rfl, rfl⟩ := hli
      injection hc with hc; subst hc
      right
      have hle := le_use1 (g := g) (ob := x.ownBlock) (c := .cell l' i' o) (u := tmpUse d) (l' + 1) huse
      refine ⟨by have := (hle.bx l' i' (Nat.lt_succ_self _) hu); exact this.2, vs, ty, hh, isCells_set hi rfl, ?_, fun j e' ys y hj hy => ?_⟩
      · refine relL_iff.2 ⟨by rw [List.length_set]; exact relL_length hr, fun j v y hv hy => ?_⟩
        rw [lt_set] at hv
        split at hv
        · rename_i hjo
          subst hjo
          rw [hx] at hy; injection hy with hy; subst hy
          split at hv
          · injection hv with hv; subst hv
            exact rel_strip (rel_mono hle (Nat.le_refl _) _ _ hrx)
          · cases hv
        · exact rel_mono hle (Nat.le_refl _) _ _ ((relL_iff.1 hr).2 j v y hv hy)
      · rw [lt_set] at hj
        split at hj
        · split at hj <;> simp at hj
        · rename_i hjo
          exact (hown j e' ys y hj hy).same hsame (by simpa using hjo)
    · rename_i hli
      exact .inl ⟨hc, by simp, fun j => by
        simp only [Use.row.injEq, Loc.cell.injEq, not_and]
        intro h1 h2
        exact absurd ⟨h1, h2⟩ hli⟩
  · rw [getLp_setBox] at hp
    exact .inl ⟨hp, by simp, hfl.lp hp⟩
  · rw [length_setBox] at hl
    rw [getBox_setBox hb] at hn
    split at hn
    · cases hn
    · simp only [Gh.use1]
      split
      · rename_i he
        rcases tmpUse_row d with h | ⟨c, h⟩ <;> rw [h] <;> simp
      · exact I.N l' i' hl hn

/-- A load that takes the right to grow with it. -/
theorem step_ld (I : Inv P T g w) (hF : FrRel P T g w nt F a.tmps) (ht : ∀ t, tame (F t) = true) (hfl : Flat T) {d : Option Nat} (hd : inNt nt d = true) {n l i p e : Nat} {X : Opd} {xs : List (List V)} {cs : List V} (hc : CompOf P tk o (.ld true n false X))
    (hX : evO F X = .ptr l i p) (hb : getBox T l i = some cs) (ho : cs[p]? = some (.slice (.own e) xs)) :
    ∃ x g', (execOp a.eval o).run P w = .ok (.value x) w ∧ StepTo P T g w a nt (setBox T l i (cs.set p (.slice .shut xs))) (putO F d (.slice (.own e) xs)) g' w (a.put d x) := by
  generalize hk : AOp.ld true n false X = op at hc
  cases hc with
  | val op h => subst hk; cases h
  | load t _ gg x X' he hn hg hxX =>
    simp only [AOp.ld.injEq] at hk
    obtain ⟨_, rfl, rfl, rfl⟩ := hk
    obtain ⟨y, g', h1, h2, h3, h4, h5, h6⟩ := inv_take I hfl hb ho d
    have hrx := rel_opd hF hxX
    rw [hX] at hrx
    simp only [Rel] at hrx
    obtain ⟨_, _, hxe⟩ := hrx
    refine ⟨y, g', ?_, h3 _, h4.frm (by simp), h5, ?_, length_setBox _ _ _ _, hfl.setBox _ _ _, put_defs _ _ _, fun b hb' hu => ?_⟩
    · simp [execOp, he, hxe, Instr.loadAt, Instr.sureAddr, loadVar, run_isAgg hg, h1]
    · refine FrRel.put hF.size hF.past hd (fun t y _ hy => (hF.tmp t y hy).same I h4 (h3 _) (length_setBox _ _ _ _) (by simp) (.inl (not_mir (ht t)))) (fun t hdt => ⟨?_, fun e' xs' hv => ?_, fun z hv => (by cases hv), fun l i o e xs hv => (by cases hv)⟩)
      · rw [length_setBox]; exact rel_mono (h3 _) (Nat.le_refl _) _ _ h2
      · simp only [V.slice.injEq, SK.own.injEq] at hv
        obtain ⟨rfl, rfl⟩ := hv
        exact h6 t hdt
    · obtain ⟨k1, k2, _⟩ := h4.old b hb' (by rw [hu]; simp)
      exact ⟨k2.trans hu, k1⟩
  | _ => simp at hk

theorem setAt_get {cs vs : List V} {o j : Nat} (h : o + vs.length ≤ cs.length) : (setAt cs o vs)[j]? = if o ≤ j ∧ j < o + vs.length then vs[j - o]? else cs[j]? := by
  have hl : (cs.take o).length = o := by simp; omega
  show (cs.take o ++ vs ++ cs.drop (o + vs.length))[j]? = _
  rcases Nat.lt_or_ge j o with h1 | h1
  · rw [if_neg (by omega), List.append_assoc, List.getElem?_append_left (by omega), List.getElem?_take, if_pos h1]
  · rcases Nat.lt_or_ge j (o + vs.length) with h2 | h2
    · rw [if_pos ⟨h1, h2⟩, List.getElem?_append_left (by simp [hl]; omega), List.getElem?_append_right (by omega), hl]
    · rw [if_neg (by omega), List.getElem?_append_right (by simp; omega), List.getElem?_drop]
      congr 1
      simp [hl]
      omega

/-- A store into a box. -/
theorem step_st (I : Inv P T g w) (hF : FrRel P T g w nt F a.tmps) (ht : ∀ t, tame (F t) = true) (hfl : Flat T) {d : Option Nat} (hd : inNt nt d = true) {n l i p : Nat} {X Y : Opd} {cs vs : List V} (hc : CompOf P tk o (.st n X Y))
    (hX : evO F X = .ptr l i p) (hb : getBox T l i = some cs) (hvs : cellsOf (evO F Y) = some vs) (hn : vs.length = n) (hp : p + n ≤ cs.length) (hlow : lowL (l + 1) vs = true) :
    ∃ w' g', (execOp a.eval o).run P w = .ok .skip w' ∧ StepTo P T g w a nt (setBox T l i (setAt cs p vs)) (putO (unown F Y) d (.tup [])) g' w' (a.put d undef) := by
  cases hc with
  | val _ h => cases h
  | store t _ x y _ _ he hsz hxX hyY =>
    obtain ⟨hu, us, ty, hh, hi, hr, hown⟩ := I.B l i cs hb
    have hlt := getBox_lt hb
    have hrx := rel_opd hF hxX
    rw [hX] at hrx
    simp only [Rel] at hrx
    obtain ⟨_, _, hxe⟩ := hrx
    obtain ⟨hrv, hiv⟩ := rel_cellsOf hvs (rel_opd hF hyY)
    have hvl := relL_length hrv
    have hul := relL_length hr
    have hsize : (a.eval y).cells.size = n := by simp at hvl; omega
    have h1 := oneCells_of_rel hiv hrv
    have hst := run_storeCells_at P (g.bx l i) p ty (a.eval y).cells.toList 0 ⟨us⟩ w hh (by simp; omega) h1
    simp only [Nat.add_zero, Array.length_toList] at hst
    have hexec : (execOp a.eval o).run P w = .ok .skip (w.setRow (g.bx l i) (us.take p ++ (a.eval y).cells.toList ++ us.drop (p + (a.eval y).cells.size)).toArray) := by
      simp only [execOp, he, Instr.storeAt, hxe, Instr.sureAddr, storeVar, Sem.run_bind, Sem.run_pure, Result.andThen_ok, run_sizeOf hsz, hsize, ne_eq, not_true_eq_false, if_false]
      rw [hsize] at hst
      simp [hst]
    -- who is owned
    obtain ⟨so, ob, hob, hso, hO⟩ : ∃ so ob, (∀ b, ob = some b → OfTmp so (g.use b)) ∧ (∀ s, so = some s → isCalm (unown F Y s) = true) ∧
        ∀ j e xs x, vs[j]? = some (.slice (.own e) xs) → (a.eval y).cells.toList[j]? = some x → j = 0 ∧ ob = x.ownBlock ∧ ∃ s, so = some s ∧ OwnAt P g w (.tmp s) e x xs := by
      by_cases ho : ∃ e xs, evO F Y = .slice (.own e) xs
      · obtain ⟨e, xs, hY⟩ := ho
        obtain ⟨s, rfl, rfl, hFs, hO⟩ := evO_own hF hyY hY
        have hone : (a.eval (.tmp s)).cells = #[a.eval (.tmp s)] := by
          have := rel_opd hF hyY
          rw [hY] at this
          simp only [Rel] at this
          obtain ⟨_, _, _, hx, _⟩ := this
          rw [hx]; rfl
        refine ⟨some s, (a.eval (.tmp s)).ownBlock, fun b hb' => ⟨s, rfl, ?_⟩, fun s' hs' => ?_, fun j e' xs' x' hj hx' => ?_⟩
        · obtain ⟨n', cs', k1, k2, k3, k4, k5⟩ := hO
          exact (k5 b hb').1
        · injection hs' with hs'; subst hs'
          simp only [unown, put_same, hFs]
          rfl
        · obtain ⟨rfl, hv⟩ := cellsOf_own hvs hj
          rw [hY] at hv
          simp only [V.slice.injEq, SK.own.injEq] at hv
          obtain ⟨rfl, rfl⟩ := hv
          rw [hone] at hx'
          simp at hx'
          subst hx'
          exact ⟨rfl, rfl, s, rfl, hO⟩
      · exact ⟨none, none, by simp, by simp, fun j e xs x hj _ => absurd (cellsOf_own hvs hj).2 fun h => ho ⟨e, xs, h⟩⟩
    let g' := g.use1 ob (.row (.cell l i p))
    let U : Use → Prop := fun u => u = .box l i ∨ OfTmp so u
    have hobx : ∀ b, ob = some b → ∃ c, g.use b = .row c := fun b hb' => by obtain ⟨s, _, h⟩ := hob b hb'; exact ⟨_, h⟩
    have hle : ∀ m, Le m g g' := fun m => ⟨fun _ _ _ h => h, fun l i _ h => ⟨rfl, by
      simp only [g', Gh.use1]
      split
      · rename_i e; obtain ⟨c, hc⟩ := hobx _ e; rw [hc] at h; cases h
      · exact h⟩, fun l _ h => ⟨rfl, by
      simp only [g', Gh.use1]
      split
      · rename_i e; obtain ⟨c, hc⟩ := hobx _ e; rw [hc] at h; cases h
      · exact h⟩⟩
    have hsame : Same U g w g' (w.setRow (g.bx l i) (us.take p ++ (a.eval y).cells.toList ++ us.drop (p + (a.eval y).cells.size)).toArray) := by
      refine ⟨rfl, rfl, rfl, by simp, fun k hk hku => ⟨setRow_other w _ k _ (fun e => hku (.inl (e ▸ hu))), ?_, fun _ => rfl⟩⟩
      simp only [g', Gh.use1]
      split
      · rename_i e; exact absurd (.inr (hob k e)) hku
      · rfl
    have hbl : g.bx l i < w.heap.size := (Array.getElem?_eq_some_iff.1 hh).1
    have hinv : Inv P (setBox T l i (setAt cs p vs)) g' (w.setRow (g.bx l i) (us.take p ++ (a.eval y).cells.toList ++ us.drop (p + (a.eval y).cells.size)).toArray) := by
      refine I.step hsame (hle _) (fun b o' v hv hc => ?_) (fun b hb' => ?_) (fun l' i' cs' hc => ?_) (fun l' p' hp' => ?_) (fun l' i' hl hn' => ?_)
      · obtain ⟨k1, k2⟩ := I.G b o' v hv
        have hne : b ≠ g.bx l i := fun e => by rw [e, hu] at k2; simp at k2
        refine ⟨by rw [cell?_eq (setRow_other w _ b _ hne)]; exact k1, ?_⟩
        simp only [g', Gh.use1]
        split
        · exact .inr ⟨_, rfl⟩
        · exact k2
      · simp at hb'
        simp only [g', Gh.use1]
        split
        · rename_i e
          obtain ⟨c, hc⟩ := hobx b e
          have := use_lt I (b := b) (by rw [hc]; simp)
          omega
        · exact I.U b hb'
      · rw [getBox_setBox hb] at hc
        split at hc
        · rename_i hli
          obtain ⟨rfl, rfl⟩ := hli
          injection hc with hc; subst hc
          right
          have hheap := setRow_heap w (g.bx l' i') ⟨us⟩ (us.take p ++ (a.eval y).cells.toList ++ us.drop (p + (a.eval y).cells.size)).toArray ty (0, 0) hh
          refine ⟨((hle (l' + 1)).bx l' i' (Nat.lt_succ_self _) hu).2, _, ty, hheap, isCells_setAt hi hiv, ?_, fun j e' ys z hj hz => ?_⟩
          · have := relL_setAt (off := p) hr (relL_low vs _ hlow hrv)
            simp only [Array.length_toList] at this
            exact relL_mono (hle (l' + 1)) (Nat.le_refl _) _ _ this
          · rw [setAt_get (by omega)] at hj
            have hz' : (us.take p ++ (a.eval y).cells.toList ++ us.drop (p + (a.eval y).cells.size))[j]? = if p ≤ j ∧ j < p + n then (a.eval y).cells.toList[j - p]? else us[j]? := by
              have hl0 : (us.take p).length = p := by simp; omega
              rcases Nat.lt_or_ge j p with q1 | q1
              · rw [if_neg (by omega), List.append_assoc, List.getElem?_append_left (by omega), List.getElem?_take, if_pos q1]
              · rcases Nat.lt_or_ge j (p + n) with q2 | q2
                · rw [if_pos ⟨q1, q2⟩, List.getElem?_append_left (by simp [hl0]; omega), List.getElem?_append_right (by omega), hl0]
                · rw [if_neg (by omega), List.getElem?_append_right (by simp; omega), List.getElem?_drop]
                  congr 1
                  simp [hl0]
                  omega
            rw [hz'] at hz
            rw [hn] at hj
            split at hj
            · rename_i hjr
              rw [if_pos hjr] at hz
              obtain ⟨h0, hob', s, hs, hO'⟩ := hO (j - p) e' ys z hj hz
              have hjp : j = p := by omega
              subst hjp
              obtain ⟨n', cs', k1, k2, k3, k4, k5⟩ := hO'
              refine ⟨n', cs', k1, k2, k3, ownsRow_same k4 fun b hb' => setRow_other w _ b _ (fun e => ?_), fun b hb' => ⟨by simp [g', Gh.use1, hob', hb'], (k5 b hb').2⟩⟩
              have := (k5 b hb').1
              rw [e, hu] at this
              cases this
            · rename_i hjr
              rw [if_neg hjr] at hz
              exact (hown j e' ys z hj hz).same hsame (fun h => h.elim (fun h => by cases h) ofTmp_cell)
        · rename_i hli
          exact .inl ⟨hc, by
            rintro (h | h)
            · simp only [Use.box.injEq] at h; exact hli h
            · exact ofTmp_box h, fun j => by
            rintro (h | h)
            · cases h
            · exact ofTmp_cell h⟩
      · rw [getLp_setBox] at hp'
        exact .inl ⟨hp', fun h => h.elim (fun h => by cases h) ofTmp_loop, hfl.lp hp'⟩
      · rw [length_setBox] at hl
        rw [getBox_setBox hb] at hn'
        split at hn'
        · cases hn'
        · simp only [g', Gh.use1]
          split
          · simp
          · exact I.N l' i' hl hn'
    refine ⟨_, g', hexec, hle _, hsame.frm (fun h => h.elim (fun h => by cases h) ofTmp_free), hinv, ?_, length_setBox _ _ _ _, hfl.setBox _ _ _, put_defs _ _ _, fun b hb' hu' => ?_⟩
    · have hF1 : FrRel P T g w nt (unown F Y) a.tmps := by
        cases Y with
        | t s => exact hF.strip s
        | c _ => exact hF
      have ht1 := tame_unown (X := Y) ht
      refine FrRel.put hF1.size hF1.past hd (fun t y _ hy => ?_) (fun t _ => TmpAt.calm rfl (by simp only [Rel, RelL]; exact ⟨[], rfl, rfl⟩))
      by_cases hts : so = some t
      · refine TmpAt.calm (hso t hts) ?_
        rw [length_setBox]
        exact rel_mono (hle _) (Nat.le_refl _) _ _ (hF1.tmp t y hy).rel
      · exact (hF1.tmp t y hy).same I hsame (hle _) (length_setBox _ _ _ _) (by
          rintro (h | ⟨s, h1, h2⟩)
          · cases h
          · cases h2; exact hts h1) (.inl (not_mir (ht1 t)))
    · obtain ⟨k1, k2, _⟩ := hsame.old b hb' (by
        rw [hu']
        rintro (h | h)
        · cases h
        · exact ofTmp_mark h)
      exact ⟨k2.trans hu', k1⟩

end
end AM
end Go.Proofs.Ytimfbnojmdnlnaa
end
section
set_option linter.unusedVariables false
set_option linter.unusedSimpArgs false
namespace Go.Proofs.Ytimfbnojmdnlnaa
namespace AM

/-- Uses that a callee may know of: those of the levels below n. -/
def keepU (n : Nat) : Use → Bool
  | .box l _ => decide (l < n)
  | .row (.cell l _ _) => decide (l < n)
  | .loop l => decide (l < n)
  | _ => false

def Clean (n : Nat) (g : Gh) : Prop := ∀ b, g.use b = .free ∨ keepU n (g.use b) = true

/-- What a call leaves. -/
structure Done (T : St) (g : Gh) (w : World) (g' : Gh) (w' : World) : Prop where
  le : Le T.length g g'
  top : ∀ l, l + 1 = T.length → g.use (g.lp l) = .loop l → g'.lp l = g.lp l ∧ g'.use (g.lp l) = .loop l
  frm : Frm g w g' w'

def OutPost (P : Program) (T : St) (g : Gh) (w : World) (T' : St) (out : Out) (e : Ending) (w' : World) : Prop :=
  match out with
  | .ret v => ∃ g' x, e = .returned x ∧ Done T g w g' w' ∧ Inv P T' g' w' ∧ T'.length = T.length ∧ Rel g' T.length v x ∧ tame v = true ∧ ∀ e xs, v = .slice (.own e) xs → OwnAt P g' w' .res e x xs
  | .pan v => ∃ g' x, e = .panicked [{ v := x, recovered := false }] ∧ Done T g w g' w' ∧ Inv P T' g' w' ∧ T'.length = T.length ∧ Rel g' 0 v x
  | .esc v L => ∃ g' x, e = .returned x ∧ Done T g w g' w' ∧ Inv P (⟨L, none⟩ :: T') g' w' ∧ T'.length = T.length ∧ Rel g' (T.length + 1) v x ∧ isCalm v = true

def Enters (P : Program) (f : Nat) : Prop := ∃ fn, P.funcs[f]? = some fn ∧ fn.name ≠ "runtime.NumGoroutine" ∧ fn.body.isSome = true

/-- Whatever the evaluator says of a call, the machine does. -/
def CallOk (P : Program) (cE : CE) : Prop :=
  ∀ (c : Callee) (args : List V) (T : St) (out : Out) (T' : St), cE c args T = some (out, T') → ∀ (g : Gh) (w : World) (vals : List Value), Inv P T g w → Clean T.length g → RelL g (T.length + 1) args vals → (∀ v ∈ args, isCalm v = true) →
    match c with
    | .fn f => Enters P f ∧ CallsIn Fence.wide 0 P f ⟨vals⟩ w (OutPost P T g w T' out)
    | .yield l => l < T.length → g.use (g.lp l) = .loop l → ∃ r : Loop, w.heap[g.lp l]? = some (.loop r) ∧ vals.length = r.params.size ∧
        RoundIn Fence.wide 0 P (g.lp l) r.fn ((r.params.zip ⟨vals⟩).foldl (fun tmps (t, a) => tmps.setIfInBounds t a) r.tmps) r.assign r.body w (OutPost P T g w T' out)

def MethOk (P : Program) (meth : Nat → String → Option Nat) : Prop :=
  ∀ t m f, meth t m = some f → ∀ (v : Value) (w : World), (method (P.types.size + Made.depth) t v m).run P w = .ok (f, v) w

theorem run_callFunc {P : Program} {f : Nat} (h : Enters P f) (args : Array Value) (w : World) : (callFunc f args).run P w = .ok (.enter f args) w := by
  obtain ⟨fn, h1, h2, h3⟩ := h
  have h4 : fn.body ≠ none := by intro h; rw [h] at h3; cases h3
  simp [callFunc, h1, h2, h4]

section
variable {P : Program} {T : St} {g : Gh} {w : World} {nt : Nat} {F : Fr} {a : Act} {tk : Option Nat → Bool} {o : Oper} {cE : CE}

/-! ### Calls that know nothing of the caller's boxes -/
def Gh.clear (g : Gh) : Gh := ⟨g.G, g.bx, g.lp, fun _ => .free⟩

theorem inv_clear (I : Inv P T g w) : Inv P [] g.clear w := {
  K := I.K
  G b o v h := ⟨(I.G b o v h).1, .inl rfl⟩
  U _ _ := rfl
  B l i cs h := by simp [getBox] at h
  L l p h := by simp [getLp] at h
  N l i h := by simp at h }
theorem clean_clear (n : Nat) : Clean n g.clear := fun _ => .inl rfl
theorem le0_clear : Le 0 g g.clear := ⟨fun _ _ _ h => h, fun _ _ h => absurd h (Nat.not_lt_zero _), fun _ h => absurd h (Nat.not_lt_zero _)⟩

/-- The ghost behind such a call. -/
def Gh.merge (g g1 : Gh) (n : Nat) (d : Option Nat) : Gh := ⟨g1.G, g.bx, g.lp, fun b => if b < n then g.use b else match g1.use b with | .row .res => tmpUse d | _ => .free⟩

theorem inv_merge (I : Inv P T g w) (hfl : Flat T) {g1 : Gh} {w1 : World} {T1 : St} (hfrm : Frm g.clear w g1 w1) (I1 : Inv P T1 g1 w1) (d : Option Nat) :
    (∀ m, Le m g (g.merge g1 w.heap.size d)) ∧ Le 0 g1 (g.merge g1 w.heap.size d) ∧ Same (fun _ => False) g w (g.merge g1 w.heap.size d) w1 ∧ Inv P T (g.merge g1 w.heap.size d) w1 := by
  have hle : ∀ m, Le m g (g.merge g1 w.heap.size d) := fun m => by
    refine ⟨fun b o v h => ?_, fun l i _ h => ⟨rfl, ?_⟩, fun l _ h => ⟨rfl, ?_⟩⟩
    · have hb := G_lt I h
      have := (hfrm.old b hb rfl).2.2 o
      exact this.trans h
    · simp only [Gh.merge]; rw [if_pos (use_lt I (by rw [h]; simp))]; exact h
    · simp only [Gh.merge]; rw [if_pos (use_lt I (by rw [h]; simp))]; exact h
  have hle1 : Le 0 g1 (g.merge g1 w.heap.size d) := ⟨fun _ _ _ h => h, fun _ _ h => absurd h (Nat.not_lt_zero _), fun _ h => absurd h (Nat.not_lt_zero _)⟩
  have hsame : Same (fun _ => False) g w (g.merge g1 w.heap.size d) w1 := ⟨hfrm.os, hfrm.tape, hfrm.output, hfrm.size, fun b hb _ => ⟨(hfrm.old b hb rfl).1, by simp [Gh.merge, hb], fun o => (hfrm.old b hb rfl).2.2 o⟩⟩
  refine ⟨hle, hle1, hsame, I.step hsame (hle _) (fun b o v hv hc => ?_) (fun b hb => ?_) (fun l i cs hc => .inl ⟨hc, fun h => h, fun _ h => h⟩) (fun l p hp => .inl ⟨hp, fun h => h, hfl.lp hp⟩) (fun l i hl hn => ?_)⟩
  · have hb : w.heap.size ≤ b := hc.elim (fun h => h.1.elim) id
    refine ⟨(I1.G b o v hv).1, ?_⟩
    simp only [Gh.merge]
    rw [if_neg (by omega)]
    split
    · exact tmpUse_row d
    · exact .inl rfl
  · have := hfrm.size
    simp only [Gh.merge]
    rw [if_neg (by omega), I1.U b hb]
  · simp only [Gh.merge]
    split
    · exact I.N l i hl hn
    · split
      · rcases tmpUse_row d with h | ⟨c, h⟩ <;> rw [h] <;> simp
      · simp

theorem step_call0 (I : Inv P T g w) (hF : FrRel P T g w nt F a.tmps) (hfl : Flat T) {d : Option Nat} (hd : inNt nt d = true) {g1 : Gh} {w1 : World} {T1 : St} (hfrm : Frm g.clear w g1 w1) (I1 : Inv P T1 g1 w1) {v : V} {x : Value} (hr : Rel g1 0 v x) (ht : tame v = true)
    (ho : ∀ e xs, v = .slice (.own e) xs → OwnAt P g1 w1 .res e x xs) : ∃ g', StepTo P T g w a nt T (putO F d v) g' w1 (a.put d x) := by
  obtain ⟨hle, hle1, hsame, hinv⟩ := inv_merge I hfl hfrm I1 d
  refine ⟨_, hle _, hsame.frm (fun h => h), hinv, ?_, rfl, hfl, put_defs _ _ _, fun b hb hu => ?_⟩
  · refine FrRel.put hF.size hF.past hd (fun t y _ hy => (hF.tmp t y hy).same I hsame (hle _) rfl (fun h => h) (.inr ⟨rfl, fun _ _ h => h⟩)) (fun t hdt => ⟨?_, fun e xs hv => ?_, fun z hv => (by subst hv; cases ht), fun l i o e xs hv => (by subst hv; cases ht)⟩)
    · exact rel_mono hle1 (Nat.zero_le _) _ _ hr
    · obtain ⟨n, cs, h1, h2, h3, h4, h5⟩ := ho e xs hv
      refine ⟨n, cs, h1, h2, h3, h4, fun b hb => ⟨?_, (h5 b hb).2⟩⟩
      have h6 := (h5 b hb).1
      simp only [Gh.merge]
      have : ¬ b < w.heap.size := fun hlt => by
        have := (hfrm.old b hlt rfl).2.1
        rw [h6] at this; cases this
      rw [if_neg this, h6]
      subst hdt
      rfl
  · obtain ⟨h1, h2, _⟩ := hsame.old b hb (fun h => h)
    exact ⟨h2.trans hu, h1⟩

/-! ### Calls that may know them -/
def Gh.drop (g : Gh) (n : Nat) : Gh := ⟨g.G, g.bx, g.lp, fun b => if keepU n (g.use b) = true then g.use b else .free⟩

theorem drop_keep {n b : Nat} (h : keepU n (g.use b) = true) : (g.drop n).use b = g.use b := by simp [Gh.drop, h]
theorem drop_free {n b : Nat} (h : keepU n (g.use b) = false) : (g.drop n).use b = .free := by simp [Gh.drop, h]
theorem clean_drop (n : Nat) : Clean n (g.drop n) := fun b => by
  by_cases h : keepU n (g.use b) = true
  · right; rw [drop_keep h]; exact h
  · left; simp only [Gh.drop]; rw [if_neg h]
theorem le_drop {n : Nat} : Le n g (g.drop n) := {
  G _ _ _ h := h
  bx l i hl h := ⟨rfl, by rw [drop_keep (by rw [h]; simp [keepU]; omega)]; exact h⟩
  lp l hl h := ⟨rfl, by rw [drop_keep (by rw [h]; simp [keepU]; omega)]; exact h⟩ }

theorem same_drop {n : Nat} : Same (fun u => keepU n u = false) g w (g.drop n) w :=
  ⟨rfl, rfl, rfl, Nat.le_refl _, fun b _ h => ⟨rfl, drop_keep (by simpa using h), fun _ => rfl⟩⟩

theorem inv_drop (I : Inv P T g w) : Inv P T (g.drop T.length) w := {
  K := I.K
  G b o v h := by
    obtain ⟨h1, h2⟩ := I.G b o v h
    refine ⟨h1, ?_⟩
    simp only [Gh.drop]
    split
    · exact h2
    · exact .inl rfl
  U b hb := by simp only [Gh.drop]; rw [I.U b hb]; simp [keepU]
  B l i cs hc := by
    have hl := getBox_lt hc
    exact (I.B l i cs hc).same I same_drop (le_drop.less hl) (by simpa [keepU] using hl) (fun j => by simpa [keepU] using hl)
  L l p hp := by
    have hl := getLp_lt hp
    have hu := (I.L l p hp).1
    exact (I.L l p hp).same same_drop (le_drop.less hl) ⟨rfl, by rw [drop_keep (by rw [hu]; simpa [keepU] using hl)]; exact hu⟩ (by simpa [keepU] using hl)
  N l i hl hn := by
    simp only [Gh.drop]
    split
    · exact I.N l i hl hn
    · simp }

def isRes : Use → Bool
  | .row .res => true
  | _ => false
theorem isRes_iff {u : Use} : isRes u = true ↔ u = .row .res := by
  cases u with
  | row c => cases c <;> simp [isRes]
  | _ => simp [isRes]

/-- The ghost behind a call. -/
def Gh.give (g g1 : Gh) (n N : Nat) (d : Option Nat) : Gh :=
  ⟨g1.G, g1.bx, g1.lp, fun b => if b < N ∧ keepU n (g.use b) = false then g.use b else if isRes (g1.use b) = true then tmpUse d else if keepU n (g1.use b) = true then g1.use b else .free⟩

theorem give_keep {g1 : Gh} {w1 : World} {n : Nat} {d : Option Nat} (hfrm : Frm (g.drop n) w g1 w1) {b : Nat} (h : keepU n (g1.use b) = true) : (g.give g1 n w.heap.size d).use b = g1.use b := by
  have h1 : ¬ (b < w.heap.size ∧ keepU n (g.use b) = false) := by
    rintro ⟨hb, hk⟩
    have := (hfrm.old b hb (drop_free hk)).2.1
    rw [this] at h; cases h
  have h2 : ¬ isRes (g1.use b) = true := fun e => by rw [isRes_iff.1 e] at h; cases h
  simp only [Gh.give]
  rw [if_neg h1, if_neg h2, if_pos h]

theorem give_res {g1 : Gh} {w1 : World} {n : Nat} {d : Option Nat} (hfrm : Frm (g.drop n) w g1 w1) {b : Nat} (h : g1.use b = .row .res) : (g.give g1 n w.heap.size d).use b = tmpUse d := by
  have h1 : ¬ (b < w.heap.size ∧ keepU n (g.use b) = false) := by
    rintro ⟨hb, hk⟩
    have := (hfrm.old b hb (drop_free hk)).2.1
    rw [this] at h; cases h
  simp only [Gh.give]
  rw [if_neg h1, if_pos (isRes_iff.2 h)]

theorem give_old {g1 : Gh} {n N : Nat} {d : Option Nat} {b : Nat} (hb : b < N) (h : keepU n (g.use b) = false) : (g.give g1 n N d).use b = g.use b := by
  simp only [Gh.give]
  rw [if_pos ⟨hb, h⟩]

theorem le_give {g1 : Gh} {w1 : World} {n : Nat} {d : Option Nat} (hfrm : Frm (g.drop n) w g1 w1) (m : Nat) (hm : m ≤ n) : Le m g1 (g.give g1 n w.heap.size d) := {
  G _ _ _ h := h
  bx l i hl h := ⟨rfl, by rw [give_keep hfrm (by rw [h]; simp [keepU]; omega)]; exact h⟩
  lp l hl h := ⟨rfl, by rw [give_keep hfrm (by rw [h]; simp [keepU]; omega)]; exact h⟩ }

theorem give_cases (g g1 : Gh) (n N : Nat) (d : Option Nat) (b : Nat) : (b < N ∧ keepU n (g.use b) = false ∧ (g.give g1 n N d).use b = g.use b) ∨ (g1.use b = .row .res ∧ (g.give g1 n N d).use b = tmpUse d) ∨ (keepU n (g1.use b) = true ∧ (g.give g1 n N d).use b = g1.use b) ∨ (g.give g1 n N d).use b = .free := by
  simp only [Gh.give]
  by_cases h1 : b < N ∧ keepU n (g.use b) = false
  · exact .inl ⟨h1.1, h1.2, if_pos h1⟩
  · rw [if_neg h1]
    by_cases h2 : isRes (g1.use b) = true
    · exact .inr (.inl ⟨isRes_iff.1 h2, if_pos h2⟩)
    · rw [if_neg h2]
      by_cases h3 : keepU n (g1.use b) = true
      · exact .inr (.inr (.inl ⟨h3, if_pos h3⟩))
      · rw [if_neg h3]
        exact .inr (.inr (.inr rfl))

theorem inv_give (I : Inv P T g w) {g1 : Gh} {w1 : World} {T1 : St} (hd : Done T (g.drop T.length) w g1 w1) (I1 : Inv P T1 g1 w1) (hlen : T1.length = T.length) (d : Option Nat) :
    Le T.length g (g.give g1 T.length w.heap.size d) ∧ (∀ l, l + 1 = T.length → g.use (g.lp l) = .loop l → g1.lp l = g.lp l ∧ (g.give g1 T.length w.heap.size d).use (g.lp l) = .loop l) ∧
      Same (fun u => keepU T.length u = true) g w (g.give g1 T.length w.heap.size d) w1 ∧ Inv P T1 (g.give g1 T.length w.heap.size d) w1 := by
  have hfrm := hd.frm
  have hkb : ∀ l i, l < T.length → g.use (g.bx l i) = .box l i → keepU T.length (g.use (g.bx l i)) = true := fun l i hl h => by rw [h]; simpa [keepU] using hl
  have hkl : ∀ l, l < T.length → g.use (g.lp l) = .loop l → keepU T.length (g.use (g.lp l)) = true := fun l hl h => by rw [h]; simpa [keepU] using hl
  have hle : Le T.length g (g.give g1 T.length w.heap.size d) := by
    refine ⟨fun b o v h => hd.le.G b o v h, fun l i hl h => ?_, fun l hl h => ?_⟩
    · obtain ⟨h1, h2⟩ := hd.le.bx l i hl (by show (g.drop T.length).use (g.bx l i) = _; rw [drop_keep (hkb l i hl h)]; exact h)
      refine ⟨h1, ?_⟩
      have h2' : g1.use (g.bx l i) = .box l i := h2
      rw [give_keep hfrm (by rw [h2']; simpa [keepU] using hl)]
      exact h2'
    · have hl' : l < T.length := by omega
      obtain ⟨h1, h2⟩ := hd.le.lp l hl (by show (g.drop T.length).use (g.lp l) = _; rw [drop_keep (hkl l hl' h)]; exact h)
      refine ⟨h1, ?_⟩
      have h2' : g1.use (g.lp l) = .loop l := h2
      rw [give_keep hfrm (by rw [h2']; simpa [keepU] using hl')]
      exact h2'
  refine ⟨hle, fun l hl h => ?_, ⟨hfrm.os, hfrm.tape, hfrm.output, hfrm.size, fun b hb hk => ?_⟩, ⟨I1.K, fun b o v h => ?_, fun b hb => ?_, fun l i cs hc => ?_, fun l p hp => ?_, fun l i hl hn => ?_⟩⟩
  · have hl' : l < T.length := by omega
    obtain ⟨h1, h2⟩ := hd.top l hl (by show (g.drop T.length).use (g.lp l) = _; rw [drop_keep (hkl l hl' h)]; exact h)
    refine ⟨h1, ?_⟩
    have h2' : g1.use (g.lp l) = .loop l := h2
    rw [give_keep hfrm (by rw [h2']; simpa [keepU] using hl')]
    exact h2'
  · have hk' : keepU T.length (g.use b) = false := by simpa using hk
    obtain ⟨h1, h2, h3⟩ := hfrm.old b hb (drop_free hk')
    exact ⟨h1, give_old hb hk', fun o => h3 o⟩
  · obtain ⟨h1, h2⟩ := I1.G b o v h
    refine ⟨h1, ?_⟩
    rcases give_cases g g1 T.length w.heap.size d b with ⟨hb, hk, e⟩ | ⟨_, e⟩ | ⟨_, e⟩ | e
    · rw [e]
      have h3 := (hfrm.old b hb (drop_free hk)).2.2 o
      have h4 : g.G b o = some v := by
        have h5 : g1.G b o = some v := h
        rw [h3] at h5
        exact h5
      exact (I.G b o v h4).2
    · rw [e]; exact tmpUse_row d
    · rw [e]; exact h2
    · exact .inl e
  · have := hfrm.size
    rcases give_cases g g1 T.length w.heap.size d b with ⟨hb', _, _⟩ | ⟨e1, _⟩ | ⟨e1, _⟩ | e
    · omega
    · rw [I1.U b hb] at e1; cases e1
    · rw [I1.U b hb] at e1; cases e1
    · exact e
  · obtain ⟨hu, vs, e, hh, hi, hr, ho⟩ := I1.B l i cs hc
    have hl := getBox_lt hc
    rw [hlen] at hl
    refine ⟨by show (g.give g1 T.length w.heap.size d).use (g1.bx l i) = _; rw [give_keep hfrm (by rw [hu]; simpa [keepU] using hl)]; exact hu, vs, e, hh, hi, relL_mono (le_give hfrm (l + 1) hl) (Nat.le_refl _) _ _ hr, fun j e' xs x hj hx => ?_⟩
    obtain ⟨n, cs', h1, h2, h3, h4, h5⟩ := ho j e' xs x hj hx
    exact ⟨n, cs', h1, h2, h3, h4, fun b hb => ⟨by rw [give_keep hfrm (by rw [(h5 b hb).1]; simpa [keepU] using hl)]; exact (h5 b hb).1, (h5 b hb).2⟩⟩
  · have hl := getLp_lt hp
    rw [hlen] at hl
    have hu := (I1.L l p hp).1
    obtain ⟨_, r, hh, hp', hc, hrg, hq, hn, hf, hj⟩ := I1.L l p hp
    exact ⟨by show (g.give g1 T.length w.heap.size d).use (g1.lp l) = _; rw [give_keep hfrm (by rw [hu]; simpa [keepU] using hl)]; exact hu, r, hh, hp', hc, hrg, hq, hn, fun t x hx => ⟨(hf t x hx).1, rel_mono (le_give hfrm (l + 1) hl) (Nat.le_refl _) _ _ (hf t x hx).2⟩, hj⟩
  · rw [hlen] at hl
    rcases give_cases g g1 T.length w.heap.size d (g1.bx l i) with ⟨_, hk, e⟩ | ⟨_, e⟩ | ⟨_, e⟩ | e
    · show (g.give g1 T.length w.heap.size d).use (g1.bx l i) ≠ _
      rw [e]
      intro h
      rw [h] at hk
      simp [keepU] at hk
      omega
    · show (g.give g1 T.length w.heap.size d).use (g1.bx l i) ≠ _
      rw [e]
      rcases tmpUse_row d with h | ⟨c, h⟩ <;> rw [h] <;> simp
    · show (g.give g1 T.length w.heap.size d).use (g1.bx l i) ≠ _
      rw [e]; exact I1.N l i (by rw [hlen]; exact hl) hn
    · show (g.give g1 T.length w.heap.size d).use (g1.bx l i) ≠ _
      rw [e]; simp

theorem step_call (I : Inv P T g w) (hF : FrRel P T g w nt F a.tmps) (ht : ∀ t, tame (F t) = true) {d : Option Nat} (hd : inNt nt d = true) {g1 : Gh} {w1 : World} {T1 : St} (hdn : Done T (g.drop T.length) w g1 w1) (I1 : Inv P T1 g1 w1) (hlen : T1.length = T.length) (hfl : Flat T1)
    {v : V} {x : Value} (hr : Rel g1 T.length v x) (htv : tame v = true) (ho : ∀ e xs, v = .slice (.own e) xs → OwnAt P g1 w1 .res e x xs) : ∃ g', StepTo P T g w a nt T1 (putO F d v) g' w1 (a.put d x) := by
  obtain ⟨hle, _, hsame, hinv⟩ := inv_give I hdn I1 hlen d
  refine ⟨_, hle, hsame.frm (by simp [keepU]), hinv, ?_, hlen, hfl, put_defs _ _ _, fun b hb hu => ?_⟩
  · refine FrRel.put hF.size hF.past hd (fun t y _ hy => (hF.tmp t y hy).same I hsame hle hlen (by simp [keepU]) (.inl (not_mir (ht t)))) (fun t hdt => ⟨?_, fun e xs hv => ?_, fun z hv => (by subst hv; cases htv), fun l i o e xs hv => (by subst hv; cases htv)⟩)
    · rw [hlen]; exact rel_mono (le_give hdn.frm _ (Nat.le_refl _)) (Nat.le_refl _) _ _ hr
    · obtain ⟨n, cs, h1, h2, h3, h4, h5⟩ := ho e xs hv
      refine ⟨n, cs, h1, h2, h3, h4, fun b hb => ⟨?_, (h5 b hb).2⟩⟩
      rw [give_res hdn.frm (h5 b hb).1]
      subst hdt
      rfl
  · obtain ⟨h1, h2, _⟩ := hsame.old b hb (by rw [hu]; simp [keepU])
    exact ⟨h2.trans hu, h1⟩

end
end AM
end Go.Proofs.Ytimfbnojmdnlnaa
end
section
set_option linter.unusedVariables false
set_option linter.unusedSimpArgs false
namespace Go.Proofs.Ytimfbnojmdnlnaa
namespace AM

section
variable {P : Program} {T : St} {g : Gh} {w : World} {nt : Nat} {F : Fr} {a : Act} {tk : Option Nat → Bool} {o : Oper} {cE : CE}

def embU (g1 : Gh) (l2 base k b : Nat) : Use :=
  match g1.use b with
  | .box l i => if l = 0 ∧ i < k ∧ g1.bx 0 i = b then .box l2 (base + i) else .free
  | .row (.cell l i j) => if l = 0 then .row (.cell l2 (base + i) j) else .free
  | _ => .free

/-- The ghost where boxes of a callee that knew nothing become boxes of the top level. -/
def Gh.embed (g g1 : Gh) (n l2 base k : Nat) : Gh :=
  ⟨g1.G, fun l i => if l = l2 ∧ base ≤ i ∧ i < base + k then g1.bx 0 (i - base) else g.bx l i, g.lp, fun b => if b < n then g.use b else embU g1 l2 base k b⟩

theorem relocL_get {l1 l2 b : Nat} : ∀ {cs : List V} {j : Nat}, (relocL l1 l2 b cs)[j]? = (cs[j]?).map (reloc l1 l2 b)
  | [], j => by simp [relocL]
  | c :: cs, 0 => by simp [relocL]
  | c :: cs, j + 1 => by simp [relocL, relocL_get (cs := cs)]
theorem isCell_reloc {l1 l2 b : Nat} (v : V) : isCell (reloc l1 l2 b v) = isCell v := by
  cases v with
  | ptr l i o => by_cases h : l = l1 <;> simp [reloc, isCell, h]
  | _ => simp [reloc, isCell]
theorem isCells_reloc {l1 l2 b : Nat} : ∀ (cs : List V), isCells (relocL l1 l2 b cs) = isCells cs
  | [] => rfl
  | c :: cs => by simp [relocL, isCells, isCell_reloc, isCells_reloc cs]
theorem isCalm_reloc {l1 l2 b : Nat} (v : V) : isCalm (reloc l1 l2 b v) = isCalm v := by
  cases v with
  | ptr l i o => by_cases h : l = l1 <;> simp [reloc, isCalm, h]
  | _ => simp [reloc, isCalm]
theorem reloc_slice {l1 l2 b : Nat} {v : V} {k : SK} {xs : List (List V)} (h : reloc l1 l2 b v = .slice k xs) : v = .slice k xs := by
  cases v <;> simp [reloc] at h ⊢ <;> try (split at h <;> cases h; done)
  exact h

mutual
theorem rel_reloc {g1 g' : Gh} {l2 base : Nat} (hG : ∀ b o v, g1.G b o = some v → g'.G b o = some v) (hb : ∀ i, g1.use (g1.bx 0 i) = .box 0 i → g'.bx l2 (base + i) = g1.bx 0 i ∧ g'.use (g1.bx 0 i) = .box l2 (base + i)) :
    ∀ (v : V) (x : Value), bare v = true → Rel g1 1 v x → Rel g' (l2 + 1) (reloc 0 l2 base v) x
  | .undef, _, h, _ => by simp [bare] at h
  | .bool _, _, _, r => by simpa [reloc, Rel] using r
  | .int _ _, _, _, r => by simpa [reloc, Rel] using r
  | .str _, _, _, r => by simpa [reloc, Rel] using r
  | .ptr l i o, x, _, r => by
    simp only [Rel] at r
    obtain ⟨hl, hu, hx⟩ := r
    have hl0 : l = 0 := by omega
    subst hl0
    obtain ⟨h1, h2⟩ := hb i hu
    simp only [reloc, if_true, Rel]
    exact ⟨by omega, by rw [h1]; exact h2, by rw [h1]; exact hx⟩
  | .nilp, _, _, r => by simpa [reloc, Rel] using r
  | .look cs, x, _, r => by
    simp only [reloc, Rel] at r ⊢
    obtain ⟨b, o, hx, hc⟩ := r
    exact ⟨b, o, hx, atG_mono ⟨hG, fun _ _ h => absurd h (Nat.not_lt_zero _), fun _ h => absurd h (Nat.not_lt_zero _)⟩ b o cs hc⟩
  | .slice k xs, x, _, r => by
    simp only [reloc, Rel] at r ⊢
    obtain ⟨a, n', c, hx, hn, hc, hun, hr, hs, hk⟩ := r
    exact ⟨a, n', c, hx, hn, hc, hun, rowsG_mono ⟨hG, fun _ _ h => absurd h (Nat.not_lt_zero _), fun _ h => absurd h (Nat.not_lt_zero _)⟩ a xs hr, hs, hk⟩
  | .func f cs, x, h, r => by
    simp only [bare, Bool.and_eq_true] at h
    simp only [reloc, Rel] at r ⊢
    obtain ⟨f', cs', hx, hc, hf⟩ := r
    refine ⟨f', cs', hx, relL_reloc hG hb cs cs' h.2 hc, ?_⟩
    cases f with
    | func k => exact hf
    | yield l => simp at h
    | _ => exact hf
  | .nilf, _, _, r => by simpa [reloc, Rel] using r
  | .ifc t v, x, h, r => by
    simp only [bare] at h
    simp only [reloc, Rel] at r ⊢
    obtain ⟨y, hx, hy⟩ := r
    exact ⟨y, hx, rel_reloc hG hb v y h hy⟩
  | .nili, _, _, r => by simpa [reloc, Rel] using r
  | .agg cs, x, h, r => by
    simp only [bare] at h
    simp only [reloc, Rel] at r ⊢
    obtain ⟨vs, hx, hi, hv⟩ := r
    exact ⟨vs, hx, by rw [isCells_reloc]; exact hi, relL_reloc hG hb cs vs h hv⟩
  | .tup cs, x, h, r => by
    simp only [bare] at h
    simp only [reloc, Rel] at r ⊢
    obtain ⟨vs, hx, hv⟩ := r
    exact ⟨vs, hx, relL_reloc hG hb cs vs h hv⟩
  | .fresh cs, x, h, _ => by simp [bare] at h
  | .mir l i o e xs, x, h, _ => by simp [bare] at h
theorem relL_reloc {g1 g' : Gh} {l2 base : Nat} (hG : ∀ b o v, g1.G b o = some v → g'.G b o = some v) (hb : ∀ i, g1.use (g1.bx 0 i) = .box 0 i → g'.bx l2 (base + i) = g1.bx 0 i ∧ g'.use (g1.bx 0 i) = .box l2 (base + i)) :
    ∀ (vs : List V) (xs : List Value), bareL vs = true → RelL g1 1 vs xs → RelL g' (l2 + 1) (relocL 0 l2 base vs) xs
  | [], _, _, r => by simpa [relocL, RelL] using r
  | c :: cs, xs, h, r => by
    simp only [bareL, Bool.and_eq_true] at h
    simp only [RelL, relocL] at r ⊢
    obtain ⟨u, us, hx, hc, hs⟩ := r
    exact ⟨u, us, hx, rel_reloc hG hb c u h.1 hc, relL_reloc hG hb cs us h.2 hs⟩
end

theorem barest_get : ∀ {L : List (List V)} {i : Nat} {cs : List V}, barest L = true → L[i]? = some cs → bareL cs = true
  | [], _, _, _, h => by simp at h
  | c :: L, 0, cs, h, hi => by
    simp only [barest, Bool.and_eq_true] at h
    simp at hi; subst hi; exact h.1
  | c :: L, i + 1, cs, h, hi => by
    simp only [barest, Bool.and_eq_true] at h
    exact barest_get h.2 (by simpa using hi)

/-- A call that hands out boxes. -/
theorem step_esc (I : Inv P T g w) (hF : FrRel P T g w nt F a.tmps) (ht : ∀ t, tame (F t) = true) {bs : List (List V)} {R : St} (hT : T = ⟨bs, none⟩ :: R) {d : Option Nat} (hd : inNt nt d = true) {g1 : Gh} {w1 : World} {L : List (List V)} (hfrm : Frm g.clear w g1 w1) (I1 : Inv P [⟨L, none⟩] g1 w1)
    {v : V} {x : Value} (hr : Rel g1 1 v x) (hc : isCalm v = true) (hb1 : bare v = true) (hb2 : barest L = true) :
    ∃ g', StepTo P T g w a nt (⟨bs ++ L.map (relocL 0 R.length bs.length), none⟩ :: R) (putO F d (reloc 0 R.length bs.length v)) g' w1 (a.put d x) := by
  subst hT
  let g' := g.embed g1 w.heap.size R.length bs.length L.length
  have hnew : ∀ b, g1.use b ≠ .free → w.heap.size ≤ b := fun b h => Nat.le_of_not_lt fun hlt => h (hfrm.old b hlt rfl).2.1
  have hlt0 : ∀ i, g1.use (g1.bx 0 i) = .box 0 i → i < L.length := fun i h => Nat.lt_of_not_le fun hle => I1.N 0 i (by simp) (by simp [getBox, hle]) h
  have hle : Le (⟨bs, none⟩ :: R : St).length g g' := by
    refine ⟨fun b o v h => ?_, fun l i hl h => ?_, fun l _ h => ⟨rfl, ?_⟩⟩
    · exact ((hfrm.old b (G_lt I h) rfl).2.2 o).trans h
    · have h1 : ¬ (l = R.length ∧ bs.length ≤ i ∧ i < bs.length + L.length) := by
        rintro ⟨rfl, h2, _⟩
        exact I.N R.length i (by simp) (by rw [getBox_top]; simp [h2]) h
      simp only [g', Gh.embed, h1, if_false]
      refine ⟨trivial, ?_⟩
      rw [if_pos (use_lt I (by rw [h]; simp))]; exact h
    · simp only [g', Gh.embed]; rw [if_pos (use_lt I (by rw [h]; simp))]; exact h
  have hG1 : ∀ b o v, g1.G b o = some v → g'.G b o = some v := fun _ _ _ h => h
  have hbx : ∀ i, g1.use (g1.bx 0 i) = .box 0 i → g'.bx R.length (bs.length + i) = g1.bx 0 i ∧ g'.use (g1.bx 0 i) = .box R.length (bs.length + i) := fun i h => by
    have h1 := hlt0 i h
    have h2 := hnew _ (by rw [h]; simp)
    refine ⟨?_, ?_⟩
    · simp only [g', Gh.embed]
      rw [if_pos ⟨trivial, by omega, by omega⟩]
      congr 1; omega
    · simp only [g', Gh.embed]
      rw [if_neg (by omega)]
      simp [embU, h, h1]
  have hsame : Same (fun _ => False) g w g' w1 := ⟨hfrm.os, hfrm.tape, hfrm.output, hfrm.size, fun b hb _ => ⟨(hfrm.old b hb rfl).1, by simp [g', Gh.embed, hb], fun o => (hfrm.old b hb rfl).2.2 o⟩⟩
  have hinv : Inv P (⟨bs ++ L.map (relocL 0 R.length bs.length), none⟩ :: R) g' w1 := by
    refine I.step hsame hle (fun b o v hv hc => ?_) (fun b hb => ?_) (fun l i cs hc => ?_) (fun l p hp => ?_) (fun l i hl hn => ?_)
    · have hb : w.heap.size ≤ b := hc.elim (fun h => h.1.elim) id
      obtain ⟨h1, h2⟩ := I1.G b o v hv
      refine ⟨h1, ?_⟩
      simp only [g', Gh.embed]
      rw [if_neg (by omega)]
      unfold embU
      rcases h2 with h2 | ⟨c, h2⟩ <;> rw [h2]
      · exact .inl rfl
      · cases c with
        | tmp _ => exact .inl rfl
        | res => exact .inl rfl
        | cell l i j =>
          simp only
          split
          · exact .inr ⟨_, rfl⟩
          · exact .inl rfl
    · have := hfrm.size
      simp only [g', Gh.embed]
      rw [if_neg (by omega)]
      unfold embU
      rw [I1.U b hb]
    · by_cases hl : l = R.length
      · subst hl
        simp only [getBox, if_true] at hc
        rcases Nat.lt_or_ge i bs.length with hi | hi
        · rw [List.getElem?_append_left hi] at hc
          exact .inl ⟨by rw [getBox_top]; exact hc, fun h => h, fun _ h => h⟩
        · right
          rw [List.getElem?_append_right hi, List.getElem?_map, Option.map_eq_some_iff] at hc
          obtain ⟨c0, hc0, rfl⟩ := hc
          obtain ⟨hu, vs, e, hh, hi', hr', ho⟩ := I1.B 0 (i - bs.length) c0 (by simp [getBox, hc0])
          obtain ⟨e1, e2⟩ := hbx (i - bs.length) hu
          have hii : bs.length + (i - bs.length) = i := by omega
          rw [hii] at e1 e2
          refine ⟨by rw [e1]; exact e2, vs, e, by rw [e1]; exact hh, by rw [isCells_reloc]; exact hi', relL_reloc hG1 hbx c0 vs (barest_get hb2 hc0) hr', fun j e' xs y hj hy => ?_⟩
          rw [relocL_get, Option.map_eq_some_iff] at hj
          obtain ⟨v0, hv0, hv1⟩ := hj
          have := reloc_slice hv1
          subst this
          obtain ⟨n, cs', h1, h2, h3, h4, h5⟩ := ho j e' xs y hv0 hy
          refine ⟨n, cs', h1, h2, h3, h4, fun b hb => ⟨?_, (h5 b hb).2⟩⟩
          have h6 := (h5 b hb).1
          simp only [g', Gh.embed]
          rw [if_neg (by have := hnew b (by rw [h6]; simp); omega)]
          simp [embU, h6, hii]
      · simp only [getBox, hl, if_false] at hc
        exact .inl ⟨by simp only [getBox, hl, if_false]; exact hc, fun h => h, fun _ h => h⟩
    · have hp' : getLp (⟨bs, none⟩ :: R) l = some p := by simpa [getLp] using hp
      exact .inl ⟨hp', fun h => h, Flat.lp (T := ⟨bs, none⟩ :: R) trivial hp'⟩
    · have hrange : ¬ (l = R.length ∧ bs.length ≤ i ∧ i < bs.length + L.length) := by
        rintro ⟨rfl, h2, h3⟩
        simp only [getBox, if_true] at hn
        rw [List.getElem?_eq_none_iff] at hn
        simp at hn
        omega
      have hold : getBox (⟨bs, none⟩ :: R) l i = none := by
        simp only [getBox] at hn ⊢
        split at hn
        · rename_i hl
          rw [if_pos hl]
          rw [List.getElem?_eq_none_iff] at hn ⊢
          simp at hn
          omega
        · rename_i hl
          rw [if_neg hl]; exact hn
      simp only [g', Gh.embed, hrange, if_false]
      split
      · exact I.N l i (by simpa using hl) hold
      · unfold embU
        split
        · split
          · rename_i l' i' _ h3
            intro h
            simp only [Use.box.injEq] at h
            exact hrange ⟨h.1.symm, by omega, by omega⟩
          · simp
        · split <;> simp
        · simp
  refine ⟨g', hle, hsame.frm (fun h => h), hinv, ?_, rfl, trivial, put_defs _ _ _, fun b hb hu => ?_⟩
  · refine FrRel.put hF.size hF.past hd (fun t y _ hy => (hF.tmp t y hy).same I hsame hle rfl (fun h => h) (.inl (not_mir (ht t)))) (fun t hdt => TmpAt.calm (by rw [isCalm_reloc]; exact hc) (rel_reloc hG1 hbx v x hb1 hr))
  · obtain ⟨h1, h2, _⟩ := hsame.old b hb (fun h => h)
    exact ⟨h2.trans hu, h1⟩

end
end AM
end Go.Proofs.Ytimfbnojmdnlnaa
end
section
set_option linter.unusedVariables false
set_option linter.unusedSimpArgs false
namespace Go.Proofs.Ytimfbnojmdnlnaa
namespace AM

/-- What a step leaves that panics. -/
structure PanTo (P : Program) (T : St) (g : Gh) (w : World) (nt : Nat) (v : V) (F : Fr) (T' : St) (g' : Gh) (w' : World) (x : Value) (a : Act) : Prop where
  fr : FrRel P T' g' w' nt F a.tmps
  le : Le T.length g g'
  frm : Frm g w g' w'
  inv : Inv P T' g' w'
  len : T'.length = T.length
  marks : ∀ b, b < w.heap.size → g.use b = .mark → g'.use b = .mark ∧ w'.heap[b]? = w.heap[b]?
  rel : Rel g' 0 v x

section
variable {P : Program} {T : St} {g : Gh} {w : World} {nt : Nat} {F : Fr} {a : Act} {tk : Option Nat → Bool} {o : Oper} {cE : CE} {K : Act → World → Prop} {Q : Exit → Act → World → Prop} {ro : Option Nat} {r : OR}

/-- What is asked of those who go on. -/
structure Goes (P : Program) (T : St) (g : Gh) (w : World) (nt : Nat) (F : Fr) (a : Act) (K : Act → World → Prop) (Q : Exit → Act → World → Prop) (r : OR) : Prop where
  ok : ∀ F' T', r = .ok F' T' → ∀ g' w' a', StepTo P T g w a nt T' F' g' w' a' → (∀ t, tame (F' t) = true) → K a' w'
  pan : ∀ v T', r = .pan v T' → ∀ g' w' x, PanTo P T g w nt v F T' g' w' x a → Q (.panic [{ v := x, recovered := false }]) a w'

theorem wanted_ok (hF : FrRel P T g w nt F a.tmps) {ops : Array Oper} {gd : Option (Nat × Bool)} {b : Bool} (hg : compGd ops.toList o.guard = some gd) (hw : wanted F gd = some b) : Region.wanted o (yielded ops a.tmps) = b := by
  unfold Region.wanted
  cases ho : o.guard with
  | none =>
    rw [ho] at hg
    simp [compGd] at hg; subst hg
    simp [wanted] at hw
    simp [hw]
  | some jb =>
    obtain ⟨j, c⟩ := jb
    rw [ho] at hg
    simp only [compGd, Option.bind_eq_some_iff, Option.map_eq_some_iff] at hg
    obtain ⟨oj, hj, d, hd, rfl⟩ := hg
    simp only [wanted] at hw
    have hj' : ops[j]? = some oj := by simpa using hj
    have hy : yielded ops a.tmps j = (match a.tmps[d]? with | some (.bool b) => some b | _ => none) := by
      simp only [yielded, hj', Option.bind_some, hd]
      rfl
    simp only [hy]
    cases hx : a.tmps[d]? with
    | none =>
      have : nt ≤ d := by
        rw [← hF.size]
        exact Array.getElem?_eq_none_iff.1 hx
      rw [hF.past d this] at hw
      cases hw
    | some x =>
      have hr := (hF.tmp d x hx).rel
      cases hFd : F d <;> rw [hFd] at hw hr <;> simp only [Rel] at hr <;> simp only [Option.some.injEq, reduceCtorEq] at hw
      case bool t =>
        subst hr
        simp only [← hw]
        cases t <;> cases c <;> rfl
      all_goals
        subst hw
        first
          | (subst hr; rfl)
          | (obtain ⟨_, _, rfl⟩ := hr; rfl)
          | (obtain ⟨_, _, rfl, _⟩ := hr; rfl)
          | (obtain ⟨_, _, _, rfl, _⟩ := hr; rfl)
          | (obtain ⟨_, rfl, _⟩ := hr; rfl)
          | (obtain ⟨_, rfl⟩ := hr; rfl)

/-! ### Calls, as the machine makes them -/
theorem run_call_func {x : Operand} {args : Array Operand} {ts : Array TypeId} {f : Nat} {cs : List Value} (he : o.op = .call { callee := .value x, args := args, argTypes := ts }) (hx : a.eval x = .func (.func f) #[] ⟨cs⟩) (hent : Enters P f) :
    (execOp a.eval o).run P w = .ok (.enter f ⟨args.toList.map a.eval ++ cs⟩) w := by
  have e : (args.map a.eval ++ (⟨cs⟩ : Array Value)) = ⟨args.toList.map a.eval ++ cs⟩ := by apply Array.ext'; simp
  simp [execOp, he, resolve, hx, Deferred.ofValue, invoke, run_callFunc hent, e]

theorem run_call_yield {x : Operand} {args : Array Operand} {ts : Array TypeId} {l : Nat} {cs : List Value} {r : Loop} (he : o.op = .call { callee := .value x, args := args, argTypes := ts }) (hx : a.eval x = .func (.yield l) #[] ⟨cs⟩) (hh : w.heap[l]? = some (.loop r)) (hs : args.toList.length = r.params.size) :
    (execOp a.eval o).run P w = .ok (.round l r.fn ((r.params.zip ⟨args.toList.map a.eval⟩).foldl (fun tmps (t, a) => tmps.setIfInBounds t a) r.tmps) r.assign r.body) w := by
  have e : args.map a.eval = ⟨args.toList.map a.eval⟩ := by apply Array.ext'; simp
  have hy := run_yield (P := P) (args := ⟨args.toList.map a.eval⟩) hh (by simpa using hs)
  simp [execOp, he, resolve, hx, Deferred.ofValue, invoke, e, hy]

theorem run_call_inv {x : Operand} {m : String} {args : Array Operand} {ts : Array TypeId} {t f : Nat} {y : Value} (he : o.op = .call { callee := .invoke x m, args := args, argTypes := ts }) (hx : a.eval x = .iface t y) (hm : (method (P.types.size + Made.depth) t y m).run P w = .ok (f, y) w) (hent : Enters P f) :
    (execOp a.eval o).run P w = .ok (.enter f ⟨y :: args.toList.map a.eval⟩) w := by
  have e : (#[y] ++ Array.extract (#[Value.iface t y] ++ args.map a.eval) 1 (#[Value.iface t y] ++ args.map a.eval).size) = (⟨y :: args.toList.map a.eval⟩ : Array Value) := by
    apply Array.ext'; simp [List.extract_eq_take_drop]
    exact List.take_of_length_le (by simp)
  have e0 : (#[Value.iface t y] ++ args.map a.eval)[0]? = some (Value.iface t y) := by
    rw [Array.getElem?_append_left (Nat.zero_lt_one)]; rfl
  simp only [execOp, he, resolve, hx, Sem.run_bind, Sem.run_pure, Result.andThen_ok, invoke, e0, callMethod]
  rw [show Sem.run P program w = Result.ok P w from rfl]
  simp only [Result.andThen_ok, hm, e, run_callFunc hent]

theorem upon_enter {f : Nat} {args : Array Value} {R : Ending → World → Prop} (h : CallsIn Fence.wide 0 P f args w R) (hret : ∀ x w', R (.returned x) w' → K (a.put o.dst x) w') (hpan : ∀ ch w', R (.panicked ch) w' → Q (.panic ch) a w') (hout : ∀ w', ¬ R .outgrown w') :
    o.uponIn (fen ro) 0 P a K Q (.ok (.enter f args) w) := by
  rw [Oper.uponIn_enter]
  refine ⟨fun h => by simp [fen, Fence.wide] at h, ?_⟩
  have h' : CallsIn (fen ro) 0 P f args w R := h
  refine CallsIn.mono h' fun e w' he => ?_
  cases e with
  | returned x => exact hret x w' he
  | panicked ch => exact hpan ch w' he
  | outgrown => exact absurd he (hout w')

theorem upon_round {l f : Nat} {tmps : Array Value} {x y : Code} {R : Ending → World → Prop} (h : RoundIn Fence.wide 0 P l f tmps x y w R) (hret : ∀ x w', R (.returned x) w' → K (a.put o.dst x) w') (hpan : ∀ ch w', R (.panicked ch) w' → Q (.panic ch) a w') (hout : ∀ w', ¬ R .outgrown w') :
    o.uponIn (fen ro) 0 P a K Q (.ok (.round l f tmps x y) w) := by
  rw [Oper.uponIn_round]
  refine ⟨fun h => by simp [fen, Fence.wide] at h, ?_⟩
  have h' : RoundIn (fen ro) 0 P l f tmps x y w R := h
  refine RoundIn.mono h' fun e w' he => ?_
  cases e with
  | returned x => exact hret x w' he
  | panicked ch => exact hpan ch w' he
  | outgrown => exact absurd he (hout w')

theorem outPost_out {T' : St} {out : Out} {w' : World} : ¬ OutPost P T g w T' out .outgrown w' := by
  intro h
  cases out with
  | ret v => obtain ⟨_, _, h, _⟩ := h; cases h
  | pan v => obtain ⟨_, _, h, _⟩ := h; cases h
  | esc v L => obtain ⟨_, _, h, _⟩ := h; cases h

/-- A call that may know the caller's boxes has come back. -/
theorem back_ret (I : Inv P T g w) (hF : FrRel P T g w nt F a.tmps) (ht : ∀ t, tame (F t) = true) {d : Option Nat} (hd : inNt nt d = true) {out : Out} {T1 : St} {w1 : World} (hb : back F d (some (out, T1)) = some r) (hG : Goes P T g w nt F a K Q r)
    {x : Value} (hp : OutPost P T (g.drop T.length) w T1 out (.returned x) w1) : K (a.put d x) w1 := by
  unfold back at hb
  split at hb
  · rename_i h
    simp only [Option.some.injEq, Prod.mk.injEq] at h
    obtain ⟨rfl, rfl⟩ := h
    injection hb with hb; subst hb
    obtain ⟨g1, y, hy, hdn, I1, hlen, hr, htv, ho⟩ := hp
    injection hy with hy; subst hy
    obtain ⟨g', hg'⟩ := step_call I hF ht hd hdn I1 hlen trivial hr htv ho
    exact hG.ok _ _ rfl _ _ _ hg' (tame_putO ht htv)
  · rename_i h
    simp only [Option.some.injEq, Prod.mk.injEq] at h
    obtain ⟨rfl, rfl⟩ := h
    obtain ⟨g1, y, hy, _⟩ := hp
    cases hy
  · cases hb

theorem back_pan (I : Inv P T g w) (hF : FrRel P T g w nt F a.tmps) (ht : ∀ t, tame (F t) = true) {d : Option Nat} {out : Out} {T1 : St} {w1 : World} (hb : back F d (some (out, T1)) = some r) (hG : Goes P T g w nt F a K Q r)
    {ch : List PanicEntry} (hp : OutPost P T (g.drop T.length) w T1 out (.panicked ch) w1) : Q (.panic ch) a w1 := by
  unfold back at hb
  split at hb
  · rename_i h
    simp only [Option.some.injEq, Prod.mk.injEq] at h
    obtain ⟨rfl, rfl⟩ := h
    obtain ⟨g1, y, hy, _⟩ := hp
    cases hy
  · rename_i h
    simp only [Option.some.injEq, Prod.mk.injEq] at h
    obtain ⟨rfl, rfl⟩ := h
    injection hb with hb; subst hb
    obtain ⟨g1, y, hy, hdn, I1, hlen, hr⟩ := hp
    injection hy with hy; subst hy
    obtain ⟨hle, _, hsame, hinv⟩ := inv_give I hdn I1 hlen none
    refine hG.pan _ _ rfl _ _ _ ⟨⟨hF.size, hF.past, fun t y hy => (hF.tmp t y hy).same I hsame hle hlen (by simp [keepU]) (.inl (not_mir (ht t)))⟩, hle, hsame.frm (by simp [keepU]), hinv, hlen, fun b hb hu => ?_, rel_mono (le_give hdn.frm 0 (Nat.zero_le _)) (Nat.le_refl _) _ _ hr⟩
    obtain ⟨h1, h2, _⟩ := hsame.old b hb (by rw [hu]; simp [keepU])
    exact ⟨h2.trans hu, h1⟩
  · cases hb

theorem calm_args {args : List V} (h : tames args = true) : ∀ v ∈ args.map strip, isCalm v = true := by
  intro v hv
  obtain ⟨u, hu, rfl⟩ := List.mem_map.1 hv
  exact isCalm_strip (tames_iff.1 h u hu)
theorem calm_args' {args : List V} (h : tames (args.map strip) = true) : ∀ v ∈ args.map strip, isCalm v = true := by
  intro v hv
  have h1 := tames_iff.1 h v hv
  obtain ⟨u, hu, rfl⟩ := List.mem_map.1 hv
  exact isCalm_of h1 fun e xs => strip_own

/-- A call of a function that may know the caller's boxes. -/
theorem full_call (hE : CallOk P cE) (I : Inv P T g w) (hF : FrRel P T g w nt F a.tmps) (ht : ∀ t, tame (F t) = true) {d : Option Nat} (hd : inNt nt d = true) (hdst : o.dst = d) {f : Nat} {args : List V} {vals : List Value} (hargs : RelL g T.length args vals) (hcalm : ∀ v ∈ args, isCalm v = true)
    (hb : back F d (cE (.fn f) args T) = some r) (hG : Goes P T g w nt F a K Q r) : Enters P f ∧ o.uponIn (fen ro) 0 P a K Q (.ok (.enter f ⟨vals⟩) w) := by
  cases hc : cE (.fn f) args T with
  | none => rw [hc] at hb; simp [back] at hb
  | some p =>
    obtain ⟨out, T1⟩ := p
    rw [hc] at hb
    obtain ⟨h1, h2⟩ := hE (.fn f) args T out T1 hc (g.drop T.length) w vals (inv_drop I) (clean_drop _) (relL_mono le_drop (Nat.le_succ _) _ _ hargs) hcalm
    subst hdst
    exact ⟨h1, upon_enter h2 (fun x w' h => back_ret I hF ht hd hb hG h) (fun ch w' h => back_pan I hF ht hb hG h) (fun w' => outPost_out)⟩

theorem yield_call (hE : CallOk P cE) (I : Inv P T g w) (hF : FrRel P T g w nt F a.tmps) (ht : ∀ t, tame (F t) = true) {d : Option Nat} (hd : inNt nt d = true) (hdst : o.dst = d) {l : Nat} {args : List V} {vals : List Value} (hl : l + 1 < T.length) (hu : g.use (g.lp l) = .loop l) (hargs : RelL g T.length args vals) (hcalm : ∀ v ∈ args, isCalm v = true)
    (hb : back F d (cE (.yield l) args T) = some r) (hG : Goes P T g w nt F a K Q r) : ∃ rc : Loop, w.heap[g.lp l]? = some (.loop rc) ∧ vals.length = rc.params.size ∧
      o.uponIn (fen ro) 0 P a K Q (.ok (.round (g.lp l) rc.fn ((rc.params.zip ⟨vals⟩).foldl (fun tmps (t, a) => tmps.setIfInBounds t a) rc.tmps) rc.assign rc.body) w) := by
  cases hc : cE (.yield l) args T with
  | none => rw [hc] at hb; simp [back] at hb
  | some p =>
    obtain ⟨out, T1⟩ := p
    rw [hc] at hb
    obtain ⟨rc, h1, h2, h3⟩ := hE (.yield l) args T out T1 hc (g.drop T.length) w vals (inv_drop I) (clean_drop _) (relL_mono le_drop (Nat.le_succ _) _ _ hargs) hcalm (by omega) (by
      show (g.drop T.length).use (g.lp l) = _
      rw [drop_keep (by rw [hu]; simp [keepU]; omega)]; exact hu)
    subst hdst
    exact ⟨rc, h1, h2, upon_round h3 (fun x w' h => back_ret I hF ht hd hb hG h) (fun ch w' h => back_pan I hF ht hb hG h) (fun w' => outPost_out)⟩

end
end AM
end Go.Proofs.Ytimfbnojmdnlnaa
end
section
set_option linter.unusedVariables false
set_option linter.unusedSimpArgs false
namespace Go.Proofs.Ytimfbnojmdnlnaa
namespace AM

section
variable {P : Program} {T : St} {g : Gh} {w : World} {nt : Nat} {F : Fr} {a : Act} {tk : Option Nat → Bool} {o : Oper} {cE : CE} {K : Act → World → Prop} {Q : Exit → Act → World → Prop} {ro : Option Nat} {r : OR}

theorem mv_inv {k : Bool} {X : Opd} (h : CompOf P tk o (.mv k X)) : ∃ x, (o.op = .move x ∨ o.op = .assign x) ∧ opd x = some X := by
  generalize hop : AOp.mv k X = op at h
  cases h with
  | move x X' he hX => simp only [AOp.mv.injEq] at hop; obtain ⟨_, rfl⟩ := hop; exact ⟨x, .inl he, hX⟩
  | assign x X' he hX => simp only [AOp.mv.injEq] at hop; obtain ⟨_, rfl⟩ := hop; exact ⟨x, .inr he, hX⟩
  | val op h => subst hop; cases h
  | _ => simp at hop
theorem ld_inv {k : Bool} {n : Nat} {gg : Bool} {X : Opd} (h : CompOf P tk o (.ld k n gg X)) : ∃ t x, o.op = .load t x ∧ szOf P t = some n ∧ aggOf P t = some gg ∧ opd x = some X := by
  generalize hop : AOp.ld k n gg X = op at h
  cases h with
  | load t n' gg' x X' he hn hg hX => simp only [AOp.ld.injEq] at hop; obtain ⟨_, rfl, rfl, rfl⟩ := hop; exact ⟨t, x, he, hn, hg, hX⟩
  | val op h => subst hop; cases h
  | _ => simp at hop

theorem opd_tmp {x : Operand} {s : Nat} (h : opd x = some (.t s)) : x = .tmp s := by
  unfold opd at h
  split at h
  · simp at h; subst h; rfl
  · simp at h
  · simp at h
  · cases h
theorem opd_const {x : Operand} {v : V} (h : opd x = some (.c v)) : isCalm v = true := by
  unfold opd at h
  split at h
  · simp at h
  · obtain ⟨u, hu, h⟩ := Option.map_eq_some_iff.1 h
    simp at h; subst h
    exact (rel_ofValue (g := ⟨fun _ _ => none, fun _ _ => 0, fun _ => 0, fun _ => .free⟩) (d := 0) hu).2
  · simp at h; subst h; rfl
  · cases h

theorem go_value {x : Value} {w' : World} (hnd : ∀ c, o.op ≠ .defer c) (hrun : (execOp a.eval o).run P w = .ok (.value x) w') (h : K (a.put o.dst x) w') : o.wpIn (fen ro) 0 P a w K Q := wpIn_of_run hnd hrun h

theorem go_yields (I : Inv P T g w) (hF : FrRel P T g w nt F a.tmps) (ht : ∀ t, tame (F t) = true) (hfl : Flat T) (hd : inNt nt o.dst = true) (hnd : ∀ c, o.op ≠ .defer c) {v : V} (hy : Yields P T g w a o v) (hG : Goes P T g w nt F a K Q (.ok (putO F o.dst v) T)) : o.wpIn (fen ro) 0 P a w K Q := by
  obtain ⟨x, h1, h2, h3⟩ := hy
  exact go_value hnd h1 (hG.ok _ _ rfl _ _ _ (step_quiet I hF hfl hd fun t _ => TmpAt.calm h3 h2) (tame_putO ht (tame_of_calm h3)))

mutual
theorem tame_low {n : Nat} : ∀ {v : V}, low n v = true → tame v = true
  | .undef, h => by simp [low] at h
  | .bool _, _ => rfl
  | .int _ _, _ => rfl
  | .str _, _ => rfl
  | .ptr _ _ _, _ => rfl
  | .nilp, _ => rfl
  | .look _, _ => rfl
  | .slice _ _, _ => rfl
  | .func _ _, _ => rfl
  | .nilf, _ => rfl
  | .ifc _ _, _ => rfl
  | .nili, _ => rfl
  | .agg _, _ => rfl
  | .tup _, _ => rfl
  | .fresh _, h => by simp [low] at h
  | .mir _ _ _ _ _, h => by simp [low] at h
end
theorem tames_low {n : Nat} : ∀ {vs : List V}, lowL n vs = true → tames vs = true
  | [], _ => rfl
  | v :: vs, h => by
    simp only [lowL, Bool.and_eq_true] at h
    simp [tames, tame_low h.1, tames_low h.2]

theorem rel_args (hF : FrRel P T g w nt F a.tmps) {args : Array Operand} {Xs : List Opd} (h : opds args = some Xs) : RelL g T.length (Xs.map fun x => strip (evO F x)) (args.toList.map a.eval) := by
  have := relL_strip (rel_opds hF h)
  rwa [List.map_map] at this

/-- A call that knows nothing of the caller's boxes. -/
theorem pure_call (hE : CallOk P cE) (I : Inv P T g w) {f : Nat} {args : List V} {vals : List Value} (hargs : RelL g T.length (args.map strip) vals) (hlow : lowL 0 (args.map strip) = true) {out : Out} {T1 : St} (hc : cE (.fn f) (args.map strip) [] = some (out, T1)) :
    Enters P f ∧ CallsIn Fence.wide 0 P f ⟨vals⟩ w (OutPost P [] g.clear w T1 out) :=
  hE (.fn f) (args.map strip) [] out T1 hc g.clear w vals (inv_clear I) (clean_clear _) (relL_mono le0_clear (Nat.zero_le _) _ _ (relL_low _ _ hlow hargs)) (calm_args' (tames_low hlow))

theorem seqOp_ok (hE : CallOk P cE) (I : Inv P T g w) (hF : FrRel P T g w nt F a.tmps) (ht : ∀ t, tame (F t) = true) (hfl : Flat T) (hd : inNt nt o.dst = true) {op : AOp} (hc : compOp P tk o = some op) (hv : seqOp cE o.dst op F T = some r) (hG : Goes P T g w nt F a K Q r) :
    o.wpIn (fen ro) 0 P a w K Q := by
  have hnd := compOp_defer hc
  have hi := compOp_inv hc
  unfold seqOp at hv
  split at hv
  · -- mv true (.t s)
    rename_i s
    split at hv <;> try (cases hv; done)
    rename_i hts
    injection hv with hv; subst hv
    obtain ⟨x, he, hX⟩ := mv_inv hi
    have := opd_tmp hX; subst this
    obtain ⟨g', hg'⟩ := step_mv I hF hfl hd hts
    refine go_value hnd (x := a.eval (.tmp s)) (by rcases he with he | he <;> simp [execOp, he]) (hG.ok _ _ rfl _ _ _ hg' (tame_putO (fun t => ?_) hts))
    simp only [put]
    split
    · exact tame_strip hts
    · exact ht t
  · rename_i v
    injection hv with hv; subst hv
    obtain ⟨x, he, hX⟩ := mv_inv hi
    have hcalm := opd_const hX
    exact go_value hnd (x := a.eval x) (by rcases he with he | he <;> simp [execOp, he]) (hG.ok _ _ rfl _ _ _ (step_quiet I hF hfl hd fun t _ => TmpAt.calm hcalm (rel_opd hF hX)) (tame_putO ht (tame_of_calm hcalm)))
  · obtain ⟨bs, R, rfl⟩ := hfl.pos
    simp only [Option.some.injEq] at hv
    subst hv
    obtain ⟨x, w', g', h1, h2⟩ := step_al I hF ht hd rfl hi
    exact go_value hnd h1 (hG.ok _ _ rfl _ _ _ h2 (tame_putO ht rfl))
  · obtain ⟨bs, R, rfl⟩ := hfl.pos
    rename_i n X
    split at hv
    · rename_i T0 R0 cs hT hcs
      simp only [List.cons.injEq] at hT
      obtain ⟨rfl, rfl⟩ := hT
      split at hv <;> try (cases hv; done)
      simp only [Option.some.injEq] at hv
      subst hv
      obtain ⟨x, w', g', h1, h2⟩ := step_bx I hF ht hd rfl hi hcs
      exact go_value hnd h1 (hG.ok _ _ rfl _ _ _ h2 (tame_putO ht rfl))
    · cases hv
  · -- ld true
    rename_i n gg X
    obtain ⟨t, x, he, hn, hg, hX⟩ := ld_inv hi
    have fall : ∀ (hv : (match valOp cE F T (.ld false n gg X) with | some (.ret v) => some (OR.ok (putO F o.dst v) T) | _ => none) = some r), o.wpIn (fen ro) 0 P a w K Q := by
      intro hv
      split at hv <;> try (cases hv; done)
      rename_i v hvv
      injection hv with hv; subst hv
      exact go_yields I hF ht hfl hd hnd (y_load I hF he hn hg hX hvv) hG
    split at hv
    · rename_i l i p hXe
      split at hv
      · rename_i e xs hown
        simp only [Option.bind_eq_some_iff] at hv hown
        obtain ⟨cs, hcs, hv⟩ := hv
        obtain ⟨cs', hcs', hown⟩ := hown
        rw [hcs] at hcs'; injection hcs' with hcs'; subst hcs'
        split at hv <;> try (cases hv; done)
        rename_i h1
        obtain ⟨rfl, rfl⟩ := h1
        injection hv with hv; subst hv
        obtain ⟨y, g', h2, h3⟩ := step_ld I hF ht hfl hd hi hXe hcs hown
        exact go_value hnd h2 (hG.ok _ _ rfl _ _ _ h3 (tame_putO ht rfl))
      · exact fall hv
    · exact fall hv
  · rename_i n X Y
    split at hv <;> try (cases hv; done)
    rename_i l i p hXe
    simp only [Option.bind_eq_some_iff] at hv
    obtain ⟨cs, hcs, vs, hvs, hv⟩ := hv
    split at hv <;> try (cases hv; done)
    rename_i h1
    obtain ⟨h2, h3, h4⟩ := h1
    injection hv with hv; subst hv
    obtain ⟨w', g', h5, h6⟩ := step_st I hF ht hfl hd hi hXe hcs hvs h2 h3 h4
    exact wpIn_of_run hnd h5 (hG.ok _ _ rfl _ _ _ h6 (tame_putO (tame_unown ht) rfl))
  · rename_i e n b X Y
    simp only [Option.map_eq_some_iff] at hv
    obtain ⟨v, hv, rfl⟩ := hv
    obtain ⟨x, w', g', h1, h2⟩ := step_app I hF hfl hd hi hv
    refine go_value hnd h1 (hG.ok _ _ rfl _ _ _ h2 (tame_putO (tame_unown ht) ?_))
    unfold appOf at hv
    split at hv
    · split at hv
      · injection hv with hv; subst hv
        unfold appV; split <;> rfl
      · cases hv
    · cases hv
  · -- call
    rename_i f Xs
    cases hi with
    | val _ h => cases h
    | call _ args ts _ he hXs =>
      have hargs := rel_args hF hXs
      have hmm : (Xs.map fun x => strip (evO F x)) = (Xs.map (evO F)).map strip := by simp
      simp only at hv
      rw [hmm] at hv hargs
      split at hv
      · rename_i hlow
        split at hv
        · rename_i v T1 hcc
          split at hv <;> try (cases hv; done)
          rename_i hlv
          injection hv with hv; subst hv
          obtain ⟨h1, h2⟩ := pure_call hE I hargs hlow hcc
          have hrun := run_call_func (a := a) (cs := []) (w := w) he rfl h1
          rw [List.append_nil] at hrun
          refine wpIn_of_run hnd hrun (upon_enter h2 (fun x w' h => ?_) (fun ch w' h => ?_) (fun w' => outPost_out))
          · obtain ⟨g1, y, hy, hdn, I1, hlen, hr, htv, ho⟩ := h
            injection hy with hy; subst hy
            obtain ⟨g', hg'⟩ := step_call0 I hF hfl hd hdn.frm I1 hr htv ho
            exact hG.ok _ _ rfl _ _ _ hg' (tame_putO ht htv)
          · obtain ⟨g1, y, hy, _⟩ := h; cases hy
        · rename_i v T1 hcc
          split at hv <;> try (cases hv; done)
          rename_i hlv
          injection hv with hv; subst hv
          obtain ⟨h1, h2⟩ := pure_call hE I hargs hlow hcc
          have hrun := run_call_func (a := a) (cs := []) (w := w) he rfl h1
          rw [List.append_nil] at hrun
          refine wpIn_of_run hnd hrun (upon_enter h2 (fun x w' h => ?_) (fun ch w' h => ?_) (fun w' => outPost_out))
          · obtain ⟨g1, y, hy, _⟩ := h; cases hy
          · obtain ⟨g1, y, hy, hdn, I1, hlen, hr⟩ := h
            injection hy with hy; subst hy
            obtain ⟨hle, hle1, hsame, hinv⟩ := inv_merge I hfl hdn.frm I1 none
            refine hG.pan _ _ rfl _ _ _ ⟨⟨hF.size, hF.past, fun t y hy => (hF.tmp t y hy).same I hsame (hle _) rfl (fun h => h) (.inr ⟨rfl, fun _ _ h => h⟩)⟩, hle _, hsame.frm (fun h => h), hinv, rfl, fun b hb hu => ?_, rel_mono hle1 (Nat.le_refl _) _ _ hr⟩
            obtain ⟨k1, k2, _⟩ := hsame.old b hb (fun h => h)
            exact ⟨k2.trans hu, k1⟩
        · rename_i v L T1 hcc
          obtain ⟨bs, R, hT⟩ := hfl.pos
          rw [hT] at hv
          simp only at hv
          split at hv <;> try (cases hv; done)
          rename_i hbare
          simp only [Option.some.injEq] at hv
          subst hv
          obtain ⟨h1, h2⟩ := pure_call hE I hargs hlow hcc
          have hrun := run_call_func (a := a) (cs := []) (w := w) he rfl h1
          rw [List.append_nil] at hrun
          refine wpIn_of_run hnd hrun (upon_enter h2 (fun x w' h => ?_) (fun ch w' h => ?_) (fun w' => outPost_out))
          · obtain ⟨g1, y, hy, hdn, I1, hlen, hr, hcv⟩ := h
            injection hy with hy; subst hy
            have hT1 : T1 = [] := List.eq_nil_of_length_eq_zero hlen
            subst hT1
            obtain ⟨g', hg'⟩ := step_esc I hF ht hT hd hdn.frm I1 hr hcv hbare.1 hbare.2
            exact hG.ok _ _ rfl _ _ _ hg' (tame_putO ht (tame_of_calm (by rw [isCalm_reloc]; exact hcv)))
          · obtain ⟨g1, y, hy, _⟩ := h; cases hy
        · cases hv
      · split at hv <;> try (cases hv; done)
        rename_i htm
        obtain ⟨h1, h2⟩ := full_call (ro := ro) hE I hF ht hd rfl hargs (calm_args' htm) hv hG
        have hrun := run_call_func (a := a) (cs := []) (w := w) he rfl h1
        rw [List.append_nil] at hrun
        exact wpIn_of_run hnd hrun h2
  · -- callv
    rename_i X Xs
    cases hi with
    | val _ h => cases h
    | callv x _ args ts _ he hX hXs =>
      have hrx := rel_opd hF hX
      split at hv
      · rename_i f cs hXe
        simp only at hv
        split at hv <;> try (cases hv; done)
        rename_i htm
        rw [hXe] at hrx
        simp only [Rel] at hrx
        obtain ⟨f', cs', hxe, hcs, rfl⟩ := hrx
        have hargs := relL_strip (relL_append (rel_opds hF hXs) hcs)
        obtain ⟨h1, h2⟩ := full_call (ro := ro) hE I hF ht hd rfl hargs (calm_args' htm) hv hG
        exact wpIn_of_run hnd (run_call_func he hxe h1) h2
      · rename_i l cs hXe
        simp only at hv
        split at hv <;> try (cases hv; done)
        rename_i htm
        rw [hXe] at hrx
        simp only [Rel] at hrx
        obtain ⟨f', cs', hxe, hcs, hcs0, hl, hu, rfl⟩ := hrx
        have hargs := relL_strip (rel_opds hF hXs)
        obtain ⟨rc, h1, h2, h3⟩ := yield_call (ro := ro) hE I hF ht hd rfl hl hu hargs (calm_args' htm) hv hG
        exact wpIn_of_run hnd (run_call_yield he hxe h1 (by simpa using h2)) h3
      · cases hv
  · rename_i X
    split at hv <;> try (cases hv; done)
    rename_i t v hXe
    split at hv <;> try (cases hv; done)
    rename_i hlow
    injection hv with hv; subst hv
    cases hi with
    | val _ h => cases h
    | pan x _ he hX =>
      have hrx := rel_opd hF hX
      rw [hXe] at hrx
      have hr0 := rel_low _ _ hlow hrx
      simp only [Rel] at hrx
      obtain ⟨y, hxe, _⟩ := hrx
      have hrun : (execOp a.eval o).run P w = .halt (.panic (.iface t y)) w := by
        simp [execOp, he, hxe, Instr.panic, goPanic]
      refine wpIn_of_run hnd hrun ?_
      rw [hxe] at hr0
      exact hG.pan _ _ rfl g w _ ⟨hF, Le.refl _ _, Frm.refl _ _, I, rfl, fun _ _ h => ⟨h, rfl⟩, hr0⟩
  · rename_i h1 h2 h3 h4 h5 h6 h7 h8 h9 h10
    split at hv <;> try (cases hv; done)
    rename_i v hvv
    injection hv with hv; subst hv
    by_cases hrow : ∃ e n ps, op = .row e n ps
    · obtain ⟨e, n, ps, rfl⟩ := hrow
      obtain ⟨x, w', g', k1, k2⟩ := step_row I hF hfl hd hi hvv
      refine go_value hnd k1 (hG.ok _ _ rfl _ _ _ k2 (tame_putO ht ?_))
      simp only [valOp] at hvv
      split at hvv
      · simp only [Option.map_eq_some_iff] at hvv
        obtain ⟨xs, _, hvv⟩ := hvv
        simp at hvv; subst hvv; rfl
      · cases hvv
    · exact go_yields I hF ht hfl hd hnd (valOp_ok I hF hc hvv (fun e n ps h => hrow ⟨e, n, ps, h⟩) (fun f xs h => by subst h; simp_all)) hG

/-- An operation among others in a row, with its guard. -/
theorem seqOper_ok {meth : Nat → String → Option Nat} (hM : MethOk P meth) (hE : CallOk P cE) (I : Inv P T g w) (hF : FrRel P T g w nt F a.tmps) (ht : ∀ t, tame (F t) = true) (hfl : Flat T) {ops : Array Oper} {ao : AOper} (hc : compOper P nt tk ops.toList o = some ao)
    (hv : seqOper meth cE ao F T = some r) (hG : Goes P T g w nt F a K Q r) :
    if Region.wanted o (yielded ops a.tmps) = true then o.wpIn (fen ro) 0 P a w K Q else (∀ f, o.about P w a.eval = some f → (fen ro).fn f) ∧ K (a.put o.dst undef) w := by
  unfold compOper at hc
  split at hc <;> try (cases hc; done)
  rename_i hd
  simp only [Option.bind_eq_some_iff, Option.map_eq_some_iff] at hc
  obtain ⟨op, hop, gd, hgd, rfl⟩ := hc
  unfold seqOper at hv
  simp only at hv
  split at hv
  · cases hv
  · rename_i hw
    injection hv with hv; subst hv
    rw [if_neg (by rw [wanted_ok hF hgd hw]; simp)]
    exact ⟨fun _ _ => trivial, hG.ok _ _ rfl _ _ _ (step_quiet I hF hfl hd fun t _ => TmpAt.calm rfl (by simp only [Rel, RelL]; exact ⟨[], rfl, rfl⟩)) (tame_putO ht rfl)⟩
  · rename_i hw
    rw [if_pos (wanted_ok hF hgd hw)]
    split at hv
    · rename_i X m Xs
      have hnd := compOp_defer hop
      have hi := compOp_inv hop
      cases hi with
      | val _ h => cases h
      | inv x _ _ args ts _ he hX hXs =>
        have hrx := rel_opd hF hX
        split at hv <;> try (cases hv; done)
        rename_i t v hXe
        rw [hXe] at hrx
        simp only [Rel] at hrx
        obtain ⟨y, hxe, hry⟩ := hrx
        split at hv <;> try (cases hv; done)
        rename_i f hm
        split at hv <;> try (cases hv; done)
        rename_i htm
        have hargs : RelL g T.length ((v :: Xs.map (evO F)).map strip) (y :: args.toList.map a.eval) := relL_strip (by simp only [RelL]; exact ⟨y, _, rfl, hry, rel_opds hF hXs⟩)
        obtain ⟨h1, h2⟩ := full_call (ro := ro) hE I hF ht hd rfl hargs (calm_args' htm) hv hG
        exact wpIn_of_run hnd (run_call_inv he hxe (hM t m f hm y w) h1) h2
    · exact seqOp_ok hE I hF ht hfl hd hop hv hG

end
end AM
end Go.Proofs.Ytimfbnojmdnlnaa
end
section
set_option linter.unusedVariables false
set_option linter.unusedSimpArgs false
namespace Go.Proofs.Ytimfbnojmdnlnaa
namespace AM

section
variable {P : Program} {T : St} {g : Gh} {w : World} {nt : Nat} {F : Fr} {a : Act} {tk : Option Nat → Bool} {o : Oper} {cE : CE} {K : Act → World → Prop} {Q : Exit → Act → World → Prop} {ro : Option Nat} {r : OR}

/-- Where a step leaves the state as it was, each such world is one to go on from. -/
def On (P : Program) (T : St) (g : Gh) (w : World) (a : Act) (nt : Nat) (F' : Fr) (K : Act → World → Prop) : Prop := ∀ g' w' a', StepTo P T g w a nt T F' g' w' a' → K a' w'

theorem putsO (d : Option Nat) (v : V) (F : Fr) : puts (outs d v) F = putO F d v := by cases d <;> rfl

theorem step_fresh (I : Inv P T g w) (hF : FrRel P T g w nt F a.tmps) (hfl : Flat T) {d : Option Nat} (hd : inNt nt d = true) {z : List V} (hc : CompOf P tk o (.al z)) :
    ∃ x w' g', (execOp a.eval o).run P w = .ok (.value x) w' ∧ StepTo P T g w a nt T (putO F d (.fresh z)) g' w' (a.put d x) := by
  cases hc with
  | val _ h => cases h
  | alloc e _ he hz =>
    obtain ⟨it, zv, hit, hzv, hzr, hzi, hzo⟩ := rel_zeroOf (P := P) (g := g) (d := 0) hz
    let g' := g.lay w.heap.size 0 (tmpUse d) []
    have hnb : (∀ l i, g.use w.heap.size ≠ .box l i) ∧ ∀ l, g.use w.heap.size ≠ .loop l := by rw [I.U _ (Nat.le_refl _)]; exact ⟨fun _ _ => by simp, fun _ => by simp⟩
    have hle : ∀ m, Le m g g' := fun m => le_lay I m (fun o v h _ => absurd h (G_new I)) hnb
    have hsame : Same (fun _ => False) g w g' (w.alloc (.cells zv.cells e)) := ⟨rfl, rfl, rfl, by simp, fun b hb _ => by
      have : b ≠ w.heap.size := by omega
      exact ⟨heap_alloc_old w _ b hb, by simp [g', Gh.lay, this], fun o => by simp [g', Gh.lay]⟩⟩
    have hGG : ∀ b o, g'.G b o = g.G b o := fun b o => by simp [g', Gh.lay]
    have hinv : Inv P T g' (w.alloc (.cells zv.cells e)) := by
      refine I.step hsame (hle _) (fun b o v hv hc => ?_) (fun b hb => ?_) (fun l i cs hc => .inl ⟨hc, fun h => h, fun _ h => h⟩) (fun l p hp => .inl ⟨hp, fun h => h, hfl.lp hp⟩) (fun l i hl hn => ?_)
      · rw [hGG] at hv
        have := G_lt I hv
        rcases hc with hc | hc
        · exact hc.1.elim
        · omega
      · simp at hb
        have : b ≠ w.heap.size := by omega
        simp only [g', Gh.lay, this, if_false]
        exact I.U b (by omega)
      · simp only [g', Gh.lay]
        split
        · rcases tmpUse_row d with h | ⟨c, h⟩ <;> rw [h] <;> simp
        · exact I.N l i hl hn
    refine ⟨_, _, g', by simp [execOp, he, Instr.alloc, zeroValue, typeInfo, hit, hzv, newVar, newRow]; rfl, hle _, hsame.frm (fun h => h), hinv, ?_, rfl, hfl, put_defs _ _ _, fun b hb hu => ?_⟩
    · refine FrRel.put hF.size hF.past hd (fun t y _ hy => (hF.tmp t y hy).same I hsame (hle _) rfl (fun h => h) (.inr ⟨rfl, fun _ _ h => h⟩)) (fun t hdt => ⟨?_, fun e xs hv => (by cases hv), fun z' hv => ?_, fun l i o e xs hv => (by cases hv)⟩)
      · simp only [Rel]; exact ⟨_, rfl⟩
      · injection hv with hv; subst hv
        subst hdt
        exact ⟨_, e, zv.cells.toList, rfl, by simp [g', Gh.lay, tmpUse], by rw [heap_alloc_new], hzi, relL_mono (hle 0) (Nat.le_refl _) _ _ hzr, fun o => by rw [hGG]; cases h : g.G w.heap.size o with
          | none => rfl
          | some v => exact absurd h (G_new I), zero_at hzo⟩
    · obtain ⟨h1, h2, _⟩ := hsame.old b hb (fun h => h)
      exact ⟨h2.trans hu, h1⟩

/-- A store into what was made in the same stretch. -/
theorem step_stf (I : Inv P T g w) (hF : FrRel P T g w nt F a.tmps) (hfl : Flat T) (hno : o.dst = none) {d n : Nat} {Y : Opd} {z vs : List V} (hc : CompOf P tk o (.st n (.t d) Y))
    (hX : F d = .fresh z) (hvs : cellsOf (strip (evO F Y)) = some vs) (hn : vs.length = n) (hp : n ≤ z.length) (hlow : lowL 0 vs = true) :
    ∃ w' g', (execOp a.eval o).run P w = .ok .skip w' ∧ StepTo P T g w a nt T (put F d (.fresh (setAt z 0 vs))) g' w' (a.put o.dst undef) := by
  cases hc with
  | val _ h => cases h
  | store t _ x y _ _ he hsz hxX hyY =>
    have := opd_tmp hxX; subst this
    have hdn : d < a.tmps.size := Nat.lt_of_not_le fun h => by
      rw [hF.past d (by rw [← hF.size]; exact h)] at hX; cases hX
    have hx := Array.getElem?_eq_getElem hdn
    have htm := hF.tmp d _ hx
    obtain ⟨b, ty, zs, hxe, hu, hh, hi, hr, hg, ho⟩ := htm.fresh z hX
    have hev : a.eval (.tmp d) = .pointer (some ⟨b, 0, none⟩) := by
      rw [← hxe]; simp [Act.eval, hdn]
    obtain ⟨hrv, hiv⟩ := rel_cellsOf hvs (rel_strip (rel_opd hF hyY))
    have hrv0 := relL_low vs _ hlow hrv
    have hvl := relL_length hrv
    have hul := relL_length hr
    have hsize : (a.eval y).cells.size = n := by simp at hvl; omega
    have h1 := oneCells_of_rel hiv hrv
    have hst := run_storeCells_at P b 0 ty (a.eval y).cells.toList 0 ⟨zs⟩ w hh (by simp; omega) h1
    simp only [Nat.add_zero, Array.length_toList] at hst
    have hexec : (execOp a.eval o).run P w = .ok .skip (w.setRow b (zs.take 0 ++ (a.eval y).cells.toList ++ zs.drop (0 + (a.eval y).cells.size)).toArray) := by
      simp only [execOp, he, Instr.storeAt, hev, Instr.sureAddr, storeVar, Sem.run_bind, Sem.run_pure, Result.andThen_ok, run_sizeOf hsz, hsize, ne_eq, not_true_eq_false, if_false]
      rw [hsize] at hst
      simp at hst
      simp [hst]
    let U : Use → Prop := fun u => OfTmp (some d) u
    have hbl : b < w.heap.size := (Array.getElem?_eq_some_iff.1 hh).1
    have hsame : Same U g w g (w.setRow b (zs.take 0 ++ (a.eval y).cells.toList ++ zs.drop (0 + (a.eval y).cells.size)).toArray) :=
      ⟨rfl, rfl, rfl, by simp, fun k hk hku => ⟨setRow_other w _ k _ (fun e => hku ⟨d, rfl, e ▸ hu⟩), rfl, fun _ => rfl⟩⟩
    have hinv : Inv P T g (w.setRow b (zs.take 0 ++ (a.eval y).cells.toList ++ zs.drop (0 + (a.eval y).cells.size)).toArray) := by
      refine I.step hsame (Le.refl _ _) (fun k o' v hv hc => ?_) (fun k hk => ?_) (fun l i cs hc => .inl ⟨hc, ofTmp_box, fun j => ofTmp_cell⟩) (fun l p hp => .inl ⟨hp, ofTmp_loop, hfl.lp hp⟩) (fun l i hl hn => I.N l i hl hn)
      · obtain ⟨k1, k2⟩ := I.G k o' v hv
        have hne : k ≠ b := fun e => by rw [e, hg] at hv; cases hv
        exact ⟨by rw [cell?_eq (setRow_other w _ k _ hne)]; exact k1, k2⟩
      · simp at hk
        exact I.U k hk
    have hheap := setRow_heap w b ⟨zs⟩ (zs.take 0 ++ (a.eval y).cells.toList ++ zs.drop (0 + (a.eval y).cells.size)).toArray ty (0, 0) hh
    refine ⟨_, g, hexec, Le.refl _ _, hsame.frm ofTmp_free, hinv, ?_, rfl, hfl, put_defs _ _ _, fun k hk hku => ?_⟩
    · rw [hno]
      refine ⟨hF.size, fun t ht => ?_, fun t y' hy => ?_⟩
      · have : t ≠ d := by
          have := hF.size
          omega
        rw [put_ne _ _ this]; exact hF.past t ht
      · by_cases e : t = d
        · subst e
          rw [put_same]
          simp only [Act.put] at hy
          rw [hx] at hy; injection hy with hy; subst hy
          refine ⟨?_, fun e xs hv => (by cases hv), fun z' hv => ?_, fun l i o e xs hv => (by cases hv)⟩
          · have := htm.rel
            rw [hX] at this
            simp only [Rel] at this ⊢
            exact this
          · injection hv with hv; subst hv
            refine ⟨b, ty, _, hxe, hu, hheap, isCells_setAt hi hiv, ?_, hg, fun j e' ys hj => ?_⟩
            · have := relL_setAt (off := 0) hr hrv0
              simp only [Array.length_toList] at this
              exact this
            · rw [setAt_get (by omega)] at hj
              split at hj
              · exact strip_own (cellsOf_own hvs hj).2
              · exact ho j e' ys hj
        · rw [put_ne _ _ e]
          exact (hF.tmp t y' hy).same I hsame (Le.refl _ _) rfl (by rintro ⟨s, h1, h2⟩; cases h2; cases h1; exact e rfl) (.inr ⟨rfl, fun _ _ => ofTmp_box⟩)
    · obtain ⟨h1, h2, _⟩ := hsame.old k hk (by rw [hku]; exact ofTmp_mark)
      exact ⟨h2.trans hku, h1⟩

/-- One operation. -/
theorem freeOper_ok (hE : CallOk P cE) (I : Inv P T g w) (hF : FrRel P T g w nt F a.tmps) (hfl : Flat T) {ops : Array Oper} {ao : AOper} (hc : compOper P nt tk ops.toList o = some ao) {F' : Fr} (hv : freeOper cE ao F T = some F') (hK : On P T g w a nt F' K) :
    if Region.wanted o (yielded ops a.tmps) = true then o.wpIn (fen ro) 0 P a w K Q else (∀ f, o.about P w a.eval = some f → (fen ro).fn f) ∧ K (a.put o.dst undef) w := by
  unfold compOper at hc
  split at hc <;> try (cases hc; done)
  rename_i hd
  simp only [Option.bind_eq_some_iff, Option.map_eq_some_iff] at hc
  obtain ⟨op, hop, gd, hgd, rfl⟩ := hc
  unfold freeOper at hv
  obtain ⟨ws, hws, rfl⟩ := Option.map_eq_some_iff.1 hv
  unfold freeEff at hws
  simp only at hws
  split at hws
  · cases hws
  · rename_i hw
    injection hws with hws; subst hws
    rw [if_neg (by rw [wanted_ok hF hgd hw]; simp)]
    rw [putsO] at hK
    exact ⟨fun _ _ => trivial, hK _ _ _ (step_quiet I hF hfl hd fun t _ => TmpAt.calm rfl (by simp only [Rel, RelL]; exact ⟨[], rfl, rfl⟩))⟩
  · rename_i hw
    rw [if_pos (wanted_ok hF hgd hw)]
    have hnd := compOp_defer hop
    have hi := compOp_inv hop
    have quiet : ∀ {v : V}, Yields P T g w a o v → On P T g w a nt (putO F o.dst v) K → o.wpIn (fen ro) 0 P a w K Q := by
      rintro v ⟨x, h1, h2, h3⟩ hK
      exact go_value hnd h1 (hK _ _ _ (step_quiet I hF hfl hd fun t _ => TmpAt.calm h3 h2))
    split at hws
    · -- mv true (.t s)
      rename_i s
      split at hws <;> try (cases hws; done)
      rename_i hts
      injection hws with hws; subst hws
      obtain ⟨x, he, hX⟩ := mv_inv hi
      have := opd_tmp hX; subst this
      obtain ⟨g', hg'⟩ := step_mv I hF hfl hd hts
      refine go_value hnd (x := a.eval (.tmp s)) (w' := w) (by rcases he with he | he <;> simp [execOp, he]) (hK g' _ _ ?_)
      simp only [puts]
      rw [putsO]
      exact hg'
    · rename_i v
      injection hws with hws; subst hws
      obtain ⟨x, he, hX⟩ := mv_inv hi
      rw [putsO] at hK
      exact go_value hnd (x := a.eval x) (w' := w) (by rcases he with he | he <;> simp [execOp, he]) (hK _ _ _ (step_quiet I hF hfl hd fun t _ => TmpAt.calm (opd_const hX) (rel_opd hF hX)))
    · injection hws with hws; subst hws
      obtain ⟨x, w', g', h1, h2⟩ := step_fresh I hF hfl hd hi
      rw [putsO] at hK
      exact go_value hnd h1 (hK _ _ _ h2)
    · -- ld true
      rename_i n gg X
      obtain ⟨t, x, he, hn, hg, hX⟩ := ld_inv hi
      have fall : ∀ {ws : List (Nat × V)} (hv : (match valOp cE F T (.ld false n gg X) with | some (.ret v) => some (outs o.dst v) | _ => none) = some ws), On P T g w a nt (puts ws F) K → o.wpIn (fen ro) 0 P a w K Q := by
        intro ws hv hK
        split at hv <;> try (cases hv; done)
        rename_i v hvv
        injection hv with hv; subst hv
        rw [putsO] at hK
        exact quiet (y_load I hF he hn hg hX hvv) hK
      split at hws
      · rename_i l i p hXe
        split at hws
        · rename_i e xs hown
          split at hws <;> try (cases hws; done)
          rename_i h1
          obtain ⟨rfl, rfl⟩ := h1
          injection hws with hws; subst hws
          simp only [Option.bind_eq_some_iff] at hown
          obtain ⟨cs, hcs, hown⟩ := hown
          rw [putsO] at hK
          obtain ⟨hu, vs, ty, hh, hi', hr, hown'⟩ := I.B l i cs hcs
          obtain ⟨y, hy, hry⟩ := relL_at hr hown
          have hcell : w.cell? ⟨g.bx l i, p, none⟩ = some y := by simp [World.cell?, hh, hy]
          have hrx := rel_opd hF hX
          rw [hXe] at hrx
          simp only [Rel] at hrx
          obtain ⟨_, _, hxe⟩ := hrx
          refine go_value (x := y) (w' := w) hnd (by simp [execOp, he, hxe, Instr.loadAt, Instr.sureAddr, loadVar, run_isAgg hg, hcell]) (hK _ _ _ (step_quiet I hF hfl hd fun t _ => ⟨?_, fun e xs hv => (by cases hv), fun z hv => (by cases hv), fun l' i' o' e' xs' hv => ?_⟩))
          · simp only [Rel] at hry ⊢
            obtain ⟨ad, m, c, k1, k2, k3, k4, k5, k6, k7⟩ := hry
            exact ⟨ad, m, c, k1, k2, k3, k4, k5, k6, k7⟩
          · simp only [V.mir.injEq] at hv
            obtain ⟨rfl, rfl, rfl, rfl, rfl⟩ := hv
            exact ⟨⟨cs, hcs, hown⟩, hcell⟩
        · exact fall hws hK
      · exact fall hws hK
    · rename_i e n b X Y
      split at hws <;> try (cases hws; done)
      rename_i v hvv
      injection hws with hws; subst hws
      obtain ⟨x, w', g', h1, h2⟩ := step_app I hF hfl hd hi hvv
      refine go_value hnd h1 (hK g' _ _ ?_)
      cases X with
      | t s =>
        simp only [unownW, List.cons_append, List.nil_append, puts, putsO]
        exact h2
      | c _ =>
        simp only [unownW, List.nil_append, putsO]
        exact h2
    · -- a store into what was made here
      rename_i n d Y
      split at hws <;> try (cases hws; done)
      rename_i z vs hz hvs
      split at hws <;> try (cases hws; done)
      rename_i hcond
      obtain ⟨k1, k2, k3, k4⟩ := hcond
      injection hws with hws; subst hws
      obtain ⟨w', g', h5, h6⟩ := step_stf I hF hfl k4 hi hz hvs k1 k2 k3
      exact wpIn_of_run hnd h5 (hK _ _ _ h6)
    · split at hws <;> try (cases hws; done)
      rename_i h1 h2 h3 h4 h5 v hvv
      injection hws with hws; subst hws
      rw [putsO] at hK
      by_cases hrow : ∃ e n ps, op = .row e n ps
      · obtain ⟨e, n, ps, rfl⟩ := hrow
        obtain ⟨x, w', g', k1, k2⟩ := step_row I hF hfl hd hi hvv
        exact go_value hnd k1 (hK _ _ _ k2)
      · by_cases hcall : ∃ f xs, op = .call f xs
        · obtain ⟨f, Xs, rfl⟩ := hcall
          cases hi with
          | val _ h => cases h
          | call _ args ts _ he hXs =>
            have hargs := rel_args hF hXs
            have hmm : (Xs.map fun x => strip (evO F x)) = (Xs.map (evO F)).map strip := by simp
            simp only [valOp] at hvv
            rw [hmm] at hvv hargs
            split at hvv <;> try (cases hvv; done)
            rename_i hlow
            split at hvv
            · rename_i v' T1 hcc
              split at hvv <;> try (cases hvv; done)
              simp at hvv; subst hvv
              obtain ⟨k1, k2⟩ := pure_call hE I hargs hlow hcc
              have hrun := run_call_func (a := a) (cs := []) (w := w) he rfl k1
              rw [List.append_nil] at hrun
              refine wpIn_of_run hnd hrun (upon_enter k2 (fun x w' h => ?_) (fun ch w' h => ?_) (fun w' => outPost_out))
              · obtain ⟨g1, y, hy, hdn, I1, hlen, hr, htv, ho⟩ := h
                injection hy with hy; subst hy
                obtain ⟨g', hg'⟩ := step_call0 I hF hfl hd hdn.frm I1 hr htv ho
                exact hK _ _ _ hg'
              · obtain ⟨g1, y, hy, _⟩ := h; cases hy
            · split at hvv <;> simp at hvv
            · cases hvv
        · exact quiet (valOp_ok I hF hop hvv (fun e n ps h => hrow ⟨e, n, ps, h⟩) (fun f xs h => hcall ⟨f, xs, h⟩)) hK

end
end AM
end Go.Proofs.Ytimfbnojmdnlnaa
end
section
set_option linter.unusedVariables false
set_option linter.unusedSimpArgs false
namespace Go.Proofs.Ytimfbnojmdnlnaa
namespace AM

theorem evO_congr {F F' : Fr} {x : Opd} (h : ∀ t ∈ readO x, F t = F' t) : evO F x = evO F' x := by
  cases x with
  | t n => exact h n (by simp [readO])
  | c v => rfl
theorem evs_congr {F F' : Fr} {xs : List Opd} (h : ∀ t ∈ xs.flatMap readO, F t = F' t) : ∀ x ∈ xs, evO F x = evO F' x := fun x hx => evO_congr fun t ht => h t (List.mem_flatMap.2 ⟨x, hx, ht⟩)
theorem fill_congr {F F' : Fr} : ∀ {ps : List (Nat × Nat × Opd)} {cs : List V}, (∀ t ∈ ps.flatMap fun p => readO p.2.2, F t = F' t) → fill F cs ps = fill F' cs ps
  | [], cs, _ => rfl
  | (o, n, x) :: ps, cs, h => by
    have h1 : evO F x = evO F' x := evO_congr fun t ht => h t (by simp [ht])
    simp only [fill, h1]
    split
    · split
      · exact fill_congr fun t ht => h t (by simp only [List.flatMap_cons, List.mem_append]; exact .inr ht)
      · rfl
    · rfl
theorem rows_congr {F F' : Fr} {n : Nat} : ∀ {ps : List Opd}, (∀ t ∈ ps.flatMap readO, F t = F' t) → rows F n ps = rows F' n ps
  | [], _ => rfl
  | x :: ps, h => by
    have h1 : evO F x = evO F' x := evO_congr fun t ht => h t (by simp [ht])
    simp only [rows, h1, rows_congr (ps := ps) fun t ht => h t (by simp only [List.flatMap_cons, List.mem_append]; exact .inr ht)]
theorem bndLo_congr {F F' : Fr} {n : Nat} {x : Option Opd} (h : ∀ t ∈ readOO x, F t = F' t) : bndLo F n x = bndLo F' n x := by
  cases x with
  | none => rfl
  | some x => simp only [bndLo, evO_congr (F := F) (F' := F') (x := x) h]
theorem bndHi_congr {F F' : Fr} {n : Nat} {x : Option Opd} (h : ∀ t ∈ readOO x, F t = F' t) : bndHi F n x = bndHi F' n x := by
  cases x with
  | none => rfl
  | some x => simp only [bndHi, evO_congr (F := F) (F' := F') (x := x) h]

theorem valOp_congr {cE : CE} {S : St} {F F' : Fr} {op : AOp} (h : ∀ t ∈ reads op, F t = F' t) : valOp cE F S op = valOp cE F' S op := by
  cases op with
  | mv k x =>
    have h1 : evO F x = evO F' x := evO_congr h
    cases k <;> simp only [valOp, h1]
  | pick c x y =>
    simp only [reads, List.mem_append] at h
    have h1 : evO F c = evO F' c := evO_congr fun t ht => h t (.inl (.inl ht))
    have h2 : evO F x = evO F' x := evO_congr fun t ht => h t (.inl (.inr ht))
    have h3 : evO F y = evO F' y := evO_congr fun t ht => h t (.inr ht)
    simp only [valOp, h1, h2, h3]
  | al z => rfl
  | box n x => rfl
  | bld z ps => simp only [valOp, fill_congr (F := F) (F' := F') (ps := ps) h]
  | row e n ps => simp only [valOp, rows_congr (F := F) (F' := F') (ps := ps) h]
  | ld k n g x =>
    have h1 : evO F x = evO F' x := evO_congr h
    cases k <;> simp only [valOp, h1]
  | st n x y => rfl
  | nc x =>
    have h1 : evO F x = evO F' x := evO_congr h
    simp only [valOp, h1]
  | bin op tk x y =>
    simp only [reads, List.mem_append] at h
    have h1 : evO F x = evO F' x := evO_congr fun t ht => h t (.inl ht)
    have h2 : evO F y = evO F' y := evO_congr fun t ht => h t (.inr ht)
    simp only [valOp, h1, h2]
  | un op x =>
    have h1 : evO F x = evO F' x := evO_congr h
    simp only [valOp, h1]
  | cv k x =>
    have h1 : evO F x = evO F' x := evO_congr h
    simp only [valOp, h1]
  | mki t x =>
    have h1 : evO F x = evO F' x := evO_congr h
    simp only [valOp, h1]
  | fn f cs =>
    have h1 := evs_congr (F := F) (F' := F') (xs := cs) h
    have h2 : (cs.map fun c => evO F c) = cs.map fun c => evO F' c := List.map_congr_left h1
    have h3 : (cs.map fun c => strip (evO F c)) = cs.map fun c => strip (evO F' c) := List.map_congr_left fun x hx => by rw [h1 x hx]
    simp only [valOp, h2, h3]
  | cut n x lo hi =>
    simp only [reads, List.mem_append] at h
    have h1 : evO F x = evO F' x := evO_congr fun t ht => h t (.inl (.inl ht))
    have h2 : ∀ n, bndLo F n lo = bndLo F' n lo := fun n => bndLo_congr fun t ht => h t (.inl (.inr ht))
    have h3 : ∀ n, bndHi F n hi = bndHi F' n hi := fun n => bndHi_congr fun t ht => h t (.inr ht)
    simp only [valOp, h1, h2, h3]
  | scut x lo hi =>
    simp only [reads, List.mem_append] at h
    have h1 : evO F x = evO F' x := evO_congr fun t ht => h t (.inl (.inl ht))
    have h2 : ∀ n, bndLo F n lo = bndLo F' n lo := fun n => bndLo_congr fun t ht => h t (.inl (.inr ht))
    have h3 : ∀ n, bndHi F n hi = bndHi F' n hi := fun n => bndHi_congr fun t ht => h t (.inr ht)
    simp only [valOp, h1, h2, h3]
  | fa o x =>
    have h1 : evO F x = evO F' x := evO_congr h
    simp only [valOp, h1]
  | fd o n g x =>
    have h1 : evO F x = evO F' x := evO_congr h
    simp only [valOp, h1]
  | ia n x y =>
    simp only [reads, List.mem_append] at h
    have h1 : evO F x = evO F' x := evO_congr fun t ht => h t (.inl ht)
    have h2 : evO F y = evO F' y := evO_congr fun t ht => h t (.inr ht)
    simp only [valOp, h1, h2]
  | sx x y =>
    simp only [reads, List.mem_append] at h
    have h1 : evO F x = evO F' x := evO_congr fun t ht => h t (.inl ht)
    have h2 : evO F y = evO F' y := evO_congr fun t ht => h t (.inr ht)
    simp only [valOp, h1, h2]
  | ax n len g x y =>
    simp only [reads, List.mem_append] at h
    have h1 : evO F x = evO F' x := evO_congr fun t ht => h t (.inl ht)
    have h2 : evO F y = evO F' y := evO_congr fun t ht => h t (.inr ht)
    simp only [valOp, h1, h2]
  | ex x i =>
    have h1 : evO F x = evO F' x := evO_congr h
    simp only [valOp, h1]
  | len s x =>
    have h1 : evO F x = evO F' x := evO_congr h
    simp only [valOp, h1]
  | app e n b x y => rfl
  | isn neg x =>
    have h1 : evO F x = evO F' x := evO_congr h
    simp only [valOp, h1]
  | mm mx x y =>
    simp only [reads, List.mem_append] at h
    have h1 : evO F x = evO F' x := evO_congr fun t ht => h t (.inl ht)
    have h2 : evO F y = evO F' y := evO_congr fun t ht => h t (.inr ht)
    simp only [valOp, h1, h2]
  | call f xs =>
    have h1 := evs_congr (F := F) (F' := F') (xs := xs) h
    have h3 : (xs.map fun c => strip (evO F c)) = xs.map fun c => strip (evO F' c) := List.map_congr_left fun x hx => by rw [h1 x hx]
    simp only [valOp, h3]
  | callv x xs => rfl
  | inv x m xs => rfl
  | pan x => rfl

theorem wanted_congr {F F' : Fr} {gd : Option (Nat × Bool)} (h : ∀ t ∈ (match gd with | some (t, _) => [t] | none => []), F t = F' t) : wanted F gd = wanted F' gd := by
  cases gd with
  | none => rfl
  | some tb =>
    obtain ⟨t, b⟩ := tb
    simp only [wanted, h t (by simp)]

theorem freeEff_congr {cE : CE} {S : St} {F F' : Fr} {o : AOper} (h : ∀ t ∈ readsO o, F t = F' t) : freeEff cE o F S = freeEff cE o F' S := by
  obtain ⟨dst, op, gd⟩ := o
  simp only [readsO, List.mem_append] at h
  have hw : wanted F gd = wanted F' gd := wanted_congr fun t ht => h t (.inl ht)
  have hr : ∀ t ∈ reads op, F t = F' t := fun t ht => h t (.inr ht)
  have hv : valOp cE F S op = valOp cE F' S op := valOp_congr hr
  unfold freeEff
  simp only [hw]
  cases op with
  | mv k x =>
    have h1 : evO F x = evO F' x := evO_congr hr
    cases k with
    | false => simp only [hv]
    | true =>
      cases x with
      | t s =>
        have h2 : F s = F' s := h1
        simp only [h2]
      | c v => rfl
  | ld k n g x =>
    have h1 : evO F x = evO F' x := evO_congr hr
    cases k with
    | false => simp only [hv]
    | true =>
      have h2 : valOp cE F S (.ld false n g x) = valOp cE F' S (.ld false n g x) := valOp_congr hr
      simp only [h1, h2]
  | app e n b x y =>
    simp only [reads, List.mem_append] at hr
    have h1 : evO F x = evO F' x := evO_congr fun t ht => hr t (.inl ht)
    have h2 : evO F y = evO F' y := evO_congr fun t ht => hr t (.inr ht)
    have h3 : appOf F e n b x y = appOf F' e n b x y := by simp only [appOf, h1, h2]
    have h4 : unownW F x = unownW F' x := by
      cases x with
      | t s => have : F s = F' s := h1; simp only [unownW, this]
      | c v => rfl
    simp only [h3, h4]
  | al z => rfl
  | st n x y =>
    simp only [reads, List.mem_append] at hr
    have h2 : evO F y = evO F' y := evO_congr fun t ht => hr t (.inr ht)
    cases x with
    | t d =>
      have h1 : F d = F' d := hr d (.inl (by simp [readO]))
      simp only [h1, h2]
    | c v => simp only [hv]
  | _ => simp only [hv]

theorem keys_outs {d : Option Nat} {v : V} : (outs d v).map (·.1) = (match d with | some d => [d] | none => []) := by cases d <;> rfl

theorem freeEff_keys {cE : CE} {S : St} {F : Fr} {o : AOper} {ws : List (Nat × V)} (h : freeEff cE o F S = some ws) : ∀ t ∈ ws.map (·.1), t ∈ writesO o := by
  obtain ⟨dst, op, gd⟩ := o
  have hout : ∀ v, ∀ t ∈ (outs dst v).map (·.1), t ∈ writesO ⟨dst, op, gd⟩ := fun v t ht => by
    rw [keys_outs] at ht
    exact List.mem_append_left _ ht
  unfold freeEff at h
  simp only at h
  split at h
  · cases h
  · injection h with h; subst h; exact hout _
  · split at h
    · split at h
      · injection h with h; subst h
        intro t ht
        rw [List.map_cons] at ht
        rcases List.mem_cons.1 ht with rfl | ht
        · simp [writesO]
        · exact hout _ t ht
      · cases h
    · injection h with h; subst h; exact hout _
    · injection h with h; subst h; exact hout _
    · split at h
      · split at h
        · split at h
          · injection h with h; subst h; exact hout _
          · cases h
        · split at h
          · injection h with h; subst h; exact hout _
          · cases h
      · split at h
        · injection h with h; subst h; exact hout _
        · cases h
    · split at h
      · rename_i e n b x y _ v _
        injection h with h; subst h
        intro t ht
        rw [List.map_append, List.mem_append] at ht
        rcases ht with ht | ht
        · cases x with
          | t s => simp only [unownW, List.map_cons, List.map_nil, List.mem_singleton] at ht; subst ht; simp [writesO]
          | c v => simp [unownW] at ht
        · exact hout _ t ht
      · cases h
    · split at h <;> try (cases h; done)
      split at h <;> cases h
      intro t ht
      simp only [List.map_cons, List.map_nil, List.mem_singleton] at ht
      subst ht
      simp [writesO]
    · split at h
      · injection h with h; subst h; exact hout _
      · cases h

theorem puts_out : ∀ {ws : List (Nat × V)} {F : Fr} {t : Nat}, t ∉ ws.map (·.1) → puts ws F t = F t
  | [], _, _, _ => rfl
  | (d, v) :: ws, F, t, h => by
    simp only [List.map_cons, List.mem_cons, not_or] at h
    simp only [puts]
    rw [puts_out h.2, put_ne _ _ h.1]
theorem puts_in : ∀ {ws : List (Nat × V)} {F F' : Fr} {t : Nat}, t ∈ ws.map (·.1) → puts ws F t = puts ws F' t
  | [], _, _, _, h => by simp at h
  | (d, v) :: ws, F, F', t, h => by
    simp only [puts]
    by_cases ht : t ∈ ws.map (·.1)
    · exact puts_in ht
    · rw [puts_out ht, puts_out ht]
      have : t = d := by simpa [ht] using h
      subst this
      rw [put_same, put_same]

theorem disj_iff {xs ys : List Nat} (h : disj xs ys = true) : ∀ t ∈ xs, t ∉ ys := by
  intro t ht hy
  have := List.all_eq_true.1 h t ht
  simp [hy] at this

/-- Two that mind each other not may change places. -/
theorem free_swap {cE : CE} {S : St} {F F1 F2 : Fr} {o q : AOper} (hap : apart o q = true) (h1 : freeOper cE q F S = some F1) (h2 : freeOper cE o F1 S = some F2) : ∃ F3, freeOper cE o F S = some F3 ∧ freeOper cE q F3 S = some F2 := by
  simp only [apart, Bool.and_eq_true] at hap
  obtain ⟨⟨ha, hb⟩, hc⟩ := hap
  unfold freeOper at *
  obtain ⟨wq, hwq, rfl⟩ := Option.map_eq_some_iff.1 h1
  obtain ⟨wo, hwo, rfl⟩ := Option.map_eq_some_iff.1 h2
  have kq := freeEff_keys hwq
  have ko := freeEff_keys hwo
  have e1 : freeEff cE o F S = some wo := by
    rw [← hwo]
    exact freeEff_congr fun t ht => (puts_out fun h => disj_iff hc t ht (kq t h)).symm
  have e2 : freeEff cE q (puts wo F) S = some wq := by
    rw [← hwq]
    exact freeEff_congr fun t ht => puts_out fun h => disj_iff ha t (ko t h) ht
  refine ⟨puts wo F, by rw [e1]; rfl, by
    rw [e2]
    show some (puts wq (puts wo F)) = some (puts wo (puts wq F))
    congr 1
    funext t
    by_cases h1 : t ∈ wq.map (·.1)
    · have h2 : t ∉ wo.map (·.1) := fun h => disj_iff hb t (ko t h) (kq t h1)
      rw [puts_out h2]
      exact puts_in h1
    · rw [puts_out h1]
      by_cases h2 : t ∈ wo.map (·.1)
      · exact puts_in h2
      · rw [puts_out h2, puts_out h2, puts_out h1]⟩

theorem freeL_first {cE : CE} {S : St} {o : AOper} {post : List AOper} {F' : Fr} : ∀ {pre : List AOper} {F : Fr}, (∀ q ∈ pre, apart o q = true) → freeL cE S (pre ++ o :: post) F = some F' → ∃ F1, freeOper cE o F S = some F1 ∧ freeL cE S (pre ++ post) F1 = some F'
  | [], F, _, h => by
    simp only [List.nil_append, freeL, Option.bind_eq_some_iff] at h
    obtain ⟨F1, h1, h2⟩ := h
    exact ⟨F1, h1, h2⟩
  | q :: pre, F, hap, h => by
    simp only [List.cons_append, freeL, Option.bind_eq_some_iff] at h
    obtain ⟨Fq, h1, h2⟩ := h
    obtain ⟨F1, h3, h4⟩ := freeL_first (fun q' hq' => hap q' (List.mem_cons_of_mem _ hq')) h2
    obtain ⟨F3, h5, h6⟩ := free_swap (hap q List.mem_cons_self) h1 h3
    exact ⟨F3, h5, by simp only [List.cons_append, freeL, h6, Option.bind_some]; exact h4⟩

/-- What is not tame behind such a block is what one of its operations has yielded. -/
theorem free_tame {cE : CE} {S : St} {F F1 : Fr} {o : AOper} (h : freeOper cE o F S = some F1) : ∀ t, tame (F t) = true → tame (F1 t) = true ∨ o.dst = some t := by
  intro t ht
  obtain ⟨dst, op, gd⟩ := o
  unfold freeOper at h
  obtain ⟨ws, hws, rfl⟩ := Option.map_eq_some_iff.1 h
  simp only
  by_cases hd : dst = some t
  · exact .inr hd
  · left
    have hout : ∀ (v : V) (F : Fr), puts (outs dst v) F t = F t := fun v F => puts_out (by
      rw [keys_outs]
      cases ho : dst with
      | none => simp
      | some d => rw [ho] at hd; simp; intro h; exact hd (by rw [h]))
    unfold freeEff at hws
    simp only at hws
    split at hws
    · cases hws
    · injection hws with hws; subst hws; rw [hout]; exact ht
    · split at hws
      · split at hws
        · rename_i hts
          injection hws with hws; subst hws
          simp only [puts]
          rw [hout]
          simp only [put]
          split
          · exact tame_strip hts
          · exact ht
        · cases hws
      · injection hws with hws; subst hws; rw [hout]; exact ht
      · injection hws with hws; subst hws; rw [hout]; exact ht
      · split at hws
        · split at hws
          · split at hws
            · injection hws with hws; subst hws; rw [hout]; exact ht
            · cases hws
          · split at hws
            · injection hws with hws; subst hws; rw [hout]; exact ht
            · cases hws
        · split at hws
          · injection hws with hws; subst hws; rw [hout]; exact ht
          · cases hws
      · split at hws
        · rename_i e n b x y _ v _
          injection hws with hws; subst hws
          cases x with
          | t s =>
            simp only [unownW, List.cons_append, List.nil_append, puts]
            rw [hout]
            simp only [put]
            split
            · rename_i h; subst h; exact tame_strip ht
            · exact ht
          | c v => simp only [unownW, List.nil_append]; rw [hout]; exact ht
        · cases hws
      · split at hws <;> try (cases hws; done)
        rename_i hfr _
        split at hws <;> cases hws
        simp only [puts, put]
        split
        · rename_i h; subst h; rw [hfr] at ht; cases ht
        · exact ht
      · split at hws
        · injection hws with hws; subst hws; rw [hout]; exact ht
        · cases hws

def dsts (os : List AOper) : List Nat := os.filterMap (·.dst)

theorem freeL_tame {cE : CE} {S : St} : ∀ {os : List AOper} {F F1 : Fr}, freeL cE S os F = some F1 → ∀ t, tame (F t) = true → tame (F1 t) = true ∨ t ∈ dsts os
  | [], F, F1, h, t, ht => by simp [freeL] at h; subst h; exact .inl ht
  | o :: os, F, F1, h, t, ht => by
    simp only [freeL, Option.bind_eq_some_iff] at h
    obtain ⟨F2, h1, h2⟩ := h
    rcases free_tame h1 t ht with h3 | h3
    · rcases freeL_tame h2 t h3 with h4 | h4
      · exact .inl h4
      · exact .inr (List.mem_filterMap.2 (by obtain ⟨q, hq, hd⟩ := List.mem_filterMap.1 h4; exact ⟨q, List.mem_cons_of_mem _ hq, hd⟩))
    · exact .inr (List.mem_filterMap.2 ⟨o, List.mem_cons_self, h3⟩)

end AM
end Go.Proofs.Ytimfbnojmdnlnaa
end
section
set_option linter.unusedVariables false
set_option linter.unusedSimpArgs false
namespace Go.Proofs.Ytimfbnojmdnlnaa
namespace AM

section
variable {P : Program} {T T' : St} {g : Gh} {w : World} {nt : Nat} {F : Fr} {a : Act} {tk : Option Nat → Bool} {o : Oper} {cE : CE} {K : Act → World → Prop} {Q : Exit → Act → World → Prop} {ro : Option Nat} {r : OR}

/-- A temporary behind a step that doesn't touch it, where it may have looked at a box. -/
theorem TmpAt.sameM {U : Use → Prop} {g' : Gh} {w' : World} {t : Nat} {v : V} {x : Value} (h : TmpAt P T g w t v x) (I : Inv P T g w) (S : Same U g w g' w') (hle : Le T.length g g') (hlen : T'.length = T.length) (hU : ¬ U (.row (.tmp t))) (hUb : ∀ l i, ¬ U (.box l i))
    (hm : ∀ l i o e xs, v = .mir l i o e xs → (∃ cs, getBox T l i = some cs ∧ cs[o]? = some (.slice (.own e) xs)) → ∃ cs, getBox T' l i = some cs ∧ cs[o]? = some (.slice (.own e) xs)) : TmpAt P T' g' w' t v x := {
  rel := by rw [hlen]; exact rel_mono hle (Nat.le_refl _) v x h.rel
  own e xs hv := (h.own e xs hv).same S hU
  fresh z hv := by
    obtain ⟨b, ty, zs, hx, hu, hh, hi, hr, hg, ho⟩ := h.fresh z hv
    obtain ⟨e1, e2, e3⟩ := S.old b (Array.getElem?_eq_some_iff.1 hh).1 (by rw [hu]; exact hU)
    exact ⟨b, ty, zs, hx, e2.trans hu, e1.trans hh, hi, relL_mono (hle.less (Nat.zero_le _)) (Nat.le_refl _) z zs hr, fun o => (e3 o).trans (hg o), ho⟩
  mir l i o e xs hv := by
    obtain ⟨⟨cs, h1, h2⟩, h3⟩ := h.mir l i o e xs hv
    refine ⟨hm l i o e xs hv ⟨cs, h1, h2⟩, ?_⟩
    obtain ⟨hu, vs, e', hh, _⟩ := I.B l i cs h1
    obtain ⟨e1, u1⟩ := hle.bx l i (getBox_lt h1) hu
    obtain ⟨k1, _, _⟩ := S.old (g.bx l i) (Array.getElem?_eq_some_iff.1 hh).1 (by rw [hu]; exact hUb l i)
    rw [e1, cell?_eq k1]; exact h3 }

theorem settle1_ok (I : Inv P T g w) (hF : FrRel P T g w nt F a.tmps) (hfl : Flat T) (o : AOper) :
    (∃ g', StepTo P T g w a nt (settle1 o F T).2 (settle1 o F T).1 g' w a) ∧ (∀ t, tame (F t) = true → tame ((settle1 o F T).1 t) = true) ∧ ∀ t, o.dst = some t → tame ((settle1 o F T).1 t) = true := by
  obtain ⟨bs, R, hT⟩ := hfl.pos
  unfold settle1
  cases hd : o.dst with
  | none => exact ⟨⟨g, FrRel.eval hF hfl I⟩, fun t h => h, fun t h => by cases h⟩
  | some d =>
    simp only
    cases hFd : F d
    case fresh z =>
      simp only
      have hdn : d < a.tmps.size := Nat.lt_of_not_le fun h => by
        rw [hF.past d (by rw [← hF.size]; exact h)] at hFd; cases hFd
      have hx := Array.getElem?_eq_getElem hdn
      have htm := hF.tmp d _ hx
      obtain ⟨b, ty, zs, hxe, hu, hh, hi, hr, hg, ho⟩ := htm.fresh z hFd
      subst hT
      simp only
      obtain ⟨hle, hsame, hinv⟩ := inv_box (so := some d) I rfl (b := b) (e := ty) (z := z) (vs := zs) (w' := w) hh (fun o v h => by rw [hg o] at h; cases h) (.inr ⟨d, rfl, hu⟩) hi (relL_mono (Le.refl 0 g) (Nat.zero_le _) _ _ hr) ho rfl rfl rfl (Nat.le_refl _) (fun _ _ => rfl)
      refine ⟨⟨_, hle, hsame.frm ofTmp_free, hinv, ⟨hF.size, fun t ht => ?_, fun t y hy => ?_⟩, rfl, trivial, rfl, fun k hk hku => ?_⟩, fun t ht => ?_, fun t ht => ?_⟩
      · have : t ≠ d := by
          have := hF.size
          omega
        rw [put_ne _ _ this]; exact hF.past t ht
      · by_cases e : t = d
        · subst e
          rw [put_same]
          refine TmpAt.calm rfl ?_
          rw [hx] at hy; injection hy with hy; subst hy
          simp only [Rel]
          exact ⟨by simp, by simp [Gh.boxed], by rw [hxe]; simp [Gh.boxed]⟩
        · rw [put_ne _ _ e]
          refine (hF.tmp t y hy).sameM I hsame hle rfl (by rintro ⟨s, h1, h2⟩; cases h2; cases h1; exact e rfl) (fun _ _ => ofTmp_box) (fun l i o e xs _ h => ?_)
          obtain ⟨cs, h1, h2⟩ := h
          refine ⟨cs, ?_, h2⟩
          have hp := getBox_push ⟨bs, none⟩ R z l i
          simp only at hp
          rw [hp, if_neg]
          · exact h1
          · rintro ⟨rfl, rfl⟩
            rw [getBox_top] at h1
            simp at h1
      · obtain ⟨h1, h2, _⟩ := hsame.old k hk (by rw [hku]; exact ofTmp_mark)
        exact ⟨h2.trans hku, h1⟩
      · simp only [put]
        split
        · rfl
        · exact ht
      · injection ht with ht; subst ht
        rw [put_same]; rfl
    case mir l i p e xs =>
      simp only
      have hdn : d < a.tmps.size := Nat.lt_of_not_le fun h => by
        rw [hF.past d (by rw [← hF.size]; exact h)] at hFd; cases hFd
      have hx := Array.getElem?_eq_getElem hdn
      obtain ⟨⟨cs, hcs, hown⟩, hcell⟩ := (hF.tmp d _ hx).mir l i p e xs hFd
      rw [hcs]
      simp only
      obtain ⟨y, g', h1, h2, h3, h4, h5, h6⟩ := inv_take I hfl hcs hown (some d)
      have hy : a.tmps[d] = y := by rw [hcell] at h1; injection h1
      refine ⟨⟨g', h3 _, h4.frm (by simp), h5, ⟨hF.size, fun t ht => ?_, fun t z hz => ?_⟩, length_setBox _ _ _ _, hfl.setBox _ _ _, rfl, fun k hk hku => ?_⟩, fun t ht => ?_, fun t ht => ?_⟩
      · have : t ≠ d := by
          have := hF.size
          omega
        rw [put_ne _ _ this, hF.past t ht]; rfl
      · by_cases e' : t = d
        · subst e'
          rw [put_same]
          rw [hx] at hz; injection hz with hz; subst hz
          refine ⟨?_, fun e'' xs' hv => ?_, fun z hv => (by cases hv), fun l i o e xs hv => (by cases hv)⟩
          · rw [length_setBox, hy]; exact rel_mono (h3 _) (Nat.le_refl _) _ _ h2
          · simp only [V.slice.injEq, SK.own.injEq] at hv
            obtain ⟨rfl, rfl⟩ := hv
            rw [hy]
            exact h6 t rfl
        · rw [put_ne _ _ e']
          have htm := hF.tmp t z hz
          by_cases hmm : ∃ e2 xs2, F t = .mir l i p e2 xs2
          · obtain ⟨e2, xs2, hFt⟩ := hmm
            have hr := htm.rel
            rw [hFt] at hr ⊢
            simp only [unmir, and_self, if_true]
            refine TmpAt.calm rfl ?_
            rw [length_setBox]
            refine rel_mono (h3 _) (Nat.le_refl _) _ _ ?_
            simp only [Rel] at hr ⊢
            obtain ⟨ad, m, c, k1, k2, k3, k4, k5, k6, k7⟩ := hr
            exact ⟨ad, m, c, k1, k2, k3, k4, k5, k6, k7⟩
          · have hun : unmir l i p (F t) = F t := by
              cases hFt : F t with
              | mir l' i' p' e2 xs2 =>
                simp only [unmir]
                rw [if_neg]
                rintro ⟨rfl, rfl, rfl⟩
                exact hmm ⟨e2, xs2, hFt⟩
              | _ => rfl
            rw [hun]
            refine htm.sameM I h4 (h3 _) (length_setBox _ _ _ _) (by simp) (by simp) (fun l' i' p' e2 xs2 hFt h => ?_)
            obtain ⟨cs', k1, k2⟩ := h
            rw [getBox_setBox hcs]
            split
            · rename_i hli
              obtain ⟨rfl, rfl⟩ := hli
              rw [hcs] at k1; injection k1 with k1; subst k1
              refine ⟨_, rfl, ?_⟩
              rw [lt_set, if_neg]
              · exact k2
              · rintro rfl
                exact hmm ⟨e2, xs2, hFt⟩
            · exact ⟨cs', k1, k2⟩
      · obtain ⟨k1, k2, _⟩ := h4.old k hk (by rw [hku]; simp)
        exact ⟨k2.trans hku, k1⟩
      · simp only [put]
        split
        · rfl
        · cases hFt : F t <;> rw [hFt] at ht <;> simp only [unmir] <;> first | exact ht | cases ht
      · injection ht with ht; subst ht
        rw [put_same]; rfl
    all_goals exact ⟨⟨g, FrRel.eval hF hfl I⟩, fun t h => h, fun t h => by injection h with h; subst h; simp only [hFd]; rfl⟩

theorem settle_ok : ∀ {os : List AOper} {T : St} {g : Gh} {F : Fr}, Inv P T g w → FrRel P T g w nt F a.tmps → Flat T → (∀ t, tame (F t) = true ∨ t ∈ dsts os) →
    ∃ g', StepTo P T g w a nt (settle os F T).2 (settle os F T).1 g' w a ∧ ∀ t, tame ((settle os F T).1 t) = true
  | [], T, g, F, I, hF, hfl, ht => ⟨g, FrRel.eval hF hfl I, fun t => (ht t).resolve_right (by simp [dsts])⟩
  | o :: os, T, g, F, I, hF, hfl, ht => by
    obtain ⟨⟨g1, h1⟩, h2, h3⟩ := settle1_ok I hF hfl o
    obtain ⟨g2, h4, h5⟩ := settle_ok (os := os) h1.inv h1.fr h1.flat (fun t => by
      rcases ht t with h | h
      · exact .inl (h2 t h)
      · simp only [dsts, List.filterMap_cons] at h
        cases hd : o.dst with
        | none => rw [hd] at h; exact .inr h
        | some d =>
          rw [hd] at h
          rcases List.mem_cons.1 h with rfl | h
          · exact .inl (h3 t hd)
          · exact .inr h)
    exact ⟨g2, h1.trans h4, h5⟩

end
end AM
end Go.Proofs.Ytimfbnojmdnlnaa
end
section
set_option linter.unusedVariables false
set_option linter.unusedSimpArgs false
namespace Go.Proofs.Ytimfbnojmdnlnaa
namespace AM

section
variable {P : Program} {T T' : St} {g : Gh} {w : World} {nt : Nat} {F : Fr} {a : Act} {tk : Option Nat → Bool} {o : Oper} {cE : CE} {Q : Exit → Act → World → Prop} {ro : Option Nat}

/-- What is asked behind code that ends so. -/
structure GoesC (P : Program) (T : St) (g : Gh) (w : World) (nt : Nat) (a : Act) (Q : Exit → Act → World → Prop) (res : Ex × Fr × St) : Prop where
  nrm : ∀ F' T', res = (.nrm, F', T') → ∀ g' w' a', StepTo P T g w a nt T' F' g' w' a' → (∀ t, tame (F' t) = true) → Q .normal a' w'
  pan : ∀ v F' T', res = (.pan v, F', T') → ∀ g' w' x a', a'.defers = a.defers → PanTo P T g w nt v F' T' g' w' x a' → Q (.panic [{ v := x, recovered := false }]) a' w'

theorem PanTo.after {T1 T2 : St} {g1 g2 : Gh} {w1 w2 : World} {a1 a2 : Act} {F1 F2 : Fr} {v : V} {x : Value} (h : StepTo P T g w a nt T1 F1 g1 w1 a1) (k : PanTo P T1 g1 w1 nt v F2 T2 g2 w2 x a2) : PanTo P T g w nt v F2 T2 g2 w2 x a2 := {
  fr := k.fr
  le := h.le.trans (by have := k.le; rwa [h.len] at this)
  frm := h.frm.trans k.frm
  inv := k.inv
  len := k.len.trans h.len
  marks b hb hu := by
    obtain ⟨u1, e1⟩ := h.marks b hb hu
    obtain ⟨u2, e2⟩ := k.marks b (Nat.lt_of_lt_of_le hb h.frm.size) u1
    exact ⟨u2, e2.trans e1⟩
  rel := k.rel }

theorem GoesC.step {T1 : St} {F1 : Fr} {g1 : Gh} {w1 : World} {a1 : Act} {res : Ex × Fr × St} (h : StepTo P T g w a nt T1 F1 g1 w1 a1) (k : GoesC P T g w nt a Q res) : GoesC P T1 g1 w1 nt a1 Q res := {
  nrm F' T' e g' w' a' hs ht := k.nrm F' T' e g' w' a' (h.trans hs) ht
  pan v F' T' e g' w' x a' hd hp := k.pan v F' T' e g' w' x a' (hd.trans h.defs) (hp.after h) }

theorem opIn_seq {meth : Nat → String → Option Nat} (hM : MethOk P meth) (hE : CallOk P cE) (I : Inv P T g w) (hF : FrRel P T g w nt F a.tmps) (ht : ∀ t, tame (F t) = true) (hfl : Flat T) {ops : Array Oper} {i : Nat} (hi : ops[i]? = some o) {ao : AOper} (hc : compOper P nt tk ops.toList o = some ao)
    {r : OR} (hv : seqOper meth cE ao F T = some r) {K : Act → World → Prop} (hG : Goes P T g w nt F a K Q r) : wpOpIn (fen ro) 0 P ops Q i K a w := by
  unfold wpOpIn
  simp only [hi]
  exact seqOper_ok hM hE I hF ht hfl hc hv hG

theorem opIn_free (hE : CallOk P cE) (I : Inv P T g w) (hF : FrRel P T g w nt F a.tmps) (hfl : Flat T) {ops : Array Oper} {i : Nat} (hi : ops[i]? = some o) {ao : AOper} (hc : compOper P nt tk ops.toList o = some ao) {F' : Fr} (hv : freeOper cE ao F T = some F') {K : Act → World → Prop} (hK : On P T g w a nt F' K) :
    wpOpIn (fen ro) 0 P ops Q i K a w := by
  unfold wpOpIn
  simp only [hi]
  exact freeOper_ok hE I hF hfl hc hv hK

/-- The operations of a region are compiled. -/
def OpsOk (P : Program) (nt : Nat) (tk : Option Nat → Bool) (ops : Array Oper) (os : List AOper) : Prop :=
  os.length = ops.size ∧ ∀ (i : Nat) (o : Oper), ops[i]? = some o → ∃ ao, os[i]? = some ao ∧ compOper P nt tk ops.toList o = some ao

/-- A region in one order. -/
theorem region_seq {meth : Nat → String → Option Nat} (hM : MethOk P meth) (hE : CallOk P cE) {ops : Array Oper} {os : List AOper} (hops : OpsOk P nt tk ops os) : ∀ (n p : Nat) {T : St} {g : Gh} {w : World} {F : Fr} {a : Act} {res : Ex × Fr × St}, p + n = os.length →
    Inv P T g w → FrRel P T g w nt F a.tmps → (∀ t, tame (F t) = true) → Flat T → blks meth cE ((os.drop p).map .seq) F T = some res → GoesC P T g w nt a Q res → wpOpsIn (fen ro) 0 P ops Q (List.range' p n) a w
  | 0, p, T, g, w, F, a, res, hp, I, hF, ht, hfl, hv, hG => by
    rw [List.drop_eq_nil_of_le (by omega)] at hv
    simp [blks] at hv
    subst hv
    exact hG.nrm _ _ rfl _ _ _ (FrRel.eval hF hfl I) ht
  | n + 1, p, T, g, w, F, a, res, hp, I, hF, ht, hfl, hv, hG => by
    have hlt : p < os.length := by omega
    have hlt' : p < ops.size := by rw [← hops.1]; exact hlt
    obtain ⟨ao, h1, h2⟩ := hops.2 p ops[p] (Array.getElem?_eq_getElem hlt')
    have hd : os.drop p = ao :: os.drop (p + 1) := by
      rw [List.drop_eq_getElem_cons hlt]
      rw [List.getElem?_eq_getElem hlt] at h1
      injection h1 with h1
      rw [h1]
    rw [hd] at hv
    simp only [List.map_cons, blks] at hv
    rw [List.range'_succ, wpOpsIn_cons]
    split at hv
    · rename_i F1 T1 hs
      refine opIn_seq hM hE I hF ht hfl (Array.getElem?_eq_getElem hlt') h2 hs ⟨fun F' T' e g' w' a' hst htt => ?_, fun v T' e => by cases e⟩
      cases e
      exact region_seq hM hE hops n (p + 1) (by omega) hst.inv hst.fr htt hst.flat hv (hG.step hst)
    · rename_i v T1 hs
      injection hv with hv; subst hv
      refine opIn_seq hM hE I hF ht hfl (Array.getElem?_eq_getElem hlt') h2 hs ⟨fun F' T' e => (by cases e), fun v' T' e g' w' x hpn => ?_⟩
      cases e
      exact hG.pan _ _ _ rfl g' w' x a rfl hpn
    · cases hv

/-! ### Who waits for whom -/
theorem fold_bit {acc : List Nat} {k : Nat} : ∀ {l : List Edge} {s : Nat}, (l.foldl (fun s e => if Region.binds .any e then s ||| 2 ^ e.on ||| acc.getD e.on 0 else s) s).testBit k = true →
    s.testBit k = true ∨ ∃ e ∈ l, Region.binds .any e = true ∧ (k = e.on ∨ (acc.getD e.on 0).testBit k = true)
  | [], s, h => .inl h
  | e :: l, s, h => by
    simp only [List.foldl_cons] at h
    rcases fold_bit h with h | ⟨e', he', h1, h2⟩
    · split at h
      · rename_i hb
        simp only [Nat.testBit_or, Bool.or_eq_true] at h
        rcases h with (h | h) | h
        · exact .inl h
        · rw [Nat.testBit_two_pow] at h
          exact .inr ⟨e, List.mem_cons_self, hb, .inl (of_decide_eq_true h).symm⟩
        · exact .inr ⟨e, List.mem_cons_self, hb, .inr h⟩
      · exact .inl h
    · exact .inr ⟨e', List.mem_cons_of_mem _ he', h1, h2⟩

theorem ancs_spec : ∀ (os : List Oper) (acc : List Nat), (ancs os acc).length = acc.length + os.length ∧ (∀ j, j < acc.length → (ancs os acc).getD j 0 = acc.getD j 0) ∧
    ∀ (j : Nat) (o : Oper), os[j]? = some o → ∀ k, ((ancs os acc).getD (acc.length + j) 0).testBit k = true → ∃ e ∈ o.after.toList, Region.binds .any e = true ∧ (k = e.on ∨ ((ancs os acc).getD e.on 0).testBit k = true)
  | [], acc => ⟨by simp [ancs], fun _ _ => rfl, fun j o h => by simp at h⟩
  | o :: os, acc => by
    simp only [ancs]
    obtain ⟨h1, h2, h3⟩ := ancs_spec os (acc ++ [o.after.toList.foldl (fun s e => if Region.binds .any e then s ||| 2 ^ e.on ||| acc.getD e.on 0 else s) 0])
    refine ⟨by rw [h1]; simp; omega, fun j hj => ?_, fun j o' ho k hk => ?_⟩
    · rw [h2 j (by simp; omega)]
      simp [List.getD_eq_getElem?_getD, List.getElem?_append_left hj]
    · cases j with
      | zero =>
        simp only [List.getElem?_cons_zero, Option.some.injEq] at ho
        subst ho
        rw [Nat.add_zero, h2 _ (by simp)] at hk
        simp only [List.getD_eq_getElem?_getD, List.getElem?_append_right (Nat.le_refl _), Nat.sub_self, List.getElem?_cons_zero, Option.getD_some] at hk
        rcases fold_bit (acc := acc) (by simpa only [List.getD_eq_getElem?_getD] using hk) with h | ⟨e, he, hb, h⟩
        · simp at h
        · refine ⟨e, he, hb, h.imp id fun h => ?_⟩
          have hlt : e.on < acc.length := Nat.lt_of_not_le fun hle => by
            rw [List.getD_eq_getElem?_getD, List.getElem?_eq_none hle] at h
            simp at h
          rw [h2 _ (by simp; omega)]
          simpa [List.getD_eq_getElem?_getD, List.getElem?_append_left hlt] using h
      | succ j =>
        have := h3 j o' (by simpa using ho) k (by
          have e : acc.length + (j + 1) = (acc ++ [o.after.toList.foldl (fun s e => if Region.binds .any e then s ||| 2 ^ e.on ||| acc.getD e.on 0 else s) 0]).length + j := by simp; omega
          rw [← e]; exact hk)
        exact this

end
end AM
end Go.Proofs.Ytimfbnojmdnlnaa
end

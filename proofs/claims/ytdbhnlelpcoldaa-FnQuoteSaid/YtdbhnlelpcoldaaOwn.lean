/- Rows and cells that a call owns, above a bound. No statement of the seat is proved here. -/
import Derived.Test.YtdbhnlelpcoldaaVec
namespace Go.Vc
open Go.RowKit
set_option linter.unusedVariables false
set_option linter.unusedSimpArgs false

/-- Nothing below N has changed. -/
def Keep (N : Nat) (w w' : World) : Prop := Ext (fun k => N ≤ k) w w'
theorem Keep.refl (N : Nat) (w : World) : Keep N w w := Ext.refl _ _
theorem Keep.trans {N : Nat} {a b c : World} (h : Keep N a b) (k : Keep N b c) : Keep N a c := Ext.trans h k
theorem Keep.below {N : Nat} {w w' : World} (h : Keep N w w') (hN : w.heap.size ≤ N) : Below w.heap.size w w' := Ext.below h fun k hk => by omega
theorem Keep.of_below {N : Nat} {w w' : World} (h : Below w.heap.size w w') : Keep N w w' := Ext.of_below h
theorem Keep.step {N : Nat} {w0 w w' : World} (h : Below w0.heap.size w0 w) (k : Keep N w w') (hN : w0.heap.size ≤ N) : Below w0.heap.size w0 w' :=
  h.trans ⟨k.os, k.tape, k.output, k.size, fun i hi => k.block i (Nat.lt_of_lt_of_le hi h.size) (by omega)⟩
theorem Blk.stay {N : Nat} {w w' : World} {b : Nat} {e : TypeId} {cs : List Value} (h : Blk w.heap b e cs) (k : Keep N w w') (hb : b < N) : Blk w'.heap b e cs := Blk.keep h k (by omega)
theorem Blk.below {w w' : World} {b : Nat} {e : TypeId} {cs : List Value} (h : Blk w.heap b e cs) (k : Below w.heap.size w w') : Blk w'.heap b e cs := Blk.keep (S := fun _ => False) h (Ext.of_below k) (fun h => h)
theorem Blk.vnew {w : World} {b : Nat} {e : TypeId} {cs : List Value} (h : Blk w.heap b e cs) (o : Obj) : Blk (newW w o).heap b e cs := h.keep (S := fun _ => False) ((Ext.refl _ w).vnew o) (fun h => h)
theorem Blk.vdrew {w : World} {b : Nat} {e : TypeId} {cs : List Value} (h : Blk w.heap b e cs) : Blk (drewW w).heap b e cs := h
theorem Blk.vsets {w : World} {b : Nat} {e : TypeId} {cs : List Value} (h : Blk w.heap b e cs) {b' o : Nat} {vs : List Value} (hn : b ≠ b') : Blk (setsW w b' o vs).heap b e cs := by
  unfold Blk; rw [setsW_other hn]; exact h
theorem size_newW (w : World) (o : Obj) : (newW w o).heap.size = w.heap.size + 1 := by simp [newW]
theorem size_setsW {w : World} {b o : Nat} {vs : List Value} : (setsW w b o vs).heap.size = w.heap.size := setsW_size

/-- The row belongs to the call: its array is above N. -/
def Row (N : Nat) (w : World) (e : TypeId) (sz : Nat) (a : Option Addr) (l c : Nat) (xs : List Value) : Prop :=
  Vec w.heap e sz a l c xs ∧ (∀ b, blkOf a = some b → N ≤ b) ∧ N ≤ w.heap.size
theorem Row.nil {N : Nat} {w : World} (e : TypeId) (sz : Nat) (h : N ≤ w.heap.size) : Row N w e sz none 0 0 [] := ⟨Vec.nil _ _ _, by simp [blkOf], h⟩
theorem Row.below {N : Nat} {w w' : World} {e : TypeId} {sz : Nat} {a : Option Addr} {l c : Nat} {xs : List Value} (h : Row N w e sz a l c xs) (k : Below w.heap.size w w') : Row N w' e sz a l c xs :=
  ⟨h.1.keep (S := fun _ => False) (Ext.of_below k) (fun _ _ h => h), h.2.1, Nat.le_trans h.2.2 k.size⟩
theorem Row.vdrew {N : Nat} {w : World} {e : TypeId} {sz : Nat} {a : Option Addr} {l c : Nat} {xs : List Value} (h : Row N w e sz a l c xs) : Row N (drewW w) e sz a l c xs := h
theorem Row.vnew {N : Nat} {w : World} {e : TypeId} {sz : Nat} {a : Option Addr} {l c : Nat} {xs : List Value} (h : Row N w e sz a l c xs) (o : Obj) : Row N (newW w o) e sz a l c xs :=
  ⟨h.1.keep (S := fun _ => False) ((Ext.refl _ w).vnew o) (fun _ _ h => h), h.2.1, by rw [size_newW]; exact Nat.le_succ_of_le h.2.2⟩
theorem Row.vsets {N : Nat} {w : World} {e : TypeId} {sz : Nat} {a : Option Addr} {l c : Nat} {xs : List Value} (h : Row N w e sz a l c xs) {b o : Nat} {vs : List Value} (hb : b < N) : Row N (setsW w b o vs) e sz a l c xs :=
  ⟨h.1.keep (S := fun k => k = b) (Ext.vsets (S := fun k => k = b) (.inl rfl) (Ext.refl _ _)) (fun b' h' => by have := h.2.1 b' h'; omega), h.2.1, by rw [setsW_size]; exact h.2.2⟩
theorem Row.mono {N M : Nat} {w : World} {e : TypeId} {sz : Nat} {a : Option Addr} {l c : Nat} {xs : List Value} (h : Row N w e sz a l c xs) (hm : M ≤ N) : Row M w e sz a l c xs :=
  ⟨h.1, fun b hb => Nat.le_trans hm (h.2.1 b hb), Nat.le_trans hm h.2.2⟩
theorem Row.at {N : Nat} {w : World} {e : TypeId} {sz : Nat} {a : Option Addr} {l c : Nat} {xs : List Value} (h : Row N w e sz a l c xs) (hl : 0 < l * sz) :
    ∃ b cs, a = some ⟨b, 0, none⟩ ∧ Blk w.heap b e cs ∧ cs.length = c * sz ∧ N ≤ b ∧ ∀ o, o < l * sz → cellH w.heap b o = xs[o]? := by
  obtain ⟨⟨h1, h2, h3⟩, h4, h5⟩ := h
  rcases h3 with ⟨rfl, rfl⟩ | ⟨b, cs, rfl, hb, h6, h7⟩
  · have : l = 0 := by omega
    subst this; simp at hl
  · refine ⟨b, cs, rfl, hb, h6, h4 b rfl, fun o ho => ?_⟩
    rw [hb.cell, ← h7, List.getElem?_take, if_pos ho]

/-- What append must know of an element's type. -/
structure Elem (P : Program) (T e : TypeId) (sz by_ : Nat) : Prop where
  und : P.underlying T = some (.slice e)
  size : sizeP P e = some sz
  bytes : bytesP P e = some by_
  zero : ∃ z, zeroL P e = some z ∧ z.length = sz
theorem Row.app {P : Program} {T e : TypeId} {sz by_ : Nat} (E : Elem P T e sz by_) {N : Nat} {w : World} {a : Option Addr} {l c : Nat} {xs : List Value} (h : Row N w e sz a l c xs) {ys : List Value} {n c' : Nat}
    (hy : ys.length = n * sz) (hs : ys.all scal = true) {a' : Option Addr} (hsrc : n = 0 ∧ a' = none ∨ ∃ b' o', a' = some ⟨b', o', none⟩ ∧ cellsAt w.heap b' o' ys) (hbd : (l + n) * by_ ≤ 70368744177664) (hln : l + n ≤ 70368744177664) :
    ∃ a2 c2 w', (Builtin.append_ #[T, T] T #[.slice a l c, .slice a' n c']).run P w = .ok (.slice a2 (l + n) c2) w' ∧ Row N w' e sz a2 (l + n) c2 (xs ++ ys) ∧ Keep N w w' := by
  obtain ⟨hv, ho, hN⟩ := h
  obtain ⟨z, hz, hzl⟩ := E.zero
  obtain ⟨a2, c2, w', h1, h2, h3, h4⟩ := append_run (P := P) (T := T) (T' := T) (T'' := T) E.und E.und E.size E.bytes (by rw [hz]; simp) (by rw [hz]; intro y hy; cases hy; exact hzl) hv (a' := a') (n := n) (c' := c') hy hs
    (hsrc.imp (·.1) id) (fun h0 => hsrc.imp (·.2) (fun ⟨b', o', h, _⟩ => ⟨b', o', h⟩)) hbd hln
  refine ⟨a2, c2, w', h1, ⟨h2, ?_, Nat.le_trans hN h3.size⟩, h3.mono fun k _ hk => ho k hk⟩
  intro b hb2
  rcases h4 with rfl | rfl
  · exact ho b hb2
  · simp only [blkOf, Option.some.injEq] at hb2; omega
/-- append of what is written out, the row of it being made for that. -/
theorem Row.app1 {P : Program} {T e : TypeId} {sz by_ : Nat} (E : Elem P T e sz by_) {N : Nat} {w : World} {a : Option Addr} {l c : Nat} {xs : List Value} (h : Row N w e sz a l c xs) {ys : List Value} {n : Nat}
    (hy : ys.length = n * sz) (hs : ys.all scal = true) (hbd : (l + n) * by_ ≤ 70368744177664) (hln : l + n ≤ 70368744177664) :
    ∃ a2 c2 w', (Builtin.append_ #[T, T] T #[.slice a l c, .slice (some ⟨w.heap.size, 0, none⟩) n n]).run P (newW w (.cells ⟨ys⟩ e)) = .ok (.slice a2 (l + n) c2) w' ∧ Row N w' e sz a2 (l + n) c2 (xs ++ ys) ∧ Keep N w w' := by
  obtain ⟨a2, c2, w', h1, h2, h3⟩ := (h.vnew (.cells ⟨ys⟩ e)).app E (n := n) (c' := n) hy hs (a' := some ⟨w.heap.size, 0, none⟩) (.inr ⟨_, _, rfl, cellsAt_newW w ys e⟩) hbd hln
  exact ⟨a2, c2, w', h1, h2, Keep.trans ((Ext.refl _ w).vnew _) h3⟩
theorem Keep.vnew {N : Nat} {a w : World} (h : Keep N a w) (o : Obj) : Keep N a (newW w o) := Ext.vnew h o
theorem Keep.vdrew {N : Nat} {a w : World} (h : Keep N a w) : Keep N a (drewW w) := Ext.vdrew h
theorem Keep.vsets {N : Nat} {a w : World} (h : Keep N a w) {b o : Nat} {vs : List Value} (hb : N ≤ b) : Keep N a (setsW w b o vs) := Ext.vsets (.inl hb) h
theorem Keep.mono {N M : Nat} {a w : World} (h : Keep N a w) (hm : M ≤ N) : Keep M a w := Ext.mono h fun k _ hk => Nat.le_trans hm hk
theorem Keep.call {N : Nat} {a w w' : World} (h : Keep N a w) (k : Below w.heap.size w w') : Keep N a w' := h.trans (.of_below k)
/-! ### Steps, with worlds that have no form -/
theorem newC_in {z : List Value} {t : TypeId} {K : Nat → World → Prop} {w : World} (h : ∀ w1, w1.heap.size = w.heap.size + 1 → Blk w1.heap w.heap.size t z → Ext (fun _ => False) w w1 → K w.heap.size w1) : newC z t K w :=
  h _ (size_newW _ _) (Blk.new w t z) ((Ext.refl _ w).vnew _)
theorem stW_in {b o : Nat} {vs : List Value} {K : World → Prop} {w : World} {e : TypeId} {cs : List Value} (hb : Blk w.heap b e cs) (ho : o + vs.length ≤ cs.length)
    (h : ∀ w1, w1.heap.size = w.heap.size → Blk w1.heap b e (segSet cs o vs) → Ext (fun k => k = b) w w1 → K w1) : stW b o vs K w :=
  ⟨hb.wrL ho, h _ setsW_size hb.sets (Ext.vsets (S := fun k => k = b) (b := b) (.inl rfl) (Ext.refl _ _))⟩
theorem drw_in {K : World → Prop} {w : World} (h : ∀ w1, w1.heap = w.heap → Ext (fun _ => False) w w1 → K w1) : drw K w := h _ rfl (Ext.vdrew (Ext.refl _ w))
theorem Row.keep {N : Nat} {S : Nat → Prop} {w w' : World} {e : TypeId} {sz : Nat} {a : Option Addr} {l c : Nat} {xs : List Value} (h : Row N w e sz a l c xs) (k : Ext S w w') (hs : ∀ b, N ≤ b → ¬ S b) : Row N w' e sz a l c xs :=
  ⟨h.1.keep k (fun b hb => hs b (h.2.1 b hb)), h.2.1, Nat.le_trans h.2.2 k.size⟩
theorem Ext.to {S : Nat → Prop} {w0 w w' : World} (h : Below w0.heap.size w0 w) (k : Ext S w w') (hs : ∀ i, S i → w0.heap.size ≤ i) : Below w0.heap.size w0 w' :=
  h.trans ⟨k.os, k.tape, k.output, k.size, fun i hi => k.block i (Nat.lt_of_lt_of_le hi h.size) fun h => by have := hs i h; omega⟩
theorem Row.st {N : Nat} {w : World} {e : TypeId} {sz : Nat} {b : Nat} {l c : Nat} {xs : List Value} (h : Row N w e sz (some ⟨b, 0, none⟩) l c xs) {o : Nat} (ho : o < l * sz) {v : Value} {K : World → Prop}
    (hK : ∀ w1, Row N w1 e sz (some ⟨b, 0, none⟩) l c (xs.set o v) → Ext (fun k => k = b) w w1 → K w1) : stW b o [v] K w := by
  obtain ⟨⟨h1, h2, h3⟩, h4, h5⟩ := h
  rcases h3 with ⟨h3, _⟩ | ⟨b', cs, hb', hB, h6, h7⟩
  · cases h3
  obtain rfl : b = b' := by injection hb' with hb'; injection hb'
  have hle := Nat.mul_le_mul_right sz h2
  refine stW_in hB (by simp only [List.length_singleton]; omega) fun w1 s1 k1 e1 => hK w1 ⟨⟨by rw [List.length_set]; exact h1, h2, .inr ⟨b, _, rfl, k1, by rw [segSet_length]; exact h6, ?_⟩⟩, h4, by omega⟩ e1
  show (cs.set o v).take (l * sz) = _
  rw [List.take_set, h7]
end Go.Vc

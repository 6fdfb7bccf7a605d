/- Rows of memory that a slice owns, and append. No statement of the seat is proved here. -/
import Derived.Test.YtdbhnlelpcoldaaBase
import Derived.Laws.Append
namespace Go.Vc
open Go.RowKit
set_option linter.unusedVariables false
set_option linter.unusedSimpArgs false

/-! ### Worlds that differ in new blocks and in some named ones -/
structure Ext (S : Nat → Prop) (w w' : World) : Prop where
  os : w'.os = w.os
  tape : w'.tape = w.tape
  output : w'.output = w.output
  size : w.heap.size ≤ w'.heap.size
  block : ∀ k, k < w.heap.size → ¬ S k → w'.heap[k]? = w.heap[k]?
theorem Ext.refl (S : Nat → Prop) (w : World) : Ext S w w := ⟨rfl, rfl, rfl, Nat.le_refl _, fun _ _ _ => rfl⟩
theorem Ext.trans {S : Nat → Prop} {a b c : World} (h : Ext S a b) (k : Ext S b c) : Ext S a c :=
  ⟨k.os.trans h.os, k.tape.trans h.tape, k.output.trans h.output, Nat.le_trans h.size k.size, fun i hi hs => (k.block i (Nat.lt_of_lt_of_le hi h.size) hs).trans (h.block i hi hs)⟩
theorem Ext.mono {S T : Nat → Prop} {a b : World} (h : Ext S a b) (hs : ∀ k, k < a.heap.size → S k → T k) : Ext T a b :=
  ⟨h.os, h.tape, h.output, h.size, fun i hi ht => h.block i hi fun h' => ht (hs i hi h')⟩
/-- The second part may write to whatever is new since the first world, too. -/
theorem Ext.step {S T : Nat → Prop} {a b c : World} (h : Ext S a b) (k : Ext T b c) (hs : ∀ i, i < a.heap.size → T i → S i) : Ext S a c :=
  ⟨k.os.trans h.os, k.tape.trans h.tape, k.output.trans h.output, Nat.le_trans h.size k.size,
    fun i hi hn => (k.block i (Nat.lt_of_lt_of_le hi h.size) fun ht => hn (hs i hi ht)).trans (h.block i hi hn)⟩
theorem Ext.below {S : Nat → Prop} {a b : World} (h : Ext S a b) (hs : ∀ k, k < a.heap.size → ¬ S k) : Below a.heap.size a b :=
  ⟨h.os, h.tape, h.output, h.size, fun k hk => h.block k hk (hs k hk)⟩
theorem Ext.of_below {S : Nat → Prop} {a b : World} (h : Below a.heap.size a b) : Ext S a b := ⟨h.os, h.tape, h.output, h.size, fun k hk _ => h.block k hk⟩
theorem Ext.vdrew {S : Nat → Prop} {a w : World} (h : Ext S a w) : Ext S a (drewW w) := ⟨h.os, h.tape, h.output, h.size, h.block⟩
theorem Ext.vnew {S : Nat → Prop} {a w : World} (h : Ext S a w) (o : Obj) : Ext S a (newW w o) :=
  ⟨h.os, h.tape, h.output, by have := h.size; simp only [newW, Array.size_push]; omega, fun k hk hs => by
    rw [← h.block k hk hs, newW_get]; have := h.size; rw [if_neg (by omega)]⟩
theorem Ext.vset {S : Nat → Prop} {a w : World} (h : Ext S a w) {b o : Nat} (hb : S b ∨ a.heap.size ≤ b) (v : Value) : Ext S a (setW w b o v) :=
  ⟨h.os, h.tape, h.output, by simp only [setW, setH_size]; exact h.size, fun k hk hs => by
    rw [← h.block k hk hs]; simp only [setW, setH_get]
    rw [if_neg]; rintro rfl
    rcases hb with hb | hb
    · exact hs hb
    · omega⟩
theorem Ext.vsets {S : Nat → Prop} {a : World} {b : Nat} (hb : S b ∨ a.heap.size ≤ b) {vs : List Value} : ∀ {w : World} {o : Nat}, Ext S a w → Ext S a (setsW w b o vs) := by
  induction vs with
  | nil => intro w o h; exact h
  | cons v r ih => intro w o h; exact ih (h.vset hb v)
theorem Ext.cellH {S : Nat → Prop} {w w' : World} (h : Ext S w w') {b : Nat} (hb : b < w.heap.size) (hs : ¬ S b) (o : Nat) : cellH w'.heap b o = cellH w.heap b o := by
  unfold Vc.cellH; rw [h.block b hb hs]

/-! ### Blocks -/
/-- The block holds just these cells, none of them frozen. -/
def Blk (h : Array Obj) (b : Nat) (e : TypeId) (cs : List Value) : Prop := h[b]? = some (.cells ⟨cs⟩ e (0, 0))
theorem Blk.lt {h : Array Obj} {b : Nat} {e : TypeId} {cs : List Value} (hb : Blk h b e cs) : b < h.size := (Array.getElem?_eq_some_iff.1 hb).1
theorem Blk.cell {h : Array Obj} {b : Nat} {e : TypeId} {cs : List Value} (hb : Blk h b e cs) (o : Nat) : cellH h b o = cs[o]? := by
  unfold cellH; rw [hb]; simp
theorem Blk.froz {h : Array Obj} {b : Nat} {e : TypeId} {cs : List Value} (hb : Blk h b e cs) (o : Nat) : frozH h b o = false := by
  unfold frozH; rw [hb]; simp
theorem Blk.wr {h : Array Obj} {b : Nat} {e : TypeId} {cs : List Value} (hb : Blk h b e cs) {o : Nat} (ho : o < cs.length) : wrH h b o :=
  ⟨⟨cs[o], by rw [hb.cell]; exact List.getElem?_eq_getElem ho⟩, hb.froz o⟩
theorem Blk.wrL {h : Array Obj} {b : Nat} {e : TypeId} {cs : List Value} (hb : Blk h b e cs) : ∀ {vs : List Value} {o : Nat}, o + vs.length ≤ cs.length → wrL h b o vs := by
  intro vs
  induction vs with
  | nil => intro o _; trivial
  | cons v r ih => intro o ho; simp only [List.length_cons] at ho; rw [wrL_cons]; exact ⟨hb.wr (by omega), ih (by omega)⟩
theorem Blk.new (w : World) (e : TypeId) (cs : List Value) : Blk (newW w (.cells ⟨cs⟩ e)).heap w.heap.size e cs := by
  unfold Blk; rw [newW_get]; simp
theorem Blk.set {w : World} {b : Nat} {e : TypeId} {cs : List Value} (hb : Blk w.heap b e cs) (o : Nat) (v : Value) : Blk (setW w b o v).heap b e (cs.set o v) := by
  unfold Blk at *; simp only [setW, setH_get, if_true, hb, Option.map_some, setO]; simp
theorem Blk.sets {b : Nat} {e : TypeId} : ∀ {vs : List Value} {w : World} {cs : List Value} {o : Nat}, Blk w.heap b e cs → Blk (setsW w b o vs).heap b e (segSet cs o vs) := by
  intro vs
  induction vs with
  | nil => intro w cs o h; exact h
  | cons v r ih => intro w cs o h; exact ih (h.set o v)
theorem Blk.keep {S : Nat → Prop} {w w' : World} {b : Nat} {e : TypeId} {cs : List Value} (hb : Blk w.heap b e cs) (h : Ext S w w') (hs : ¬ S b) : Blk w'.heap b e cs := by
  unfold Blk at *; rw [h.block b (Blk.lt hb) hs]; exact hb
theorem Blk.cellsAt {h : Array Obj} {b : Nat} {e : TypeId} {cs : List Value} (hb : Blk h b e cs) {o n : Nat} {vs : List Value} (hv : (cs.drop o).take n = vs) (hn : n = vs.length) : Vc.cellsAt h b o vs := by
  rw [cellsAt_iff]
  intro i hi
  rw [hb.cell, ← hv, List.getElem?_take, if_pos (by omega), List.getElem?_drop]
theorem setW_other {w : World} {b o : Nat} {v : Value} {k : Nat} (h : k ≠ b) : (setW w b o v).heap[k]? = w.heap[k]? := by
  simp only [setW, setH_get]; rw [if_neg (Ne.symm h)]
theorem setsW_other {b k : Nat} (h : k ≠ b) : ∀ {vs : List Value} {w : World} {o : Nat}, (setsW w b o vs).heap[k]? = w.heap[k]? := by
  intro vs
  induction vs with
  | nil => intro w o; rfl
  | cons v r ih => intro w o; exact (ih).trans (setW_other h)
theorem setsW_size {b : Nat} : ∀ {vs : List Value} {w : World} {o : Nat}, (setsW w b o vs).heap.size = w.heap.size := by
  intro vs
  induction vs with
  | nil => intro w o; rfl
  | cons v r ih => intro w o; exact ih.trans (by simp [setW, setH_size])
theorem segSet_eq : ∀ (vs cs : List Value) (o : Nat), o + vs.length ≤ cs.length → segSet cs o vs = cs.take o ++ vs ++ cs.drop (o + vs.length)
  | [], cs, o, h => by simp [segSet]
  | v :: r, cs, o, h => by
    simp only [List.length_cons] at h
    simp only [segSet]
    rw [segSet_eq r _ (o + 1) (by simp; omega)]
    have h1 : (cs.set o v).take (o + 1) = cs.take o ++ [v] := by
      rw [List.take_succ_eq_append_getElem (by simp; omega)]
      simp [List.take_set_of_le (Nat.le_refl o)]
    have h2 : (cs.set o v).drop (o + 1 + r.length) = cs.drop (o + (r.length + 1)) := by
      rw [List.drop_set_of_lt (by omega)]
      congr 1; omega
    rw [h1, h2]
    simp

/-! ### Rows that a slice owns -/
/-- The slice's elements are xs, cell by cell; its array is a block of its own, from place 0 on. -/
def Vec (h : Array Obj) (e : TypeId) (sz : Nat) (a : Option Addr) (l c : Nat) (xs : List Value) : Prop :=
  xs.length = l * sz ∧ l ≤ c ∧ ((a = none ∧ c = 0) ∨ ∃ b cs, a = some ⟨b, 0, none⟩ ∧ Blk h b e cs ∧ cs.length = c * sz ∧ cs.take (l * sz) = xs)
def blkOf : Option Addr → Option Nat
  | some a => some a.block
  | none => none
theorem Vec.nil (h : Array Obj) (e : TypeId) (sz : Nat) : Vec h e sz none 0 0 [] := ⟨by simp, Nat.le_refl _, .inl ⟨rfl, rfl⟩⟩
theorem Vec.keep {S : Nat → Prop} {w w' : World} {e : TypeId} {sz : Nat} {a : Option Addr} {l c : Nat} {xs : List Value} (hv : Vec w.heap e sz a l c xs) (h : Ext S w w') (hs : ∀ b, blkOf a = some b → ¬ S b) : Vec w'.heap e sz a l c xs := by
  obtain ⟨h1, h2, h3⟩ := hv
  refine ⟨h1, h2, ?_⟩
  rcases h3 with h3 | ⟨b, cs, rfl, hb, h4, h5⟩
  · exact .inl h3
  · exact .inr ⟨b, cs, rfl, hb.keep h (hs b rfl), h4, h5⟩
theorem Vec.at {h : Array Obj} {e : TypeId} {sz : Nat} {a : Option Addr} {l c : Nat} {xs : List Value} (hv : Vec h e sz a l c xs) (hl : 0 < l * sz) : ∃ b, a = some ⟨b, 0, none⟩ ∧ cellsAt h b 0 xs ∧ b < h.size := by
  obtain ⟨h1, h2, h3⟩ := hv
  rcases h3 with ⟨rfl, rfl⟩ | ⟨b, cs, rfl, hb, h4, h5⟩
  · have : l = 0 := by omega
    subst this; simp at hl
  · exact ⟨b, rfl, hb.cellsAt (n := l * sz) (by simpa using h5) h1.symm, hb.lt⟩
theorem Vec.lt {h : Array Obj} {e : TypeId} {sz : Nat} {a : Option Addr} {l c : Nat} {xs : List Value} (hv : Vec h e sz a l c xs) : ∀ b, blkOf a = some b → b < h.size := by
  obtain ⟨h1, h2, h3⟩ := hv
  rcases h3 with ⟨rfl, rfl⟩ | ⟨b, cs, rfl, hb, h4, h5⟩
  · intro b h; cases h
  · intro b' h; simp only [blkOf, Option.some.injEq] at h; subst h; exact hb.lt
theorem Vec.new (w : World) (e : TypeId) (sz : Nat) (l : Nat) (cs : List Value) (h : cs.length = l * sz) : Vec (newW w (.cells ⟨cs⟩ e)).heap e sz (some ⟨w.heap.size, 0, none⟩) l l cs :=
  ⟨h, Nat.le_refl _, .inr ⟨_, cs, rfl, Blk.new w e cs, h, by rw [← h, List.take_length]⟩⟩

theorem bytes_le {P : Program} {e : TypeId} {i : TypeInfo} (hi : P.info? e = some i) (w : World) : (typeInfo e).run P w = .ok i w := by
  simp [typeInfo, program, bind, Sem.bind, Sem.run, hi, pure]

def bytesP (P : Program) (e : TypeId) : Option Nat := (P.info? e).map (·.bytes)

/-- append of a slice's elements to a slice of our own. -/
theorem append_run {P : Program} {T T' T'' e : TypeId} {sz by_ : Nat} (hT : P.underlying T = some (.slice e)) (hT' : P.underlying T' = some (.slice e)) (hsz : sizeP P e = some sz)
    (hby : bytesP P e = some by_) (hz : zeroL P e ≠ none) (hzl : ∀ z, zeroL P e = some z → z.length = sz) {w : World} {a : Option Addr} {l c : Nat} {xs ys : List Value} (hv : Vec w.heap e sz a l c xs)
    {a' : Option Addr} {n c' : Nat} (hy : ys.length = n * sz) (hs : ys.all scal = true) (hsrc : n = 0 ∨ ∃ b' o', a' = some ⟨b', o', none⟩ ∧ cellsAt w.heap b' o' ys) (ha0 : n = 0 → a' = none ∨ ∃ b' o', a' = some ⟨b', o', none⟩)
    (hbd : (l + n) * by_ ≤ 70368744177664) (hln : l + n ≤ 70368744177664) :
    ∃ a2 c2 w', (Builtin.append_ #[T, T'] T'' #[.slice a l c, .slice a' n c']).run P w = .ok (.slice a2 (l + n) c2) w' ∧ Vec w'.heap e sz a2 (l + n) c2 (xs ++ ys) ∧
      Ext (fun k => blkOf a = some k) w w' ∧ (a2 = a ∨ a2 = some ⟨w.heap.size, 0, none⟩) := by
  obtain ⟨hxl, hlc, hrow⟩ := hv
  obtain ⟨i, hi, hib⟩ : ∃ i, P.info? e = some i ∧ i.bytes = by_ := by
    unfold bytesP at hby
    cases hp : P.info? e with
    | none => simp [hp] at hby
    | some i => exact ⟨i, rfl, by simpa [hp] using hby⟩
  obtain ⟨z, hz'⟩ : ∃ z, zeroL P e = some z := Option.ne_none_iff_exists'.1 hz
  obtain ⟨v, hv1, hv2⟩ := zero_run hz'
  have hzl' := hzl z hz'
  -- what is appended
  have hnew : ∀ w' : World, (∀ b' o', a' = some ⟨b', o', none⟩ → cellsAt w.heap b' o' ys → cellsAt w'.heap b' o' ys) → (Builtin.firstCells sz n (.slice a' n c')).run P w' = .ok ⟨ys⟩ w' := by
    intro w' hk
    rcases hsrc with h0 | ⟨b', o', rfl, hc'⟩
    · subst h0
      have : ys = [] := by have := hy; simp at this; exact this
      subst this
      rcases ha0 rfl with rfl | ⟨b', o', rfl⟩
      · rfl
      · have : (loadCells ⟨b', o', none⟩ 0).run P w' = .ok ⟨[]⟩ w' := loadCells_run (vs := []) (P := P) (w := w') (b := b') (o := o') trivial
        simpa [Builtin.firstCells] using this
    · have := loadCells_run (P := P) (hk b' o' rfl hc')
      rw [hy] at this
      exact this
  unfold Builtin.append_
  simp only [List.getElem?_toArray, List.getElem?_cons_zero, List.getElem?_cons_succ]
  rw [bind_run (underlying_run hT w)]
  simp only []
  rw [bind_run (sizeOf_run hsz w)]
  rw [bind_run (underlying_run hT' w)]
  simp only []
  rw [bind_run (run_pure P false w)]
  simp only [Bool.false_eq_true, if_false]
  rw [bind_run (show (Builtin.lenOf (.slice a' n c')).run P w = .ok n w from rfl)]
  simp only [Bool.not_false, if_true]
  by_cases hfit : l + n ≤ c
  · rw [if_pos hfit]
    rw [bind_run (hnew w fun _ _ _ h => h)]
    rcases hrow with ⟨rfl, rfl⟩ | ⟨b, cs, rfl, hb, h4, h5⟩
    · have : l = 0 ∧ n = 0 := by omega
      obtain ⟨rfl, rfl⟩ := this
      have : ys = [] := by have := hy; simp at this; exact this
      subst this
      refine ⟨none, 0, w, rfl, ?_, Ext.refl _ _, .inl rfl⟩
      exact ⟨by simpa using hxl, Nat.le_refl _, .inl ⟨rfl, rfl⟩⟩
    · have hle : l * sz + ys.length ≤ cs.length := by
        rw [hy, h4, ← Nat.add_mul]; exact Nat.mul_le_mul_right _ hfit
      refine ⟨some ⟨b, 0, none⟩, c, setsW w b (l * sz) ys, ?_, ?_, ?_, .inl rfl⟩
      · simp only [add_spot, Nat.zero_add]
        rw [bind_run (storeCells_run ys 0 w hs (by rw [Nat.add_zero]; exact hb.wrL hle))]
        rfl
      · refine ⟨by rw [List.length_append, hxl, hy, Nat.add_mul], hfit, .inr ⟨b, segSet cs (l * sz) ys, rfl, hb.sets, by rw [segSet_length, h4], ?_⟩⟩
        rw [segSet_eq ys cs _ hle, h5, Nat.add_mul, ← hy, ← hxl]
        rw [← List.length_append, List.take_left']
        simp
      · exact Ext.vsets (S := fun k => blkOf (some ⟨b, 0, none⟩) = some k) (b := b) (.inl rfl) (Ext.refl _ _)
  · rw [if_neg hfit]
    have h1 : ¬ (((l + n : Nat) : Int) > IntKind.i64.max ∧ (False ∨ i.bytes = 0)) := by
      rw [i64_max]; omega
    rw [bind_run (bytes_le hi w)]
    simp only [h1, if_false]
    have h2 : ¬ (Builtin.nextslicecap (l + n) c * i.bytes > 2 ^ 48) := by
      have := nextslicecap_le (show c < l + n by omega)
      have h3 : Builtin.nextslicecap (l + n) c * i.bytes ≤ 2 * (l + n) * i.bytes := Nat.mul_le_mul_right _ this
      have h4 : 2 * (l + n) * i.bytes = 2 * ((l + n) * by_) := by rw [hib, Nat.mul_assoc]
      omega
    rw [bind_run (bytes_le hi w)]
    simp only [h2, if_false]
    obtain ⟨nc, hnc⟩ : ∃ nc, nc = (Question.appendCap (l + n) c e).cut (w.tape w.drawn (.appendCap (l + n) c e)) := ⟨_, rfl⟩
    have hch : (choose (.appendCap (l + n) c e)).run P w = .ok nc (drewW w) := by
      rw [hnc]; rfl
    have hge : l + n ≤ nc := by rw [hnc]; simp only [Question.cut]; omega
    rw [bind_run hch, bind_run (bytes_le hi (drewW w))]
    rw [bind_run (run_askRoom (w := drewW w) (P := P) (nc * i.bytes))]
    have hold : (Builtin.firstCells sz l (.slice a l c)).run P (drewW w) = .ok ⟨xs⟩ (drewW w) := by
      rcases hrow with ⟨rfl, rfl⟩ | ⟨b, cs, rfl, hb, h4, h5⟩
      · have : l = 0 := by omega
        subst this
        have : xs = [] := by have := hxl; simp at this; exact this
        subst this; rfl
      · have := loadCells_run (P := P) (w := drewW w) (b := b) (o := 0) (vs := xs) (hb.cellsAt (n := l * sz) (by simpa using h5) hxl.symm)
        rw [hxl] at this
        exact this
    rw [bind_run hold, bind_run (hnew (drewW w) fun _ _ _ h => h), bind_run (hv2 (drewW w))]
    have hrest : Builtin.zeroCells v.cells (nc - (l + n)) = ⟨(Builtin.zeroCells v.cells (nc - (l + n))).toList⟩ := rfl
    have hrl : (Builtin.zeroCells v.cells (nc - (l + n))).toList.length = (nc - (l + n)) * sz := by
      simp [Builtin.zeroCells, hv1, hzl']
    generalize hr : (Builtin.zeroCells v.cells (nc - (l + n))).toList = rest at *
    have happ : (⟨xs⟩ ++ ⟨ys⟩ ++ Builtin.zeroCells v.cells (nc - (l + n)) : Array Value) = ⟨xs ++ ys ++ rest⟩ := by
      apply Array.toList_inj.1; simp [hr]
    rw [happ]
    refine ⟨some ⟨w.heap.size, 0, none⟩, nc, newW (drewW w) (.cells ⟨xs ++ ys ++ rest⟩ e), rfl, ?_, ?_, .inr rfl⟩
    · refine ⟨by rw [List.length_append, hxl, hy, Nat.add_mul], hge, .inr ⟨_, xs ++ ys ++ rest, rfl, Blk.new (drewW w) e _, ?_, ?_⟩⟩
      · rw [List.length_append, List.length_append, hxl, hy, hrl, ← Nat.add_mul, ← Nat.add_mul]; congr 1; omega
      · rw [Nat.add_mul, ← hxl, ← hy, ← List.length_append, List.take_left']; rfl
    · exact (Ext.refl _ w).vdrew.vnew _
end Go.Vc

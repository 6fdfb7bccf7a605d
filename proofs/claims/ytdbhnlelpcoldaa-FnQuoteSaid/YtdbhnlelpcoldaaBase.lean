/- Lemmas on memory, numbers and strings for the walks. No statement of the seat is proved here. -/
import Derived.Test.YtdbhnlelpcoldaaVcH
import Derived.Below
import Derived.Laws.Strings
import Derived.Laws.BytesString
namespace Go.Vc
open Go.RowKit
set_option linter.unusedVariables false
set_option linter.unusedSimpArgs false

/-! ### Calls -/
theorem Cl.use {P : Program} {f : FuncId} {args : List Value} {w : World} {R R' : Ending → World → Prop} (h : Cl P f args w R) (hr : ∀ e w', R e w' → R' e w') : Cl P f args w R' := ⟨h.1, h.2.mono hr⟩
/-- It returns v; nothing that was there has changed. -/
def RetB (v : Value) (w : World) : Ending → World → Prop := fun e w' => e = .returned v ∧ Below w.heap.size w w'
theorem Cl.ret {P : Program} {f : FuncId} {args : List Value} {w : World} {v : Value} {F : Value → World → Prop} {Qp : List PanicEntry → World → Prop} (h : Cl P f args w (RetB v w))
    (hF : ∀ w', Below w.heap.size w w' → F v w') : Cl P f args w (retG F Qp) :=
  h.use fun e w' he => by obtain ⟨rfl, hb⟩ := he; exact hF w' hb
theorem RetB.mk {v : Value} {w w' : World} (h : Below w.heap.size w w') : RetB v w (.returned v) w' := ⟨rfl, h⟩

/-! ### Worlds -/
theorem _root_.Go.RowKit.Below.vdrew {B : Nat} {a w : World} (h : Below B a w) : Below B a (drewW w) := ⟨h.os, h.tape, h.output, h.size, h.block⟩
theorem _root_.Go.RowKit.Below.vnew {B : Nat} {a w : World} (h : Below B a w) (hB : B ≤ w.heap.size) (o : Obj) : Below B a (newW w o) :=
  ⟨h.os, h.tape, h.output, by have := h.size; simp only [Vc.newW, Array.size_push]; omega, fun k hk => by
    rw [← h.block k hk]; simp only [Vc.newW, Array.getElem?_push]; rw [if_neg (by omega)]⟩
theorem setH_size (h : Array Obj) (b o : Nat) (v : Value) : (setH h b o v).size = h.size := by simp [setH]
theorem _root_.Go.RowKit.Below.vset {B : Nat} {a w : World} (h : Below B a w) {b o : Nat} (hB : B ≤ b) (v : Value) : Below B a (setW w b o v) :=
  ⟨h.os, h.tape, h.output, by simp only [Vc.setW, setH_size]; exact h.size, fun k hk => by
    rw [← h.block k hk]; simp only [Vc.setW, setH_get]; rw [if_neg (by omega)]⟩
theorem _root_.Go.RowKit.Below.vsets {B : Nat} {a : World} {b : Nat} (hB : B ≤ b) {vs : List Value} : ∀ {w : World} {o : Nat}, Below B a w → Below B a (setsW w b o vs) := by
  induction vs with
  | nil => intro w o h; exact h
  | cons v r ih => intro w o h; exact ih (h.vset hB v)
theorem _root_.Go.RowKit.Below.vstep {w0 w w' : World} (h : Below w0.heap.size w0 w) (h' : Below w.heap.size w w') : Below w0.heap.size w0 w' :=
  h.trans (h'.mono h.size)
theorem _root_.Go.RowKit.Below.vcell {B : Nat} {w w' : World} (h : Below B w w') {b : Nat} (hb : b < B) (o : Nat) : cellH w'.heap b o = cellH w.heap b o := by
  unfold Vc.cellH; rw [h.block b hb]
theorem newW_get (w : World) (o : Obj) (k : Nat) : (newW w o).heap[k]? = if k = w.heap.size then some o else w.heap[k]? := by
  simp only [newW, Array.getElem?_push]
theorem cellH_new (w : World) (cs : Array Value) (t : TypeId) (o : Nat) : Vc.cellH (newW w (.cells cs t)).heap w.heap.size o = cs[o]? := by
  unfold Vc.cellH; rw [newW_get]; simp
theorem cellsAt_all {h : Array Obj} {b : Nat} {vs : List Value} (hh : ∀ i, i < vs.length → Vc.cellH h b i = vs[i]?) : cellsAt h b 0 vs :=
  (cellsAt_iff vs 0).2 fun i hi => by rw [Nat.zero_add]; exact hh i hi

/-! ### Numbers -/
theorem w64 {n : Int} (h : -9223372036854775808 ≤ n ∧ n ≤ 9223372036854775807) : IntKind.wrap .i64 n = n := by
  have h1 : (2 ^ IntKind.i64.bits : Int) = 18446744073709551616 := by decide
  have h2 : (2 ^ (IntKind.i64.bits - 1) : Int) = 9223372036854775808 := by decide
  have h3 : IntKind.i64.signed = true := rfl
  unfold IntKind.wrap
  simp only [h1, h2, h3, Bool.true_and, decide_eq_true_eq]
  split <;> omega
theorem w8 (n : Int) : IntKind.wrap .u8 n = n % 256 := by
  have h1 : (2 ^ IntKind.u8.bits : Int) = 256 := by decide
  have h3 : IntKind.u8.signed = false := rfl
  unfold IntKind.wrap
  simp only [h1, h3, Bool.false_and, Bool.false_eq_true, if_false]

/-! ### Strings as lists of bytes -/
abbrev Bytes := List UInt8
def B (l : Bytes) : ByteArray := ⟨l.toArray⟩
def L (s : ByteArray) : Bytes := s.data.toList
@[simp] theorem L_B (l : Bytes) : L (B l) = l := by simp [L, B]
@[simp] theorem B_L (s : ByteArray) : B (L s) = s := by simp [L, B]
theorem size_L (s : ByteArray) : s.size = (L s).length := by simp [L]
theorem size_B (l : Bytes) : (B l).size = l.length := by simp [size_L]
theorem L_inj {s t : ByteArray} (h : L s = L t) : s = t := by rw [← B_L s, h, B_L]
theorem L_append (s t : ByteArray) : L (s ++ t) = L s ++ L t := by simp [L]
theorem B_append (l m : Bytes) : B l ++ B m = B (l ++ m) := L_inj (by simp [L_append])
theorem L_extract (s : ByteArray) (a b : Nat) : L (s.extract a b) = ((L s).drop a).take (b - a) := by
  simp [L, ByteArray.data_extract, List.extract_eq_take_drop]
theorem byteAt_L (s : ByteArray) (i : Nat) : byteAt s i = (((L s).getD i 0).toNat : Int) := rfl
theorem toList_eq (s : ByteArray) : s.toList = L s := ByteArray.toList_eq s
def u8s (l : Bytes) : List Value := l.map fun x => .int .u8 (x.toNat : Int)
theorem foldl_push (l : Bytes) : ∀ (r : ByteArray), (l.map fun x : UInt8 => (x.toNat : Int)).foldl (fun r n => r.push (UInt8.ofNat n.toNat)) r = r ++ B l := by
  induction l with
  | nil => intro r; apply L_inj; simp [L_append]
  | cons x l ih =>
    intro r
    simp only [List.map_cons, List.foldl_cons, Int.toNat_natCast, UInt8.ofNat_toNat]
    rw [ih]
    apply L_inj
    simp [L_append, L, B]
/-- A slice of bytes becomes a string. -/
theorem conv_run {P : Program} {src dst e : TypeId} (hs : P.underlying src = some (.slice e)) (hd : P.underlying dst = some .string) (he : P.underlying e = some (.int .u8)) {w : World} {b o n c : Nat} {l : Bytes}
    (hn : n = l.length) (h : cellsAt w.heap b o (u8s l)) : (convert src dst (.slice (some ⟨b, o, none⟩) n c)).run P w = .ok (.string (B l)) w := by
  unfold convert
  rw [bind_run (underlying_run hs w), bind_run (underlying_run hd w)]
  simp only []
  rw [bind_run (underlying_run he w)]
  have h1 : (loadCells ⟨b, o, none⟩ n).run P w = .ok ((l.map fun x : UInt8 => (x.toNat : Int)).map (Value.int .u8)).toArray w := by
    have h2 := loadCells_run (P := P) h
    have h3 : (u8s l).length = n := by simp [u8s, hn]
    rw [h3] at h2
    rw [h2]
    simp [u8s]
  simp only []
  rw [run_bytesToString w _ n c _ h1, foldl_push]
  congr 2
theorem conv_nil {P : Program} {src dst e : TypeId} (hs : P.underlying src = some (.slice e)) (hd : P.underlying dst = some .string) (he : P.underlying e = some (.int .u8)) {w : World} {n c : Nat} :
    (convert src dst (.slice none n c)).run P w = .ok (.string (B [])) w := by
  unfold convert
  rw [bind_run (underlying_run hs w), bind_run (underlying_run hd w)]
  simp only []
  rw [bind_run (underlying_run he w)]
  rfl
theorem cellsAt_newW (w : World) (cs : List Value) (t : TypeId) : cellsAt (newW w (.cells ⟨cs⟩ t)).heap w.heap.size 0 cs :=
  cellsAt_all fun i hi => by rw [cellH_new]; simp
end Go.Vc

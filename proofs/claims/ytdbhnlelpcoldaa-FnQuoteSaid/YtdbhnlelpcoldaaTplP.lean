/- What ReadTemplate reads: plain lists, no program in sight. No statement of the seat is proved here. -/
import Derived.Test.YtdbhnlelpcoldaaUnqP
namespace Go.Vc
set_option linter.unusedVariables false
set_option linter.unusedSimpArgs false
abbrev Bits := List (Int × Bytes)
def bitC (b : Int × Bytes) : List Value := [.int .i64 b.1, .string (B b.2)]
def bitsC (l : Bits) : List Value := l.flatMap bitC
theorem bitsC_append (l m : Bits) : bitsC (l ++ m) = bitsC l ++ bitsC m := by simp [bitsC]
theorem bitsC_one (b : Int × Bytes) : bitsC [b] = bitC b := by simp [bitsC]
theorem bitsC_length (l : Bits) : (bitsC l).length = l.length * 2 := by
  induction l with
  | nil => rfl
  | cons b r ih => rw [show b :: r = [b] ++ r from rfl, bitsC_append, List.length_append, ih, bitsC_one]; simp [bitC]; omega
theorem bitsC_at : ∀ (l : Bits) (i : Nat) (h : i < l.length), (bitsC l)[i * 2]? = some (.int .i64 l[i].1) ∧ (bitsC l)[i * 2 + 1]? = some (.string (B l[i].2))
  | b :: r, 0, h => by simp [bitsC, bitC]
  | b :: r, i + 1, h => by
    have := bitsC_at r i (by simpa using h)
    have hc : bitsC (b :: r) = bitC b ++ bitsC r := by simp [bitsC]
    rw [hc]
    have hl : (bitC b).length = 2 := rfl
    rw [List.getElem?_append_right (by rw [hl]; omega), List.getElem?_append_right (by rw [hl]; omega), hl]
    rw [show (i + 1) * 2 - 2 = i * 2 from by omega, show (i + 1) * 2 + 1 - 2 = i * 2 + 1 from by omega]
    simpa using this
theorem bitsC_scal (l : Bits) : (bitsC l).all scal = true := by
  simp only [bitsC, List.all_flatMap, List.all_eq_true]
  intro b _ v hv
  simp only [bitC, List.mem_cons, List.not_mem_nil, or_false] at hv
  rcases hv with rfl | rfl <;> rfl
def fl (pl : Bytes) (bs : Bits) : Bits := if pl = [] then bs else bs ++ [(-1, pl)]
/-- From place i on: what is plain yet, what is read yet. -/
def tpl (l : Bytes) (i : Nat) (pl : Bytes) (bs : Bits) : Bool × Nat × Bits :=
  if h : i < l.length then
    if at_ l i ≠ 36 then tpl l (i + 1) (pl ++ [l.getD i 0]) bs
    else if i + 1 = l.length then (false, i + 1, [])
    else if at_ l (i + 1) = 36 then tpl l (i + 2) (pl ++ [36]) bs
    else if at_ l (i + 1) < 48 ∨ 57 < at_ l (i + 1) then (false, i + 1, [])
    else tpl l (i + 2) [] (fl pl bs ++ [((at_ l (i + 1) : Int) - 48, [])])
  else (true, 0, fl pl bs)
  termination_by l.length - i
  decreasing_by all_goals omega
def tplT (l : Bytes) : Bool × Nat × Bits := if 100 < l.length then (false, 100, []) else tpl l 0 [] []
theorem extract_one (s : ByteArray) {i : Nat} (h : i < s.size) : s.extract i (i + 1) = B [(L s).getD i 0] := by
  apply L_inj
  rw [L_extract, L_B, show i + 1 - i = 1 from by omega]
  rw [size_L] at h
  rw [List.drop_eq_getElem_cons h, List.take_succ_cons, List.take_zero]
  simp [List.getD, h]
end Go.Vc

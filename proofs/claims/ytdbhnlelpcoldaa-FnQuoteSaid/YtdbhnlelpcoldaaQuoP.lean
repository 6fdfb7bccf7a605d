/- What Quote writes: plain lists, no program in sight. No statement of the seat is proved here. -/
import Derived.Test.YtdbhnlelpcoldaaEscP
namespace Go.Vc
set_option linter.unusedVariables false
set_option linter.unusedSimpArgs false
def quoB (n : Nat) : Bytes := if n = 10 then [92, 110] else if n = 9 then [92, 116] else if n = 34 ∨ n = 92 then [92, UInt8.ofNat n] else if n < 32 ∨ 126 < n then [92, 120, hexd (n / 16), hexd (n % 16)] else [UInt8.ofNat n]
def quoL (l : Bytes) : Bytes := 34 :: l.flatMap fun c => quoB c.toNat
def quoT (l : Bytes) : Bytes := if l.length > 200 then [] else quoL l ++ [34]
theorem quoB_len (n : Nat) : 1 ≤ (quoB n).length ∧ (quoB n).length ≤ 4 := by
  unfold quoB
  repeat' split
  all_goals simp
theorem quoL_snoc (l : Bytes) (i : Nat) (h : i < l.length) : quoL (l.take (i + 1)) = quoL (l.take i) ++ quoB (l.getD i 0).toNat := by
  unfold quoL
  rw [List.take_succ_eq_append_getElem h, List.flatMap_append]
  simp [List.getD_eq_getElem?_getD, List.getElem?_eq_getElem h]
theorem quoL_len (l : Bytes) (i : Nat) (h : i ≤ l.length) : (quoL (l.take i)).length ≤ 4 * i + 1 := by
  induction i with
  | zero => simp [quoL]
  | succ i ih =>
    rw [quoL_snoc l i (by omega), List.length_append]
    have := ih (by omega)
    have := quoB_len (l.getD i 0).toNat
    omega
theorem and15u (n : Int) (h : 0 ≤ n ∧ n ≤ 255) : IntKind.wrap .u8 (((BitVec.ofInt 8 n &&& BitVec.ofInt 8 15).toNat : Int)) = n % 16 := by
  have : ∀ k : Fin 256, IntKind.wrap .u8 (((BitVec.ofInt 8 (k.val : Int) &&& BitVec.ofInt 8 15).toNat : Int)) = (k.val : Int) % 16 := by decide +kernel
  have := this ⟨n.toNat, by omega⟩
  simpa [Int.toNat_of_nonneg h.1] using this
theorem shr4u (n : Int) (h : 0 ≤ n ∧ n ≤ 255) : Int.fdiv n (2 ^ (min (Int.toNat 4) 8)) = n / 16 := by
  have e : (2 : Int) ^ (min (Int.toNat 4) 8) = 16 := by decide
  rw [e, Int.fdiv_eq_ediv_of_nonneg _ (by decide)]
theorem quo16u (n : Int) (h : 0 ≤ n ∧ n ≤ 255) : IntKind.wrap .u8 (Int.tdiv n 16) = n / 16 := by
  rw [w8, Int.tdiv_eq_ediv_of_nonneg h.1]; omega
theorem rem16 (n : Int) (h : 0 ≤ n ∧ n ≤ 255) : Int.tmod n 16 = n % 16 := Int.tmod_eq_emod_of_nonneg h.1
theorem hexS_size : ((ByteArray.size hexS : Nat) : Int) = 16 := by decide
end Go.Vc

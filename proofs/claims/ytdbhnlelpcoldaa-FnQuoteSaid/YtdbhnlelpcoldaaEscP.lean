/- What Escape writes of a byte and of a text: plain lists, no program in sight. No statement of the seat is proved here. -/
import Derived.Test.YtdbhnlelpcoldaaBase
namespace Go.Vc
set_option linter.unusedVariables false
set_option linter.unusedSimpArgs false
def hexd (n : Nat) : UInt8 := if n < 10 then UInt8.ofNat (48 + n) else UInt8.ofNat (87 + n)
def plainB (n : Nat) : Bool := (48 ≤ n && n ≤ 57) || (97 ≤ n && n ≤ 122) || (65 ≤ n && n ≤ 90) || n == 95 || n == 44 || n == 58 || n == 61
def escB (n : Nat) : Bytes := if n < 33 ∨ 126 < n then [92, 120, hexd (n / 16), hexd (n % 16)] else if plainB n then [UInt8.ofNat n] else [92, UInt8.ofNat n]
def escL (l : Bytes) : Bytes := l.flatMap fun c => escB c.toNat
theorem escB_hex {n : Nat} (h : n < 33 ∨ 126 < n) : escB n = [92, 120, hexd (n / 16), hexd (n % 16)] := if_pos h
theorem escB_id {n : Nat} (h : ¬ (n < 33 ∨ 126 < n)) (h' : (48 ≤ n ∧ n ≤ 57) ∨ (97 ≤ n ∧ n ≤ 122) ∨ (65 ≤ n ∧ n ≤ 90) ∨ n = 95 ∨ n = 44 ∨ n = 58 ∨ n = 61) : escB n = [UInt8.ofNat n] := by
  unfold escB
  rw [if_neg h, if_pos]
  unfold plainB
  simp only [Bool.or_eq_true, Bool.and_eq_true, decide_eq_true_eq, beq_iff_eq]
  omega
theorem escB_bs {n : Nat} (h : ¬ (n < 33 ∨ 126 < n)) (h' : ¬ ((48 ≤ n ∧ n ≤ 57) ∨ (97 ≤ n ∧ n ≤ 122) ∨ (65 ≤ n ∧ n ≤ 90) ∨ n = 95 ∨ n = 44 ∨ n = 58 ∨ n = 61)) : escB n = [92, UInt8.ofNat n] := by
  unfold escB
  rw [if_neg h, if_neg]
  unfold plainB
  simp only [Bool.or_eq_true, Bool.and_eq_true, decide_eq_true_eq, beq_iff_eq]
  omega
theorem escB_len (n : Nat) : 1 ≤ (escB n).length ∧ (escB n).length ≤ 4 := by
  unfold escB
  split
  · simp
  · split <;> simp
def hexS : ByteArray := ⟨#[48, 49, 50, 51, 52, 53, 54, 55, 56, 57, 97, 98, 99, 100, 101, 102]⟩
theorem hex_at (k : Nat) (h : k < 16) : byteAt hexS k = ((hexd k).toNat : Int) := by
  have : ∀ k : Fin 16, byteAt hexS k.val = ((hexd k.val).toNat : Int) := by decide +kernel
  exact this ⟨k, h⟩
theorem hex_sub (k : Nat) (h : k < 16) : hexS.extract k (k + 1) = B [hexd k] := by
  apply L_inj
  have : ∀ k : Fin 16, ((L hexS).drop k.val).take (k.val + 1 - k.val) = [hexd k.val] := by decide +kernel
  rw [L_extract, this ⟨k, h⟩, L_B]
theorem and15 (n : Int) (h : 0 ≤ n ∧ n ≤ 255) : IntKind.wrap .i64 (((BitVec.ofInt 64 n &&& BitVec.ofInt 64 15).toNat : Int)) = n % 16 := by
  have : ∀ k : Fin 256, IntKind.wrap .i64 (((BitVec.ofInt 64 (k.val : Int) &&& BitVec.ofInt 64 15).toNat : Int)) = (k.val : Int) % 16 := by decide +kernel
  have := this ⟨n.toNat, by omega⟩
  simpa [Int.toNat_of_nonneg h.1] using this
theorem shr4 (n : Int) (h : 0 ≤ n ∧ n ≤ 255) : Int.fdiv n (2 ^ (min (Int.toNat 4) 64)) = n / 16 := by
  have e : (2 : Int) ^ (min (Int.toNat 4) 64) = 16 := by decide
  rw [e, Int.fdiv_eq_ediv_of_nonneg _ (by decide)]
end Go.Vc

/- Parts of a proof, put together: definitions, formulas of Go functions and lemmas. No statement of the seat is proved here. -/
import Derived.Laws.IdiomStrings
import Derived.Test.YtngbiaeliphdjaaProg
import Derived.Laws.StructEq
import Derived.Test.YtngbiaeliphdjaaRdE
/- What Escape writes of a byte and of a text: plain lists, no program in sight. No statement of the seat is proved here. -/
namespace Go.Vc
set_option linter.unusedVariables false
set_option linter.unusedSimpArgs false
def hexd (n : Nat) : UInt8 := if n < 10 then UInt8.ofNat (48 + n) else UInt8.ofNat (87 + n)
def plainB (n : Nat) : Bool := (48 ≤ n && n ≤ 57) || (97 ≤ n && n ≤ 122) || (65 ≤ n && n ≤ 90) || n == 95 || n == 44 || n == 58 || n == 61
def escB (n : Nat) : Bytes := if n < 33 ∨ 126 < n then [92, 120, hexd (n / 16), hexd (n % 16)] else if plainB n then [UInt8.ofNat n] else [92, UInt8.ofNat n]
def escL (l : Bytes) : Bytes := l.flatMap fun c => escB c.toNat
theorem escB_hex {n : Nat} (h : n < 33 ∨ 126 < n) : escB n = [92, 120, hexd (n / 16), hexd (n % 16)] := if_pos h
theorem escB_id {n : Nat} (h : ¬ (n < 33 ∨ 126 < n)) (h' : (48 ≤ n ∧ n ≤ 57) ∨ (97 ≤ n ∧ n ≤ 122) ∨ (65 ≤ n ∧ n ≤ 90) ∨ n = 95 ∨ n = 44 ∨ n = 58 ∨ n = 61) : escB n = [UInt8.ofNat n] := by
  unfold escB
  rw [if_neg h, if_pos]
  unfold plainB
  simp only [Bool.or_eq_true, Bool.and_eq_true, decide_eq_true_eq, beq_iff_eq]
  omega
theorem escB_bs {n : Nat} (h : ¬ (n < 33 ∨ 126 < n)) (h' : ¬ ((48 ≤ n ∧ n ≤ 57) ∨ (97 ≤ n ∧ n ≤ 122) ∨ (65 ≤ n ∧ n ≤ 90) ∨ n = 95 ∨ n = 44 ∨ n = 58 ∨ n = 61)) : escB n = [92, UInt8.ofNat n] := by
  unfold escB
  rw [if_neg h, if_neg]
  unfold plainB
  simp only [Bool.or_eq_true, Bool.and_eq_true, decide_eq_true_eq, beq_iff_eq]
  omega
theorem escB_len (n : Nat) : 1 ≤ (escB n).length ∧ (escB n).length ≤ 4 := by
  unfold escB
  split
  · simp
  · split <;> simp
def hexS : ByteArray := ⟨#[48, 49, 50, 51, 52, 53, 54, 55, 56, 57, 97, 98, 99, 100, 101, 102]⟩
theorem hex_at (k : Nat) (h : k < 16) : byteAt hexS k = ((hexd k).toNat : Int) := by
  have : ∀ k : Fin 16, byteAt hexS k.val = ((hexd k.val).toNat : Int) := by decide +kernel
  exact this ⟨k, h⟩
theorem hex_sub (k : Nat) (h : k < 16) : hexS.extract k (k + 1) = B [hexd k] := by
  apply L_inj
  have : ∀ k : Fin 16, ((L hexS).drop k.val).take (k.val + 1 - k.val) = [hexd k.val] := by decide +kernel
  rw [L_extract, this ⟨k, h⟩, L_B]
theorem and15 (n : Int) (h : 0 ≤ n ∧ n ≤ 255) : IntKind.wrap .i64 (((BitVec.ofInt 64 n &&& BitVec.ofInt 64 15).toNat : Int)) = n % 16 := by
  have : ∀ k : Fin 256, IntKind.wrap .i64 (((BitVec.ofInt 64 (k.val : Int) &&& BitVec.ofInt 64 15).toNat : Int)) = (k.val : Int) % 16 := by decide +kernel
  have := this ⟨n.toNat, by omega⟩
  simpa [Int.toNat_of_nonneg h.1] using this
theorem shr4 (n : Int) (h : 0 ≤ n ∧ n ≤ 255) : Int.fdiv n (2 ^ (min (Int.toNat 4) 64)) = n / 16 := by
  have e : (2 : Int) ^ (min (Int.toNat 4) 64) = 16 := by decide
  rw [e, Int.fdiv_eq_ediv_of_nonneg _ (by decide)]
end Go.Vc
/- The walks of Escape, in the program and in the reference: both return the plain function's text. No statement of the seat is proved here. -/
namespace Go.Proofs.Ytngbiaeliphdjaa.V
open Go.Vc Go.Proofs Go.RowKit
set_option linter.unusedVariables false
set_option linter.unusedSimpArgs false

theorem strOf {x : Int} {y : UInt8} (h : x = (y.toNat : Int)) {w0 w : World} (hb : Below w0.heap.size w0 w) {F : ByteArray → World → Prop}
    (hF : ∀ w', Below w0.heap.size w0 w' → F (B [y]) w') :
    newC [.int .u8 x] 5 (fun (b : Nat) (w1 : World) => ∃ (s : ByteArray), (convert 22 9 (.slice (some ⟨b, 0, none⟩) 1 1)).run Try.prog w1 = .ok (.string s) w1 ∧ F s w1) w := by
  subst h
  have hb' : Below w0.heap.size w0 (newW w (.cells ⟨[.int .u8 (y.toNat : Int)]⟩ 5)) := hb.vnew (by have := hb.size; omega) _
  exact ⟨B [y], conv_run Try.underlying22 Try.underlying9 Try.underlying5 (l := [y]) rfl (cellsAt_newW w _ _), hF _ hb'⟩
theorem strOf2 {x x' : Int} {y y' : UInt8} (h : x = (y.toNat : Int)) (h' : x' = (y'.toNat : Int)) {w0 w : World} (hb : Below w0.heap.size w0 w) {F : ByteArray → World → Prop}
    (hF : ∀ w', Below w0.heap.size w0 w' → F (B [y, y']) w') :
    newC [.int .u8 x, .int .u8 x'] 5 (fun (b : Nat) (w1 : World) => ∃ (s : ByteArray), (convert 22 9 (.slice (some ⟨b, 0, none⟩) 2 2)).run Try.prog w1 = .ok (.string s) w1 ∧ F s w1) w := by
  subst h; subst h'
  have hb' : Below w0.heap.size w0 (newW w (.cells ⟨[.int .u8 (y.toNat : Int), .int .u8 (y'.toNat : Int)]⟩ 5)) := hb.vnew (by have := hb.size; omega) _
  exact ⟨B [y, y'], conv_run Try.underlying22 Try.underlying9 Try.underlying5 (l := [y, y']) rfl (cellsAt_newW w _ _), hF _ hb'⟩
theorem u8_of {n : Int} (h : 0 ≤ n ∧ n ≤ 255) : IntKind.wrap .u8 n = ((UInt8.ofNat n.toNat).toNat : Int) := by
  rw [w8]
  simp
  omega

theorem l1byte_ok (n : Int) (h : 0 ≤ n ∧ n ≤ 255) (w : World) : Cl Try.prog 84 [.int .i64 n] w (RetB (.string (B (escB n.toNat))) w) := by
  apply vc84
  unfold V84
  have hb : Below w.heap.size w w := Below.refl _ _
  have hexleaf : (n < 33 ∨ 126 < n) → ∀ w2, Below w.heap.size w w2 → ((16 : Int) ≠ 0) ∧ ((16 : Int) ≠ 0) ∧ (0 ≤ (IntKind.wrap .i64 (Int.tdiv n 16) : Int) ∧ (IntKind.wrap .i64 (Int.tdiv n 16) : Int) ≤ (IntKind.wrap .i64 ((IntKind.wrap .i64 (Int.tdiv n 16)) + 1)) ∧ (IntKind.wrap .i64 ((IntKind.wrap .i64 (Int.tdiv n 16)) + 1) : Int) ≤ ((ByteArray.size hexS : Nat) : Int)) ∧ ((⟨#[92, 120]⟩ : ByteArray).size + (ByteArray.extract hexS (Int.toNat (IntKind.wrap .i64 (Int.tdiv n 16))) (Int.toNat (IntKind.wrap .i64 ((IntKind.wrap .i64 (Int.tdiv n 16)) + 1)))).size ≤ 9223372036854775807) ∧ ((16 : Int) ≠ 0) ∧ ((16 : Int) ≠ 0) ∧ (0 ≤ (Int.tmod n 16 : Int) ∧ (Int.tmod n 16 : Int) ≤ (IntKind.wrap .i64 ((Int.tmod n 16) + 1)) ∧ (IntKind.wrap .i64 ((Int.tmod n 16) + 1) : Int) ≤ ((ByteArray.size hexS : Nat) : Int)) ∧ (((⟨#[92, 120]⟩ : ByteArray) ++ (ByteArray.extract hexS (Int.toNat (IntKind.wrap .i64 (Int.tdiv n 16))) (Int.toNat (IntKind.wrap .i64 ((IntKind.wrap .i64 (Int.tdiv n 16)) + 1))))).size + (ByteArray.extract hexS (Int.toNat (Int.tmod n 16)) (Int.toNat (IntKind.wrap .i64 ((Int.tmod n 16) + 1)))).size ≤ 9223372036854775807) ∧ RetB (.string (B (escB n.toNat))) w (.returned (.string (((⟨#[92, 120]⟩ : ByteArray) ++ (ByteArray.extract hexS (Int.toNat (IntKind.wrap .i64 (Int.tdiv n 16))) (Int.toNat (IntKind.wrap .i64 ((IntKind.wrap .i64 (Int.tdiv n 16)) + 1))))) ++ (ByteArray.extract hexS (Int.toNat (Int.tmod n 16)) (Int.toNat (IntKind.wrap .i64 ((Int.tmod n 16) + 1))))))) w2 := by
    intro hn w2 hb2
    have e1 : Int.tdiv n 16 = n / 16 := Int.tdiv_eq_ediv_of_nonneg h.1
    have e2 : Int.tmod n 16 = n % 16 := Int.tmod_eq_emod_of_nonneg h.1
    have e3 : IntKind.wrap .i64 (n / 16) = n / 16 := w64 (by omega)
    have e4 : IntKind.wrap .i64 (n / 16 + 1) = n / 16 + 1 := w64 (by omega)
    have e5 : IntKind.wrap .i64 (n % 16 + 1) = n % 16 + 1 := w64 (by omega)
    rw [e1, e2, e3, e4, e5]
    have s1 : hexS.extract (n / 16).toNat (n / 16 + 1).toNat = B [hexd (n / 16).toNat] := by
      have : (n / 16 + 1).toNat = (n / 16).toNat + 1 := by omega
      rw [this]; exact hex_sub _ (by omega)
    have s2 : hexS.extract (n % 16).toNat (n % 16 + 1).toNat = B [hexd (n % 16).toNat] := by
      have : (n % 16 + 1).toNat = (n % 16).toNat + 1 := by omega
      rw [this]; exact hex_sub _ (by omega)
    rw [s1, s2]
    have hs : ((ByteArray.size hexS : Nat) : Int) = 16 := by decide
    rw [hs]
    refine ⟨by decide, by decide, ⟨by omega, by omega, by omega⟩, by rw [size_B]; show 2 + 1 ≤ _; decide, by decide, by decide, ⟨by omega, by omega, by omega⟩, ?_, ?_⟩
    · rw [show (⟨#[92, 120]⟩ : ByteArray) = B [92, 120] from rfl, B_append, size_B, size_B]; simp
    · refine ⟨?_, hb2⟩
      rw [show (⟨#[92, 120]⟩ : ByteArray) = B [92, 120] from rfl, B_append, B_append, escB_hex (by omega)]
      have t1 : (n / 16).toNat = n.toNat / 16 := by omega
      have t2 : (n % 16).toNat = n.toNat % 16 := by omega
      rw [t1, t2]
      rfl
  refine ⟨fun h1 => ?_, fun h1 => ⟨fun h2 => ?_, fun h2 => ?_⟩⟩
  · exact hexleaf (.inl (of_decide_eq_true h1)) _ hb.vdrew
  · exact hexleaf (.inr (of_decide_eq_true h2)) _ hb.vdrew
  · have g1 : ¬ n < 33 := of_decide_eq_false h1
    have g2 : ¬ n > 126 := of_decide_eq_false h2
    have idl : ((48 ≤ n ∧ n ≤ 57) ∨ (97 ≤ n ∧ n ≤ 122) ∨ (65 ≤ n ∧ n ≤ 90) ∨ n = 95 ∨ n = 44 ∨ n = 58 ∨ n = 61) → newC [.int .u8 (IntKind.wrap .u8 n)] 5 (fun (b4 : Nat) (w5 : World) => ∃ (s6 : ByteArray), (convert 22 9 (.slice (some ⟨b4, 0, none⟩) 1 1)).run Try.prog w5 = .ok (.string s6) w5 ∧ RetB (.string (B (escB n.toNat))) w (.returned (.string s6)) w5) w := fun hn =>
      strOf (u8_of h) hb fun w' hb' => ⟨by rw [escB_id (by omega) (by omega)], hb'⟩
    have bsl : (¬ ((48 ≤ n ∧ n ≤ 57) ∨ (97 ≤ n ∧ n ≤ 122) ∨ (65 ≤ n ∧ n ≤ 90) ∨ n = 95 ∨ n = 44 ∨ n = 58 ∨ n = 61)) → newC [.int .u8 (IntKind.wrap .u8 n)] 5 (fun (b4 : Nat) (w5 : World) => ∃ (s6 : ByteArray), (convert 22 9 (.slice (some ⟨b4, 0, none⟩) 1 1)).run Try.prog w5 = .ok (.string s6) w5 ∧ ((⟨#[92]⟩ : ByteArray).size + s6.size ≤ 9223372036854775807) ∧ RetB (.string (B (escB n.toNat))) w (.returned (.string ((⟨#[92]⟩ : ByteArray) ++ s6))) w5) w := fun hn =>
      strOf (u8_of h) hb fun w' hb' => ⟨by rw [size_B]; simp; decide, by rw [show (⟨#[92]⟩ : ByteArray) = B [92] from rfl, B_append, escB_bs (by omega) (by omega)]; rfl, hb'⟩
    simp only [cB, decide_eq_true_eq, decide_eq_false_iff_not, beq_iff_eq, beq_eq_false_iff_ne, ne_eq]
    repeat' (first | exact idl (by omega) | exact bsl (by omega) | apply And.intro | intro _)

theorem byteText_ok (n : Int) (h : 0 ≤ n ∧ n ≤ 255) (w : World) : Cl Try.prog 83 [.int .i64 n] w (RetB (.string (B (escB n.toNat))) w) := by
  apply vc83
  unfold V83
  have hb : Below w.heap.size w w := Below.refl _ _
  have hexleaf : (n < 33 ∨ 126 < n) → ∀ w2, Below w.heap.size w w2 → ((0 : Int) ≤ 4) ∧ (0 ≤ (Int.fdiv n (2 ^ (min (Int.toNat 4) 64)) : Int) ∧ (Int.fdiv n (2 ^ (min (Int.toNat 4) 64)) : Int) < ((ByteArray.size hexS : Nat) : Int)) ∧ (0 ≤ (IntKind.wrap .i64 (((BitVec.ofInt 64 n &&& BitVec.ofInt 64 15).toNat : Int)) : Int) ∧ (IntKind.wrap .i64 (((BitVec.ofInt 64 n &&& BitVec.ofInt 64 15).toNat : Int)) : Int) < ((ByteArray.size hexS : Nat) : Int)) ∧ newC [.int .u8 (byteAt hexS (Int.toNat (Int.fdiv n (2 ^ (min (Int.toNat 4) 64))))), .int .u8 (byteAt hexS (Int.toNat (IntKind.wrap .i64 (((BitVec.ofInt 64 n &&& BitVec.ofInt 64 15).toNat : Int)))))] 5 (fun (b3 : Nat) (w4 : World) => ∃ (s5 : ByteArray), (convert 22 9 (.slice (some ⟨b3, 0, none⟩) 2 2)).run Try.prog w4 = .ok (.string s5) w4 ∧ ((⟨#[92, 120]⟩ : ByteArray).size + s5.size ≤ 9223372036854775807) ∧ RetB (.string (B (escB n.toNat))) w (.returned (.string ((⟨#[92, 120]⟩ : ByteArray) ++ s5))) w4) w2 := by
    intro hn w2 hb2
    rw [shr4 n h, and15 n h]
    have hs : ((ByteArray.size hexS : Nat) : Int) = 16 := by decide
    rw [hs]
    refine ⟨by decide, ⟨by omega, by omega⟩, ⟨by omega, by omega⟩, ?_⟩
    refine strOf2 (hex_at _ (by omega)) (hex_at _ (by omega)) hb2 fun w' hb' => ⟨by rw [size_B]; show 2 + 2 ≤ _; decide, ?_, hb'⟩
    rw [show (⟨#[92, 120]⟩ : ByteArray) = B [92, 120] from rfl, B_append, escB_hex (by omega)]
    have t1 : (n / 16).toNat = n.toNat / 16 := by omega
    have t2 : (n % 16).toNat = n.toNat % 16 := by omega
    rw [t1, t2]
    rfl
  refine ⟨fun h1 => ?_, fun h1 => ⟨fun h2 => ?_, fun h2 => ?_⟩⟩
  · exact hexleaf (.inl (of_decide_eq_true h1)) _ hb.vdrew
  · exact hexleaf (.inr (of_decide_eq_true h2)) _ hb.vdrew
  · have g1 : ¬ n < 33 := of_decide_eq_false h1
    have g2 : ¬ n > 126 := of_decide_eq_false h2
    have idl : ((48 ≤ n ∧ n ≤ 57) ∨ (97 ≤ n ∧ n ≤ 122) ∨ (65 ≤ n ∧ n ≤ 90) ∨ n = 95 ∨ n = 44 ∨ n = 58 ∨ n = 61) → newC [.int .u8 (IntKind.wrap .u8 n)] 5 (fun (b4 : Nat) (w5 : World) => ∃ (s6 : ByteArray), (convert 22 9 (.slice (some ⟨b4, 0, none⟩) 1 1)).run Try.prog w5 = .ok (.string s6) w5 ∧ RetB (.string (B (escB n.toNat))) w (.returned (.string s6)) w5) w := fun hn =>
      strOf (u8_of h) hb fun w' hb' => ⟨by rw [escB_id (by omega) (by omega)], hb'⟩
    have bsl : (¬ ((48 ≤ n ∧ n ≤ 57) ∨ (97 ≤ n ∧ n ≤ 122) ∨ (65 ≤ n ∧ n ≤ 90) ∨ n = 95 ∨ n = 44 ∨ n = 58 ∨ n = 61)) → newC [.int .u8 (IntKind.wrap .u8 n)] 5 (fun (b4 : Nat) (w5 : World) => ∃ (s6 : ByteArray), (convert 22 9 (.slice (some ⟨b4, 0, none⟩) 1 1)).run Try.prog w5 = .ok (.string s6) w5 ∧ ((⟨#[92]⟩ : ByteArray).size + s6.size ≤ 9223372036854775807) ∧ RetB (.string (B (escB n.toNat))) w (.returned (.string ((⟨#[92]⟩ : ByteArray) ++ s6))) w5) w := fun hn =>
      strOf (u8_of h) hb fun w' hb' => ⟨by rw [size_B]; simp; decide, by rw [show (⟨#[92]⟩ : ByteArray) = B [92] from rfl, B_append, escB_bs (by omega) (by omega)]; rfl, hb'⟩
    simp only [cB, decide_eq_true_eq, decide_eq_false_iff_not, beq_iff_eq, beq_eq_false_iff_ne, ne_eq]
    repeat' (first | exact idl (by omega) | exact bsl (by omega) | apply And.intro | intro _)

/-! ### The texts -/
theorem byte_rng (s : ByteArray) (i : Nat) : 0 ≤ byteAt s i ∧ byteAt s i ≤ 255 := by
  unfold byteAt
  have := (s.data.toList.getD i 0).toNat_lt
  omega
theorem escL_snoc (l : Bytes) (i : Nat) (h : i < l.length) : escL (l.take (i + 1)) = escL (l.take i) ++ escB (l.getD i 0).toNat := by
  unfold escL
  rw [List.take_succ_eq_append_getElem h, List.flatMap_append]
  simp [List.getD_eq_getElem?_getD, List.getElem?_eq_getElem h]
theorem escL_take_le (l : Bytes) (i j : Nat) (h : i ≤ j) : (escL (l.take i)).length ≤ (escL (l.take j)).length := by
  have : l.take i = (l.take j).take i := by rw [List.take_take, Nat.min_eq_left h]
  rw [this]
  generalize l.take j = m
  have : escL m = escL (m.take i) ++ escL (m.drop i) := by
    unfold escL; rw [← List.flatMap_append, List.take_append_drop]
  rw [this]; simp
/-- The text, or nothing where it is too long. -/
def escT (l : Bytes) : Bytes := if (escL l).length > 120 then [] else escL l

theorem implEscape_ok (s : ByteArray) (hs : s.size ≤ 1048576) (w : World) : Cl Try.prog 33 [.string s] w (RetB (.string (B (escT (L s)))) w) := by
  apply vc33
  unfold V33
  refine ⟨fun k t n w' => ∃ i : Nat, n = i ∧ i ≤ s.size ∧ k = s.size - i ∧ t = B (escL ((L s).take i)) ∧ (escL ((L s).take i)).length ≤ 120 ∧ Below w.heap.size w w', ⟨s.size, 0, rfl, by omega, by omega, rfl, by simp [escL], Below.refl _ _⟩, ?_⟩
  rintro k d t n w1 ⟨i, rfl, hi, rfl, rfl, hl, hb⟩
  have hsz : s.size = (L s).length := size_L s
  refine ⟨fun h1 => ?_, fun h1 => ?_⟩
  · have h1' : (i : Int) < s.size := of_decide_eq_true h1
    have hb8 := byte_rng s i
    have e0 : (Int.toNat (i : Int)) = i := by omega
    rw [e0, w64 (by omega : -9223372036854775808 ≤ byteAt s i ∧ byteAt s i ≤ 9223372036854775807)]
    refine ⟨⟨by omega, h1'⟩, (byteText_ok _ hb8 w1).ret fun w2 hb2 => ⟨_, rfl, ?_⟩⟩
    have ec : (byteAt s i).toNat = ((L s).getD i 0).toNat := by rw [byteAt_L]; omega
    have el := escB_len (byteAt s i).toNat
    have hsn := escL_snoc (L s) i (by omega)
    dsimp only
    rw [B_append, ec, ← hsn]
    rw [ec] at el
    have hlen := congrArg List.length hsn
    rw [List.length_append] at hlen
    simp only [size_B]
    refine ⟨by omega, fun h2 => ?_, fun h2 => ?_⟩
    · have h2' := of_decide_eq_true h2
      refine ⟨?_, hb.vstep hb2⟩
      have : (escL (L s)).length > 120 := by
        have := escL_take_le (L s) (i + 1) (L s).length (by omega)
        rw [List.take_length] at this
        omega
      simp only [escT, this, if_true]
      rfl
    · have h2' := of_decide_eq_false h2
      rw [w64 (by omega)]
      exact ⟨s.size - (i + 1), by omega, i + 1, by omega, by omega, rfl, rfl, by omega, hb.vstep hb2⟩
  · have h1' : ¬ (i : Int) < s.size := of_decide_eq_false h1
    have : i = (L s).length := by omega
    refine ⟨?_, hb⟩
    rw [this, List.take_length] at hl ⊢
    simp only [escT, Nat.not_lt.2 hl, if_false]

theorem specEscape_ok (s : ByteArray) (hs : s.size ≤ 1048576) (w : World) : Cl Try.prog 34 [.string s] w (RetB (.string (B (escT (L s)))) w) := by
  apply vc34
  unfold V34
  refine ⟨fun k t n w' => ∃ i : Nat, n = i ∧ i ≤ s.size ∧ k = s.size - i ∧ t = B (escL ((L s).take i)) ∧ (escL ((L s).take i)).length ≤ 124 ∧ Below w.heap.size w w', ⟨s.size, 0, rfl, by omega, by omega, rfl, by simp [escL], Below.refl _ _⟩, ?_⟩
  rintro k d t n w1 ⟨i, rfl, hi, rfl, rfl, hl, hb⟩
  have hsz : s.size = (L s).length := size_L s
  have hlong : (escL ((L s).take i)).length > 120 → RetB (.string (B (escT (L s)))) w (.returned (.string (⟨#[]⟩ : ByteArray))) w1 := fun hh => by
    have : (escL (L s)).length > 120 := by
      have := escL_take_le (L s) i (L s).length (by omega)
      rw [List.take_length] at this
      omega
    refine ⟨?_, hb⟩
    simp only [escT, this, if_true]
    rfl
  simp only [size_B]
  refine ⟨fun h1 => ⟨fun h2 => ?_, fun h2 => ⟨fun h3 => hlong (by have := of_decide_eq_true h3; omega), fun h3 => ?_⟩⟩, fun h1 => ⟨fun h3 => hlong (by have := of_decide_eq_true h3; omega), fun h3 => ?_⟩⟩
  · have h1' : (i : Int) < s.size := of_decide_eq_true h1
    have h2' := of_decide_eq_true h2
    have hb8 := byte_rng s i
    have e0 : (Int.toNat (i : Int)) = i := by omega
    rw [e0, w64 (by omega : -9223372036854775808 ≤ byteAt s i ∧ byteAt s i ≤ 9223372036854775807)]
    refine ⟨⟨by omega, h1'⟩, (l1byte_ok _ hb8 w1).ret fun w2 hb2 => ⟨_, rfl, ?_⟩⟩
    have ec : (byteAt s i).toNat = ((L s).getD i 0).toNat := by rw [byteAt_L]; omega
    have el := escB_len (byteAt s i).toNat
    have hsn := escL_snoc (L s) i (by omega)
    dsimp only
    rw [B_append, ec, ← hsn]
    rw [ec] at el
    have hlen := congrArg List.length hsn
    rw [List.length_append] at hlen
    simp only [size_B]
    rw [w64 (by omega)]
    exact ⟨by omega, s.size - (i + 1), by omega, i + 1, by omega, by omega, rfl, rfl, by omega, hb.vstep hb2⟩
  · have h2' := of_decide_eq_false h2
    have h3' := of_decide_eq_false h3
    omega
  · have h1' : ¬ (i : Int) < s.size := of_decide_eq_false h1
    have h3' := of_decide_eq_false h3
    have : i = (L s).length := by omega
    refine ⟨?_, hb⟩
    rw [this, List.take_length] at h3' ⊢
    have : ¬ (escL (L s)).length > 120 := by omega
    simp only [escT, this, if_false]

end Go.Proofs.Ytngbiaeliphdjaa.V
/- The functions that draw, over their cursor: what they draw, and how many draws there may be yet. No statement of the seat is proved here. -/
namespace Go.Proofs.Ytngbiaeliphdjaa.V
open Go.Vc Go.Proofs Go.RowKit
set_option linter.unusedVariables false
set_option linter.unusedSimpArgs false

theorem _root_.Go.Vc.GBytes.ext {S : Nat → Prop} {w w' : World} {B : Nat} {a : Option Addr} {l : Nat} (h : GBytes w B a l) (e : Ext S w w') (hB : B ≤ w.heap.size) (hs : ∀ k, k < B → ¬ S k) : GBytes w' B a l := by
  refine ⟨h.1, h.2.imp id ?_⟩
  rintro ⟨b, o, rfl, hb, hc⟩
  refine ⟨b, o, rfl, hb, fun i hi => ?_⟩
  obtain ⟨n, h1, h2, h3⟩ := hc i hi
  exact ⟨n, h1, h2, by rw [e.cellH (by omega) (hs b hb)]; exact h3⟩
def Cur (w : World) (b B : Nat) (a : Option Addr) (l c m : Nat) : Prop :=
  (∃ (p : Nat) (sd : Nat), Blk w.heap b 76 [.slice a l c, .int .i64 (p : Int), .int .u64 (sd : Int)] ∧ sd < 18446744073709551616 ∧ Bd l p sd m) ∧ GBytes w B a l ∧ B ≤ b ∧ l ≤ 1048576
theorem Cur.lt {w : World} {b B : Nat} {a : Option Addr} {l c m : Nat} (h : Cur w b B a l c m) : b < w.heap.size := by obtain ⟨⟨p, sd, h, _⟩, _⟩ := h; exact h.lt
theorem Cur.ext {S : Nat → Prop} {w w' : World} {b B : Nat} {a : Option Addr} {l c m : Nat} (h : Cur w b B a l c m) (e : Ext S w w') (hs : ∀ k, k ≤ b → ¬ S k) : Cur w' b B a l c m := by
  have hlt := h.lt
  obtain ⟨⟨p, sd, h1, h2⟩, h3, h4, h5⟩ := h
  exact ⟨⟨p, sd, h1.keep e (hs b (by omega)), h2⟩, h3.ext e (by omega) (fun k hk => hs k (by omega)), h4, h5⟩
theorem Cur.below {w w' : World} {b B : Nat} {a : Option Addr} {l c m : Nat} (h : Cur w b B a l c m) (e : Below w.heap.size w w') : Cur w' b B a l c m :=
  h.ext (S := fun _ => False) (Ext.of_below e) fun _ _ h => h
theorem Cur.blk {w w' : World} {b k : Nat} {e : TypeId} {cs : List Value} (hk : Blk w.heap k e cs) (hb : b < k) (E : Ext (fun k => k = b) w w') : Blk w'.heap k e cs := hk.keep E (by omega)
/-- What a drawing leaves: the value, and how many draws there may be yet. -/
def Drew (w : World) (b B : Nat) (a : Option Addr) (l c : Nat) (φ : Value → Nat → Prop) : Ending → World → Prop :=
  fun e w' => ∃ v m', e = .returned v ∧ φ v m' ∧ Cur w' b B a l c m' ∧ Ext (fun k => k = b) w w'
theorem u64w {n : Int} : IntKind.wrap .u64 n = n % 18446744073709551616 := by
  have h1 : (2 ^ IntKind.u64.bits : Int) = 18446744073709551616 := by decide
  have h3 : IntKind.u64.signed = false := rfl
  unfold IntKind.wrap
  simp only [h1, h3, Bool.false_and, Bool.false_eq_true, if_false]
theorem lg_u64 (sd : Nat) : IntKind.wrap .u64 ((IntKind.wrap .u64 ((sd : Int) * 6364136223846793005)) + 1442695040888963407) = ((lg sd % 18446744073709551616 : Nat) : Int) := by
  rw [u64w, u64w]; unfold lg; omega
theorem top_byte {sd : Nat} (h : sd < 18446744073709551616) : IntKind.wrap .i64 (IntKind.wrap .u64 (((BitVec.ofInt 64 (Int.fdiv (sd : Int) (2 ^ (min (Int.toNat 40) 64))) &&& BitVec.ofInt 64 255).toNat : Int))) = ((sd / 1099511627776 % 256 : Nat) : Int) := by
  have e : (2 : Int) ^ (min (Int.toNat 40) 64) = 1099511627776 := by decide
  rw [e, Int.fdiv_eq_ediv_of_nonneg _ (by decide)]
  have e2 : (BitVec.ofInt 64 ((sd : Int) / 1099511627776) &&& BitVec.ofInt 64 255).toNat = sd / 1099511627776 % 256 := by
    rw [BitVec.toNat_and]
    have h1 : (BitVec.ofInt 64 ((sd : Int) / 1099511627776)).toNat = sd / 1099511627776 := by
      rw [BitVec.toNat_ofInt]
      have : ((2 ^ 64 : Nat) : Int) = 18446744073709551616 := by decide
      rw [this]; omega
    have h2 : (BitVec.ofInt 64 255).toNat = 2 ^ 8 - 1 := by decide
    rw [h1, h2, Nat.and_two_pow_sub_one_eq_mod]
  rw [e2, u64w, w64 (by omega)]
  omega
theorem next_ok {w : World} {b B : Nat} {a : Option Addr} {l c m : Nat} (h : Cur w b B a l c m) (hm : 0 < m) :
    Cl Try.prog 115 [.pointer (some ⟨b, 0, none⟩)] w (Drew w b B a l c fun v m' => m' < m ∧ min (m - 1) 5059 ≤ m' ∧ ∃ n : Nat, v = .int .i64 (n : Int) ∧ n ≤ 255 ∧ (5000 < m → m ≤ 5059 → good n)) := by
  apply vc115
  unfold V115
  obtain ⟨⟨p, sd, hB, hsd, hbd⟩, hC, hb, hl⟩ := h
  have hpl := hB.lt
  have hp := hbd.1
  refine drw_in fun w1 q1 e1 => ?_
  have hB1 := hB.keep e1 fun h => h
  refine ⟨p, hB1.cell 1, a, l, c, hB1.cell 0, fun g => ?_, fun g => ?_⟩
  · have g' : p < l := by have := of_decide_eq_true g; omega
    refine drw_in fun w2 q2 e2 => ?_
    have hB2 := hB1.keep e2 fun h => h
    have hC2 := (hC.ext e1 (by omega) (fun _ _ h => h)).ext e2 (by have := e1.size; omega) (fun _ _ h => h)
    rcases hC2.2 with h0 | ⟨b', o', rfl, hb', hc⟩
    · omega
    obtain ⟨n, hn1, hn2, hn3⟩ := hc p g'
    refine ⟨_, l, c, hB2.cell 0, p, hB2.cell 1, b', o', ⟨rfl, by omega, by omega⟩, n, ?_, p, hB2.cell 1, ?_⟩
    · rw [show (Int.toNat (p : Int)) * 1 = p from by omega]; exact hn3
    refine stW_in hB2 (by show 0 + 1 + 1 ≤ 3; decide) fun w3 s3 k3 e3 => ?_
    refine ⟨sd, k3.cell 2, ?_⟩
    refine stW_in k3 (by show 0 + 2 + 1 ≤ 3; decide) fun w4 s4 k4 e4 => ?_
    have hE : Ext (fun k => k = b) w w4 := (((Ext.mono e1 fun _ _ h => h.elim).trans (Ext.mono e2 fun _ _ h => h.elim)).trans e3).trans e4
    have hw : IntKind.wrap .i64 ((p : Int) + 1) = ((p + 1 : Nat) : Int) := by rw [w64 (by omega)]; omega
    obtain ⟨sd', hsd', hlt'⟩ : ∃ sd' : Nat, (IntKind.wrap .u64 ((IntKind.wrap .u64 ((IntKind.wrap .u64 ((sd : Int) * 6364136223846793005)) + (IntKind.wrap .u64 n))) + 1442695040888963407)) = (sd' : Int) ∧ sd' < 18446744073709551616 := by
      rw [u64w]
      generalize (IntKind.wrap .u64 ((IntKind.wrap .u64 ((sd : Int) * 6364136223846793005)) + (IntKind.wrap .u64 n))) + 1442695040888963407 = x
      exact ⟨(x % 18446744073709551616).toNat, by omega, by omega⟩
    obtain ⟨m', hm1, hm2, hm3⟩ := bd_code hbd hm hl g' (sd' := sd')
    refine ⟨_, m', rfl, ⟨hm1, hm2, n.toNat, by rw [w64 (by omega), Int.toNat_of_nonneg hn1], by omega, fun h1 h2 => ?_⟩, ⟨⟨p + 1, sd', ?_, hlt', hm3⟩, hC.ext hE (by omega) (fun k hk => by omega), hb, hl⟩, hE⟩
    · have := (bd_good hbd h1 h2 (sd' := lg sd) rfl).1; omega
    · rw [← hw, ← hsd']; exact k4
  · have g' : l ≤ p := by have := of_decide_eq_false g; omega
    refine ⟨sd, hB1.cell 2, ?_⟩
    refine stW_in hB1 (by show 0 + 2 + 1 ≤ 3; decide) fun w3 s3 k3 e3 => ?_
    refine ⟨p, k3.cell 1, ?_⟩
    refine stW_in k3 (by show 0 + 1 + 1 ≤ 3; decide) fun w4 s4 k4 e4 => ?_
    have hE : Ext (fun k => k = b) w w4 := ((Ext.mono e1 fun _ _ h => h.elim).trans e3).trans e4
    have hw : IntKind.wrap .i64 ((p : Int) + 1) = ((p + 1 : Nat) : Int) := by rw [w64 (by omega)]; omega
    have k4' : Blk w4.heap b 76 [.slice a l c, .int .i64 ((p + 1 : Nat) : Int), .int .u64 ((lg sd % 18446744073709551616 : Nat) : Int)] := by rw [← hw, ← lg_u64]; exact k4
    have hlt : lg sd % 18446744073709551616 < 18446744073709551616 := Nat.mod_lt _ (by decide)
    have hcg : lg sd % 18446744073709551616 % 281474976710656 = lg sd % 281474976710656 := by omega
    generalize lg sd % 18446744073709551616 = sd' at *
    refine ⟨_, k4'.cell 2, by decide, _, m - 1, rfl, ⟨by omega, by omega, sd' / 1099511627776 % 256, by rw [top_byte hlt], by omega, fun h1 h2 => (bd_good hbd h1 h2 hcg).2⟩, ⟨⟨p + 1, sd', k4', hlt, bd_seq hbd hm g' hcg⟩, hC.ext hE (by omega) (fun k hk => by omega), hb, hl⟩, hE⟩
/-- A draw of at most 200 things. -/
theorem pick_ok {w : World} {b B : Nat} {a : Option Addr} {l c m : Nat} (h : Cur w b B a l c m) (hm : 0 < m) (n : Nat) (h1 : 2 ≤ n) (h2 : n ≤ 200) :
    Cl Try.prog 82 [.pointer (some ⟨b, 0, none⟩), .int .i64 (n : Int)] w (Drew w b B a l c fun v m' => m' < m ∧ min (m - 1) 5059 ≤ m' ∧ ∃ r : Nat, v = .int .i64 (r : Int) ∧ r < n ∧ (5000 < m → m ≤ 5059 → (n = 12 → r ≠ 4 ∧ r ≠ 5 ∧ r ≠ 6) ∧ (n = 6 → r ≠ 0))) := by
  apply vc82
  unfold V82
  refine ⟨fun g => by have := of_decide_eq_true g; omega, fun _ => ?_⟩
  refine (next_ok h hm).use fun e w1 he => ?_
  obtain ⟨_, m', rfl, ⟨h3, h4, x, rfl, hx, hg⟩, hC1, e1⟩ := he
  refine ⟨x, rfl, fun g1 => by have := of_decide_eq_true g1; omega, fun _ => ?_⟩
  refine ⟨by omega, _, m', rfl, ⟨h3, h4, x % n, ?_, Nat.mod_lt _ (by omega), fun h5 h6 => ?_⟩, hC1, e1⟩
  · rw [Int.tmod_eq_emod_of_nonneg (by omega), Int.natCast_emod]
  · have := hg h5 h6
    unfold good at this
    exact ⟨fun h => by subst h; omega, fun h => by subst h; omega⟩
theorem pick0_ok {w : World} {b B : Nat} {a : Option Addr} {l c m : Nat} (h : Cur w b B a l c m) {n : Int} (hn : n ≤ 1) :
    Cl Try.prog 82 [.pointer (some ⟨b, 0, none⟩), .int .i64 n] w (Drew w b B a l c fun v m' => m' = m ∧ v = .int .i64 0) := by
  apply vc82
  unfold V82
  exact ⟨fun _ => ⟨_, m, rfl, ⟨rfl, rfl⟩, h, Ext.refl _ _⟩, fun g => by have := of_decide_eq_false g; omega⟩
/-- Any draw. -/
theorem pickN_ok {w : World} {b B : Nat} {a : Option Addr} {l c m : Nat} (h : Cur w b B a l c m) (hm : 0 < m) (n : Nat) (h0 : 1 ≤ n) (h2 : n ≤ 200) :
    Cl Try.prog 82 [.pointer (some ⟨b, 0, none⟩), .int .i64 (n : Int)] w (Drew w b B a l c fun v m' => m' ≤ m ∧ min (m - 1) 5059 ≤ m' ∧ ∃ r : Nat, v = .int .i64 (r : Int) ∧ r < n) := by
  by_cases h1 : 2 ≤ n
  · refine (pick_ok h hm n h1 h2).use fun e w' he => ?_
    obtain ⟨v, m', h3, ⟨h4, h5, r, h6, h7, _⟩, h8, h9⟩ := he
    exact ⟨v, m', h3, ⟨by omega, h5, r, h6, h7⟩, h8, h9⟩
  · refine (pick0_ok h (by omega)).use fun e w' he => ?_
    obtain ⟨v, m', h3, ⟨h4, h5⟩, h8, h9⟩ := he
    exact ⟨v, m', h3, ⟨by omega, by omega, 0, h5, by omega⟩, h8, h9⟩
theorem elemU8 : Elem Try.prog 22 5 1 1 := ⟨Try.underlying22, by kernel_rfl, by kernel_rfl, ⟨[.int .u8 0], by kernel_rfl, rfl⟩⟩
theorem u8s_append (l m : Bytes) : u8s (l ++ m) = u8s l ++ u8s m := by simp [u8s]
/-- The bytes become a string. -/
theorem row_str {N : Nat} {w : World} {a : Option Addr} {l c : Nat} {xs : Bytes} (h : Row N w 5 1 a l c (u8s xs)) : (convert 22 9 (.slice a l c)).run Try.prog w = .ok (.string (Go.Vc.B xs)) w := by
  obtain ⟨⟨v1, v2, v3⟩, v4, v5⟩ := h
  have hx : xs.length = l := by have := v1; simp [u8s] at this; omega
  rcases v3 with ⟨rfl, rfl⟩ | ⟨bb, cs, rfl, hB, h4, h5⟩
  · have : l = 0 := by omega
    have : xs = [] := List.length_eq_zero_iff.1 (by omega)
    subst this
    exact conv_nil Try.underlying22 Try.underlying9 Try.underlying5
  · exact conv_run Try.underlying22 Try.underlying9 Try.underlying5 (by omega) (hB.cellsAt (n := l * 1) (by simpa using h5) v1.symm)
theorem bytes_ok {w : World} {b B : Nat} {a : Option Addr} {l c m : Nat} (h : Cur w b B a l c m) (n : Nat) (hn : n ≤ 1000000) (hm : n ≤ m) (ht : m ≤ 5059 ∨ n ≤ 5059) :
    Cl Try.prog 81 [.pointer (some ⟨b, 0, none⟩), .int .i64 (n : Int)] w (Drew w b B a l c fun v m' => m' ≤ m ∧ min m 5059 ≤ m' + n ∧ ∃ s : Bytes, v = .string (Go.Vc.B s) ∧ s.length = n) := by
  apply vc81
  unfold V81
  have hbl := h.lt
  refine ⟨fun k j ax lx cx w' => ∃ (i : Nat) (xs : Bytes) (m' : Nat), j = ((n - i : Nat) : Int) ∧ i ≤ n ∧ k = n - i ∧ i = lx ∧ xs.length = i ∧ m' ≤ m ∧ min m 5059 ≤ m' + i ∧ Row w.heap.size w' 5 1 ax lx cx (u8s xs) ∧ Cur w' b B a l c m' ∧ Ext (fun k => k = b) w w', ⟨_, 0, [], m, rfl, by omega, rfl, rfl, rfl, by omega, by omega, Row.nil _ _ (Nat.le_refl _), h, Ext.refl _ _⟩, ?_⟩
  rintro k d j ax lx cx w1 ⟨i, xs, m1, rfl, hi, rfl, hil, hx, hm1, hm2, hR, hC, hE⟩
  refine ⟨fun g => ?_, fun g => ?_⟩
  · have g' : i < n := by have := of_decide_eq_true g; omega
    refine (next_ok hC (by omega)).use fun e w2 he => ?_
    obtain ⟨_, m2, rfl, ⟨h3, h4, y, rfl, hy, _⟩, hC2, e2⟩ := he
    refine ⟨y, rfl, ?_⟩
    have hy : IntKind.wrap .u8 (y : Int) = ((UInt8.ofNat y).toNat : Int) := by rw [w8, UInt8.toNat_ofNat']; omega
    dsimp only
    rw [hy]
    obtain ⟨a3, c3, w3, r1, r2, r3⟩ := (hR.keep e2 fun k hk h => by omega).app1 elemU8 (ys := u8s [UInt8.ofNat y]) (n := 1) rfl rfl (by omega) (by omega)
    refine ⟨a3, _, c3, w3, r1, n - (i + 1), by omega, i + 1, xs ++ [UInt8.ofNat y], m2, ?_, by omega, rfl, by omega, by simp; omega, by omega, by omega, ?_, ?_, ?_⟩
    · rw [w64 (by omega)]; omega
    · rw [u8s_append]; exact r2
    · exact (hC2.ext r3 fun k hk (h : _ ≤ k) => by omega)
    · exact (hE.trans e2).step r3 fun i hi (h : _ ≤ i) => by omega
  · have : i = n := by have := of_decide_eq_false g; omega
    subst this
    exact ⟨Go.Vc.B xs, row_str hR, _, m1, rfl, ⟨hm1, hm2, xs, rfl, hx⟩, hC, hE⟩
/-- A cursor is made. -/
theorem cur_in {w : World} {a : Option Addr} {l c : Nat} (h : GBytes w w.heap.size a l) (hl : l ≤ 1048576) {K : Nat → World → Prop} (hK : ∀ w1 m, 5059 ≤ m → Cur w1 w.heap.size w.heap.size a l c m → Below w.heap.size w w1 → K w.heap.size w1) :
    newC [.slice a l c, .int .i64 0, .int .u64 0] 76 K w := by
  refine newC_in fun w1 s1 k1 e1 => ?_
  obtain ⟨m, hm, hb⟩ := bd_start (l := l) (sd := 0) hl
  exact hK w1 m hm ⟨⟨0, 0, k1, by decide, hb⟩, h.ext e1 (Nat.le_refl _) (fun _ _ h => h), Nat.le_refl _, hl⟩ (Ext.to (Below.refl _ _) e1 fun _ h => h.elim)
theorem texts_ok {w : World} {a : Option Addr} {l c : Nat} (h : GBytes w w.heap.size a l) (hl : l ≤ 1048576) :
    Cl Try.prog 32 [.slice a l c] w (fun e w' => ∃ s : Bytes, e = .returned (.string (Go.Vc.B s)) ∧ s.length ≤ 27 ∧ Below w.heap.size w w') := by
  apply vc32
  unfold V32
  refine cur_in h hl fun w1 m hm hC B1 => ?_
  refine (pick_ok hC (by omega) 28 (by omega) (by omega)).use fun e w2 he => ?_
  obtain ⟨_, m2, rfl, ⟨h3, h4, r, rfl, hr, _⟩, hC2, e2⟩ := he
  refine ⟨r, rfl, ?_⟩
  refine (bytes_ok hC2 r (by omega) (by omega) (by omega)).use fun e w3 he => ?_
  obtain ⟨_, m3, rfl, ⟨_, _, s, rfl, hs⟩, hC3, e3⟩ := he
  exact ⟨_, rfl, s, rfl, by omega, Ext.to (Ext.to B1 e2 fun i h => by omega) e3 fun i h => by omega⟩
end Go.Proofs.Ytngbiaeliphdjaa.V
/- How the pure reader reads a text that is put together of parts. No statement of the seat is proved here. -/
namespace Go.Vc
set_option linter.unusedVariables false
set_option linter.unusedSimpArgs false
/-- The text stands at this place. -/
def Fit (l : Bytes) (i : Nat) (s : Bytes) : Prop := i + s.length ≤ l.length ∧ ∀ k, k < s.length → at_ l (i + k) = at_ s k
theorem at_app_l {s t : Bytes} {k : Nat} (h : k < s.length) : at_ (s ++ t) k = at_ s k := by
  unfold at_; rw [List.getD_eq_getElem?_getD, List.getD_eq_getElem?_getD, List.getElem?_append_left h]
theorem at_app_r {s t : Bytes} {k : Nat} : at_ (s ++ t) (s.length + k) = at_ t k := by
  unfold at_; rw [List.getD_eq_getElem?_getD, List.getD_eq_getElem?_getD, List.getElem?_append_right (by omega), show s.length + k - s.length = k from by omega]
theorem Fit.app {l : Bytes} {i : Nat} {s t : Bytes} (h : Fit l i (s ++ t)) : Fit l i s ∧ Fit l (i + s.length) t := by
  obtain ⟨h1, h2⟩ := h
  rw [List.length_append] at h1 h2
  refine ⟨⟨by omega, fun k hk => ?_⟩, by omega, fun k hk => ?_⟩
  · rw [h2 k (by omega), at_app_l hk]
  · rw [show i + s.length + k = i + (s.length + k) from by omega, h2 _ (by omega), at_app_r]
theorem Fit.self (s : Bytes) : Fit s 0 s := ⟨by omega, fun k _ => by rw [Nat.zero_add]⟩
theorem Fit.at0 {l : Bytes} {i : Nat} {c : UInt8} {r : Bytes} (h : Fit l i (c :: r)) : i < l.length ∧ at_ l i = c.toNat := by
  obtain ⟨h1, h2⟩ := h
  simp only [List.length_cons] at h1 h2
  exact ⟨by omega, h2 0 (by omega)⟩
theorem Fit.tail {l : Bytes} {i : Nat} {c : UInt8} {r : Bytes} (h : Fit l i (c :: r)) : Fit l (i + 1) r := (Fit.app (s := [c]) (t := r) h).2
theorem Fit.le {l : Bytes} {i : Nat} {s : Bytes} (h : Fit l i s) : i + s.length ≤ l.length := h.1
def cntC (n : Nat) : Prop := n = 42 ∨ n = 43 ∨ n = 63 ∨ n = 123
/-- No count stands at this place. -/
def NC (l : Bytes) (j : Nat) : Prop := ¬ (j < l.length ∧ cntC (at_ l j))
def NQ (l : Bytes) (j : Nat) : Prop := ¬ (j < l.length ∧ at_ l j = 63)
theorem NC.q {l : Bytes} {j : Nat} (h : NC l j) : NQ l j := fun ⟨h1, h2⟩ => h ⟨h1, .inr (.inr (.inl h2))⟩
/-- The end, or the end of a group. -/
def EN (l : Bytes) (j : Nat) : Prop := j = l.length ∨ at_ l j = 41
theorem EN.nc {l : Bytes} {j : Nat} (h : EN l j) : NC l j := fun ⟨h1, h2⟩ => by
  unfold cntC at h2
  rcases h with h | h <;> omega
def HD (s : Bytes) : Prop := s = [] ∨ ¬ cntC (at_ s 0)
def subOf (l : Bytes) : Nat → St → Pr (St × Int)
  | 0 => fun _ => .bad 0
  | d + 1 => patP l d
def deepOf : Nat → Bool
  | 0 => true
  | _ + 1 => false
theorem subOf_ok (l : Bytes) (d : Nat) : SubOk l (subOf l d) := by
  cases d with
  | zero => intro i g out j g' out' k _ h; cases h
  | succ d => exact patP_len l d
/-- A sequence, and alternatives behind it. -/
def saL (l : Bytes) (d i g : Nat) (out : List Pc) (kids : List Int) : Pr (St × Int) := match seqL (subOf l d) (deepOf d) l i g out [] with
  | .bad e => .bad e
  | .ok ((j, g', out'), x) => altL (subOf l d) (deepOf d) l j g' out' (kids ++ [x])
theorem patP_sa (l : Bytes) (d i g : Nat) (out : List Pc) : patP l d (i, g, out) = saL l d i g out [] := by
  cases d <;> rfl
theorem altL_sa {l : Bytes} {d i g : Nat} {out : List Pc} {kids : List Int} (h : i < l.length) (hb : at_ l i = 124) : altL (subOf l d) (deepOf d) l i g out kids = saL l d (i + 1) g out kids := by
  unfold saL
  cases hs : seqL (subOf l d) (deepOf d) l (i + 1) g out [] with
  | bad e => exact altL_bad ⟨h, hb⟩ hs
  | ok r =>
    obtain ⟨⟨j, g', out'⟩, x⟩ := r
    have := seqL_len (subOf_ok l d) _ rfl (by omega) hs
    exact altL_go ⟨h, hb⟩ hs (by omega)
def altO (out : List Pc) : List Int → List Pc × Int
  | [k] => (out, k)
  | kids => (out ++ [pAlt kids], out.length)
theorem altE_O (i g : Nat) (out : List Pc) (kids : List Int) : altE i g out kids = .ok ((i, g, (altO out kids).1), (altO out kids).2) := by
  match kids with
  | [] => rfl
  | [k] => rfl
  | a :: b :: r => rfl
abbrev FF := List Pc → List Int → List Pc × List Int
/-- A part of a sequence. -/
def SqX (d g : Nat) (s : Bytes) (g' : Nat) (F : FF) : Prop := HD s ∧ ∀ (l : Bytes) (i : Nat) (out : List Pc) (kids : List Int), Fit l i s → NC l (i + s.length) →
  seqL (subOf l d) (deepOf d) l i g out kids = seqL (subOf l d) (deepOf d) l (i + s.length) g' (F out kids).1 (F out kids).2
/-- A pattern. -/
def PtX (d g : Nat) (s : Bytes) (g' : Nat) (F : FF) : Prop := ∀ (l : Bytes) (i : Nat) (out : List Pc) (kids : List Int), Fit l i s → EN l (i + s.length) →
  saL l d i g out kids = altE (i + s.length) g' (F out kids).1 (F out kids).2
/-- An atom. -/
def AtX (d g : Nat) (s : Bytes) (g' : Nat) (A : List Pc → List Pc × Int) : Prop := s ≠ [] ∧ ¬ cntC (at_ s 0) ∧ at_ s 0 ≠ 124 ∧ at_ s 0 ≠ 41 ∧ ∀ (l : Bytes) (i : Nat) (out : List Pc), Fit l i s →
  atomP (subOf l d) (deepOf d) l i g out = .ok ((i + s.length, g', (A out).1), (A out).2)
/-- A count. -/
def CnX (s : Bytes) (a b : Int) (z : Bool) : Prop := ∀ (l : Bytes) (i : Nat), Fit l i s → NQ l (i + s.length) → cntP l i = .ok (i + s.length, some (a, b, z))
theorem SqX.nil (d g : Nat) : SqX d g [] g fun out kids => (out, kids) := ⟨.inl rfl, fun l i out kids _ _ => rfl⟩
theorem SqX.app {d g g1 g2 : Nat} {s t : Bytes} {F G : FF} (h : SqX d g s g1 F) (k : SqX d g1 t g2 G) : SqX d g (s ++ t) g2 fun out kids => G (F out kids).1 (F out kids).2 := by
  refine ⟨?_, fun l i out kids hf hn => ?_⟩
  · rcases h.1 with rfl | h1
    · exact k.1
    · by_cases hs : s = []
      · subst hs; exact k.1
      · right; rw [at_app_l (List.length_pos_iff.2 hs)]; exact h1
  · have f := hf.app
    rw [List.length_append, ← Nat.add_assoc] at hn ⊢
    rw [h.2 l i out kids f.1 ?_, k.2 l _ _ _ f.2 hn]
    rcases k.1 with rfl | h2
    · simpa using hn
    · rintro ⟨h3, h4⟩
      by_cases ht : t = []
      · subst ht; exact hn (by simpa using ⟨h3, h4⟩)
      · have := f.2.2 0 (List.length_pos_iff.2 ht)
        rw [Nat.add_zero] at this
        rw [this] at h4; exact h2 h4
theorem SqX.pat {d g g' : Nat} {s : Bytes} {F : FF} (h : SqX d g s g' F) : PtX d g s g' fun out kids => ((F out []).1 ++ [pSeq (F out []).2], kids ++ [((F out []).1.length : Int)]) := by
  intro l i out kids hf he
  unfold saL
  rw [h.2 l i out [] hf he.nc]
  have hle := hf.le
  rw [seqL_out (by rintro ⟨h1, h2, h3⟩; rcases he with he | he; omega; exact h3 he)]
  simp only []
  rw [altL_out (by rintro ⟨h1, h2⟩; rcases he with he | he <;> omega)]
theorem PtX.alt {d g g1 g2 : Nat} {s y : Bytes} {F G : FF} (h : SqX d g s g1 F) (k : PtX d g1 y g2 G) : PtX d g (s ++ 124 :: y) g2 fun out kids => G ((F out []).1 ++ [pSeq (F out []).2]) (kids ++ [((F out []).1.length : Int)]) := by
  intro l i out kids hf he
  have f := hf.app
  have f0 := f.2.at0
  have e0 : at_ l (i + s.length) = 124 := f0.2
  have hnc : NC l (i + s.length) := by rintro ⟨_, h2⟩; unfold cntC at h2; omega
  have hl : i + (s ++ 124 :: y).length = i + s.length + 1 + y.length := by simp; omega
  rw [hl] at he ⊢
  unfold saL
  rw [h.2 l i out [] f.1 hnc]
  rw [seqL_out (by rintro ⟨h1, h2, h3⟩; exact h2 e0)]
  show altL (subOf l d) (deepOf d) l (i + s.length) g1 ((F out []).1 ++ [pSeq (F out []).2]) (kids ++ [((F out []).1.length : Int)]) = _
  rw [altL_sa f0.1 e0]
  exact k l _ _ _ f.2.tail he
theorem PtX.grp {d g g' : Nat} {y : Bytes} {F : FF} (h : PtX d (g + 1) y g' F) (hg : g < 9) : AtX (d + 1) g (40 :: (y ++ [41])) g' fun out => ((altO (F out []).1 (F out []).2).1 ++ [pGrp (g + 1 : Nat) (altO (F out []).1 (F out []).2).2], (altO (F out []).1 (F out []).2).1.length) := by
  refine ⟨by simp, by show ¬ cntC 40; unfold cntC; omega, by show (40 : Nat) ≠ 124; decide, by show (40 : Nat) ≠ 41; decide, fun l i out hf => ?_⟩
  have f0 := hf.at0
  have f1 := hf.tail.app
  have f2 := f1.2.at0
  have e0 : at_ l i = 40 := f0.2
  have e2 : at_ l (i + 1 + y.length) = 41 := f2.2
  have hl : i + (40 :: (y ++ [41])).length = i + 1 + y.length + 1 := by simp; omega
  rw [hl]
  unfold atomP
  rw [if_pos e0, if_neg (by simp [deepOf]; omega)]
  have hp : subOf l (d + 1) (i + 1, g + 1, out) = .ok ((i + 1 + y.length, g', (altO (F out []).1 (F out []).2).1), (altO (F out []).1 (F out []).2).2) := by
    show patP l d (i + 1, g + 1, out) = _
    rw [patP_sa, h l (i + 1) out [] f1.1 (.inr e2), altE_O]
  rw [hp]
  simp only []
  rw [if_neg (by omega), if_pos e2]
theorem pieceP_at {l : Bytes} {d i g g' : Nat} {s : Bytes} {A : List Pc → List Pc × Int} {out : List Pc} (h : AtX d g s g' A) (hf : Fit l i s) : pieceP (subOf l d) (deepOf d) l i g out = cntR l (i + s.length) g' (A out).1 (A out).2 := pieceP_ok (h.2.2.2.2 l i out hf)
theorem cntP_none {l : Bytes} {j : Nat} (h : NC l j) : cntP l j = .ok (j, none) := by
  unfold cntP
  by_cases hj : l.length ≤ j
  · simp [hj]
  · have hc : ¬ cntC (at_ l j) := fun hc => h ⟨by omega, hc⟩
    unfold cntC at hc
    simp only []
    rw [if_neg hj, if_neg (by omega), if_neg (by omega), if_neg (by omega), if_neg (by omega)]
theorem AtX.go {d g g' : Nat} {s : Bytes} {A : List Pc → List Pc × Int} (h : AtX d g s g' A) {l : Bytes} {i : Nat} (hf : Fit l i s) : i < l.length ∧ at_ l i ≠ 124 ∧ at_ l i ≠ 41 := by
  have hp := List.length_pos_iff.2 h.1
  have h0 := hf.2 0 hp
  rw [Nat.add_zero] at h0
  rw [h0]
  exact ⟨by have := hf.1; omega, h.2.2.1, h.2.2.2.1⟩
/-- An atom alone. -/
theorem AtX.one {d g g' : Nat} {s : Bytes} {A : List Pc → List Pc × Int} (h : AtX d g s g' A) : SqX d g s g' fun out kids => ((A out).1, kids ++ [(A out).2]) := by
  refine ⟨.inr h.2.1, fun l i out kids hf hn => ?_⟩
  have hp : pieceP (subOf l d) (deepOf d) l i g out = .ok ((i + s.length, g', (A out).1), (A out).2) := by
    rw [pieceP_at h hf]; unfold cntR; rw [cntP_none hn]
  exact seqL_go (h.go hf) hp (by have := List.length_pos_iff.2 h.1; omega)
/-- An atom with a count. -/
theorem AtX.cnt {d g g' : Nat} {s c : Bytes} {A : List Pc → List Pc × Int} {a b : Int} {z : Bool} (h : AtX d g s g' A) (k : CnX c a b z) : SqX d g (s ++ c) g' fun out kids => ((A out).1 ++ [pRep a b z (A out).2], kids ++ [((A out).1.length : Int)]) := by
  refine ⟨.inr (by rw [at_app_l (List.length_pos_iff.2 h.1)]; exact h.2.1), fun l i out kids hf hn => ?_⟩
  have f := hf.app
  rw [List.length_append, ← Nat.add_assoc] at hn ⊢
  have hp : pieceP (subOf l d) (deepOf d) l i g out = .ok ((i + s.length + c.length, g', (A out).1 ++ [pRep a b z (A out).2]), (A out).1.length) := by
    rw [pieceP_at h f.1]; unfold cntR; rw [k l _ f.2 hn.q]
  exact seqL_go (h.go f.1) hp (by have := List.length_pos_iff.2 h.1; omega)
/-- A text that is a pattern is read. -/
theorem PtX.read {s : Bytes} {g' : Nat} {F : FF} (h : PtX 6 0 s g' F) (hl : s.length ≤ 120) : readP s = ⟨true, 0, g', (altO (F [] []).1 (F [] []).2).1⟩ := by
  unfold readP
  rw [if_neg (by omega), patP_sa, h s 0 [] [] (Fit.self s) (.inl (by omega)), altE_O]
  simp only []
  rw [if_neg (by omega)]
/-! ### Counts -/
theorem digP_no {l : Bytes} {i n : Nat} (h : ¬ (i < l.length ∧ 48 ≤ at_ l i ∧ at_ l i ≤ 57)) : digP l i n = (i, n) := by rw [digP, dif_neg h]
theorem digP_go {l : Bytes} {i n : Nat} (h : i < l.length ∧ 48 ≤ at_ l i ∧ at_ l i ≤ 57) : digP l i n = digP l (i + 1) (Nat.min 1000 (10 * n + (at_ l i - 48))) := by rw [digP, dif_pos h]
/-- A number of one or two digits. -/
def decN (n : Nat) : Bytes := if n < 10 then [UInt8.ofNat (48 + n)] else [UInt8.ofNat (48 + n / 10), UInt8.ofNat (48 + n % 10)]
theorem u8N {n : Nat} (h : n < 256) : (UInt8.ofNat n).toNat = n := by simp; omega
theorem decN_pos (n : Nat) : 0 < (decN n).length := by unfold decN; split <;> simp
theorem numP_dec {l : Bytes} {i n : Nat} (hf : Fit l i (decN n)) (hn : n ≤ 50) (he : i + (decN n).length < l.length ∧ (at_ l (i + (decN n).length) < 48 ∨ 57 < at_ l (i + (decN n).length))) : numP l i = .ok (i + (decN n).length, n) := by
  unfold numP
  unfold decN at hf he ⊢
  by_cases h : n < 10
  · rw [if_pos h] at hf he ⊢
    have f := hf.at0
    rw [u8N (by omega)] at f
    simp only [List.length_cons, List.length_nil, Nat.zero_add] at he ⊢
    have hd : digP l i 0 = (i + 1, n) := by
      rw [digP_go (by omega), digP_no (by omega), f.2]
      congr 1
      show min 1000 (10 * 0 + (48 + n - 48)) = n
      omega
    rw [if_neg (by omega), if_neg (by omega), hd, if_neg (by simp; omega)]
  · rw [if_neg h] at hf he ⊢
    have f := hf.at0
    have f2 := hf.tail.at0
    rw [u8N (by omega)] at f f2
    have hl2 : ([UInt8.ofNat (48 + n / 10), UInt8.ofNat (48 + n % 10)] : Bytes).length = 2 := rfl
    rw [hl2] at he ⊢
    have hd : digP l i 0 = (i + 2, n) := by
      rw [digP_go (by omega), digP_go (by omega), show i + 1 + 1 = i + 2 from rfl, digP_no (by omega), f.2, f2.2]
      congr 1
      show min 1000 (10 * min 1000 (10 * 0 + (48 + n / 10 - 48)) + (48 + n % 10 - 48)) = n
      omega
    rw [if_neg (by omega), if_neg (by omega), hd, if_neg (by simp; omega)]
theorem cntP_q {l : Bytes} {j : Nat} {a b : Int} {z : Bool} {e : Nat} (hz : if z = true then j < l.length ∧ at_ l j = 63 ∧ e = j + 1 else NQ l j ∧ e = j) : (if j < l.length ∧ at_ l j = 63 then Pr.ok (j + 1, some (a, b, true)) else Pr.ok (j, some (a, b, false))) = Pr.ok (e, some (a, b, z)) := by
  cases z with
  | true => rw [if_pos rfl] at hz; rw [if_pos ⟨hz.1, hz.2.1⟩, hz.2.2]
  | false => rw [if_neg (by decide)] at hz; rw [if_neg hz.1, hz.2]
def lzT (z : Bool) : Bytes := if z then [63] else []
theorem lz_fit {l : Bytes} {j : Nat} {z : Bool} (h : Fit l j (lzT z)) (hn : NQ l (j + (lzT z).length)) : if z = true then j < l.length ∧ at_ l j = 63 ∧ j + (lzT z).length = j + 1 else NQ l j ∧ j + (lzT z).length = j := by
  cases z with
  | true => have := h.at0; rw [if_pos rfl]; exact ⟨this.1, this.2, rfl⟩
  | false => rw [if_neg (by decide)]; exact ⟨hn, rfl⟩
theorem cn_star (z : Bool) : CnX (42 :: lzT z) 0 (-1) z := by
  intro l i hf hn
  have f := hf.at0
  have e0 : at_ l i = 42 := f.2
  have hl : i + (42 :: lzT z).length = i + 1 + (lzT z).length := by simp; omega
  rw [hl] at hn ⊢
  unfold cntP
  simp only []
  rw [if_neg (by omega), if_pos e0]
  exact cntP_q (lz_fit hf.tail hn)
theorem cn_plus (z : Bool) : CnX (43 :: lzT z) 1 (-1) z := by
  intro l i hf hn
  have f := hf.at0
  have e0 : at_ l i = 43 := f.2
  have hl : i + (43 :: lzT z).length = i + 1 + (lzT z).length := by simp; omega
  rw [hl] at hn ⊢
  unfold cntP
  simp only []
  rw [if_neg (by omega), if_neg (by omega), if_pos e0]
  exact cntP_q (lz_fit hf.tail hn)
theorem cn_opt (z : Bool) : CnX (63 :: lzT z) 0 1 z := by
  intro l i hf hn
  have f := hf.at0
  have e0 : at_ l i = 63 := f.2
  have hl : i + (63 :: lzT z).length = i + 1 + (lzT z).length := by simp; omega
  rw [hl] at hn ⊢
  unfold cntP
  simp only []
  rw [if_neg (by omega), if_neg (by omega), if_neg (by omega), if_pos e0]
  exact cntP_q (lz_fit hf.tail hn)
theorem cn_bra {s : Bytes} {a b : Int} (h : ∀ (l : Bytes) (i : Nat), Fit l i s → braP l i = .ok (i + s.length, a, b)) (z : Bool) : CnX (123 :: (s ++ lzT z)) a b z := by
  intro l i hf hn
  have f := hf.at0
  have e0 : at_ l i = 123 := f.2
  have hl : i + (123 :: (s ++ lzT z)).length = i + 1 + s.length + (lzT z).length := by simp; omega
  rw [hl] at hn ⊢
  have f1 := hf.tail.app
  unfold cntP
  simp only []
  rw [if_neg (by omega), if_neg (by omega), if_neg (by omega), if_neg (by omega), if_pos e0, h l (i + 1) f1.1]
  exact cntP_q (lz_fit f1.2 hn)
theorem bra_two {m n : Nat} (hm : m ≤ 50) (hn : n ≤ 50) (hmn : m ≤ n) : ∀ (l : Bytes) (i : Nat), Fit l i (decN m ++ 44 :: (decN n ++ [125])) → braP l i = .ok (i + (decN m ++ 44 :: (decN n ++ [125])).length, (m : Int), (n : Int)) := by
  intro l i hf
  have f := hf.app
  have f1 := f.2.at0
  have f2 := f.2.tail.app
  have f3 := f2.2.at0
  have e1 : at_ l (i + (decN m).length) = 44 := f1.2
  have e3 : at_ l (i + (decN m).length + 1 + (decN n).length) = 125 := f3.2
  have hl : i + (decN m ++ 44 :: (decN n ++ [125])).length = i + (decN m).length + 1 + (decN n).length + 1 := by simp; omega
  rw [hl]
  unfold braP
  rw [numP_dec f.1 hm ⟨f1.1, by omega⟩]
  simp only []
  have hd : at_ l (i + (decN m).length + 1) ≠ 125 := by
    have hp := decN_pos n
    have h0 := f2.1.2 0 hp
    rw [Nat.add_zero] at h0
    rw [h0]
    unfold decN at hp ⊢
    split
    · show (UInt8.ofNat (48 + n)).toNat ≠ 125; rw [u8N (by omega)]; omega
    · show (UInt8.ofNat (48 + n / 10)).toNat ≠ 125; rw [u8N (by omega)]; omega
  rw [if_neg (by omega), if_pos e1, if_neg (by omega), if_neg hd, numP_dec f2.1 hn ⟨f3.1, by omega⟩]
  simp only []
  rw [if_neg (by omega), if_neg (by omega), if_pos e3]
theorem bra_one {m : Nat} (hm : m ≤ 50) : ∀ (l : Bytes) (i : Nat), Fit l i (decN m ++ [125]) → braP l i = .ok (i + (decN m ++ [125]).length, (m : Int), (m : Int)) := by
  intro l i hf
  have f := hf.app
  have f1 := f.2.at0
  have e1 : at_ l (i + (decN m).length) = 125 := f1.2
  have hl : i + (decN m ++ [125]).length = i + (decN m).length + 1 := by simp; omega
  rw [hl]
  unfold braP
  rw [numP_dec f.1 hm ⟨f1.1, by omega⟩]
  simp only []
  rw [if_neg (by omega), if_neg (by omega), if_pos e1]
theorem bra_from {m : Nat} (hm : m ≤ 50) : ∀ (l : Bytes) (i : Nat), Fit l i (decN m ++ [44, 125]) → braP l i = .ok (i + (decN m ++ [44, 125]).length, (m : Int), -1) := by
  intro l i hf
  have f := hf.app
  have f1 := f.2.at0
  have f2 := f.2.tail.at0
  have e1 : at_ l (i + (decN m).length) = 44 := f1.2
  have e2 : at_ l (i + (decN m).length + 1) = 125 := f2.2
  have hl : i + (decN m ++ [44, 125]).length = i + (decN m).length + 2 := by simp; omega
  rw [hl]
  unfold braP
  rw [numP_dec f.1 hm ⟨f1.1, by omega⟩]
  simp only []
  rw [if_neg (by omega), if_pos e1, if_neg (by omega), if_pos e2]
/-! ### Atoms -/
theorem at_set1 (d g : Nat) {c : UInt8} (h : c.toNat ≠ 40 ∧ c.toNat ≠ 91 ∧ c.toNat ≠ 46 ∧ c.toNat ≠ 94 ∧ c.toNat ≠ 36 ∧ c.toNat ≠ 92 ∧ c.toNat ≠ 41 ∧ c.toNat ≠ 93 ∧ c.toNat ≠ 123 ∧ c.toNat ≠ 125 ∧ c.toNat ≠ 42 ∧ c.toNat ≠ 43 ∧ c.toNat ≠ 63 ∧ c.toNat ≠ 124) :
    AtX d g [c] g fun out => (out ++ [pSet [((c.toNat : Int), (c.toNat : Int))]], out.length) := by
  have h0 : at_ [c] 0 = c.toNat := rfl
  refine ⟨by simp, by rw [h0]; unfold cntC; omega, by omega, by omega, fun l i out hf => ?_⟩
  have f := hf.at0
  unfold atomP
  rw [if_neg (by omega), if_neg (by omega), if_neg (by omega), if_neg (by omega), if_neg (by omega), if_neg (by omega), if_neg (by omega), f.2]
  rfl
theorem at_esc (d g : Nat) {s : Bytes} {r : Rs} {o : Option Nat} (h : ∀ (l : Bytes) (i : Nat), Fit l i s → escP l i = .ok (i + s.length, r, o)) : AtX d g (92 :: s) g fun out => (out ++ [pSet (runs (inR r))], out.length) := by
  refine ⟨by simp, by show ¬ cntC 92; unfold cntC; omega, by show (92 : Nat) ≠ 124; decide, by show (92 : Nat) ≠ 41; decide, fun l i out hf => ?_⟩
  have f := hf.at0
  have e0 : at_ l i = 92 := f.2
  unfold atomP
  rw [if_neg (by omega), if_neg (by omega), if_neg (by omega), if_neg (by omega), if_neg (by omega), if_pos e0, h l (i + 1) hf.tail]
  show Pr.ok ((i + 1 + s.length, g, out ++ [pSet (runs (inR r))]), (out.length : Int)) = _
  rw [show i + (92 :: s).length = i + 1 + s.length from by simp; omega]
theorem esc_one {c : UInt8} {r : Rs} {o : Option Nat} (h : escC c.toNat = some (r, o)) (hx : c.toNat ≠ 120) : ∀ (l : Bytes) (i : Nat), Fit l i [c] → escP l i = .ok (i + [c].length, r, o) := by
  intro l i hf
  have f := hf.at0
  unfold escP
  rw [if_neg (by omega), f.2, if_neg hx, h]
  rfl
theorem esc_hex {a b : UInt8} {x y : Nat} (ha : hexv a.toNat = some x) (hb : hexv b.toNat = some y) : ∀ (l : Bytes) (i : Nat), Fit l i [120, a, b] → escP l i = .ok (i + [120, a, b].length, [(16 * x + y, 16 * x + y)], some (16 * x + y)) := by
  intro l i hf
  have f := hf.at0
  have f1 := hf.tail.at0
  have f2 := hf.tail.tail.at0
  have e0 : at_ l i = 120 := f.2
  unfold escP
  rw [if_neg (by omega), if_pos e0]
  unfold escX
  rw [if_neg (by omega), f1.2, ha]
  simp only []
  rw [if_neg (by omega), f2.2, hb]
  rfl
theorem at_dot (d g : Nat) : AtX d g [46] g fun out => (out ++ [pSet (runs (inR [(0, 9), (11, 255)]))], out.length) := by
  refine ⟨by simp, by show ¬ cntC 46; unfold cntC; omega, by show (46 : Nat) ≠ 124; decide, by show (46 : Nat) ≠ 41; decide, fun l i out hf => ?_⟩
  have f := hf.at0
  have e0 : at_ l i = 46 := f.2
  unfold atomP
  rw [if_neg (by omega), if_neg (by omega), if_pos e0]
  rfl
theorem at_sta (d g : Nat) : AtX d g [94] g fun out => (out ++ [pSta], out.length) := by
  refine ⟨by simp, by show ¬ cntC 94; unfold cntC; omega, by show (94 : Nat) ≠ 124; decide, by show (94 : Nat) ≠ 41; decide, fun l i out hf => ?_⟩
  have f := hf.at0
  have e0 : at_ l i = 94 := f.2
  unfold atomP
  rw [if_neg (by omega), if_neg (by omega), if_neg (by omega), if_pos e0]
  rfl
theorem at_end (d g : Nat) : AtX d g [36] g fun out => (out ++ [pEnd], out.length) := by
  refine ⟨by simp, by show ¬ cntC 36; unfold cntC; omega, by show (36 : Nat) ≠ 124; decide, by show (36 : Nat) ≠ 41; decide, fun l i out hf => ?_⟩
  have f := hf.at0
  have e0 : at_ l i = 36 := f.2
  unfold atomP
  rw [if_neg (by omega), if_neg (by omega), if_neg (by omega), if_neg (by omega), if_pos e0]
  rfl
theorem at_cls (d g : Nat) {s : Bytes} {rs : List (Int × Int)} (h : ∀ (l : Bytes) (i : Nat), Fit l i (91 :: s) → setP l i = .ok (i + (91 :: s).length, rs)) : AtX d g (91 :: s) g fun out => (out ++ [pSet rs], out.length) := by
  refine ⟨by simp, by show ¬ cntC 91; unfold cntC; omega, by show (91 : Nat) ≠ 124; decide, by show (91 : Nat) ≠ 41; decide, fun l i out hf => ?_⟩
  have f := hf.at0
  have e0 : at_ l i = 91 := f.2
  unfold atomP
  rw [if_neg (by omega), if_pos e0, h l i hf]
end Go.Vc
/- An escaped text, read and matched. No statement of the seat is proved here. -/
namespace Go.Vc
set_option linter.unusedVariables false
set_option linter.unusedSimpArgs false
theorem inR_eq {c n : Nat} : inR [(c, c)] n = decide (n = c) := by
  unfold inR
  simp only [List.any_cons, List.any_nil, Bool.or_false]
  apply decide_eq_decide.2
  omega
theorem runEnd_out {f : Nat → Bool} {j : Nat} (h : f (j + 1) = false) : runEnd f j = j := by
  rw [runEnd]; split <;> simp [h]
theorem runsF_one {c : Nat} (hc : c < 256) : ∀ (k i : Nat), k = 256 - i → runsF (inR [(c, c)]) i = if i ≤ c then [((c : Int), (c : Int))] else []
  | 0, i, hk => by rw [runsF, dif_neg (by omega), if_neg (by omega)]
  | k + 1, i, hk => by
    rw [runsF, dif_pos (by omega), inR_eq]
    by_cases h : i = c
    · subst h
      rw [decide_eq_true rfl, if_pos rfl, if_pos (Nat.le_refl _), runEnd_out (by rw [inR_eq]; exact decide_eq_false (by omega)), runsF_one hc k (i + 1) (by omega), if_neg (by omega)]
    · rw [decide_eq_false h, if_neg (by decide), runsF_one hc k (i + 1) (by omega)]
      by_cases h2 : i ≤ c
      · rw [if_pos h2, if_pos (by omega)]
      · rw [if_neg h2, if_neg (by omega)]
theorem runs_sg {c : Nat} (hc : c < 256) : runs (inR [(c, c)]) = [((c : Int), (c : Int))] := by
  unfold runs; rw [runsF_one hc 256 0 rfl, if_pos (Nat.zero_le _)]
def sgP (c : UInt8) : Pc := pSet [((c.toNat : Int), (c.toNat : Int))]
theorem hexv_hexd {n : Nat} (h : n < 16) : hexv (hexd n).toNat = some n := by
  have : ∀ k : Fin 16, hexv (hexd k.val).toNat = some k.val := by decide +kernel
  exact this ⟨n, h⟩
theorem escB_at (d g : Nat) (c : UInt8) : AtX d g (escB c.toNat) g fun out => (out ++ [sgP c], out.length) := by
  have hc := c.toNat_lt
  have hcc : UInt8.ofNat c.toNat = c := by simp
  by_cases h1 : c.toNat < 33 ∨ 126 < c.toNat
  · rw [escB_hex h1]
    have := at_esc d g (esc_hex (a := hexd (c.toNat / 16)) (b := hexd (c.toNat % 16)) (hexv_hexd (by omega)) (hexv_hexd (by omega)))
    rw [show 16 * (c.toNat / 16) + c.toNat % 16 = c.toNat from by omega, runs_sg (by omega)] at this
    exact this
  · by_cases h2 : (48 ≤ c.toNat ∧ c.toNat ≤ 57) ∨ (97 ≤ c.toNat ∧ c.toNat ≤ 122) ∨ (65 ≤ c.toNat ∧ c.toNat ≤ 90) ∨ c.toNat = 95 ∨ c.toNat = 44 ∨ c.toNat = 58 ∨ c.toNat = 61
    · rw [escB_id h1 h2, hcc]
      exact at_set1 d g (by omega)
    · rw [escB_bs h1 h2, hcc]
      have he : escC c.toNat = some ([(c.toNat, c.toNat)], some c.toNat) := by
        unfold escC
        rw [if_neg (by omega), if_neg (by omega), if_neg (by omega), if_neg (by omega), if_neg (by omega), if_neg (by omega), if_pos (by omega)]
      have := at_esc d g (esc_one he (by omega))
      rw [runs_sg (by omega)] at this
      exact this
def ixs (n : Nat) : List Int := (List.range n).map fun i : Nat => (i : Int)
theorem ixs_succ (n : Nat) : ixs (n + 1) = ixs n ++ [(n : Int)] := by simp [ixs, List.range_succ]
theorem escL_snoc' (t : Bytes) (c : UInt8) : escL (t ++ [c]) = escL t ++ escB c.toNat := by simp [escL]
/-- Reading an escaped text from the start of a pattern. -/
theorem escL_sq (d g : Nat) (t : Bytes) : ∃ F, SqX d g (escL t) g F ∧ F [] [] = (t.map sgP, ixs t.length) := by
  induction hn : t.length generalizing t with
  | zero =>
    have : t = [] := List.length_eq_zero_iff.1 hn
    subst this
    exact ⟨_, SqX.nil d g, rfl⟩
  | succ n ih =>
    obtain ⟨r, c, rfl⟩ : ∃ r c, t = r ++ [c] := ⟨t.dropLast, t.getLast (by intro h; subst h; simp at hn), (List.dropLast_concat_getLast _).symm⟩
    have hr : r.length = n := by simpa using hn
    obtain ⟨F, hF, hv⟩ := ih r hr
    rw [escL_snoc']
    refine ⟨_, hF.app (escB_at d g c).one, ?_⟩
    simp only [hv]
    rw [List.map_append, ixs_succ, List.length_map, hr]
    rfl
def escPs (t : Bytes) : List Pc := t.map sgP ++ [pSeq (ixs t.length)]
theorem escL_read (t : Bytes) (h : (escL t).length ≤ 120) : readP (escL t) = ⟨true, 0, 0, escPs t⟩ := by
  obtain ⟨F, hF, hv⟩ := escL_sq 6 0 t
  rw [hF.pat.read h]
  simp only [hv]
  rfl
theorem escPs_at {t : Bytes} {k : Nat} (h : k < t.length) : (escPs t).getD k pSta = sgP (t.getD k 0) := by
  unfold escPs
  rw [List.getD_eq_getElem?_getD, List.getElem?_append_left (by simpa using h), List.getElem?_map, List.getD_eq_getElem?_getD, List.getElem?_eq_getElem h]
  rfl
theorem escPs_last (t : Bytes) : (escPs t).getD t.length pSta = pSeq (ixs t.length) := by
  unfold escPs
  rw [List.getD_eq_getElem?_getD, List.getElem?_append_right (by simp)]
  simp
theorem ends_sg (t u : Bytes) {k i : Nat} (h : k < t.length) : endsP (escPs t) u k i = if i < u.length ∧ at_ u i = at_ t k then [(i + 1, gNone)] else [] := by
  rw [endsP, escPs_at h]
  unfold workP
  rw [if_pos (show (sgP (t.getD k 0)).kind = 1 from rfl)]
  have e : inSet (sgP (t.getD k 0)).set (at_ u i) = decide (at_ u i = at_ t k) := by
    unfold inSet sgP pSet at_
    simp only [List.any_cons, List.any_nil, Bool.or_false]
    rw [← Bool.decide_and]
    apply decide_eq_decide.2
    omega
  rw [e]
  by_cases h2 : i < u.length ∧ at_ u i = at_ t k
  · rw [if_pos h2, if_pos ⟨h2.1, decide_eq_true h2.2⟩]
  · rw [if_neg h2, if_neg]; rintro ⟨a, b⟩; exact h2 ⟨a, of_decide_eq_true b⟩
theorem thenP_nil (next : Nat → List Wy) : thenP [] next = [] := rfl
theorem thenP_one {i j : Nat} {next : Nat → List Wy} (h : next i = [(j, gNone)]) : thenP [(i, gNone)] next = [(j, gNone)] := by
  unfold thenP
  simp only [List.flatMap_cons, List.flatMap_nil, h, List.map_cons, List.map_nil, List.append_nil, gOver_none]
  rfl
theorem thenP_none {i : Nat} {next : Nat → List Wy} (h : next i = []) : thenP [(i, gNone)] next = [] := by
  unfold thenP
  simp only [List.flatMap_cons, List.flatMap_nil, h, List.map_nil, List.append_nil]
  rfl
/-- The text begins so. -/
def Pre (t u : Bytes) (j : Nat) : Prop := ∀ q, q < j → q < u.length ∧ at_ u q = at_ t q
theorem seq_fold (t u : Bytes) : ∀ (j : Nat), j ≤ t.length → ∀ (sub : Nat → Nat → List Wy), (∀ k p, k < t.length → sub k p = endsP (escPs t) u k p) →
    (Pre t u j → (ixs j).foldl (fun cur k => thenP cur (sub k.toNat)) [(0, gNone)] = [(j, gNone)]) ∧ (¬ Pre t u j → (ixs j).foldl (fun cur k => thenP cur (sub k.toNat)) [(0, gNone)] = [])
  | 0, _, sub, _ => ⟨fun _ => rfl, fun h => (h fun q hq => by omega).elim⟩
  | j + 1, hj, sub, hs => by
    have ih := seq_fold t u j (by omega) sub hs
    rw [ixs_succ, List.foldl_append]
    simp only [List.foldl_cons, List.foldl_nil, Int.toNat_natCast]
    refine ⟨fun h => ?_, fun h => ?_⟩
    · rw [ih.1 fun q hq => h q (by omega)]
      refine thenP_one ?_
      rw [hs j j (by omega), ends_sg t u (by omega), if_pos (h j (by omega))]
    · by_cases h1 : Pre t u j
      · rw [ih.1 h1]
        refine thenP_none ?_
        rw [hs j j (by omega), ends_sg t u (by omega), if_neg]
        intro h2
        apply h
        intro q hq
        by_cases hqj : q = j
        · subst hqj; exact h2
        · exact h1 q (by omega)
      · rw [ih.2 h1]; rfl
theorem esc_ends (t u : Bytes) : (Pre t u t.length → endsP (escPs t) u t.length 0 = [(t.length, gNone)]) ∧ (¬ Pre t u t.length → endsP (escPs t) u t.length 0 = []) := by
  have := seq_fold t u t.length (Nat.le_refl _) (fun k' p => if h : k' < t.length then endsP (escPs t) u k' p else []) (fun k p hk => by rw [dif_pos hk])
  rw [endsP, escPs_last]
  exact this
theorem eq_of_pre {t u : Bytes} (h : Pre t u t.length) (hl : u.length = t.length) : u = t := by
  refine List.ext_getElem hl fun i h1 h2 => ?_
  have := (h i h2).2
  unfold at_ at this
  rw [List.getD_eq_getElem?_getD, List.getD_eq_getElem?_getD, List.getElem?_eq_getElem h1, List.getElem?_eq_getElem h2] at this
  simpa using UInt8.toNat_inj.1 this
theorem esc_whole (t u : Bytes) (h : (escL t).length ≤ 120) : (wholeP (readP (escL t)) u).ok = decide (u = t) := by
  rw [escL_read t h]
  have hlen : (escPs t).length - 1 = t.length := by simp [escPs]
  have hw : waysP ⟨true, 0, 0, escPs t⟩ u 0 = (endsP (escPs t) u t.length 0).map (mtP 0 0) := by unfold waysP; simp only [hlen]
  unfold wholeP
  rw [hw]
  by_cases hp : Pre t u t.length
  · rw [(esc_ends t u).1 hp]
    by_cases hl : u.length = t.length
    · have := eq_of_pre hp hl
      subst this
      rw [decide_eq_true rfl]
      simp [mtP]
    · rw [decide_eq_false (fun h => hl (by rw [h]))]
      have : ¬ t.length = u.length := fun h => hl h.symm
      simp [mtP, this, mt0]
  · rw [(esc_ends t u).2 hp]
    rw [decide_eq_false]
    · rfl
    · rintro rfl; exact hp fun q hq => ⟨hq, rfl⟩
end Go.Vc
/- The law on Escape. No statement of the seat is proved here. -/
namespace Go.Proofs.Ytngbiaeliphdjaa.V
open Go.Vc Go.Proofs Go.RowKit
set_option linter.unusedVariables false
set_option linter.unusedSimpArgs false
theorem _root_.Go.Vc.GBytes.below {w w' : World} {B : Nat} {a : Option Addr} {l : Nat} (h : GBytes w B a l) (hB : B ≤ w.heap.size) (e : Below w.heap.size w w') : GBytes w' B a l := h.ext (S := fun _ => False) (Ext.of_below e) hB fun _ _ h => h
theorem wByte_ok {w : World} {B : Nat} {a : Option Addr} {l c : Nat} (h : GBytes w B a l) (i : Nat) (hi : i ≤ 1000) :
    Cl Try.prog 28 [.slice a l c, .int .i64 (i : Int)] w (fun e w' => ∃ r : Nat, e = .returned (.int .i64 (r : Int)) ∧ r ≤ 255 ∧ Below w.heap.size w w') := by
  apply vc28
  unfold V28
  refine ⟨fun _ => ⟨0, rfl, by omega, Below.refl _ _⟩, fun g => ?_⟩
  have hl : l ≠ 0 := by rintro rfl; simp at g
  rcases h.2 with h0 | ⟨b, o, rfl, hb, hc⟩
  · omega
  have ht : Int.tmod (i : Int) ((l : Nat) : Int) = ((i % l : Nat) : Int) := by rw [Int.tmod_eq_emod_of_nonneg (by omega), Int.natCast_emod]
  have hlt := Nat.mod_lt i (Nat.pos_of_ne_zero hl)
  obtain ⟨n, h1, h2, h3⟩ := hc (i % l) hlt
  rw [ht]
  refine ⟨by omega, b, o, ⟨rfl, by omega, by omega⟩, n, ?_, n.toNat, ?_, by omega, Below.refl _ _⟩
  · rw [show Int.toNat ((i % l : Nat) : Int) * 1 = i % l from by omega]; exact h3
  · rw [w64 (by omega), Int.toNat_of_nonneg h1]
/-- A string becomes bytes. -/
theorem toBytes_in (s : Bytes) (w : World) : ∃ c w', (convert 9 22 (.string (B s))).run Try.prog w = .ok (.slice (some ⟨w.heap.size, 0, none⟩) s.length c) w' ∧ Ext (fun _ => False) w w' ∧ w.heap.size < w'.heap.size ∧
    (∀ i, (h : i < s.length) → cellH w'.heap w.heap.size i = some (.int .u8 (s[i].toNat : Int)) ∧ frozH w'.heap w.heap.size i = false) := by
  have h := run_bytes_of_string (P := Try.prog) w 9 22 5 (B s) Try.underlying9 Try.underlying22 Try.underlying5
  rw [size_B] at h
  have hg : s.length ≤ grownCap w s.length 0 5 := by unfold grownCap; simp only [Question.cut]; omega
  refine ⟨_, _, h, ⟨rfl, rfl, rfl, ?_, fun k hk _ => ?_⟩, ?_, fun i hi => ?_⟩
  · show w.heap.size ≤ (w.heap.push _).size; simp
  · show (w.heap.push _)[k]? = _; rw [Array.getElem?_push, if_neg (by omega)]
  · show w.heap.size < (w.heap.push _).size; simp
  · have hb : (w.drew.alloc (.cells (bytesRow (B s) (grownCap w s.length 0 5)) 5 ((bytesRow (B s) (grownCap w s.length 0 5)).size, (bytesRow (B s) (grownCap w s.length 0 5)).size + 1))).heap[w.heap.size]? = some (.cells (bytesRow (B s) (grownCap w s.length 0 5)) 5 ((bytesRow (B s) (grownCap w s.length 0 5)).size, (bytesRow (B s) (grownCap w s.length 0 5)).size + 1)) := by
      show (w.heap.push _)[w.heap.size]? = _; simp
    have hz : (bytesRow (B s) (grownCap w s.length 0 5)).size = grownCap w s.length 0 5 := by
      unfold bytesRow; rw [size_B]; simp [B]; omega
    constructor
    · unfold cellH; rw [hb]
      simp only [bytesRow]
      rw [Array.getElem?_append_left (by simp [B]; omega)]
      simp [B, hi]
    · unfold frozH; rw [hb]
      simp only [hz]
      simp; omega
/-- One of the bytes is changed, and they become a string again. -/
theorem flip_in {w : World} {b c n i : Nat} {xs : Bytes} (hn : xs.length = n) (hc : ∀ i, (h : i < xs.length) → cellH w.heap b i = some (.int .u8 (xs[i].toNat : Int)) ∧ frozH w.heap b i = false) (hi : i < n) {x : Int} {v : UInt8} (hx : x = (v.toNat : Int)) {K : World → Prop}
    (hK : ∀ w', Ext (fun k => k = b) w w' → (convert 22 9 (.slice (some ⟨b, 0, none⟩) n c)).run Try.prog w' = .ok (.string (B (xs.set i v))) w' → K w') : stW b i [.int .u8 x] K w := by
  subst hx hn
  have h0 := hc i hi
  refine ⟨wrL_cons.2 ⟨⟨⟨_, h0.1⟩, h0.2⟩, trivial⟩, hK _ (Ext.vsets (S := fun k => k = b) (b := b) (.inl rfl) (Ext.refl _ _)) ?_⟩
  refine conv_run Try.underlying22 Try.underlying9 Try.underlying5 (by simp) ?_
  refine (cellsAt_iff _ 0).2 fun j hj => ?_
  have hj' : j < xs.length := by simpa [u8s] using hj
  rw [Nat.zero_add]
  show cellH (setH w.heap b i (.int .u8 (v.toNat : Int))) b j = _
  rw [cellH_setH]
  unfold u8s
  rw [List.getElem?_map, List.getElem?_set]
  by_cases h : i = j
  · subst h; simp [h0.1, hj']
  · rw [if_neg (by rintro ⟨_, h2⟩; exact h h2), if_neg h, (hc j hj').1]
    simp [hj']
theorem escT_short {t : Bytes} (h : t.length ≤ 27) : escT t = escL t ∧ (escL t).length ≤ 120 := by
  have hl : ∀ t : Bytes, (escL t).length ≤ 4 * t.length := by
    intro t
    induction t with
    | nil => simp [escL]
    | cons c r ih =>
      have := (escB_len c.toNat).2
      rw [show escL (c :: r) = escB c.toNat ++ escL r from rfl, List.length_append, List.length_cons]
      omega
  have := hl t
  exact ⟨by unfold escT; rw [if_neg (by omega)], by omega⟩
theorem esc_wholeA {t u : Bytes} (h : t.length ≤ 27) (hu : u.length ≤ 200) : (wholeA (escL t) u).ok = decide (u = t) := by
  have he := (escT_short h).2
  unfold wholeA okA
  rw [escL_read t he, if_pos (by simpa using hu), ← esc_whole t u he, escL_read t he]
theorem xor_ne {b : UInt8} {x : Nat} (h1 : 1 ≤ x) (h2 : x ≤ 255) : ∃ v : UInt8, v ≠ b ∧ IntKind.wrap .u8 (((BitVec.ofInt 8 (b.toNat : Int) ^^^ BitVec.ofInt 8 (IntKind.wrap .u8 (x : Int))).toNat : Int)) = (v.toNat : Int) := by
  refine ⟨⟨BitVec.ofInt 8 (b.toNat : Int) ^^^ BitVec.ofInt 8 (IntKind.wrap .u8 (x : Int))⟩, fun e => ?_, ?_⟩
  · have e2 : (BitVec.ofInt 8 (b.toNat : Int)) = b.toBitVec := by
      apply BitVec.eq_of_toNat_eq
      rw [BitVec.toNat_ofInt]
      have := b.toNat_lt
      show ((b.toNat : Int) % ((2 ^ 8 : Nat) : Int)).toNat = b.toNat
      have h8 : ((2 ^ 8 : Nat) : Int) = 256 := by decide
      rw [h8]; omega
    have e3 := congrArg UInt8.toBitVec e
    rw [e2] at e3
    have e4 : BitVec.ofInt 8 (IntKind.wrap .u8 (x : Int)) = 0#8 := by
      have := congrArg (fun z => b.toBitVec ^^^ z) e3
      simp only [BitVec.xor_self] at this
      rw [← BitVec.xor_assoc, BitVec.xor_self, BitVec.zero_xor] at this
      exact this
    have e5 := congrArg BitVec.toNat e4
    rw [BitVec.toNat_ofInt, w8] at e5
    have h8 : ((2 ^ 8 : Nat) : Int) = 256 := by decide
    rw [h8] at e5
    simp at e5
    omega
  · generalize (BitVec.ofInt 8 (b.toNat : Int) ^^^ BitVec.ofInt 8 (IntKind.wrap .u8 (x : Int))) = z
    rw [w8]
    have : z.toNat < 256 := z.isLt
    show ((z.toNat : Nat) : Int) % 256 = (z.toNat : Int)
    omega
theorem lawEscape_ok (a1 : Option Addr) (l1 c1 : Nat) (a2 : Option Addr) (l2 c2 : Nat) (w : World) (h1 : l1 ≤ 1048576 → GBytes w w.heap.size a1 l1) (h2 : l2 ≤ 1048576 → GBytes w w.heap.size a2 l2) :
    Cl Try.prog 5 [.slice a1 l1 c1, .slice a2 l2 c2] w (RetB (.bool true) w) := by
  apply vc5
  unfold V5
  refine ⟨fun _ => ⟨rfl, Below.refl _ _⟩, fun g1 => ⟨fun _ => ⟨rfl, Below.refl _ _⟩, fun g2 => ?_⟩⟩
  have g1' : l1 ≤ 1048576 := by have := of_decide_eq_false g1; omega
  have g2' : l2 ≤ 1048576 := by have := of_decide_eq_false g2; omega
  have H1 := h1 g1'
  have H2 := h2 g2'
  refine (texts_ok H1 g1').use fun e w4 he => ?_
  obtain ⟨t, rfl, ht_, B4⟩ := he
  have hes := escT_short ht_
  refine ⟨_, rfl, (implEscape_ok (B t) (by rw [size_B]; omega) w4).ret fun w7 B7 => ⟨_, rfl, (specEscape_ok (B t) (by rw [size_B]; omega) w7).ret fun w10 B10 => ⟨_, rfl, ?_⟩⟩⟩
  rw [L_B, hes.1]
  have B10' := (B4.vstep B7).vstep B10
  refine ⟨fun g => by simp at g, fun _ => ?_⟩
  have hw := fun u w => implWhole_ok (B (escL t)) (B u) w
  refine (hw t w10).use fun e w16 he => ?_
  obtain ⟨g16, rfl, _, _, B16⟩ := he
  simp only [L_B]
  have ok1 := esc_wholeA ht_ (u := t) (by omega)
  rw [decide_eq_true rfl] at ok1
  have B16' := B10'.vstep B16
  refine ⟨_, _, _, _, _, _, rfl, fun g => by rw [ok1] at g; simp at g, fun _ => ⟨fun g => ?_, fun g => ?_⟩⟩
  · have ht0 : t = [] := by
      have : (B t).toList = (⟨#[]⟩ : ByteArray).toList := by simpa using g
      rw [toList_eq, toList_eq, L_B] at this
      exact this
    subst ht0
    refine (hw [120] w16).use fun e w22 he => ?_
    obtain ⟨g22, rfl, _, _, B22⟩ := he
    have ok2 := esc_wholeA (t := []) (by simp) (u := [120]) (by simp)
    refine ⟨_, _, _, _, _, _, rfl, ?_, B16'.vstep B22⟩
    simp only [L_B]
    rw [ok2]
    rfl
  · have hne : t ≠ [] := by
      rintro rfl
      rw [toList_eq, toList_eq] at g
      simp [B, L] at g
    have hpos := List.length_pos_iff.2 hne
    obtain ⟨c25, w25, hr25, e25, hs25, hc25⟩ := toBytes_in t w16
    refine ⟨_, _, _, w25, hr25, ?_⟩
    have B25 := Ext.to B16' e25 fun _ h => h.elim
    refine (wByte_ok (H2.below (Nat.le_refl _) B25) 0 (by omega)).use fun e w27 he => ?_
    obtain ⟨r1, rfl, hr1, B27⟩ := he
    refine ⟨r1, rfl, ?_⟩
    have ht : Int.tmod (r1 : Int) ((t.length : Nat) : Int) = ((r1 % t.length : Nat) : Int) := by rw [Int.tmod_eq_emod_of_nonneg (by omega), Int.natCast_emod]
    have hlt := Nat.mod_lt r1 hpos
    dsimp only
    rw [ht]
    generalize r1 % t.length = i at *
    rw [show Int.toNat (i : Int) * 1 = i from by omega]
    have B27' := B25.vstep B27
    refine ⟨by omega, drw_in fun w29 q29 e29 => ?_⟩
    have B29 := Ext.to B27' e29 fun _ h => h.elim
    have k29 : ∀ j, (h : j < t.length) → cellH w29.heap w16.heap.size j = some (.int .u8 (t[j].toNat : Int)) ∧ frozH w29.heap w16.heap.size j = false := fun j hj => by
      have h3 := hc25 j hj
      have h4 : w29.heap[w16.heap.size]? = w25.heap[w16.heap.size]? := by rw [q29]; exact B27.block _ hs25
      unfold cellH frozH at *
      rw [h4]; exact h3
    refine ⟨_, 0, ⟨rfl, by omega, by omega⟩, _, by rw [Nat.zero_add]; exact (k29 i hlt).1, ?_⟩
    refine (wByte_ok (H2.below (Nat.le_refl _) B29) 1 (by omega)).use fun e w34 he => ?_
    obtain ⟨r2, rfl, hr2, B34⟩ := he
    have k34 : ∀ j, (h : j < t.length) → cellH w34.heap w16.heap.size j = some (.int .u8 (t[j].toNat : Int)) ∧ frozH w34.heap w16.heap.size j = false := fun j hj => by
      have h3 := k29 j hj
      have h4 : w34.heap[w16.heap.size]? = w29.heap[w16.heap.size]? := B34.block _ (by rw [q29]; have := B27.size; omega)
      unfold cellH frozH at *
      rw [h4]; exact h3
    have B34' := B29.vstep B34
    refine ⟨r2, rfl, by rw [Nat.zero_add]; exact (k34 i hlt).1, by decide, _, 0, ⟨rfl, by omega, by omega⟩, ?_⟩
    have ht2 : IntKind.wrap .i64 (1 + Int.tmod (r2 : Int) 255) = ((1 + r2 % 255 : Nat) : Int) := by
      rw [Int.tmod_eq_emod_of_nonneg (by omega), w64 (by omega)]; omega
    dsimp only
    rw [ht2, Nat.zero_add]
    obtain ⟨v, hv, hx⟩ := xor_ne (b := t[i]) (x := 1 + r2 % 255) (by omega) (by omega)
    refine flip_in (c := c25) rfl k34 hlt hx fun w38 e38 hr38 => ?_
    have B38 := Ext.to B34' e38 fun k hk => by have := B16'.size; omega
    refine ⟨_, hr38, ?_⟩
    refine (hw (t.set i v) w38).use fun e w44 he => ?_
    obtain ⟨g44, rfl, _, _, B44⟩ := he
    simp only [L_B]
    have ok3 := esc_wholeA ht_ (u := t.set i v) (by simp; omega)
    rw [decide_eq_false (fun h => hv (by
      have h5 := congrArg (fun l : Bytes => l[i]?) h
      simp only [List.getElem?_set_self hlt, List.getElem?_eq_getElem hlt] at h5
      simpa using h5))] at ok3
    have B44' := B38.vstep B44
    refine ⟨_, _, _, _, _, _, rfl, fun _ => ⟨?_, ?_⟩, fun g => by rw [ok3] at g; simp at g⟩
    · rw [size_B]; show t.length + 1 ≤ _; omega
    rw [show (⟨#[120]⟩ : ByteArray) = B [120] from rfl, B_append]
    refine (hw (t ++ [120]) w44).use fun e w50 he => ?_
    obtain ⟨g50, rfl, _, _, B50⟩ := he
    have ok4 := esc_wholeA ht_ (u := t ++ [120]) (by simp; omega)
    rw [decide_eq_false (fun h => by have := congrArg List.length h; simp at this)] at ok4
    refine ⟨_, _, _, _, _, _, rfl, ?_, B44'.vstep B50⟩
    simp only [L_B]
    rw [ok4]
    rfl
end Go.Proofs.Ytngbiaeliphdjaa.V
/- A counted group over a text of one letter, read and matched. No statement of the seat is proved here. -/
namespace Go.Vc
set_option linter.unusedVariables false
set_option linter.unusedSimpArgs false
def cntT (m k : Nat) (z : Bool) : Bytes := (40 :: ([97] ++ [41])) ++ 123 :: ((decN m ++ 44 :: (decN k ++ [125])) ++ lzT z)
def cntPs (m k : Nat) (z : Bool) : List Pc := [pSet [(97, 97)], pSeq [0], pGrp 1 1, pRep m k z 2, pSeq [3]]
theorem decN_len (n : Nat) : (decN n).length ≤ 2 := by unfold decN; split <;> simp
theorem cnt_read (m k : Nat) (z : Bool) (hm : m ≤ k) (hk : k ≤ 50) : readP (cntT m k z) = ⟨true, 0, 1, cntPs m k z⟩ := by
  have h0 : AtX 5 1 [97] 1 _ := at_set1 5 1 (c := 97) (by decide)
  have h1 := (h0.one.pat.grp (g := 0) (by decide)).cnt (cn_bra (bra_two (m := m) (n := k) (by omega) hk hm) z)
  have hl : (cntT m k z).length ≤ 120 := by
    have h2 := decN_len m
    have h3 := decN_len k
    have h4 : (lzT z).length ≤ 1 := by unfold lzT; split <;> simp
    unfold cntT
    simp only [List.length_append, List.length_cons, List.length_nil]
    omega
  exact h1.pat.read hl
theorem DD.mapF {l : List Wy} (h : DD l) {f : Wy → Wy} (hf : ∀ x, (f x).1 = x.1) : DD (l.map f) := by
  unfold DD at *
  rw [List.map_map]
  rw [show ((fun x : Wy => x.1) ∘ f) = (fun x : Wy => x.1) from funext hf]
  exact h
theorem thenP_sg {i : Nat} {g : Gr} {next : Nat → List Wy} (h : DD (next i)) : thenP [(i, g)] next = (next i).map fun b => (b.1, gOver g b.2) := by
  unfold thenP
  simp only [List.flatMap_cons, List.flatMap_nil, List.append_nil]
  rw [addA_DD (by simpa using h.mapF (f := fun b => (b.1, gOver g b.2)) fun _ => rfl)]
  rfl
theorem thenP_id {i : Nat} {next : Nat → List Wy} (h : DD (next i)) : thenP [(i, gNone)] next = next i := by
  rw [thenP_sg h]
  simp only [none_gOver]
  exact List.map_id _
theorem addA_id {l : List Wy} (h : DD l) : addA [] l = l := by rw [addA_DD (by simpa using h)]; rfl
def g1 (p : Nat) : Gr := gSet gNone 1 (p, p + 1)
def gAt (j : Nat) : Gr := if j = 0 then gNone else g1 (j - 1)
theorem gOver_g1 {a : Gr} (ha : ∀ k, k ≠ 1 → a k = none) (p : Nat) : gOver a (g1 p) = g1 p := by
  funext k
  unfold gOver g1 gSet
  by_cases h : k = 1
  · simp [h]
  · simp [h, gNone, ha k h]
theorem g1_only (p k : Nat) (h : k ≠ 1) : g1 p k = none := by simp [g1, gSet, h, gNone]
theorem gAt_only (p k : Nat) (h : k ≠ 1) : gAt p k = none := by
  unfold gAt; split
  · rfl
  · exact g1_only _ _ h
theorem gAt_succ (p : Nat) : gAt (p + 1) = g1 p := by simp [gAt]
def aas (n : Nat) : Bytes := List.replicate n 97
theorem at_aas {n p : Nat} (h : p < n) : at_ (aas n) p = 97 := by
  unfold at_ aas
  rw [List.getD_eq_getElem?_getD, List.getElem?_replicate_of_lt h]
  rfl
section
variable (m k : Nat) (z : Bool) (n : Nat)
theorem cnt0 (p : Nat) : endsP (cntPs m k z) (aas n) 0 p = if p < n then [(p + 1, gNone)] else [] := by
  rw [endsP]
  show workP _ _ (pSet [(97, 97)]) p = _
  unfold workP
  rw [if_pos (by decide)]
  have hl : (aas n).length = n := by simp [aas]
  rw [hl]
  by_cases h : p < n
  · rw [if_pos h, if_pos ⟨h, by rw [at_aas h]; rfl⟩]
  · rw [if_neg h, if_neg fun h2 => h h2.1]
theorem cnt1 (p : Nat) : endsP (cntPs m k z) (aas n) 1 p = if p < n then [(p + 1, gNone)] else [] := by
  rw [endsP]
  show workP _ _ (pSeq [0]) p = _
  unfold workP
  rw [if_neg (by decide), if_pos (by decide)]
  show thenP [(p, gNone)] (fun q => if h : (0 : Int).toNat < 1 then endsP (cntPs m k z) (aas n) (0 : Int).toNat q else []) = _
  rw [thenP_id]
  · exact cnt0 m k z n p
  · exact endsP_dd _ _ _ _
theorem cnt2 (p : Nat) : endsP (cntPs m k z) (aas n) 2 p = if p < n then [(p + 1, g1 p)] else [] := by
  rw [endsP]
  show workP _ _ (pGrp 1 1) p = _
  unfold workP
  rw [if_neg (by decide), if_neg (by decide), if_neg (by decide), if_neg (by decide), if_pos (by decide)]
  show addA [] ((endsP (cntPs m k z) (aas n) 1 p).map fun w => (w.1, gSet w.2 (1 : Int).toNat (p, w.1))) = _
  rw [cnt1]
  by_cases h : p < n
  · rw [if_pos h, if_pos h]; rfl
  · rw [if_neg h, if_neg h]; rfl
end
section
variable {n : Nat} {sub : Nat → List Wy} (hs : ∀ p, sub p = if p < n then [(p + 1, g1 p)] else [])
include hs
theorem rep_aas : ∀ (j i : Nat), i ≤ n → repP sub j [(i, gAt i)] = if i + j ≤ n then [(i + j, gAt (i + j))] else []
  | 0, i, hi => by rw [if_pos (by omega)]; rfl
  | j + 1, i, hi => by
    show repP sub j (thenP [(i, gAt i)] sub) = _
    by_cases h : i < n
    · have h1 : thenP [(i, gAt i)] sub = [(i + 1, gAt (i + 1))] := by
        rw [thenP_sg (by rw [hs, if_pos h]; exact DD.one _), hs, if_pos h]
        simp only [List.map_cons, List.map_nil]
        rw [gOver_g1 (gAt_only i), gAt_succ]
      rw [h1, rep_aas j (i + 1) (by omega)]
      rw [show i + 1 + j = i + (j + 1) from by omega]
    · have h1 : thenP [(i, gAt i)] sub = [] := by
        rw [thenP_sg (by rw [hs, if_neg h]; exact DD.nil), hs, if_neg h]; rfl
      rw [h1, if_neg (by omega)]
      have : ∀ j, repP sub j [] = [] := by
        intro j
        induction j with
        | zero => rfl
        | succ j ih => show repP sub j (thenP [] sub) = []; exact ih
      exact this j
def hh (i e : Nat) : Gr := if e = 0 then gNone else g1 (i + e - 1)
omit hs in
theorem hh_zero (i : Nat) : hh i 0 = gNone := by simp [hh]
omit hs in
theorem hh_succ (i e : Nat) : hh i (e + 1) = g1 (i + e) := by simp [hh]
omit hs in
theorem dd_up (i : Nat) (h : Nat → Gr) : ∀ c, DD ((List.range c).map fun e => (i + e, h e)) := by
  intro c
  unfold DD
  rw [List.map_map]
  have := List.nodup_range (n := c)
  rw [List.nodup_iff_pairwise_ne] at this ⊢
  rw [List.pairwise_map]
  exact this.imp fun hab => by simpa using hab
omit hs in
theorem DD.rev {l : List Wy} (h : DD l) : DD l.reverse := by
  unfold DD at *
  rw [List.map_reverse]
  rw [List.nodup_iff_pairwise_ne] at h ⊢
  rw [List.pairwise_reverse]
  exact h.imp fun hab => hab.symm
theorem more_aas (z : Bool) : ∀ (q i : Nat), i ≤ n → moreP sub n z (some q) i = if z then (List.range (min q (n - i) + 1)).map fun e => (i + e, hh i e) else ((List.range (min q (n - i) + 1)).map fun e => (i + e, hh i e)).reverse := by
  intro q
  induction q with
  | zero =>
    intro i hi
    rw [moreP, if_pos rfl]
    have hc : min 0 (n - i) + 1 = 1 := by omega
    rw [hc]
    cases z with
    | true => simp [hh, addA, addW, has]
    | false => simp [hh, addA, addW, has]
  | succ q ih =>
    intro i hi
    rw [moreP, if_neg (show ¬ (some (q + 1) = some 0) by simp)]
    by_cases h : i < n
    · rw [hs i, if_pos h]
      simp only [List.flatMap_cons, List.flatMap_nil, List.append_nil]
      rw [dif_pos ⟨by omega, by omega⟩]
      have hq : (some (q + 1)).map (· - 1) = some q := rfl
      rw [hq, ih (i + 1) (by omega)]
      have hc : min (q + 1) (n - i) + 1 = (min q (n - (i + 1)) + 1) + 1 := by omega
      rw [hc]
      generalize min q (n - (i + 1)) + 1 = c
      have hmap : ((List.range c).map fun e => (i + 1 + e, hh (i + 1) e)).map (fun b : Wy => (b.1, gOver (g1 i) b.2)) = (List.range c).map fun e => (i + (e + 1), hh i (e + 1)) := by
        rw [List.map_map]
        apply List.map_congr_left
        intro e _
        show (i + 1 + e, gOver (g1 i) (hh (i + 1) e)) = _
        rw [show i + 1 + e = i + (e + 1) from by omega, hh_succ]
        congr 1
        cases e with
        | zero => rw [hh_zero, gOver_none]; rfl
        | succ e => rw [hh_succ, gOver_g1 (g1_only i)]; congr 1; omega
      have hup : (List.range (c + 1)).map (fun e => (i + e, hh i e)) = (i, gNone) :: (List.range c).map fun e => (i + (e + 1), hh i (e + 1)) := by
        rw [List.range_succ_eq_map, List.map_cons, List.map_map]; rfl
      have hdd := dd_up i (hh i) (c + 1)
      cases z with
      | true =>
        rw [if_pos rfl, if_pos rfl, if_pos rfl, hmap, hup, addA_append]
        rw [hup] at hdd
        rw [show [(i, gNone)] ++ (List.range c).map (fun e => (i + (e + 1), hh i (e + 1))) = (i, gNone) :: (List.range c).map fun e => (i + (e + 1), hh i (e + 1)) from rfl, addA_id hdd]
        exact addW_has (has_iff.2 ⟨(i, gNone), List.mem_cons_self .., rfl⟩)
      | false =>
        rw [if_neg (by decide), if_neg (by decide), if_neg (by decide), List.map_reverse, hmap, hup, List.reverse_cons]
        rw [hup] at hdd
        have := hdd.rev
        rw [List.reverse_cons] at this
        simpa using addA_id this
    · rw [hs i, if_neg h]
      have hc : min (q + 1) (n - i) + 1 = 1 := by omega
      rw [hc]
      cases z with
      | true => simp [hh, addA, addW, has]
      | false => simp [hh, addA, addW, has]
end
/-- The ways of the counted group. -/
def cntW (m k n : Nat) (z : Bool) : List Wy := if m ≤ n then (if z then (List.range (min (k - m) (n - m) + 1)).map fun e => (m + e, gAt (m + e)) else ((List.range (min (k - m) (n - m) + 1)).map fun e => (m + e, gAt (m + e))).reverse) else []
theorem cnt3 (m k : Nat) (z : Bool) (n : Nat) (hm : m ≤ k) : endsP (cntPs m k z) (aas n) 3 0 = cntW m k n z := by
  rw [endsP]
  show workP _ _ (pRep m k z 2) 0 = _
  unfold workP
  rw [if_neg (by simp [pRep]), if_neg (by simp [pRep]), if_neg (by simp [pRep]), if_pos (by simp [pRep])]
  have hl : (aas n).length = n := by simp [aas]
  have hleft : leftP (pRep m k z 2) = some (k - m) := by
    unfold leftP
    show (if (k : Int) < 0 then none else some ((k : Int) - (m : Int)).toNat) = _
    rw [if_neg (by omega)]; congr 1; omega
  rw [hl, hleft]
  show thenP (repP (fun p => if h : 2 < 3 then endsP (cntPs m k z) (aas n) 2 p else []) m [(0, gAt 0)]) (moreP (fun p => if h : 2 < 3 then endsP (cntPs m k z) (aas n) 2 p else []) n z (some (k - m))) = _
  have hs : ∀ p, (fun p => if h : 2 < 3 then endsP (cntPs m k z) (aas n) 2 p else []) p = if p < n then [(p + 1, g1 p)] else [] := fun p => cnt2 m k z n p
  generalize (fun p => if h : 2 < 3 then endsP (cntPs m k z) (aas n) 2 p else []) = sub at hs
  rw [rep_aas hs m 0 (by omega), Nat.zero_add]
  unfold cntW
  by_cases h : m ≤ n
  · rw [if_pos h, if_pos h, thenP_sg (moreP_dd _ _ _ _ _), more_aas hs z (k - m) m h]
    have hmap : ((List.range (min (k - m) (n - m) + 1)).map fun e => (m + e, hh m e)).map (fun b : Wy => (b.1, gOver (gAt m) b.2)) = (List.range (min (k - m) (n - m) + 1)).map fun e => (m + e, gAt (m + e)) := by
      rw [List.map_map]
      apply List.map_congr_left
      intro e _
      show (m + e, gOver (gAt m) (hh m e)) = _
      congr 1
      cases e with
      | zero => rw [hh_zero, gOver_none]; rfl
      | succ e => rw [hh_succ, gOver_g1 (gAt_only m), ← gAt_succ]; congr 1
    cases z with
    | true => rw [if_pos rfl, if_pos rfl, hmap]
    | false => rw [if_neg (by decide), if_neg (by decide), List.map_reverse, hmap]
  · rw [if_neg h, if_neg h]; rfl
theorem cnt4 (m k : Nat) (z : Bool) (n : Nat) (hm : m ≤ k) : endsP (cntPs m k z) (aas n) 4 0 = cntW m k n z := by
  rw [endsP]
  show workP _ _ (pSeq [3]) 0 = _
  unfold workP
  rw [if_neg (by decide), if_pos (by decide)]
  show thenP [(0, gNone)] (fun q => if h : (3 : Int).toNat < 4 then endsP (cntPs m k z) (aas n) (3 : Int).toNat q else []) = _
  rw [thenP_id]
  · exact cnt3 m k z n hm
  · exact endsP_dd _ _ _ _
def cntM (j : Nat) : Mt := ⟨true, 0, j, [if j = 0 then (-1, -1) else ((j : Int) - 1, (j : Int))]⟩
theorem cntM_eq (j : Nat) : mtP 1 0 (j, gAt j) = cntM j := by
  unfold mtP cntM
  simp only [List.range_succ, List.range_zero, List.nil_append, List.map_cons, List.map_nil]
  congr 2
  unfold spanP gAt
  by_cases h : j = 0
  · subst h; rfl
  · rw [if_neg h, if_neg h]
    show (((j - 1 : Nat) : Int), ((j - 1 + 1 : Nat) : Int)) = _
    congr 1 <;> omega
/-- The Ways at 0: from the least on, or down to it. -/
theorem cnt_ways (m k n : Nat) (z : Bool) (hm : m ≤ k) (hk : k ≤ 50) : waysP (readP (cntT m k z)) (aas n) 0 = if m ≤ n then (if z then (List.range (min k n - m + 1)).map fun e => cntM (m + e) else (List.range (min k n - m + 1)).map fun e => cntM (min k n - e)) else [] := by
  rw [cnt_read m k z hm hk]
  show (endsP (cntPs m k z) (aas n) 4 0).map (mtP 1 0) = _
  rw [cnt4 m k z n hm]
  unfold cntW
  by_cases h : m ≤ n
  · rw [if_pos h, if_pos h, show min (k - m) (n - m) = min k n - m from by omega]
    cases z with
    | true =>
      rw [if_pos rfl, if_pos rfl, List.map_map]
      exact List.map_congr_left fun e _ => cntM_eq _
    | false =>
      rw [if_neg (by decide), if_neg (by decide), List.map_reverse, List.map_map]
      rw [show (mtP 1 0 ∘ fun e => (m + e, gAt (m + e))) = fun e => cntM (m + e) from funext fun e => cntM_eq _]
      have hmn : m ≤ min k n := by omega
      generalize min k n = t at *
      obtain ⟨c, rfl⟩ : ∃ c, t = m + c := ⟨t - m, by omega⟩
      rw [show m + c - m + 1 = c + 1 from by omega]
      refine List.ext_getElem (by simp) fun i h1 h2 => ?_
      simp only [List.length_map, List.length_range] at h2
      simp only [List.getElem_reverse, List.getElem_map, List.getElem_range, List.length_map, List.length_range]
      congr 1
      omega
  · rw [if_neg h, if_neg h]; rfl
end Go.Vc
/- Equality of a struct with itself. No statement of the seat is proved here. -/
namespace Go.Proofs.Ytngbiaeliphdjaa.V
open Go.Vc Go.Proofs Go.RowKit
set_option linter.unusedVariables false
set_option linter.unusedSimpArgs false

theorem eqFields_refl {P : Program} {w : World} (d : Nat) (xs : Array Value) : ∀ fs : List Field, (∀ f ∈ fs, ∃ a, (part f.type xs f.offset).run P w = .ok a w ∧ (Op.equalIn d f.type a a).run P w = .ok true w) → (Op.eqFields d xs xs fs).run P w = .ok true w
  | [], _ => by simp [Op.eqFields]
  | f :: fs, h => by
    obtain ⟨a, h1, h2⟩ := h f (by simp)
    have ih := eqFields_refl d xs fs fun g hg => h g (by simp [hg])
    simp only [Op.eqFields]
    split
    · simp [h1, h2, ih]
    · exact ih
theorem mem_fields {fs : List Field} {l : List (TypeId × Nat)} (h : fs.map (fun f => (f.type, f.offset)) = l) {f : Field} (hf : f ∈ fs) : (f.type, f.offset) ∈ l := by
  rw [← h]; exact List.mem_map.2 ⟨f, hf, rfl⟩
theorem eq31 (n m : Int) (w : World) : (Op.equal 31 (.agg #[.int .i64 n, .int .i64 m]) (.agg #[.int .i64 n, .int .i64 m])).run Try.prog w = .ok true w := by
  unfold Op.equal
  rw [show Op.maxDepth = 9998 + 1 + 1 from rfl]
  rw [run_equalIn_struct w (9998 + 1) 31 _ _ (by kernel_rfl) (by kernel_rfl)]
  refine eqFields_refl _ _ _ fun f hf => ?_
  have := mem_fields (l := [(3, 0), (3, 1)]) (by kernel_rfl) hf
  simp only [List.mem_cons, List.not_mem_nil, or_false, Prod.mk.injEq] at this
  rcases this with ⟨h1, h2⟩ | ⟨h1, h2⟩ <;> rw [h1, h2]
  · exact ⟨.int .i64 n, by kernel_rfl, by rw [run_equalIn_int w 9998 3 .i64 .i64 _ _ Try.underlying3]; simp⟩
  · exact ⟨.int .i64 m, by kernel_rfl, by rw [run_equalIn_int w 9998 3 .i64 .i64 _ _ Try.underlying3]; simp⟩
/-- As the laws ask it. -/
theorem ne_of {T : TypeId} {v : Value} {w : World} (h : (Op.equal T v v).run Try.prog w = .ok true w) : (do pure (Value.bool (!(← Op.equal T v v))) : Sem Value).run Try.prog w = .ok (.bool false) w := by
  rw [bind_run h]; rfl
end Go.Proofs.Ytngbiaeliphdjaa.V
/- The law on counts. No statement of the seat is proved here. -/
namespace Go.Proofs.Ytngbiaeliphdjaa.V
open Go.Vc Go.Proofs Go.RowKit
set_option linter.unusedVariables false
set_option linter.unusedSimpArgs false
theorem wNumber_ok (n : Nat) (h : n ≤ 99) (w : World) : Cl Try.prog 29 [.int .i64 (n : Int)] w (RetB (.string (B (decN n))) w) := by
  apply vc29
  unfold V29
  have hb : Below w.heap.size w w := Below.refl _ _
  have e : ∀ m : Nat, m ≤ 9 → IntKind.wrap .u8 (IntKind.wrap .i64 (48 + (m : Int))) = ((UInt8.ofNat (48 + m)).toNat : Int) := fun m hm => by
    rw [w64 (by omega), w8, u8N (by omega)]; omega
  refine ⟨fun g => ?_, fun g => ?_⟩
  · have g' : n < 10 := by have := of_decide_eq_true g; omega
    exact strOf (e n (by omega)) hb fun w' hb' => ⟨by unfold decN; rw [if_pos g'], hb'⟩
  · have g' : ¬ n < 10 := by have := of_decide_eq_false g; omega
    have h1 : IntKind.wrap .i64 (Int.tdiv (n : Int) 10) = ((n / 10 : Nat) : Int) := by rw [Int.tdiv_eq_ediv_of_nonneg (by omega), w64 (by omega)]; omega
    have h2 : Int.tmod (n : Int) 10 = ((n % 10 : Nat) : Int) := by rw [Int.tmod_eq_emod_of_nonneg (by omega)]; omega
    rw [h1, h2]
    exact ⟨by decide, by decide, strOf2 (e _ (by omega)) (e _ (by omega)) hb fun w' hb' => ⟨by unfold decN; rw [if_neg g'], hb'⟩⟩
theorem wA_ok (n : Nat) (h : n ≤ 1000) (w : World) : Cl Try.prog 31 [.int .i64 (n : Int)] w (RetB (.string (B (aas n))) w) := by
  apply vc31
  unfold V31
  refine ⟨fun k j s w' => j = (k : Int) ∧ k ≤ n ∧ s = B (aas (n - k)) ∧ Below w.heap.size w w', ⟨n, rfl, Nat.le_refl _, by rw [Nat.sub_self]; rfl, Below.refl _ _⟩, ?_⟩
  rintro k d _ _ w1 ⟨rfl, hk, rfl, hb⟩
  refine ⟨fun g => ?_, fun g => ?_⟩
  · have g' : 0 < k := by have := of_decide_eq_true g; omega
    refine ⟨by rw [size_B]; show _ + 1 ≤ _; simp [aas]; omega, k - 1, by omega, by rw [w64 (by omega)]; omega, by omega, ?_, hb⟩
    rw [show (⟨#[97]⟩ : ByteArray) = B [97] from rfl, B_append]
    congr 1
    unfold aas
    rw [show n - (k - 1) = n - k + 1 from by omega, List.replicate_succ']
  · have g' : k = 0 := by have := of_decide_eq_false g; omega
    subst g'
    exact ⟨rfl, hb⟩
/-- The Ways that the law asks for. -/
theorem waysA_cnt (m k n : Nat) (z : Bool) (hm : m ≤ k) (hk : k ≤ 50) (hn : n ≤ 200) : waysA (cntT m k z) (aas n) 0 = if m ≤ n then (if z then (List.range (min k n - m + 1)).map fun e => cntM (m + e) else (List.range (min k n - m + 1)).map fun e => cntM (min k n - e)) else [] := by
  have hlen : (aas n).length = n := by simp [aas]
  unfold waysA
  rw [if_pos]
  · exact cnt_ways m k n z hm hk
  · refine ⟨?_, by omega, by omega⟩
    unfold okA
    rw [cnt_read m k z hm hk, hlen]
    simpa using hn
theorem cnt_str (m k : Nat) : ((((B [40, 97, 41, 123] ++ B (decN m)) ++ B [44]) ++ B (decN k)) ++ B [125]) = B (cntT m k false) := by
  simp only [B_append]
  congr 1
  unfold cntT lzT
  simp
theorem cnt_strz (m k : Nat) : B (cntT m k false) ++ B [63] = B (cntT m k true) := by
  rw [B_append]
  congr 1
  unfold cntT lzT
  simp
theorem cntT_len (m k : Nat) (z : Bool) : (cntT m k z).length ≤ 12 := by
  have h2 := decN_len m
  have h3 := decN_len k
  have h4 : (lzT z).length ≤ 1 := by unfold lzT; split <;> simp
  unfold cntT
  simp only [List.length_append, List.length_cons, List.length_nil]
  omega
/-- One of the Ways, in memory. -/
theorem ms_get {N : Nat} {w : World} {a : Option Addr} {l c : Nat} {es : List ME} (h : Ms N w a l c es) {f : Nat → Mt} {cn : Nat} (he : es.map (·.1) = (List.range cn).map f) {i : Nat} (hi : i < cn) :
    ∃ b g, a = some ⟨b, 0, none⟩ ∧ MOk w (f i, g) ∧ i < l ∧ ∀ o, o < 4 → cellH w.heap b (0 + i * 4 + o) = (mC (f i, g))[o]? := by
  have hl : es.length = cn := by have := congrArg List.length he; simpa using this
  have hi' : i < es.length := by omega
  obtain ⟨b, hb, hc⟩ := h.cells hi'
  have h1 : es[i].1 = f i := by
    have := congrArg (fun l : List Mt => l[i]?) he
    simp only [List.getElem?_map, List.getElem?_eq_getElem hi', List.getElem?_range hi] at this
    simpa using this
  have h2 : es[i] = (f i, es[i].2) := by rw [← h1]
  have h3 := h.all es[i] (List.getElem_mem _)
  rw [h2] at h3
  refine ⟨b, es[i].2, hb, h3, by have := h.len; omega, fun o ho => ?_⟩
  have h4 := hc o ho
  rw [h2] at h4
  exact h4
theorem cnt_bytes (r : Nat) (n : Nat) (h : 0 < n) : Int.tmod (r : Int) (n : Int) = ((r % n : Nat) : Int) := by rw [Int.tmod_eq_emod_of_nonneg (by omega), Int.natCast_emod]
theorem lawCounts_ok (a1 : Option Addr) (l1 c1 : Nat) (w : World) (h1 : l1 ≤ 1048576 → GBytes w w.heap.size a1 l1) : Cl Try.prog 4 [.slice a1 l1 c1] w (RetB (.bool true) w) := by
  apply vc4
  unfold V4
  refine ⟨fun _ => ⟨rfl, Below.refl _ _⟩, fun g1 => ?_⟩
  have g1' : l1 ≤ 1048576 := by have := of_decide_eq_false g1; omega
  have H1 := h1 g1'
  refine (wByte_ok H1 0 (by omega)).use fun e w3 he => ?_
  obtain ⟨r0, rfl, hr0, B3⟩ := he
  refine ⟨r0, rfl, by decide, (wByte_ok (H1.below (Nat.le_refl _) B3) 1 (by omega)).use fun e w6 he => ?_⟩
  obtain ⟨r1, rfl, hr1, B6⟩ := he
  have B6' := B3.vstep B6
  refine ⟨r1, rfl, by decide, (wByte_ok (H1.below (Nat.le_refl _) B6') 2 (by omega)).use fun e w9 he => ?_⟩
  obtain ⟨r2, rfl, hr2, B9⟩ := he
  have B9' := B6'.vstep B9
  refine ⟨r2, rfl, by decide, ?_⟩
  have t0 := cnt_bytes r0 21 (by decide)
  have t1 := cnt_bytes r1 21 (by decide)
  have t2 := cnt_bytes r2 61 (by decide)
  have q0 := Nat.mod_lt r0 (show 0 < 21 by decide)
  have q1 := Nat.mod_lt r1 (show 0 < 21 by decide)
  have q2 := Nat.mod_lt r2 (show 0 < 61 by decide)
  simp only [show ((21 : Nat) : Int) = 21 from rfl, show ((61 : Nat) : Int) = 61 from rfl] at t0 t1 t2
  rw [t0, t1, t2]
  generalize r0 % 21 = m at *
  generalize r1 % 21 = q at *
  generalize r2 % 61 = n at *
  have tk : IntKind.wrap .i64 ((m : Int) + (q : Int)) = ((m + q : Nat) : Int) := by rw [w64 (by omega)]; omega
  rw [tk]
  have hcl := fun z => cntT_len m (m + q) z
  have hd1 := decN_len m
  have hd2 := decN_len (m + q)
  refine (wNumber_ok m (by omega) w9).ret fun w12 B12 => ⟨_, rfl, ?_⟩
  simp only [show (⟨#[40, 97, 41, 123]⟩ : ByteArray) = B [40, 97, 41, 123] from rfl, show (⟨#[44]⟩ : ByteArray) = B [44] from rfl, show (⟨#[125]⟩ : ByteArray) = B [125] from rfl, show (⟨#[63]⟩ : ByteArray) = B [63] from rfl]
  refine ⟨by simp only [B_append, size_B]; simp; omega, by simp only [B_append, size_B]; simp; omega, (wNumber_ok (m + q) (by omega) w12).ret fun w15 B15 => ⟨_, rfl, ?_⟩⟩
  have B15' := (B9'.vstep B12).vstep B15
  refine ⟨by simp only [B_append, size_B]; simp; omega, by simp only [B_append, size_B]; simp; omega, by simp only [B_append, size_B]; simp; omega, (wA_ok n (by omega) w15).ret fun w18 B18 => ⟨_, rfl, ?_⟩⟩
  rw [cnt_str, cnt_strz]
  refine (implWays_ok (B (cntT m (m + q) true)) (B (aas n)) 0 w18).use fun e w21 he => ?_
  obtain ⟨a20, l20, c20, eu, rfl, Mu, hu, B21⟩ := he
  refine ⟨a20, l20, c20, rfl, (wA_ok n (by omega) w21).ret fun w24 B24 => ⟨_, rfl, ?_⟩⟩
  refine (implWays_ok (B (cntT m (m + q) false)) (B (aas n)) 0 w24).use fun e w27 he => ?_
  obtain ⟨a26, l26, c26, ed, rfl, Md, hd, B27⟩ := he
  refine ⟨a26, l26, c26, rfl, ?_⟩
  simp only [L_B] at hu hd
  rw [waysA_cnt m (m + q) n true (by omega) (by omega) (by omega)] at hu
  rw [waysA_cnt m (m + q) n false (by omega) (by omega) (by omega)] at hd
  have B27' := (((B15'.vstep B18).vstep B21).vstep B24).vstep B27
  have Mu27 := (Mu.below B24).below B27
  obtain ⟨cn, hcn⟩ : ∃ cn, cn = if n < m then 0 else min (m + q) n - m + 1 := ⟨_, rfl⟩
  have hu' : eu.map (·.1) = (List.range cn).map fun e => cntM (m + e) := by
    rw [hu, hcn]
    by_cases h : n < m
    · rw [if_neg (by omega), if_pos h]; rfl
    · rw [if_pos (by omega), if_neg h, if_pos rfl]
  have hd' : ed.map (·.1) = (List.range cn).map fun e => cntM (min (m + q) n - e) := by
    rw [hd, hcn]
    by_cases h : n < m
    · rw [if_neg (by omega), if_pos h]; rfl
    · rw [if_pos (by omega), if_neg h, if_neg (by decide)]
  have lu : l20 = cn := by rw [← Mu.len]; have := congrArg List.length hu'; simpa using this
  have ld : l26 = cn := by rw [← Md.len]; have := congrArg List.length hd'; simpa using this
  refine ⟨fun x w' => x = ((min (m + q) n : Nat) : Int) ∧ w27 = w', ⟨fun g => ⟨by have := of_decide_eq_true g; omega, rfl⟩, fun g => ⟨by have := of_decide_eq_false g; omega, rfl⟩⟩, ?_⟩
  rintro d30 _ _ ⟨rfl, rfl⟩
  refine ⟨fun x w' => x = (cn : Int) ∧ w27 = w', ⟨fun g => ⟨?_, rfl⟩, fun g => ⟨?_, rfl⟩⟩, ?_⟩
  · have g' : n < m := by have := of_decide_eq_true g; omega
    rw [hcn, if_pos g']; rfl
  · have g' : ¬ n < m := by have := of_decide_eq_false g; omega
    rw [hcn, if_neg g', w64 (n := ((min (m + q) n : Nat) : Int) - (m : Int)) (by omega), w64 (by omega)]; omega
  rintro d34 _ _ ⟨rfl, rfl⟩
  refine ⟨fun g => by rw [lu] at g; simp at g, fun _ => ⟨fun g => by rw [ld] at g; simp at g, fun _ => ?_⟩⟩
  refine ⟨fun k x w' => ∃ i : Nat, x = i ∧ i ≤ cn ∧ k = cn - i ∧ Below w27.heap.size w27 w', ⟨_, 0, rfl, by omega, rfl, Below.refl _ _⟩, ?_⟩
  rintro k d _ w40 ⟨i, rfl, hi, rfl, B40⟩
  refine ⟨fun g => ?_, fun _ => ⟨rfl, B27'.vstep B40⟩⟩
  have gi : i < cn := by have := of_decide_eq_true g; omega
  have hcn2 : cn ≤ 41 := by rw [hcn]; split <;> omega
  have e0 : Int.toNat (i : Int) = i := by omega
  have e1 : IntKind.wrap .i64 ((i : Int) + 1) = ((i + 1 : Nat) : Int) := by rw [w64 (by omega)]; omega
  have e2 : IntKind.wrap .i64 ((m : Int) + (i : Int)) = ((m + i : Nat) : Int) := by rw [w64 (by omega)]; omega
  have e3 : IntKind.wrap .i64 (((min (m + q) n : Nat) : Int) - (i : Int)) = ((min (m + q) n - i : Nat) : Int) := by
    have : i ≤ min (m + q) n := by rw [hcn] at gi; split at gi <;> omega
    rw [w64 (by omega)]; omega
  rw [e0, e1, e2, e3]
  -- the element that goes up, in any world behind
  have up : ∀ {w' : World}, Below w27.heap.size w27 w' → ∃ b g, a20 = some ⟨b, 0, none⟩ ∧ MOk w' (cntM (m + i), g) ∧ i < l20 ∧ ∀ o, o < 4 → cellH w'.heap b (0 + i * 4 + o) = (mC (cntM (m + i), g))[o]? := fun hb => ms_get (Mu27.below hb) hu' gi
  obtain ⟨b, gu, rfl, hok, hil, hc⟩ := up B40
  have hcu : ∀ {w' : World}, Below w27.heap.size w27 w' → MOk w' (cntM (m + i), gu) ∧ ∀ o, o < 4 → cellH w'.heap b (0 + i * 4 + o) = (mC (cntM (m + i), gu))[o]? := by
    intro w' hb
    -- the same element
    have hlen : i < eu.length := by rw [Mu.len, lu]; exact gi
    have E0 := (Mu27.below B40).cells hlen
    have E1 := (Mu27.below hb).cells hlen
    obtain ⟨b0, hb0, hc0⟩ := E0
    obtain ⟨b1, hb1, hc1⟩ := E1
    obtain rfl : b0 = b := by injection hb0 with hb0; injection hb0 with hb0; exact hb0.symm
    obtain rfl : b1 = b0 := by injection hb1 with hb1; injection hb1 with hb1; exact hb1.symm
    have h2 : mC eu[i] = mC (cntM (m + i), gu) := by
      refine List.ext_getElem? fun o => ?_
      by_cases ho : o < 4
      · rw [← hc0 o ho, hc o ho]
      · rw [List.getElem?_eq_none (by show 4 ≤ o; omega), List.getElem?_eq_none (by show 4 ≤ o; omega)]
    have h3 : eu[i].2 = gu := by
      unfold mC at h2
      simp only [List.cons.injEq, Value.slice.injEq, and_true] at h2
      exact Prod.ext h2.2.2.2.1 (Prod.ext h2.2.2.2.2.1 h2.2.2.2.2.2)
    have h4 : eu[i].1 = cntM (m + i) := by
      have := congrArg (fun l : List Mt => l[i]?) hu'
      simp only [List.getElem?_map, List.getElem?_eq_getElem hlen, List.getElem?_range gi] at this
      simpa using this
    have h5 : eu[i] = (cntM (m + i), gu) := Prod.ext h4 h3
    refine ⟨?_, fun o ho => by rw [hc1 o ho, h5]⟩
    have := (Mu27.below hb).all eu[i] (List.getElem_mem _)
    rw [h5] at this; exact this
  obtain ⟨bd, gd, rfl, _, hid, hcd⟩ := ms_get (Md.below B40) hd' gi
  have hgl : gu.2.1 = 1 := by have h5 := hok.1; simp only [cntM, rngC_length] at h5; simp at h5; omega
  refine ⟨b, 0, ⟨rfl, by omega, by omega⟩, _, hc 2 (by decide), fun g => by simp [cntM] at g, fun _ => ?_⟩
  refine ⟨bd, 0, ⟨rfl, by omega, by omega⟩, _, hcd 2 (by decide), fun g => by simp [cntM] at g, fun _ => ?_⟩
  refine ⟨b, 0, ⟨rfl, by omega, by omega⟩, _, _, _, hc 3 (by decide), fun g => by simp only [hgl] at g; simp at g, fun _ => ?_⟩
  refine drw_in fun w52 q52 x52 => ?_
  have B52 := Ext.to B40 x52 fun _ h => h.elim
  have h52 := hcu B52
  refine ⟨b, 0, ⟨rfl, by omega, by omega⟩, _, h52.2 2 (by decide), b, 0, ⟨rfl, by omega, by omega⟩, _, h52.2 2 (by decide), ?_⟩
  refine newC_in fun w60 s60 k60 x60 => ?_
  have B60 := Ext.to B52 x60 fun _ h => h.elim
  have h60 := hcu B60
  refine ⟨h60.2 2 (by decide), h60.2 2 (by decide), ?_⟩
  have hz52 := B52.size
  refine stW_in k60 (by show 0 + 2 ≤ 2; decide) fun w61 s61 k61 x61 => ?_
  have B61 := Ext.to B60 x61 fun z hz => by omega
  have h61 := hcu B61
  refine ⟨b, 0, ⟨rfl, by omega, by omega⟩, _, h61.2 2 (by decide), ?_⟩
  have fin : ∀ {w66 : World} {x y : Int}, Below w27.heap.size w27 w66 → Blk w66.heap w52.heap.size 31 [.int .i64 x, .int .i64 y] → (if m + i = 0 then (-1, -1) else (((m + i : Nat) : Int) - 1, ((m + i : Nat) : Int))) = (x, y) →
      ixS (some ⟨b, 0, none⟩) l20 (i : Int) fun b67 o68 => lL w66 b67 (o68 + i * 4 + 3) fun a69 l69 c69 => ixS a69 l69 0 fun b70 o71 => lI w66 b70 o71 fun n72 => lI w66 b70 (o71 + 1) fun n73 => lI w66 w52.heap.size 0 fun n74 => lI w66 w52.heap.size 1 fun n75 =>
        ∃ (t76 : Bool), (do pure (Value.bool (!(← Op.equal 31 (.agg #[.int .i64 n72, .int .i64 n73]) (.agg #[.int .i64 n74, .int .i64 n75])))) : Sem Value).run Try.prog w66 = .ok (.bool t76) w66 ∧ (cB t76 (RetB (.bool true) w (.returned (.bool false)) w66) ((∃ m77, m77 < cn - i ∧ (∃ i' : Nat, ((i + 1 : Nat) : Int) = i' ∧ i' ≤ cn ∧ m77 = cn - i' ∧ Below w27.heap.size w27 w66)))) := by
    intro w66 x y B66 k66 hxy
    have h66 := hcu B66
    obtain ⟨bg, hbg, hcg⟩ := Vec.open h66.1 (by rw [hgl]; decide)
    have hcg0 := hcg 0 (by rw [hgl]; decide)
    have hcg1 := hcg 1 (by rw [hgl]; decide)
    simp only [cntM] at hcg0 hcg1
    rw [hxy] at hcg0 hcg1
    refine ⟨b, 0, ⟨rfl, by omega, by omega⟩, _, _, _, h66.2 3 (by decide), bg, 0, ⟨hbg, by omega, by rw [hgl]; decide⟩, x, hcg0, y, hcg1, x, k66.cell 0, y, k66.cell 1, false, ne_of (eq31 _ _ _), ⟨fun g => (by cases g), fun _ => ⟨_, by omega, i + 1, rfl, by omega, rfl, B66⟩⟩⟩
  refine ⟨fun g => ?_, fun g => ?_⟩
  · have g' : m + i = 0 := by have : ((m + i : Nat) : Int) = 0 := by simpa [cntM] using g
                              omega
    refine stW_in k61 (by show 0 + 2 ≤ 2; decide) fun w65 s65 k65 x65 => ?_
    refine drw_in fun w66 q66 x66 => ?_
    exact fin (Ext.to (Ext.to B61 x65 fun z hz => by omega) x66 fun _ h => h.elim) (k65.keep x66 fun h => h) (by rw [if_pos g'])
  · have g' : m + i ≠ 0 := by rintro h; have : ¬ ((m + i : Nat) : Int) = 0 := by simpa [cntM] using g
                              omega
    refine drw_in fun w78 q78 x78 => ?_
    refine fin (Ext.to B61 x78 fun _ h => h.elim) (k61.keep x78 fun h => h) ?_
    rw [if_neg g', w64 (by simp only [cntM]; omega)]
    rfl
end Go.Proofs.Ytngbiaeliphdjaa.V

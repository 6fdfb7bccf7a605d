/- The walks of Escape, in the program and in the reference: both return the plain function's text. No statement of the seat is proved here. -/
import Derived.Test.YtdbhnlelpcoldaaVEsc
import Derived.Test.YtdbhnlelpcoldaaEscP
namespace Go.Proofs.Ytdbhnlelpcoldaa.V
open Go.Vc Go.Proofs Go.RowKit
set_option linter.unusedVariables false
set_option linter.unusedSimpArgs false

theorem strOf {x : Int} {y : UInt8} (h : x = (y.toNat : Int)) {w0 w : World} (hb : Below w0.heap.size w0 w) {F : ByteArray → World → Prop}
    (hF : ∀ w', Below w0.heap.size w0 w' → F (B [y]) w') :
    newC [.int .u8 x] 5 (fun (b : Nat) (w1 : World) => ∃ (s : ByteArray), (convert 25 9 (.slice (some ⟨b, 0, none⟩) 1 1)).run Try.prog w1 = .ok (.string s) w1 ∧ F s w1) w := by
  subst h
  have hb' : Below w0.heap.size w0 (newW w (.cells ⟨[.int .u8 (y.toNat : Int)]⟩ 5)) := hb.vnew (by have := hb.size; omega) _
  exact ⟨B [y], conv_run Try.underlying25 Try.underlying9 Try.underlying5 (l := [y]) rfl (cellsAt_newW w _ _), hF _ hb'⟩
theorem strOf2 {x x' : Int} {y y' : UInt8} (h : x = (y.toNat : Int)) (h' : x' = (y'.toNat : Int)) {w0 w : World} (hb : Below w0.heap.size w0 w) {F : ByteArray → World → Prop}
    (hF : ∀ w', Below w0.heap.size w0 w' → F (B [y, y']) w') :
    newC [.int .u8 x, .int .u8 x'] 5 (fun (b : Nat) (w1 : World) => ∃ (s : ByteArray), (convert 25 9 (.slice (some ⟨b, 0, none⟩) 2 2)).run Try.prog w1 = .ok (.string s) w1 ∧ F s w1) w := by
  subst h; subst h'
  have hb' : Below w0.heap.size w0 (newW w (.cells ⟨[.int .u8 (y.toNat : Int), .int .u8 (y'.toNat : Int)]⟩ 5)) := hb.vnew (by have := hb.size; omega) _
  exact ⟨B [y, y'], conv_run Try.underlying25 Try.underlying9 Try.underlying5 (l := [y, y']) rfl (cellsAt_newW w _ _), hF _ hb'⟩
theorem u8_of {n : Int} (h : 0 ≤ n ∧ n ≤ 255) : IntKind.wrap .u8 n = ((UInt8.ofNat n.toNat).toNat : Int) := by
  rw [w8]
  simp
  omega

theorem l1byte_ok (n : Int) (h : 0 ≤ n ∧ n ≤ 255) (w : World) : Cl Try.prog 25 [.int .i64 n] w (RetB (.string (B (escB n.toNat))) w) := by
  apply vc25
  unfold V25
  have hb : Below w.heap.size w w := Below.refl _ _
  have hexleaf : (n < 33 ∨ 126 < n) → ∀ w2, Below w.heap.size w w2 → ((16 : Int) ≠ 0) ∧ ((16 : Int) ≠ 0) ∧ (0 ≤ (IntKind.wrap .i64 (Int.tdiv n 16) : Int) ∧ (IntKind.wrap .i64 (Int.tdiv n 16) : Int) ≤ (IntKind.wrap .i64 ((IntKind.wrap .i64 (Int.tdiv n 16)) + 1)) ∧ (IntKind.wrap .i64 ((IntKind.wrap .i64 (Int.tdiv n 16)) + 1) : Int) ≤ ((ByteArray.size hexS : Nat) : Int)) ∧ ((⟨#[92, 120]⟩ : ByteArray).size + (ByteArray.extract hexS (Int.toNat (IntKind.wrap .i64 (Int.tdiv n 16))) (Int.toNat (IntKind.wrap .i64 ((IntKind.wrap .i64 (Int.tdiv n 16)) + 1)))).size ≤ 9223372036854775807) ∧ ((16 : Int) ≠ 0) ∧ ((16 : Int) ≠ 0) ∧ (0 ≤ (Int.tmod n 16 : Int) ∧ (Int.tmod n 16 : Int) ≤ (IntKind.wrap .i64 ((Int.tmod n 16) + 1)) ∧ (IntKind.wrap .i64 ((Int.tmod n 16) + 1) : Int) ≤ ((ByteArray.size hexS : Nat) : Int)) ∧ (((⟨#[92, 120]⟩ : ByteArray) ++ (ByteArray.extract hexS (Int.toNat (IntKind.wrap .i64 (Int.tdiv n 16))) (Int.toNat (IntKind.wrap .i64 ((IntKind.wrap .i64 (Int.tdiv n 16)) + 1))))).size + (ByteArray.extract hexS (Int.toNat (Int.tmod n 16)) (Int.toNat (IntKind.wrap .i64 ((Int.tmod n 16) + 1)))).size ≤ 9223372036854775807) ∧ RetB (.string (B (escB n.toNat))) w (.returned (.string (((⟨#[92, 120]⟩ : ByteArray) ++ (ByteArray.extract hexS (Int.toNat (IntKind.wrap .i64 (Int.tdiv n 16))) (Int.toNat (IntKind.wrap .i64 ((IntKind.wrap .i64 (Int.tdiv n 16)) + 1))))) ++ (ByteArray.extract hexS (Int.toNat (Int.tmod n 16)) (Int.toNat (IntKind.wrap .i64 ((Int.tmod n 16) + 1))))))) w2 := by
    intro hn w2 hb2
    have e1 : Int.tdiv n 16 = n / 16 := Int.tdiv_eq_ediv_of_nonneg h.1
    have e2 : Int.tmod n 16 = n % 16 := Int.tmod_eq_emod_of_nonneg h.1
    have e3 : IntKind.wrap .i64 (n / 16) = n / 16 := w64 (by omega)
    have e4 : IntKind.wrap .i64 (n / 16 + 1) = n / 16 + 1 := w64 (by omega)
    have e5 : IntKind.wrap .i64 (n % 16 + 1) = n % 16 + 1 := w64 (by omega)
    rw [e1, e2, e3, e4, e5]
    have s1 : hexS.extract (n / 16).toNat (n / 16 + 1).toNat = B [hexd (n / 16).toNat] := by
      have : (n / 16 + 1).toNat = (n / 16).toNat + 1 := by omega
      rw [this]; exact hex_sub _ (by omega)
    have s2 : hexS.extract (n % 16).toNat (n % 16 + 1).toNat = B [hexd (n % 16).toNat] := by
      have : (n % 16 + 1).toNat = (n % 16).toNat + 1 := by omega
      rw [this]; exact hex_sub _ (by omega)
    rw [s1, s2]
    have hs : ((ByteArray.size hexS : Nat) : Int) = 16 := by decide
    rw [hs]
    refine ⟨by decide, by decide, ⟨by omega, by omega, by omega⟩, by rw [size_B]; show 2 + 1 ≤ _; decide, by decide, by decide, ⟨by omega, by omega, by omega⟩, ?_, ?_⟩
    · rw [show (⟨#[92, 120]⟩ : ByteArray) = B [92, 120] from rfl, B_append, size_B, size_B]; simp
    · refine ⟨?_, hb2⟩
      rw [show (⟨#[92, 120]⟩ : ByteArray) = B [92, 120] from rfl, B_append, B_append, escB_hex (by omega)]
      have t1 : (n / 16).toNat = n.toNat / 16 := by omega
      have t2 : (n % 16).toNat = n.toNat % 16 := by omega
      rw [t1, t2]
      rfl
  refine ⟨fun h1 => ?_, fun h1 => ⟨fun h2 => ?_, fun h2 => ?_⟩⟩
  · exact hexleaf (.inl (of_decide_eq_true h1)) _ hb.vdrew
  · exact hexleaf (.inr (of_decide_eq_true h2)) _ hb.vdrew
  · have g1 : ¬ n < 33 := of_decide_eq_false h1
    have g2 : ¬ n > 126 := of_decide_eq_false h2
    have idl : ((48 ≤ n ∧ n ≤ 57) ∨ (97 ≤ n ∧ n ≤ 122) ∨ (65 ≤ n ∧ n ≤ 90) ∨ n = 95 ∨ n = 44 ∨ n = 58 ∨ n = 61) → newC [.int .u8 (IntKind.wrap .u8 n)] 5 (fun (b4 : Nat) (w5 : World) => ∃ (s6 : ByteArray), (convert 25 9 (.slice (some ⟨b4, 0, none⟩) 1 1)).run Try.prog w5 = .ok (.string s6) w5 ∧ RetB (.string (B (escB n.toNat))) w (.returned (.string s6)) w5) w := fun hn =>
      strOf (u8_of h) hb fun w' hb' => ⟨by rw [escB_id (by omega) (by omega)], hb'⟩
    have bsl : (¬ ((48 ≤ n ∧ n ≤ 57) ∨ (97 ≤ n ∧ n ≤ 122) ∨ (65 ≤ n ∧ n ≤ 90) ∨ n = 95 ∨ n = 44 ∨ n = 58 ∨ n = 61)) → newC [.int .u8 (IntKind.wrap .u8 n)] 5 (fun (b4 : Nat) (w5 : World) => ∃ (s6 : ByteArray), (convert 25 9 (.slice (some ⟨b4, 0, none⟩) 1 1)).run Try.prog w5 = .ok (.string s6) w5 ∧ ((⟨#[92]⟩ : ByteArray).size + s6.size ≤ 9223372036854775807) ∧ RetB (.string (B (escB n.toNat))) w (.returned (.string ((⟨#[92]⟩ : ByteArray) ++ s6))) w5) w := fun hn =>
      strOf (u8_of h) hb fun w' hb' => ⟨by rw [size_B]; simp; decide, by rw [show (⟨#[92]⟩ : ByteArray) = B [92] from rfl, B_append, escB_bs (by omega) (by omega)]; rfl, hb'⟩
    simp only [decide_eq_true_eq, decide_eq_false_iff_not, beq_iff_eq, beq_eq_false_iff_ne, ne_eq]
    repeat' (first | exact idl (by omega) | exact bsl (by omega) | apply And.intro | intro _)

theorem byteText_ok (n : Int) (h : 0 ≤ n ∧ n ≤ 255) (w : World) : Cl Try.prog 26 [.int .i64 n] w (RetB (.string (B (escB n.toNat))) w) := by
  apply vc26
  unfold V26
  have hb : Below w.heap.size w w := Below.refl _ _
  have hexleaf : (n < 33 ∨ 126 < n) → ∀ w2, Below w.heap.size w w2 → ((0 : Int) ≤ 4) ∧ (0 ≤ (Int.fdiv n (2 ^ (min (Int.toNat 4) 64)) : Int) ∧ (Int.fdiv n (2 ^ (min (Int.toNat 4) 64)) : Int) < ((ByteArray.size hexS : Nat) : Int)) ∧ (0 ≤ (IntKind.wrap .i64 (((BitVec.ofInt 64 n &&& BitVec.ofInt 64 15).toNat : Int)) : Int) ∧ (IntKind.wrap .i64 (((BitVec.ofInt 64 n &&& BitVec.ofInt 64 15).toNat : Int)) : Int) < ((ByteArray.size hexS : Nat) : Int)) ∧ newC [.int .u8 (byteAt hexS (Int.toNat (Int.fdiv n (2 ^ (min (Int.toNat 4) 64))))), .int .u8 (byteAt hexS (Int.toNat (IntKind.wrap .i64 (((BitVec.ofInt 64 n &&& BitVec.ofInt 64 15).toNat : Int)))))] 5 (fun (b3 : Nat) (w4 : World) => ∃ (s5 : ByteArray), (convert 25 9 (.slice (some ⟨b3, 0, none⟩) 2 2)).run Try.prog w4 = .ok (.string s5) w4 ∧ ((⟨#[92, 120]⟩ : ByteArray).size + s5.size ≤ 9223372036854775807) ∧ RetB (.string (B (escB n.toNat))) w (.returned (.string ((⟨#[92, 120]⟩ : ByteArray) ++ s5))) w4) w2 := by
    intro hn w2 hb2
    rw [shr4 n h, and15 n h]
    have hs : ((ByteArray.size hexS : Nat) : Int) = 16 := by decide
    rw [hs]
    refine ⟨by decide, ⟨by omega, by omega⟩, ⟨by omega, by omega⟩, ?_⟩
    refine strOf2 (hex_at _ (by omega)) (hex_at _ (by omega)) hb2 fun w' hb' => ⟨by rw [size_B]; show 2 + 2 ≤ _; decide, ?_, hb'⟩
    rw [show (⟨#[92, 120]⟩ : ByteArray) = B [92, 120] from rfl, B_append, escB_hex (by omega)]
    have t1 : (n / 16).toNat = n.toNat / 16 := by omega
    have t2 : (n % 16).toNat = n.toNat % 16 := by omega
    rw [t1, t2]
    rfl
  refine ⟨fun h1 => ?_, fun h1 => ⟨fun h2 => ?_, fun h2 => ?_⟩⟩
  · exact hexleaf (.inl (of_decide_eq_true h1)) _ hb.vdrew
  · exact hexleaf (.inr (of_decide_eq_true h2)) _ hb.vdrew
  · have g1 : ¬ n < 33 := of_decide_eq_false h1
    have g2 : ¬ n > 126 := of_decide_eq_false h2
    have idl : ((48 ≤ n ∧ n ≤ 57) ∨ (97 ≤ n ∧ n ≤ 122) ∨ (65 ≤ n ∧ n ≤ 90) ∨ n = 95 ∨ n = 44 ∨ n = 58 ∨ n = 61) → newC [.int .u8 (IntKind.wrap .u8 n)] 5 (fun (b4 : Nat) (w5 : World) => ∃ (s6 : ByteArray), (convert 25 9 (.slice (some ⟨b4, 0, none⟩) 1 1)).run Try.prog w5 = .ok (.string s6) w5 ∧ RetB (.string (B (escB n.toNat))) w (.returned (.string s6)) w5) w := fun hn =>
      strOf (u8_of h) hb fun w' hb' => ⟨by rw [escB_id (by omega) (by omega)], hb'⟩
    have bsl : (¬ ((48 ≤ n ∧ n ≤ 57) ∨ (97 ≤ n ∧ n ≤ 122) ∨ (65 ≤ n ∧ n ≤ 90) ∨ n = 95 ∨ n = 44 ∨ n = 58 ∨ n = 61)) → newC [.int .u8 (IntKind.wrap .u8 n)] 5 (fun (b4 : Nat) (w5 : World) => ∃ (s6 : ByteArray), (convert 25 9 (.slice (some ⟨b4, 0, none⟩) 1 1)).run Try.prog w5 = .ok (.string s6) w5 ∧ ((⟨#[92]⟩ : ByteArray).size + s6.size ≤ 9223372036854775807) ∧ RetB (.string (B (escB n.toNat))) w (.returned (.string ((⟨#[92]⟩ : ByteArray) ++ s6))) w5) w := fun hn =>
      strOf (u8_of h) hb fun w' hb' => ⟨by rw [size_B]; simp; decide, by rw [show (⟨#[92]⟩ : ByteArray) = B [92] from rfl, B_append, escB_bs (by omega) (by omega)]; rfl, hb'⟩
    simp only [decide_eq_true_eq, decide_eq_false_iff_not, beq_iff_eq, beq_eq_false_iff_ne, ne_eq]
    repeat' (first | exact idl (by omega) | exact bsl (by omega) | apply And.intro | intro _)

/-! ### The texts -/
theorem byte_rng (s : ByteArray) (i : Nat) : 0 ≤ byteAt s i ∧ byteAt s i ≤ 255 := by
  unfold byteAt
  have := (s.data.toList.getD i 0).toNat_lt
  omega
theorem escL_snoc (l : Bytes) (i : Nat) (h : i < l.length) : escL (l.take (i + 1)) = escL (l.take i) ++ escB (l.getD i 0).toNat := by
  unfold escL
  rw [List.take_succ_eq_append_getElem h, List.flatMap_append]
  simp [List.getD_eq_getElem?_getD, List.getElem?_eq_getElem h]
theorem escL_take_le (l : Bytes) (i j : Nat) (h : i ≤ j) : (escL (l.take i)).length ≤ (escL (l.take j)).length := by
  have : l.take i = (l.take j).take i := by rw [List.take_take, Nat.min_eq_left h]
  rw [this]
  generalize l.take j = m
  have : escL m = escL (m.take i) ++ escL (m.drop i) := by
    unfold escL; rw [← List.flatMap_append, List.take_append_drop]
  rw [this]; simp
/-- The text, or nothing where it is too long. -/
def escT (l : Bytes) : Bytes := if (escL l).length > 120 then [] else escL l

theorem implEscape_ok (s : ByteArray) (hs : s.size ≤ 1048576) (w : World) : Cl Try.prog 11 [.string s] w (RetB (.string (B (escT (L s)))) w) := by
  apply vc11
  unfold V11
  refine ⟨fun k t n w' => ∃ i : Nat, n = i ∧ i ≤ s.size ∧ k = s.size - i ∧ t = B (escL ((L s).take i)) ∧ (escL ((L s).take i)).length ≤ 120 ∧ Below w.heap.size w w', ⟨s.size, 0, rfl, by omega, by omega, rfl, by simp [escL], Below.refl _ _⟩, ?_⟩
  rintro k d t n w1 ⟨i, rfl, hi, rfl, rfl, hl, hb⟩
  have hsz : s.size = (L s).length := size_L s
  refine ⟨fun h1 => ?_, fun h1 => ?_⟩
  · have h1' : (i : Int) < s.size := of_decide_eq_true h1
    have hb8 := byte_rng s i
    have e0 : (Int.toNat (i : Int)) = i := by omega
    rw [e0, w64 (by omega : -9223372036854775808 ≤ byteAt s i ∧ byteAt s i ≤ 9223372036854775807)]
    refine ⟨⟨by omega, h1'⟩, (byteText_ok _ hb8 w1).ret fun w2 hb2 => ⟨_, rfl, ?_⟩⟩
    have ec : (byteAt s i).toNat = ((L s).getD i 0).toNat := by rw [byteAt_L]; omega
    have el := escB_len (byteAt s i).toNat
    have hsn := escL_snoc (L s) i (by omega)
    rw [B_append, ec, ← hsn]
    rw [ec] at el
    have hlen := congrArg List.length hsn
    rw [List.length_append] at hlen
    simp only [size_B]
    refine ⟨by omega, fun h2 => ?_, fun h2 => ?_⟩
    · have h2' := of_decide_eq_true h2
      refine ⟨?_, hb.vstep hb2⟩
      have : (escL (L s)).length > 120 := by
        have := escL_take_le (L s) (i + 1) (L s).length (by omega)
        rw [List.take_length] at this
        omega
      simp only [escT, this, if_true]
      rfl
    · have h2' := of_decide_eq_false h2
      rw [w64 (by omega)]
      exact ⟨s.size - (i + 1), by omega, i + 1, by omega, by omega, rfl, rfl, by omega, hb.vstep hb2⟩
  · have h1' : ¬ (i : Int) < s.size := of_decide_eq_false h1
    have : i = (L s).length := by omega
    refine ⟨?_, hb⟩
    rw [this, List.take_length] at hl ⊢
    simp only [escT, Nat.not_lt.2 hl, if_false]

theorem specEscape_ok (s : ByteArray) (hs : s.size ≤ 1048576) (w : World) : Cl Try.prog 10 [.string s] w (RetB (.string (B (escT (L s)))) w) := by
  apply vc10
  unfold V10
  refine ⟨fun k t n w' => ∃ i : Nat, n = i ∧ i ≤ s.size ∧ k = s.size - i ∧ t = B (escL ((L s).take i)) ∧ (escL ((L s).take i)).length ≤ 124 ∧ Below w.heap.size w w', ⟨s.size, 0, rfl, by omega, by omega, rfl, by simp [escL], Below.refl _ _⟩, ?_⟩
  rintro k d t n w1 ⟨i, rfl, hi, rfl, rfl, hl, hb⟩
  have hsz : s.size = (L s).length := size_L s
  have hlong : (escL ((L s).take i)).length > 120 → RetB (.string (B (escT (L s)))) w (.returned (.string (⟨#[]⟩ : ByteArray))) w1 := fun hh => by
    have : (escL (L s)).length > 120 := by
      have := escL_take_le (L s) i (L s).length (by omega)
      rw [List.take_length] at this
      omega
    refine ⟨?_, hb⟩
    simp only [escT, this, if_true]
    rfl
  simp only [size_B]
  refine ⟨fun h1 => ⟨fun h2 => ?_, fun h2 => ⟨fun h3 => hlong (by have := of_decide_eq_true h3; omega), fun h3 => ?_⟩⟩, fun h1 => ⟨fun h3 => hlong (by have := of_decide_eq_true h3; omega), fun h3 => ?_⟩⟩
  · have h1' : (i : Int) < s.size := of_decide_eq_true h1
    have h2' := of_decide_eq_true h2
    have hb8 := byte_rng s i
    have e0 : (Int.toNat (i : Int)) = i := by omega
    rw [e0, w64 (by omega : -9223372036854775808 ≤ byteAt s i ∧ byteAt s i ≤ 9223372036854775807)]
    refine ⟨⟨by omega, h1'⟩, (l1byte_ok _ hb8 w1).ret fun w2 hb2 => ⟨_, rfl, ?_⟩⟩
    have ec : (byteAt s i).toNat = ((L s).getD i 0).toNat := by rw [byteAt_L]; omega
    have el := escB_len (byteAt s i).toNat
    have hsn := escL_snoc (L s) i (by omega)
    rw [B_append, ec, ← hsn]
    rw [ec] at el
    have hlen := congrArg List.length hsn
    rw [List.length_append] at hlen
    simp only [size_B]
    rw [w64 (by omega)]
    exact ⟨by omega, s.size - (i + 1), by omega, i + 1, by omega, by omega, rfl, rfl, by omega, hb.vstep hb2⟩
  · have h2' := of_decide_eq_false h2
    have h3' := of_decide_eq_false h3
    omega
  · have h1' : ¬ (i : Int) < s.size := of_decide_eq_false h1
    have h3' := of_decide_eq_false h3
    have : i = (L s).length := by omega
    refine ⟨?_, hb⟩
    rw [this, List.take_length] at h3' ⊢
    have : ¬ (escL (L s)).length > 120 := by omega
    simp only [escT, this, if_false]

theorem lawEscape_ok (s : ByteArray) (w : World) : Cl Try.prog 4 [.string s] w (RetB (.bool true) w) := by
  apply vc4
  unfold V4
  refine ⟨fun h1 => ⟨rfl, Below.refl _ _⟩, fun h1 => ?_⟩
  have hs : s.size ≤ 1048576 := by have := of_decide_eq_false h1; omega
  refine (specEscape_ok s hs w).ret fun w1 hb1 => ⟨_, rfl, (implEscape_ok s hs w1).ret fun w2 hb2 => ⟨_, rfl, fun h2 => ?_, fun h2 => ⟨rfl, hb1.vstep hb2⟩⟩⟩
  simp at h2
end Go.Proofs.Ytdbhnlelpcoldaa.V

/- The walks of Quote, in the program and in the reference. No statement of the seat is proved here. -/
import Derived.Test.YtdbhnlelpcoldaaVQuo
import Derived.Test.YtdbhnlelpcoldaaQuoP
import Derived.Test.YtdbhnlelpcoldaaVec
namespace Go.Proofs.Ytdbhnlelpcoldaa.V
open Go.Vc Go.Proofs Go.RowKit
set_option linter.unusedVariables false
set_option linter.unusedSimpArgs false

theorem qstr (ys : Bytes) {cs : List Value} {n : Nat} (hn : n = ys.length) (h : cs = u8s ys) {w0 w : World} (hb : Below w0.heap.size w0 w) {F : ByteArray → World → Prop}
    (hF : ∀ w', Below w0.heap.size w0 w' → F (B ys) w') :
    newC cs 5 (fun (b : Nat) (w1 : World) => ∃ (s : ByteArray), (convert 25 9 (.slice (some ⟨b, 0, none⟩) n n)).run Try.prog w1 = .ok (.string s) w1 ∧ F s w1) w := by
  subst h
  have hb' : Below w0.heap.size w0 (newW w (.cells ⟨u8s ys⟩ 5)) := hb.vnew (by have := hb.size; omega) _
  exact ⟨B ys, conv_run Try.underlying25 Try.underlying9 Try.underlying5 (l := ys) hn (cellsAt_newW w _ _), hF _ hb'⟩
theorem byte_rng' (s : ByteArray) (i : Nat) : 0 ≤ byteAt s i ∧ byteAt s i ≤ 255 := by
  unfold byteAt
  have := (s.data.toList.getD i 0).toNat_lt
  omega

theorem implQuote_ok (s : ByteArray) (w : World) : Cl Try.prog 13 [.string s] w (RetB (.string (B (quoT (L s)))) w) := by
  apply vc13
  unfold V13
  have hsz : s.size = (L s).length := size_L s
  refine ⟨fun h0 => ?_, fun h0 => ?_⟩
  · have h0' := of_decide_eq_true h0
    have : (L s).length > 200 := by omega
    refine ⟨?_, Below.refl _ _⟩
    simp only [quoT, this, if_true]; rfl
  have h0' := of_decide_eq_false h0
  refine ⟨fun k t n w' => ∃ i : Nat, n = i ∧ i ≤ s.size ∧ k = s.size - i ∧ t = B (quoL ((L s).take i)) ∧ Below w.heap.size w w', ⟨s.size, 0, rfl, by omega, by omega, rfl, Below.refl _ _⟩, ?_⟩
  rintro k d t n w1 ⟨i, rfl, hi, rfl, rfl, hb⟩
  refine ⟨fun h1 => ?_, fun h1 => ?_⟩
  · have h1' : (i : Int) < s.size := of_decide_eq_true h1
    have hb8 := byte_rng' s i
    have e0 : (Int.toNat (i : Int)) = i := by omega
    have ec : (byteAt s i).toNat = ((L s).getD i 0).toNat := by rw [byteAt_L]; omega
    have hsn := quoL_snoc (L s) i (by omega)
    have hlen := quoL_len (L s) i (by omega)
    rw [e0, w64 (by omega : -9223372036854775808 ≤ (i : Int) + 1 ∧ (i : Int) + 1 ≤ 9223372036854775807)]
    have fin : ∀ (ys : Bytes) (w2 : World), quoB (byteAt s i).toNat = ys → Below w.heap.size w w2 → ∃ m : Nat, m < s.size - i ∧ ∃ j : Nat, ((i : Int) + 1) = j ∧ j ≤ s.size ∧ m = s.size - j ∧ B (quoL ((L s).take i)) ++ B ys = B (quoL ((L s).take j)) ∧ Below w.heap.size w w2 := by
      intro ys w2 hy hb2
      refine ⟨s.size - (i + 1), by omega, i + 1, by omega, by omega, rfl, ?_, hb2⟩
      rw [B_append, ← hy, ec, ← hsn]
    generalize hn : byteAt s i = c at *
    have hyl : ∀ ys : Bytes, ys.length ≤ 4 → (B (quoL ((L s).take i))).size + (B ys).size ≤ 9223372036854775807 := by
      intro ys hy; rw [size_B, size_B]; omega
    refine ⟨⟨by omega, h1'⟩, ?_⟩
    have hexl : (c < 32 ∨ 126 < c) → c ≠ 10 → c ≠ 9 → c ≠ 34 → c ≠ 92 → ∀ w2, Below w.heap.size w w2 → ((0 : Int) ≤ 4) ∧ (0 ≤ (Int.fdiv c (2 ^ (min (Int.toNat 4) 8)) : Int) ∧ (Int.fdiv c (2 ^ (min (Int.toNat 4) 8)) : Int) < ((ByteArray.size hexS : Nat) : Int)) ∧ (0 ≤ (IntKind.wrap .u8 (((BitVec.ofInt 8 c &&& BitVec.ofInt 8 15).toNat : Int)) : Int) ∧ (IntKind.wrap .u8 (((BitVec.ofInt 8 c &&& BitVec.ofInt 8 15).toNat : Int)) : Int) < ((ByteArray.size hexS : Nat) : Int)) ∧ newC [.int .u8 (byteAt hexS (Int.toNat (Int.fdiv c (2 ^ (min (Int.toNat 4) 8))))), .int .u8 (byteAt hexS (Int.toNat (IntKind.wrap .u8 (((BitVec.ofInt 8 c &&& BitVec.ofInt 8 15).toNat : Int)))))] 5 (fun (b20 : Nat) (w21 : World) => ∃ (s22 : ByteArray), (convert 25 9 (.slice (some ⟨b20, 0, none⟩) 2 2)).run Try.prog w21 = .ok (.string s22) w21 ∧ ((⟨#[92, 120]⟩ : ByteArray).size + s22.size ≤ 9223372036854775807) ∧ ((B (quoL ((L s).take i))).size + ((⟨#[92, 120]⟩ : ByteArray) ++ s22).size ≤ 9223372036854775807) ∧ (∃ (m23 : Nat), m23 < s.size - i ∧ ∃ j : Nat, ((i : Int) + 1) = j ∧ j ≤ s.size ∧ m23 = s.size - j ∧ B (quoL ((L s).take i)) ++ ((⟨#[92, 120]⟩ : ByteArray) ++ s22) = B (quoL ((L s).take j)) ∧ Below w.heap.size w w21)) w2 := by
      intro hh n1 n2 n3 n4 w2 hb2
      rw [shr4u c hb8, and15u c hb8, hexS_size]
      refine ⟨by decide, ⟨by omega, by omega⟩, ⟨by omega, by omega⟩, ?_⟩
      refine qstr [hexd (c.toNat / 16), hexd (c.toNat % 16)] rfl ?_ hb2 fun w' hb' => ?_
      · rw [hex_at _ (by omega), hex_at _ (by omega)]
        have t1 : (c / 16).toNat = c.toNat / 16 := by omega
        have t2 : (c % 16).toNat = c.toNat % 16 := by omega
        rw [t1, t2]; rfl
      · rw [show (⟨#[92, 120]⟩ : ByteArray) = B [92, 120] from rfl, B_append]
        refine ⟨by rw [size_B, size_B]; show 2 + 2 ≤ _; decide, hyl _ (by simp), fin _ w' ?_ hb'⟩
        unfold quoB
        rw [if_neg (by omega), if_neg (by omega), if_neg (by omega), if_pos (by omega)]
        rfl
    have bsl : (c = 34 ∨ c = 92) → newC [.int .u8 c] 5 (fun (b11 : Nat) (w12 : World) => ∃ (s13 : ByteArray), (convert 25 9 (.slice (some ⟨b11, 0, none⟩) 1 1)).run Try.prog w12 = .ok (.string s13) w12 ∧ ((⟨#[92]⟩ : ByteArray).size + s13.size ≤ 9223372036854775807) ∧ ((B (quoL ((L s).take i))).size + ((⟨#[92]⟩ : ByteArray) ++ s13).size ≤ 9223372036854775807) ∧ (∃ (m14 : Nat), m14 < s.size - i ∧ ∃ j : Nat, ((i : Int) + 1) = j ∧ j ≤ s.size ∧ m14 = s.size - j ∧ B (quoL ((L s).take i)) ++ ((⟨#[92]⟩ : ByteArray) ++ s13) = B (quoL ((L s).take j)) ∧ Below w.heap.size w w12)) w1 := by
      intro hh
      refine qstr [UInt8.ofNat c.toNat] rfl ?_ hb fun w' hb' => ?_
      · have : c = ((UInt8.ofNat c.toNat).toNat : Int) := by simp; omega
        simp only [u8s, List.map_cons, List.map_nil]; rw [← this]
      · rw [show (⟨#[92]⟩ : ByteArray) = B [92] from rfl, B_append]
        refine ⟨by rw [size_B, size_B]; show 1 + 1 ≤ _; decide, hyl _ (by simp), fin _ w' ?_ hb'⟩
        unfold quoB
        rw [if_neg (by omega), if_neg (by omega), if_pos (by omega)]
        rfl
    refine ⟨fun g1 => ?_, fun g1 => ⟨fun g2 => ?_, fun g2 => ⟨fun g3 => bsl (.inl (by simpa using g3)), fun g3 => ⟨fun g4 => bsl (.inr (by simpa using g4)), fun g4 => ?_⟩⟩⟩⟩
    · have g1' : c = 10 := by simpa using g1
      refine ⟨hyl [92, 110] (by simp), fin [92, 110] w1 (by unfold quoB; rw [if_pos (by omega)]) hb⟩
    · have g1' : c ≠ 10 := by simpa using g1
      have g2' : c = 9 := by simpa using g2
      refine ⟨hyl [92, 116] (by simp), fin [92, 116] w1 (by unfold quoB; rw [if_neg (by omega), if_pos (by omega)]) hb⟩
    · have g1' : c ≠ 10 := by simpa using g1
      have g2' : c ≠ 9 := by simpa using g2
      have g3' : c ≠ 34 := by simpa using g3
      have g4' : c ≠ 92 := by simpa using g4
      refine ⟨fun g5 => hexl (.inl (of_decide_eq_true g5)) g1' g2' g3' g4' _ hb.vdrew, fun g5 => ⟨fun g6 => hexl (.inr (of_decide_eq_true g6)) g1' g2' g3' g4' _ hb.vdrew, fun g6 => ?_⟩⟩
      have g5' := of_decide_eq_false g5
      have g6' := of_decide_eq_false g6
      refine qstr [UInt8.ofNat c.toNat] rfl ?_ hb fun w' hb' => ?_
      · have : c = ((UInt8.ofNat c.toNat).toNat : Int) := by simp; omega
        simp only [u8s, List.map_cons, List.map_nil]; rw [← this]
      · refine ⟨hyl _ (by simp), fin _ w' ?_ hb'⟩
        unfold quoB
        rw [if_neg (by omega), if_neg (by omega), if_neg (by omega), if_neg (by omega)]
  · have h1' : ¬ (i : Int) < s.size := of_decide_eq_false h1
    have hi' : i = (L s).length := by omega
    have hlen := quoL_len (L s) i (by omega)
    rw [hi', List.take_length] at hlen ⊢
    rw [show (⟨#[34]⟩ : ByteArray) = B [34] from rfl, B_append, size_B, size_B]
    refine ⟨by simp only [List.length_cons, List.length_nil]; omega, ?_, hb⟩
    have : ¬ (L s).length > 200 := by omega
    simp only [quoT, this, if_false]
end Go.Proofs.Ytdbhnlelpcoldaa.V

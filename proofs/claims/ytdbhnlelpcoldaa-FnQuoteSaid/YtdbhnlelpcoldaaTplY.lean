/- Two templates are compared; what a template's row holds is marked and looked for. No statement of the seat is proved here. -/
import Derived.Test.YtdbhnlelpcoldaaTplX
namespace Go.Proofs.Ytdbhnlelpcoldaa.V
open Go.Vc Go.Proofs Go.RowKit
set_option linter.unusedVariables false
set_option linter.unusedSimpArgs false

theorem eqBit_ok (n : Int) (s : ByteArray) (w : World) : Cl Try.prog 35 [.agg #[.int .i64 n, .string s], .agg #[.int .i64 n, .string s]] w (RetB (.bool true) w) := by
  apply vc35
  unfold V35
  refine newC_in fun w1 s1 k1 e1 => ?_
  refine newC_in fun w2 s2 k2 e2 => ?_
  have k1' := k1.keep e2 fun h => h
  have hb : Below w.heap.size w w2 := Ext.to (Ext.to (Below.refl _ _) e1 fun _ h => h.elim) e2 fun _ h => h.elim
  refine ⟨n, k1'.cell 0, n, k2.cell 0, fun g => by simp at g, fun _ => ⟨s, k1'.cell 1, s, k2.cell 1, fun g => by simp at g, fun _ => ⟨rfl, hb⟩⟩⟩

theorem eqBitS_ok {w : World} {N1 N2 : Nat} {a1 a2 : Option Addr} {c1 c2 : Nat} {bs : Bits} (h1 : Row N1 w 32 2 a1 bs.length c1 (bitsC bs)) (h2 : Row N2 w 32 2 a2 bs.length c2 (bitsC bs)) (hl : bs.length ≤ 1000) :
    Cl Try.prog 30 [.slice a1 bs.length c1, .slice a2 bs.length c2] w (RetB (.bool true) w) := by
  apply vc30
  unfold V30
  refine ⟨fun g => by simp at g, fun _ => ?_⟩
  refine ⟨fun k n w' => ∃ i : Nat, n = i ∧ i ≤ bs.length ∧ k = bs.length - i ∧ Below w.heap.size w w', ⟨_, 0, rfl, by omega, rfl, Below.refl _ _⟩, ?_⟩
  rintro k d n w1 ⟨i, rfl, hi, rfl, hb⟩
  refine ⟨fun g => ?_, fun g => ⟨rfl, hb⟩⟩
  have g' : i < bs.length := by have := of_decide_eq_true g; omega
  have e0 : Int.toNat (i : Int) = i := by omega
  have e1 : IntKind.wrap .i64 ((i : Int) + 1) = ((i + 1 : Nat) : Int) := by rw [w64 (by omega)]; omega
  rw [e0, e1]
  refine drw_in fun w2 q2 e2 => ?_
  have hb2 : Below w.heap.size w w2 := Ext.to hb e2 fun _ h => h.elim
  obtain ⟨b, cs, rfl, hB, hc, hN, hcell⟩ := (h1.below hb2).at (by omega)
  obtain ⟨b', cs', rfl, hB', hc', hN', hcell'⟩ := (h2.below hb2).at (by omega)
  have hbit := bitsC_at bs i g'
  refine ⟨b, 0, ⟨rfl, by omega, by omega⟩, bs[i].1, by rw [Nat.zero_add, hcell _ (by omega)]; exact hbit.1, B bs[i].2, by rw [Nat.zero_add, hcell _ (by omega)]; exact hbit.2,
    b', 0, ⟨rfl, by omega, by omega⟩, bs[i].1, by rw [Nat.zero_add, hcell' _ (by omega)]; exact hbit.1, B bs[i].2, by rw [Nat.zero_add, hcell' _ (by omega)]; exact hbit.2, ?_⟩
  exact (eqBit_ok _ _ w2).ret fun w3 hb3 => ⟨true, rfl, fun h => by simp at h, fun _ => ⟨_, by omega, i + 1, rfl, by omega, rfl, hb2.vstep hb3⟩⟩

theorem eqTemplate_ok {w : World} {N1 N2 : Nat} {t : Bool} {n : Int} {a1 a2 : Option Addr} {c1 c2 : Nat} {bs : Bits} (h1 : Row N1 w 32 2 a1 bs.length c1 (bitsC bs)) (h2 : Row N2 w 32 2 a2 bs.length c2 (bitsC bs)) (hl : bs.length ≤ 1000) :
    Cl Try.prog 20 [.agg #[.bool t, .int .i64 n, .slice a1 bs.length c1], .agg #[.bool t, .int .i64 n, .slice a2 bs.length c2]] w (RetB (.bool true) w) := by
  apply vc20
  unfold V20
  refine newC_in fun w1 s1 k1 e1 => ?_
  refine newC_in fun w2 s2 k2 e2 => ?_
  have k1' := k1.keep e2 fun h => h
  have hb : Below w.heap.size w w2 := Ext.to (Ext.to (Below.refl _ _) e1 fun _ h => h.elim) e2 fun _ h => h.elim
  refine ⟨t, k1'.cell 0, t, k2.cell 0, fun g => by simp at g, fun _ => ⟨n, k1'.cell 1, n, k2.cell 1, fun g => by simp at g, fun _ => ⟨a1, _, c1, k1'.cell 2, a2, _, c2, k2.cell 2, ?_⟩⟩⟩
  exact (eqBitS_ok (h1.below hb) (h2.below hb) hl).ret fun w3 hb3 => ⟨true, rfl, fun h => by simp at h, fun _ => ⟨rfl, hb.vstep hb3⟩⟩

/-! ### Marks -/
def digs (n : Nat) (acc : Bytes) : Bytes := if h : n = 0 then acc else digs (n / 10) (UInt8.ofNat (48 + n % 10) :: acc)
  termination_by n
  decreasing_by omega
def markT (n : Nat) : Bytes := if n = 0 then [109, 48] else 109 :: digs n []
theorem markText_ok (n : Nat) (hn : n ≤ 1000000) (w : World) : Cl Try.prog 36 [.int .i64 n] w (RetB (.string (B (markT n))) w) := by
  apply vc36
  unfold V36
  refine ⟨fun g => ?_, fun g => ?_⟩
  · have g' := of_decide_eq_true g
    have : n = 0 := by omega
    subst this
    exact ⟨rfl, Below.refl _ _⟩
  have g' := of_decide_eq_false g
  refine ⟨fun k m sp w' => ∃ (i : Nat) (acc : Bytes), m = i ∧ sp = B acc ∧ k = i ∧ digs i acc = digs n [] ∧ acc.length + i ≤ n ∧ Below w.heap.size w w', ⟨n, n, [], rfl, rfl, rfl, rfl, by simp, Below.refl _ _⟩, ?_⟩
  rintro k d m sp w1 ⟨i, acc, rfl, rfl, hk, hd, hl, hb⟩
  refine ⟨fun g1 => ?_, fun g1 => ?_⟩
  · have g1' : 0 < i := by have := of_decide_eq_true g1; omega
    refine ⟨by decide, ?_⟩
    have hm : Int.tmod (i : Int) 10 = ((i % 10 : Nat) : Int) := by rw [Int.tmod_eq_emod_of_nonneg (by omega)]; rfl
    have hv : Int.tdiv (i : Int) 10 = ((i / 10 : Nat) : Int) := by rw [Int.tdiv_eq_ediv_of_nonneg (by omega)]; rfl
    rw [hm, hv, w64 (by omega), w8, w64 (by omega)]
    have hx : ((48 : Int) + ((i % 10 : Nat) : Int)) % 256 = ((UInt8.ofNat (48 + i % 10)).toNat : Int) := by
      rw [UInt8.toNat_ofNat']; omega
    rw [hx]
    refine newC_in fun w2 s2 k2 e2 => ?_
    refine ⟨B [UInt8.ofNat (48 + i % 10)], conv_run Try.underlying25 Try.underlying9 Try.underlying5 rfl (k2.cellsAt (n := 1) rfl rfl), by rw [size_B, size_B]; simp; omega, by decide, ?_⟩
    rw [B_append]
    refine ⟨i / 10, by omega, i / 10, _, rfl, rfl, rfl, ?_, ?_, Ext.to hb e2 fun _ h => h.elim⟩
    · rw [← hd]; conv => rhs; rw [digs]
      rw [dif_neg (by omega)]; rfl
    · simp; omega
  · have : i = 0 := by have := of_decide_eq_false g1; omega
    subst this
    have hd' : acc = digs n [] := by rw [← hd, digs]; rfl
    refine ⟨by rw [size_B]; show 1 + acc.length ≤ _; omega, ?_⟩
    have : (⟨#[109]⟩ : ByteArray) ++ B acc = B (markT n) := by
      show B [109] ++ B acc = _
      rw [B_append, hd']; unfold markT; rw [if_neg (by omega)]; rfl
    rw [this]
    exact ⟨rfl, hb⟩
/-- What the marks are, from a number on. -/
def marked (n : Nat) : Nat → Bits
  | 0 => []
  | l + 1 => marked n l ++ [(((n + 2 * l : Nat) : Int), markT (n + 2 * l + 1))]
theorem marked_length (n l : Nat) : (marked n l).length = l := by
  induction l with
  | zero => rfl
  | succ l ih => simp [marked, ih]
theorem marked_at (n l : Nat) : ∀ (i : Nat) (h : i < (marked n l).length), (marked n l)[i] = (((n + 2 * i : Nat) : Int), markT (n + 2 * i + 1)) := by
  induction l with
  | zero => intro i h; simp [marked] at h
  | succ l ih =>
    intro i h
    simp only [marked] at h ⊢
    by_cases hi : i < l
    · rw [List.getElem_append_left (by rw [marked_length]; exact hi)]; exact ih i _
    · rw [List.length_append, marked_length] at h
      have : i = l := by simp at h; omega
      subst this
      rw [List.getElem_append_right (by rw [marked_length]; omega)]
      simp [marked_length]
theorem bitsC_set (m r : Bits) (b b' : Int × Bytes) : ((bitsC (m ++ b :: r)).set (m.length * 2) (.int .i64 b'.1)).set (m.length * 2 + 1) (.string (B b'.2)) = bitsC (m ++ [b'] ++ r) := by
  have hc : bitsC (b :: r) = bitC b ++ bitsC r := by simp [bitsC]
  rw [bitsC_append, bitsC_append, bitsC_append, hc, bitsC_one]
  rw [List.set_append_right _ _ (by rw [bitsC_length]; omega), List.set_append_right _ _ (by rw [bitsC_length]; omega), bitsC_length]
  rw [show m.length * 2 - m.length * 2 = 0 from by omega, show m.length * 2 + 1 - m.length * 2 = 1 from by omega]
  simp [bitC]
theorem markBitS_ok {w : World} {N : Nat} {a : Option Addr} {l c : Nat} {bs : Bits} (h : Row N w 32 2 a l c (bitsC bs)) (hlb : l = bs.length) (hl : l ≤ 1000) (n : Nat) (hn : n ≤ 1000) :
    Cl Try.prog 31 [.slice a l c, .int .i64 n] w (fun e w' => e = .returned (.int .i64 ((n + 2 * l : Nat) : Int)) ∧ Row N w' 32 2 a l c (bitsC (marked n l)) ∧ Ext (fun k => blkOf a = some k) w w') := by
  apply vc31
  unfold V31
  refine ⟨fun k m j w' => ∃ i : Nat, m = ((n + 2 * i : Nat) : Int) ∧ j = i ∧ i ≤ l ∧ k = l - i ∧ Row N w' 32 2 a l c (bitsC (marked n i ++ bs.drop i)) ∧ Ext (fun k => blkOf a = some k) w w', ⟨_, 0, by simp, rfl, by omega, rfl, by simpa [marked] using h, Ext.refl _ _⟩, ?_⟩
  rintro k d m j w1 ⟨i, rfl, rfl, hi, rfl, hR, hE⟩
  refine ⟨fun g => ?_, fun g => ?_⟩
  · have g' : i < l := by have := of_decide_eq_true g; omega
    have e0 : Int.toNat (i : Int) = i := by omega
    have e1 : IntKind.wrap .i64 ((i : Int) + 1) = ((i + 1 : Nat) : Int) := by rw [w64 (by omega)]; omega
    have e2 : IntKind.wrap .i64 (((n + 2 * i : Nat) : Int) + 1) = ((n + 2 * i + 1 : Nat) : Int) := by rw [w64 (by omega)]; omega
    have e3 : IntKind.wrap .i64 (((n + 2 * i + 1 : Nat) : Int) + 1) = ((n + 2 * (i + 1) : Nat) : Int) := by rw [w64 (by omega)]; omega
    rw [e0, e1, e2, e3]
    obtain ⟨b, cs, rfl, hB, hc, hN, hcell⟩ := hR.at (by omega)
    refine ⟨b, 0, ⟨rfl, by omega, by omega⟩, ?_⟩
    rw [Nat.zero_add]
    refine hR.st (by omega) fun w2 hR2 e2 => ?_
    refine (markText_ok (n + 2 * i + 1) (by omega) w2).ret fun w3 hb3 => ⟨_, rfl, b, 0, ⟨rfl, by omega, by omega⟩, ?_⟩
    rw [Nat.zero_add]
    refine (hR2.below hb3).st (by omega) fun w4 hR4 e4 => ?_
    refine ⟨_, by omega, i + 1, rfl, rfl, by omega, rfl, ?_, ?_⟩
    · have hd : bs.drop i = bs[i]'(by omega) :: bs.drop (i + 1) := List.drop_eq_getElem_cons (by omega)
      have := bitsC_set (marked n i) (bs.drop (i + 1)) (bs[i]'(by omega)) (((n + 2 * i : Nat) : Int), markT (n + 2 * i + 1))
      rw [marked_length, ← hd] at this
      rw [this] at hR4
      exact hR4
    · exact ((hE.trans (Ext.mono e2 fun k _ h => by subst h; rfl)).trans (Ext.of_below hb3)).trans (Ext.mono e4 fun k _ h => by subst h; rfl)
  · have : i = l := by have := of_decide_eq_false g; omega
    subst this
    refine ⟨rfl, ?_, hE⟩
    rw [List.drop_of_length_le (by omega), List.append_nil] at hR
    exact hR
theorem heldBitS_ok {w : World} {N : Nat} {a : Option Addr} {l c : Nat} (n : Nat) (h : Row N w 32 2 a l c (bitsC (marked n l))) (hl : l ≤ 1000) (hn : n ≤ 1000) :
    Cl Try.prog 32 [.slice a l c, .int .i64 n] w (RetB (.int .i64 ((n + 2 * l : Nat) : Int)) w) := by
  apply vc32
  unfold V32
  refine ⟨fun k m j w' => ∃ i : Nat, m = ((n + 2 * i : Nat) : Int) ∧ j = i ∧ i ≤ l ∧ k = l - i ∧ Below w.heap.size w w', ⟨_, 0, by simp, rfl, by omega, rfl, Below.refl _ _⟩, ?_⟩
  rintro k d m j w1 ⟨i, rfl, rfl, hi, rfl, hb⟩
  refine ⟨fun g => ?_, fun g => ?_⟩
  · have g' : i < l := by have := of_decide_eq_true g; omega
    have e0 : Int.toNat (i : Int) = i := by omega
    have e1 : IntKind.wrap .i64 ((i : Int) + 1) = ((i + 1 : Nat) : Int) := by rw [w64 (by omega)]; omega
    have e2 : IntKind.wrap .i64 (((n + 2 * i : Nat) : Int) + 1) = ((n + 2 * i + 1 : Nat) : Int) := by rw [w64 (by omega)]; omega
    have e3 : IntKind.wrap .i64 (((n + 2 * i + 1 : Nat) : Int) + 1) = ((n + 2 * (i + 1) : Nat) : Int) := by rw [w64 (by omega)]; omega
    rw [e0, e1, e2, e3]
    obtain ⟨b, cs, rfl, hB, hc, hN, hcell⟩ := (h.below hb).at (by omega)
    have hbit := bitsC_at (marked n l) i (by rw [marked_length]; exact g')
    rw [marked_at] at hbit
    refine ⟨b, 0, ⟨rfl, by omega, by omega⟩, _, by rw [Nat.zero_add, hcell _ (by omega)]; exact hbit.1, fun q => by simp at q, fun _ => ?_⟩
    refine drw_in fun w2 q2 e2 => ?_
    have hb2 : Below w.heap.size w w2 := Ext.to hb e2 fun _ h => h.elim
    have hB2 := hB.keep e2 fun h => h
    have hs1 : cellH w1.heap b (0 + i * 2 + 1) = some (.string (B (markT (n + 2 * i + 1)))) := by rw [Nat.zero_add, hcell (i * 2 + 1) (by omega)]; exact hbit.2
    refine ⟨b, 0, ⟨rfl, by omega, by omega⟩, B (markT (n + 2 * i + 1)), by rw [q2]; exact hs1, ?_⟩
    refine (markText_ok (n + 2 * i + 1) (by omega) w2).ret fun w3 hb3 => ?_
    have hs3 : cellH w3.heap b (0 + i * 2 + 1) = some (.string (B (markT (n + 2 * i + 1)))) := by rw [(hB2.below hb3).cell, ← hs1, hB.cell]
    exact ⟨B (markT (n + 2 * i + 1)), rfl, hs3, fun q => by simp at q, fun _ => ⟨l - (i + 1), by omega, i + 1, rfl, rfl, by omega, rfl, hb2.vstep hb3⟩⟩
  · have : i = l := by have := of_decide_eq_false g; omega
    subst this
    exact ⟨rfl, hb⟩
theorem markTemplate_ok {w : World} {N : Nat} {a : Option Addr} {l c : Nat} {bs : Bits} {t : Bool} {m : Int} (h : Row N w 32 2 a l c (bitsC bs)) (hlb : l = bs.length) (hl : l ≤ 1000) (n : Nat) (hn : n ≤ 1000) :
    Cl Try.prog 21 [.agg #[.bool t, .int .i64 m, .slice a l c], .int .i64 n] w (fun e w' => e = .returned (.int .i64 ((n + 2 * l : Nat) : Int)) ∧ Row N w' 32 2 a l c (bitsC (marked n l)) ∧ Ext (fun k => blkOf a = some k) w w') := by
  apply vc21
  unfold V21
  refine newC_in fun w1 s1 k1 e1 => ?_
  refine ⟨a, l, c, k1.cell 2, ?_⟩
  refine (markBitS_ok (h.keep e1 fun _ _ h => h) hlb hl n hn).use fun e w2 he => ?_
  obtain ⟨rfl, hR, hE⟩ := he
  exact ⟨_, rfl, rfl, hR, (Ext.mono e1 fun _ _ h => h.elim).trans hE⟩
theorem heldTemplate_ok {w : World} {N : Nat} {a : Option Addr} {l c : Nat} {t : Bool} {m : Int} (n : Nat) (h : Row N w 32 2 a l c (bitsC (marked n l))) (hl : l ≤ 1000) (hn : n ≤ 1000) :
    Cl Try.prog 22 [.agg #[.bool t, .int .i64 m, .slice a l c], .int .i64 n] w (RetB (.int .i64 ((n + 2 * l : Nat) : Int)) w) := by
  apply vc22
  unfold V22
  refine newC_in fun w1 s1 k1 e1 => ?_
  refine ⟨a, l, c, k1.cell 2, ?_⟩
  have hb : Below w.heap.size w w1 := Ext.to (Below.refl _ _) e1 fun _ h => h.elim
  exact (heldBitS_ok n (h.below hb) hl hn).ret fun w2 hb2 => ⟨_, rfl, fun g => by have := of_decide_eq_true g; omega, fun _ => ⟨rfl, hb.vstep hb2⟩⟩
end Go.Proofs.Ytdbhnlelpcoldaa.V

/- The functions that draw, over their cursor. No statement of the seat is proved here. -/
import Derived.Test.YtdbhnlelpcoldaaVDrw
import Derived.Test.YtdbhnlelpcoldaaTplZ
import Derived.Test.YtdbhnlelpcoldaaUnqX
import Derived.Test.YtdbhnlelpcoldaaRowK
namespace Go.Proofs.Ytdbhnlelpcoldaa.V
open Go.Vc Go.Proofs Go.RowKit
set_option linter.unusedVariables false
set_option linter.unusedSimpArgs false

theorem _root_.Go.Vc.GBytes.ext {S : Nat → Prop} {w w' : World} {B : Nat} {a : Option Addr} {l : Nat} (h : GBytes w B a l) (e : Ext S w w') (hB : B ≤ w.heap.size) (hs : ∀ k, k < B → ¬ S k) : GBytes w' B a l := by
  refine ⟨h.1, h.2.imp id ?_⟩
  rintro ⟨b, o, rfl, hb, hc⟩
  refine ⟨b, o, rfl, hb, fun i hi => ?_⟩
  obtain ⟨n, h1, h2, h3⟩ := hc i hi
  exact ⟨n, h1, h2, by rw [e.cellH (by omega) (hs b hb)]; exact h3⟩
def Cur (w : World) (b B : Nat) (a : Option Addr) (l c m : Nat) : Prop :=
  (∃ (p : Nat) (sd : Int), Blk w.heap b 45 [.slice a l c, .int .i64 p, .int .u64 sd] ∧ p ≤ m) ∧ GBytes w B a l ∧ B ≤ b
theorem Cur.lt {w : World} {b B : Nat} {a : Option Addr} {l c m : Nat} (h : Cur w b B a l c m) : b < w.heap.size := by obtain ⟨⟨p, sd, h, _⟩, _⟩ := h; exact h.lt
theorem Cur.ext {S : Nat → Prop} {w w' : World} {b B : Nat} {a : Option Addr} {l c m : Nat} (h : Cur w b B a l c m) (e : Ext S w w') (hs : ∀ k, k ≤ b → ¬ S k) : Cur w' b B a l c m := by
  have hlt := h.lt
  obtain ⟨⟨p, sd, h1, h2⟩, h3, h4⟩ := h
  exact ⟨⟨p, sd, h1.keep e (hs b (by omega)), h2⟩, h3.ext e (by omega) (fun k hk => hs k (by omega)), h4⟩
theorem Cur.below {w w' : World} {b B : Nat} {a : Option Addr} {l c m : Nat} (h : Cur w b B a l c m) (e : Below w.heap.size w w') : Cur w' b B a l c m :=
  h.ext (S := fun _ => False) (Ext.of_below e) fun _ _ h => h
theorem Cur.mono {w : World} {b B : Nat} {a : Option Addr} {l c m m' : Nat} (h : Cur w b B a l c m) (hm : m ≤ m') : Cur w b B a l c m' := by
  obtain ⟨⟨p, sd, h1, h2⟩, h3, h4⟩ := h
  exact ⟨⟨p, sd, h1, by omega⟩, h3, h4⟩
/-- What a drawing leaves: the value, the cursor gone on by at most d. -/
def Drew (w : World) (b B : Nat) (a : Option Addr) (l c m : Nat) (φ : Value → Prop) : Ending → World → Prop :=
  fun e w' => ∃ v, e = .returned v ∧ φ v ∧ Cur w' b B a l c m ∧ Ext (fun k => k = b) w w'

theorem and255 (n : Int) : IntKind.wrap .i64 (IntKind.wrap .u64 (((BitVec.ofInt 64 n &&& BitVec.ofInt 64 255).toNat : Int))) ≤ 255 ∧ 0 ≤ IntKind.wrap .i64 (IntKind.wrap .u64 (((BitVec.ofInt 64 n &&& BitVec.ofInt 64 255).toNat : Int))) := by
  have h : (BitVec.ofInt 64 n &&& BitVec.ofInt 64 255).toNat ≤ 255 := by
    rw [BitVec.toNat_and]
    exact Nat.le_trans Nat.and_le_right (by decide)
  generalize (BitVec.ofInt 64 n &&& BitVec.ofInt 64 255).toNat = x at h
  have hu : IntKind.wrap .u64 (x : Int) = x := by
    have h1 : (2 ^ IntKind.u64.bits : Int) = 18446744073709551616 := by decide
    have h3 : IntKind.u64.signed = false := rfl
    unfold IntKind.wrap
    simp only [h1, h3, Bool.false_and, Bool.false_eq_true, if_false]
    omega
  rw [hu, w64 (by omega)]
  omega

theorem next_ok {w : World} {b B : Nat} {a : Option Addr} {l c m : Nat} (h : Cur w b B a l c m) (hm : m ≤ 1099511627776) :
    Cl Try.prog 37 [.pointer (some ⟨b, 0, none⟩)] w (Drew w b B a l c (m + 1) fun v => ∃ n : Int, v = .int .i64 n ∧ 0 ≤ n ∧ n ≤ 255) := by
  apply vc37
  unfold V37
  obtain ⟨⟨p, sd, hB, hp⟩, hC, hb⟩ := h
  have hpl := hB.lt
  refine drw_in fun w1 q1 e1 => ?_
  have hB1 := hB.keep e1 fun h => h
  refine ⟨p, hB1.cell 1, a, l, c, hB1.cell 0, fun g => ?_, fun g => ?_⟩
  · have g' : p < l := by have := of_decide_eq_true g; omega
    refine drw_in fun w2 q2 e2 => ?_
    have hB2 := hB1.keep e2 fun h => h
    have hC2 := (hC.ext e1 (by omega) (fun _ _ h => h)).ext e2 (by have := e1.size; omega) (fun _ _ h => h)
    rcases hC2.2 with h0 | ⟨b', o', rfl, hb', hc⟩
    · omega
    obtain ⟨n, hn1, hn2, hn3⟩ := hc p g'
    refine ⟨_, l, c, hB2.cell 0, p, hB2.cell 1, b', o', ⟨rfl, by omega, by omega⟩, n, ?_, p, hB2.cell 1, ?_⟩
    · rw [show (Int.toNat (p : Int)) * 1 = p from by omega]; exact hn3
    refine stW_in hB2 (by show 0 + 1 + 1 ≤ 3; decide) fun w3 s3 k3 e3 => ?_
    refine ⟨sd, k3.cell 2, ?_⟩
    refine stW_in k3 (by show 0 + 2 + 1 ≤ 3; decide) fun w4 s4 k4 e4 => ?_
    have hE : Ext (fun k => k = b) w w4 := (((Ext.mono e1 fun _ _ h => h.elim).trans (Ext.mono e2 fun _ _ h => h.elim)).trans e3).trans e4
    have hw : IntKind.wrap .i64 ((p : Int) + 1) = ((p + 1 : Nat) : Int) := by rw [w64 (by omega)]; omega
    refine ⟨_, rfl, ⟨_, rfl, by rw [w64 (by omega)]; omega, by rw [w64 (by omega)]; omega⟩, ⟨⟨p + 1, _, by rw [← hw]; exact k4, by omega⟩, hC.ext hE (by omega) (fun k hk => by omega), hb⟩, hE⟩
  · refine ⟨sd, hB1.cell 2, ?_⟩
    refine stW_in hB1 (by show 0 + 2 + 1 ≤ 3; decide) fun w3 s3 k3 e3 => ?_
    refine ⟨p, k3.cell 1, ?_⟩
    refine stW_in k3 (by show 0 + 1 + 1 ≤ 3; decide) fun w4 s4 k4 e4 => ?_
    have hE : Ext (fun k => k = b) w w4 := ((Ext.mono e1 fun _ _ h => h.elim).trans e3).trans e4
    have hw : IntKind.wrap .i64 ((p : Int) + 1) = ((p + 1 : Nat) : Int) := by rw [w64 (by omega)]; omega
    refine ⟨_, k4.cell 2, by decide, _, rfl, ⟨_, rfl, (and255 _).2, (and255 _).1⟩, ⟨⟨p + 1, _, by rw [← hw]; exact k4, by omega⟩, hC.ext hE (by omega) (fun k hk => by omega), hb⟩, hE⟩

theorem pick_ok {w : World} {b B : Nat} {a : Option Addr} {l c m : Nat} (h : Cur w b B a l c m) (hm : m ≤ 549755813888) (n : Int) :
    Cl Try.prog 34 [.pointer (some ⟨b, 0, none⟩), .int .i64 n] w (Drew w b B a l c (m + 2) fun v => ∃ r : Int, v = .int .i64 r ∧ 0 ≤ r ∧ (1 ≤ n → r < n)) := by
  apply vc34
  unfold V34
  refine ⟨fun g => ?_, fun g => ?_⟩
  · have g' := of_decide_eq_true g
    exact ⟨_, rfl, ⟨0, rfl, by omega, by omega⟩, h.mono (by omega), Ext.refl _ _⟩
  have g' := of_decide_eq_false g
  refine (next_ok h (by omega)).use fun e w1 he => ?_
  obtain ⟨_, rfl, ⟨x, rfl, hx1, hx2⟩, h1, e1⟩ := he
  refine ⟨x, rfl, fun g1 => ?_, fun g1 => ?_⟩
  · refine (next_ok h1 (by omega)).use fun e w2 he => ?_
    obtain ⟨_, rfl, ⟨y, rfl, hy1, hy2⟩, h2, e2⟩ := he
    refine ⟨y, rfl, by omega, _, rfl, ⟨_, rfl, ?_, fun _ => ?_⟩, h2, e1.trans e2⟩
    · rw [w64 (n := x * 256) (by omega), w64 (by omega)]
      exact Int.tmod_nonneg _ (by omega)
    · exact Int.tmod_lt_of_pos _ (by omega)
  · refine ⟨by omega, _, rfl, ⟨_, rfl, Int.tmod_nonneg _ hx1, fun _ => Int.tmod_lt_of_pos _ (by omega)⟩, h1.mono (by omega), e1⟩

theorem elemU8 : Elem Try.prog 25 5 1 1 := ⟨Try.underlying25, by kernel_rfl, by kernel_rfl, ⟨[.int .u8 0], by kernel_rfl, rfl⟩⟩
theorem bytes_ok {w : World} {b B : Nat} {a : Option Addr} {l c m : Nat} (h : Cur w b B a l c m) (n : Nat) (hn : n ≤ 1000000) (hm : m ≤ 1099510000000) :
    Cl Try.prog 33 [.pointer (some ⟨b, 0, none⟩), .int .i64 n] w (Drew w b B a l c (m + n) fun v => ∃ s : ByteArray, v = .string s ∧ s.size = n) := by
  apply vc33
  unfold V33
  have hbl := h.lt
  refine ⟨fun k j ax lx cx w' => ∃ (i : Nat) (xs : Bytes), j = ((n - i : Nat) : Int) ∧ i ≤ n ∧ k = n - i ∧ i = lx ∧ xs.length = i ∧ Row w.heap.size w' 5 1 ax lx cx (u8s xs) ∧ Cur w' b B a l c (m + i) ∧ Ext (fun k => k = b) w w', ⟨_, 0, [], rfl, by omega, rfl, rfl, rfl, Row.nil _ _ (Nat.le_refl _), h, Ext.refl _ _⟩, ?_⟩
  rintro k d j ax lx cx w1 ⟨i, xs, rfl, hi, rfl, hil, hx, hR, hC, hE⟩
  refine ⟨fun g => ?_, fun g => ?_⟩
  · have g' : i < n := by have := of_decide_eq_true g; omega
    refine (next_ok hC (by omega)).use fun e w2 he => ?_
    obtain ⟨_, rfl, ⟨y, rfl, hy1, hy2⟩, hC2, e2⟩ := he
    refine ⟨y, rfl, ?_⟩
    have hy : IntKind.wrap .u8 y = ((UInt8.ofNat y.toNat).toNat : Int) := by rw [w8, UInt8.toNat_ofNat']; omega
    rw [hy]
    obtain ⟨a3, c3, w3, r1, r2, r3⟩ := (hR.keep e2 fun k hk h => by omega).app1 elemU8 (ys := u8s [UInt8.ofNat y.toNat]) (n := 1) rfl rfl (by omega) (by omega)
    refine ⟨a3, _, c3, w3, r1, n - (i + 1), by omega, i + 1, xs ++ [UInt8.ofNat y.toNat], ?_, by omega, rfl, by omega, by simp; omega, ?_, ?_, ?_⟩
    · rw [w64 (by omega)]; omega
    · rw [← u8s_append]; exact r2
    · exact (hC2.ext r3 fun k hk (h : _ ≤ k) => by omega)
    · exact (hE.trans e2).step r3 fun i hi (h : _ ≤ i) => by omega
  · have : i = n := by have := of_decide_eq_false g; omega
    subst this
    have hs : (convert 25 9 (.slice ax lx cx)).run Try.prog w1 = .ok (.string (Go.Vc.B xs)) w1 := by
      obtain ⟨⟨v1, v2, v3⟩, v4, v5⟩ := hR
      rcases v3 with ⟨rfl, rfl⟩ | ⟨bb, cs, rfl, hB, h4, h5⟩
      · have : lx = 0 := by omega
        have : xs = [] := List.length_eq_zero_iff.1 (by omega)
        subst this
        exact conv_nil Try.underlying25 Try.underlying9 Try.underlying5
      · exact conv_run Try.underlying25 Try.underlying9 Try.underlying5 (by omega) (hB.cellsAt (n := lx * 1) (by simpa using h5) v1.symm)
    exact ⟨Go.Vc.B xs, hs, _, rfl, ⟨_, rfl, by rw [size_B]; exact hx⟩, hC, hE⟩

theorem texts_ok {w : World} {a : Option Addr} {l c : Nat} (h : GBytes w w.heap.size a l) :
    Cl Try.prog 23 [.slice a l c] w (fun e w' => ∃ s : ByteArray, e = .returned (.string s) ∧ s.size ≤ 28 ∧ Below w.heap.size w w') := by
  apply vc23
  unfold V23
  refine newC_in fun w1 s1 k1 e1 => ?_
  have hC : Cur w1 w.heap.size w.heap.size a l c 0 := ⟨⟨0, 0, k1, Nat.le_refl _⟩, h.ext e1 (Nat.le_refl _) (fun _ _ h => h), Nat.le_refl _⟩
  refine (pick_ok hC (by omega) 28).use fun e w2 he => ?_
  obtain ⟨_, rfl, ⟨r, rfl, hr1, hr2⟩, hC2, e2⟩ := he
  have hr2 := hr2 (by omega)
  refine ⟨r, rfl, ?_⟩
  rw [show r = ((r.toNat : Nat) : Int) from by omega]
  refine (bytes_ok hC2 r.toNat (by omega) (by omega)).use fun e w3 he => ?_
  obtain ⟨_, rfl, ⟨s, rfl, hs⟩, hC3, e3⟩ := he
  exact ⟨s, rfl, s, rfl, by omega, Ext.to (Ext.to (Ext.to (Below.refl _ _) e1 fun _ h => h.elim) e2 fun i h => by omega) e3 fun i h => by omega⟩
end Go.Proofs.Ytdbhnlelpcoldaa.V

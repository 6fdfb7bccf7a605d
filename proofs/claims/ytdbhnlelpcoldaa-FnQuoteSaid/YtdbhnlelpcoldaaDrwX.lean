/- The drawing of templates and of what is to be unquoted; two laws. No statement of the seat is proved here. -/
import Derived.Test.YtdbhnlelpcoldaaDrwW
namespace Go.Proofs.Ytdbhnlelpcoldaa.V
open Go.Vc Go.Proofs Go.RowKit
set_option linter.unusedVariables false
set_option linter.unusedSimpArgs false

theorem size_app (s t : ByteArray) : (s ++ t).size = s.size + t.size := by simp [ByteArray.size_append]
theorem Cur.blk {w w' : World} {b M : Nat} {a : Option Addr} {l c m : Nat} {k : Nat} {e : TypeId} {cs : List Value} (hk : Blk w.heap k e cs) (hb : b < k) (E : Ext (fun k => k = b) w w') : Blk w'.heap k e cs := hk.keep E (by omega)

/-- The end: sometimes the text is made long. -/
theorem with_tail {w : World} {b M : Nat} {a : Option Addr} {l c m : Nat} (h : Cur w b M a l c m) (hm : m ≤ 1000000) (s : ByteArray) (hs : s.size ≤ 1000) {R : Ending → World → Prop} {Q : List PanicEntry → World → Prop}
    (hR : ∀ s' w', s'.size ≤ 2000 → Cur w' b M a l c (m + 4000) → Ext (fun k => k = b) w w' → R (.returned (.string s')) w') :
    Cl Try.prog 34 [.pointer (some ⟨b, 0, none⟩), .int .i64 60] w (retG (fun (r35 : Value) (w34 : World) => ∃ (n33 : Int), r35 = .int .i64 n33 ∧ ((((n33 : Int) == 0) = true → ∃ (I36 : Nat → ByteArray → World → Prop), (∃ (k38 : Nat), I36 k38 s w34) ∧ ∀ (k37 : Nat) (d40 : Nat → Value) (s41 : ByteArray) (w39 : World), I36 k37 s41 w39 →
      Cl Try.prog 34 [.pointer (some ⟨b, 0, none⟩), .int .i64 3] w39 (retG (fun (r44 : Value) (w43 : World) => ∃ (n42 : Int), r44 = .int .i64 n42 ∧ (((decide (((ByteArray.size s41 : Nat) : Int) < (IntKind.wrap .i64 (99 + n42)))) = true → (s41.size + (⟨#[119]⟩ : ByteArray).size ≤ 9223372036854775807) ∧ (∃ (m45 : Nat), m45 < k37 ∧ I36 m45 (s41 ++ (⟨#[119]⟩ : ByteArray)) w43)) ∧
        ((decide (((ByteArray.size s41 : Nat) : Int) < (IntKind.wrap .i64 (99 + n42)))) = false → R (.returned (.string s41)) w43))) Q)) ∧ (((n33 : Int) == 0) = false → R (.returned (.string s)) w34))) Q) := by
  refine (pick_ok h (by omega) 60).use fun e w1 he => ?_
  obtain ⟨_, rfl, ⟨r, rfl, hr1, hr2⟩, h1, e1⟩ := he
  refine ⟨r, rfl, fun g => ?_, fun g => hR s w1 (by omega) (h1.mono (by omega)) e1⟩
  refine ⟨fun k s' w' => s'.size ≤ 1000 + (1000 - k) ∧ k ≤ 1000 ∧ k + s'.size ≥ 1000 ∧ Cur w' b M a l c (m + 2 + 2 * (1000 - k)) ∧ Ext (fun k => k = b) w w', ⟨1000, by omega, by omega, by omega, h1.mono (by omega), e1⟩, ?_⟩
  rintro k d s' w2 ⟨i1, i2, i3, i4, i5⟩
  refine (pick_ok i4 (by omega) 3).use fun e w3 he => ?_
  obtain ⟨_, rfl, ⟨q, rfl, hq1, hq2⟩, h3, e3⟩ := he
  have hq2 := hq2 (by omega)
  have hw : IntKind.wrap .i64 (99 + q) = 99 + q := w64 (by omega)
  refine ⟨q, rfl, ?_⟩
  rw [hw]
  refine ⟨fun g => ?_, fun g => ?_⟩
  · have g' := of_decide_eq_true g
    have hz : ByteArray.size (⟨#[119]⟩ : ByteArray) = 1 := rfl
    refine ⟨by rw [hz]; omega, k - 1, by omega, by rw [size_app, hz]; omega, by omega, by rw [size_app, hz]; omega, h3.mono (by omega), i5.trans e3⟩
  · exact hR s' w3 (by omega) (h3.mono (by omega)) (i5.trans e3)

theorem with_ok {w : World} {b M : Nat} {a : Option Addr} {l c m : Nat} (h : Cur w b M a l c m) (hm : m ≤ 100000) :
    Cl Try.prog 27 [.pointer (some ⟨b, 0, none⟩)] w (Drew w b M a l c (m + 5000) fun v => ∃ s : ByteArray, v = .string s ∧ s.size ≤ 2000) := by
  apply vc27
  unfold V27
  have hbl := h.lt
  refine (pick_ok h (by omega) 5).use fun e w1 he => ?_
  obtain ⟨_, rfl, ⟨r, rfl, hr1, hr2⟩, h1, e1⟩ := he
  have hr2 := hr2 (by omega)
  refine ⟨r, rfl, fun k s n w' => n = k ∧ k ≤ 4 ∧ s.size + 4 * k ≤ 16 ∧ Cur w' b M a l c (m + 2 + 2 * (4 - k)) ∧ Ext (fun k => k = b) w w', ⟨r.toNat, by omega, by omega, by show 0 + _ ≤ _; omega, h1.mono (by omega), e1⟩, ?_⟩
  rintro k d s _ w2 ⟨rfl, hk, hs, hC, hE⟩
  refine ⟨fun g => ?_, fun g => ?_⟩
  · have g' : 0 < k := by have := of_decide_eq_true g; omega
    refine newC_in fun w3 s3 k3 e3 => ?_
    refine (pick_ok (hC.ext e3 fun _ _ h => h) (by omega) 7).use fun e w4 he => ?_
    obtain ⟨_, rfl, ⟨q, rfl, hq1, hq2⟩, h4, e4⟩ := he
    have hq2 := hq2 (by omega)
    have k4 := k3.keep e4 (by have := hC.lt; omega)
    refine ⟨q, rfl, _, 0, ⟨rfl, hq1, by omega⟩, ?_⟩
    have hpick : ∃ t : ByteArray, t.size ≤ 4 ∧ cellH w4.heap w2.heap.size (0 + Int.toNat q * 1) = some (.string t) := by
      rw [k4.cell]
      have : q = 0 ∨ q = 1 ∨ q = 2 ∨ q = 3 ∨ q = 4 ∨ q = 5 ∨ q = 6 := by omega
      rcases this with rfl | rfl | rfl | rfl | rfl | rfl | rfl <;> exact ⟨_, by decide, rfl⟩
    obtain ⟨t, ht, hc⟩ := hpick
    refine ⟨t, hc, by omega, k - 1, by omega, by rw [w64 (by omega)]; omega, by omega, by rw [size_app]; omega, h4.mono (by omega), ?_⟩
    exact (hE.trans (Ext.mono e3 fun _ _ h => h.elim)).trans e4
  · have g' : k = 0 := by have := of_decide_eq_false g; omega
    subst g'
    refine (pick_ok hC (by omega) 8).use fun e w4 he => ?_
    obtain ⟨_, rfl, ⟨q, rfl, hq1, hq2⟩, h4, e4⟩ := he
    have hE4 := hE.trans e4
    refine ⟨q, rfl, fun g => ?_, fun g => ?_⟩
    · refine newC_in fun w5 s5 k5 e5 => ?_
      refine (pick_ok (h4.ext e5 fun _ _ h => h) (by omega) 4).use fun e w6 he => ?_
      obtain ⟨_, rfl, ⟨q', rfl, hq1', hq2'⟩, h6, e6⟩ := he
      have hq2' := hq2' (by omega)
      have k6 := k5.keep e6 (by have := h4.lt; omega)
      refine ⟨q', rfl, _, 0, ⟨rfl, hq1', by omega⟩, ?_⟩
      have hpick : ∃ t : ByteArray, t.size ≤ 4 ∧ cellH w6.heap w4.heap.size (0 + Int.toNat q' * 1) = some (.string t) := by
        rw [k6.cell]
        have : q' = 0 ∨ q' = 1 ∨ q' = 2 ∨ q' = 3 := by omega
        rcases this with rfl | rfl | rfl | rfl <;> exact ⟨_, by decide, rfl⟩
      obtain ⟨t, ht, hc⟩ := hpick
      refine ⟨t, hc, by omega, ?_⟩
      have hE6 := (hE4.trans (Ext.mono e5 fun _ _ h => h.elim)).trans e6
      exact with_tail h6 (by omega) _ (by rw [size_app]; omega) fun s' w' hs' hC' hE' => ⟨_, rfl, ⟨s', rfl, hs'⟩, hC'.mono (by omega), hE6.trans hE'⟩
    · exact with_tail h4 (by omega) _ (by omega) fun s' w' hs' hC' hE' => ⟨_, rfl, ⟨s', rfl, hs'⟩, hC'.mono (by omega), hE4.trans hE'⟩

theorem drawTemplate_ok {w : World} {a : Option Addr} {l c : Nat} (h : GBytes w w.heap.size a l) :
    Cl Try.prog 14 [.slice a l c] w (fun e w' => ∃ s : ByteArray, e = .returned (.string s) ∧ Below w.heap.size w w') := by
  apply vc14
  unfold V14
  refine newC_in fun w1 s1 k1 e1 => ?_
  have hC : Cur w1 w.heap.size w.heap.size a l c 0 := ⟨⟨0, 0, k1, Nat.le_refl _⟩, h.ext e1 (Nat.le_refl _) (fun _ _ h => h), Nat.le_refl _⟩
  refine (with_ok hC (by omega)).use fun e w2 he => ?_
  obtain ⟨_, rfl, ⟨s, rfl, hs⟩, hC2, e2⟩ := he
  exact ⟨s, rfl, s, rfl, Ext.to (Ext.to (Below.refl _ _) e1 fun _ h => h.elim) e2 fun i h => by omega⟩
end Go.Proofs.Ytdbhnlelpcoldaa.V

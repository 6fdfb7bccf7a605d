/- The law FnQuote. No statement of the seat is proved here. -/
import Derived.Test.YtdbhnlelpcoldaaLawT
import Derived.Test.YtdbhnlelpcoldaaQuoU
namespace Go.Proofs.Ytdbhnlelpcoldaa.V
open Go.Vc Go.Proofs Go.RowKit
set_option linter.unusedVariables false
set_option linter.unusedSimpArgs false

/-- The last draw: sometimes the empty text. -/
theorem unq_tail {w0 w : World} {b M : Nat} {a : Option Addr} {l c m : Nat} (h : Cur w b M a l c m) (hm : m ≤ 1000000) (hb : w0.heap.size ≤ b) (B0 : Below w0.heap.size w0 w) (s : ByteArray) (Q : List PanicEntry → World → Prop) :
    Cl Try.prog 34 [.pointer (some ⟨b, 0, none⟩), .int .i64 40] w (retG (fun (r46 : Value) (w45 : World) => ∃ (n44 : Int), r46 = .int .i64 n44 ∧ ((((n44 : Int) == 0) = true → (fun (e : Ending) (w' : World) => ∃ s : ByteArray, e = .returned (.string s) ∧ Below w0.heap.size w0 w') (.returned (.string (⟨#[]⟩ : ByteArray))) w45) ∧
      (((n44 : Int) == 0) = false → (fun (e : Ending) (w' : World) => ∃ s : ByteArray, e = .returned (.string s) ∧ Below w0.heap.size w0 w') (.returned (.string s)) w45))) Q) := by
  refine (pick_ok h (by omega) 40).use fun e w1 he => ?_
  obtain ⟨_, rfl, ⟨r, rfl, hr1, hr2⟩, h1, e1⟩ := he
  have hb1 : Below w0.heap.size w0 w1 := Ext.to B0 e1 fun i h => by omega
  exact ⟨r, rfl, fun g => ⟨_, rfl, hb1⟩, fun g => ⟨_, rfl, hb1⟩⟩

theorem drawUnquote_ok {w : World} {a : Option Addr} {l c : Nat} (h : GBytes w w.heap.size a l) :
    Cl Try.prog 24 [.slice a l c] w (fun e w' => ∃ s : ByteArray, e = .returned (.string s) ∧ Below w.heap.size w w') := by
  apply vc24
  unfold V24
  refine newC_in fun w1 s1 k1 e1 => ?_
  have hC : Cur w1 w.heap.size w.heap.size a l c 0 := ⟨⟨0, 0, k1, Nat.le_refl _⟩, h.ext e1 (Nat.le_refl _) (fun _ _ h => h), Nat.le_refl _⟩
  have B1 : Below w.heap.size w w1 := Ext.to (Below.refl _ _) e1 fun _ h => h.elim
  refine (pick_ok hC (by omega) 9).use fun e w2 he => ?_
  obtain ⟨_, rfl, ⟨r, rfl, hr1, hr2⟩, hC2, e2⟩ := he
  have hr2 := hr2 (by omega)
  have B2 : Below w.heap.size w w2 := Ext.to B1 e2 fun i h => by omega
  refine ⟨r, rfl, ?_⟩
  rw [show r = ((r.toNat : Nat) : Int) from by omega]
  refine (bytes_ok hC2 r.toNat (by omega) (by omega)).use fun e w3 he => ?_
  obtain ⟨_, rfl, ⟨s, rfl, hs⟩, hC3, e3⟩ := he
  have B3 : Below w.heap.size w w3 := Ext.to B2 e3 fun i h => by omega
  refine ⟨s, rfl, ?_⟩
  refine (specQuote_ok s w3).ret fun w4 b4 => ?_
  have hC4 := hC3.below b4
  have B4 := B3.vstep b4
  have hsl : (L s).length ≤ 8 := by rw [← size_L]; omega
  have hql := quoT_len (L s) (by omega)
  generalize hq : quoT (L s) = q at hql
  refine ⟨Go.Vc.B q, rfl, ?_⟩
  refine (pick_ok hC4 (by omega) 2).use fun e w5 he => ?_
  obtain ⟨_, rfl, ⟨r5, rfl, hr5, hr5'⟩, hC5, e5⟩ := he
  have B5 : Below w.heap.size w w5 := Ext.to B4 e5 fun i h => by omega
  refine ⟨r5, rfl, fun g5 => ?_, fun g5 => unq_tail hC5 (by omega) (Nat.le_refl _) B5 _ _⟩
  refine ⟨fun g6 => ?_, fun g6 => unq_tail hC5 (by omega) (Nat.le_refl _) B5 _ _⟩
  have g6' := of_decide_eq_true g6
  have hsz : ((ByteArray.size (Go.Vc.B q) : Nat) : Int) = (q.length : Int) := by rw [size_B]
  rw [hsz] at g6' ⊢
  refine (pick_ok hC5 (by omega) q.length).use fun e w7 he => ?_
  obtain ⟨_, rfl, ⟨i, rfl, hi, hi'⟩, hC7, e7⟩ := he
  have hi' := hi' (by omega)
  have B7 : Below w.heap.size w w7 := Ext.to B5 e7 fun i h => by omega
  refine ⟨i, rfl, ?_⟩
  refine newC_in fun w8 s8 k8 e8 => ?_
  have hlt7 := hC7.lt
  have hC8 := hC7.ext e8 fun _ _ h => h
  have B8 : Below w.heap.size w w8 := Ext.to B7 e8 fun _ h => h.elim
  refine (pick_ok hC8 (by omega) 2).use fun e w9 he => ?_
  obtain ⟨_, rfl, ⟨j, rfl, hj, hj'⟩, hC9, e9⟩ := he
  have hj' := hj' (by omega)
  have B9 : Below w.heap.size w w9 := Ext.to B8 e9 fun i h => by omega
  have k9 := k8.keep e9 (by omega)
  have hw : IntKind.wrap .i64 (i + j) = i + j := w64 (by omega)
  have hlen : ∀ x y, (ByteArray.extract (Go.Vc.B q) x y).size ≤ q.length := fun x y => by rw [size_L, L_extract, L_B]; simp; omega
  have hpick : ∀ {wz : World} {p : Int}, Blk wz.heap w7.heap.size 9 [.string (⟨#[34]⟩), .string (⟨#[92]⟩), .string (⟨#[92, 113]⟩), .string (⟨#[92, 120]⟩), .string (⟨#[92, 120, 52]⟩), .string (⟨#[92, 120, 52, 49]⟩), .string (⟨#[10]⟩), .string (⟨#[128]⟩), .string (⟨#[97]⟩)] → 0 ≤ p → p < 9 →
      ∃ t : ByteArray, t.size ≤ 4 ∧ cellH wz.heap w7.heap.size (0 + Int.toNat p * 1) = some (.string t) := by
    intro wz p kz hp1 hp2
    rw [kz.cell]
    have : p = 0 ∨ p = 1 ∨ p = 2 ∨ p = 3 ∨ p = 4 ∨ p = 5 ∨ p = 6 ∨ p = 7 ∨ p = 8 := by omega
    rcases this with rfl | rfl | rfl | rfl | rfl | rfl | rfl | rfl | rfl <;> exact ⟨_, by decide, rfl⟩
  refine ⟨j, rfl, ?_⟩
  rw [hw]
  refine ⟨fun g => ?_, fun g => ?_⟩
  · refine drw_in fun w10 q10 e10 => ?_
    have B10 : Below w.heap.size w w10 := Ext.to B9 e10 fun _ h => h.elim
    refine ⟨⟨by omega, by omega⟩, ⟨by omega, by omega⟩, ?_⟩
    refine (pick_ok (hC9.ext e10 fun _ _ h => h) (by omega) 9).use fun e w11 he => ?_
    obtain ⟨_, rfl, ⟨p, rfl, hp, hp'⟩, hC11, e11⟩ := he
    have hp' := hp' (by omega)
    have B11 : Below w.heap.size w w11 := Ext.to B10 e11 fun i h => by omega
    obtain ⟨t, ht, hc⟩ := hpick ((k9.keep e10 fun h => h).keep e11 (by omega)) hp hp'
    refine ⟨p, rfl, _, 0, ⟨rfl, hp, by omega⟩, t, hc, ?_, ?_, ?_⟩
    · have := hlen 0 (Int.toNat i); omega
    · have := hlen 0 (Int.toNat i)
      have := hlen (Int.toNat (q.length : Int)) (ByteArray.size (Go.Vc.B q))
      rw [size_app]; omega
    · exact unq_tail hC11 (by omega) (Nat.le_refl _) B11 _ _
  · have g' := of_decide_eq_false g
    refine drw_in fun w10 q10 e10 => ?_
    have B10 : Below w.heap.size w w10 := Ext.to B9 e10 fun _ h => h.elim
    refine ⟨⟨by omega, by omega⟩, ⟨by omega, by omega⟩, ?_⟩
    refine (pick_ok (hC9.ext e10 fun _ _ h => h) (by omega) 9).use fun e w11 he => ?_
    obtain ⟨_, rfl, ⟨p, rfl, hp, hp'⟩, hC11, e11⟩ := he
    have hp' := hp' (by omega)
    have B11 : Below w.heap.size w w11 := Ext.to B10 e11 fun i h => by omega
    obtain ⟨t, ht, hc⟩ := hpick ((k9.keep e10 fun h => h).keep e11 (by omega)) hp hp'
    refine ⟨p, rfl, _, 0, ⟨rfl, hp, by omega⟩, t, hc, ?_, ?_, ?_⟩
    · have := hlen 0 (Int.toNat i); omega
    · have := hlen 0 (Int.toNat i)
      have := hlen (Int.toNat (i + j)) (ByteArray.size (Go.Vc.B q))
      rw [size_app]; omega
    · exact unq_tail hC11 (by omega) (Nat.le_refl _) B11 _ _

theorem lawQuoteBack_ok (a : Option Addr) (l c : Nat) (w : World) (h : l ≤ 1048576 → GBytes w w.heap.size a l) : Cl Try.prog 9 [.slice a l c] w (RetB (.bool true) w) := by
  apply vc9
  unfold V9
  refine ⟨fun h1 => ⟨rfl, Below.refl _ _⟩, fun h1 => ?_⟩
  have hC := h (by have := of_decide_eq_false h1; omega)
  refine (texts_ok hC).use fun e w1 he => ?_
  obtain ⟨s, rfl, hs, B1⟩ := he
  have hsl : (L s).length ≤ 200 := by rw [← size_L]; omega
  refine ⟨s, rfl, ?_⟩
  refine (implQuote_ok s w1).ret fun w2 b2 => ?_
  have B2 := B1.vstep b2
  have hql := quoT_len (L s) hsl
  have hback := unq_quo (L s) hsl
  have hat := quoT_at (L s)
  refine ⟨Go.Vc.B (quoT (L s)), rfl, ?_⟩
  generalize hq : quoT (L s) = q at *
  have hsz : ((ByteArray.size (Go.Vc.B q) : Nat) : Int) = (q.length : Int) := by rw [size_B]
  rw [hsz]
  refine ⟨fun k n w' => ∃ i : Nat, n = i ∧ i ≤ q.length ∧ k = q.length - i ∧ Below w.heap.size w w', ⟨_, 0, rfl, by omega, rfl, B2⟩, ?_⟩
  rintro k d n w3 ⟨i, rfl, hi, rfl, B3⟩
  refine ⟨fun g => ?_, fun g => ?_⟩
  · have g' : i < q.length := by have := of_decide_eq_true g; omega
    have e0 : Int.toNat (i : Int) = i := by omega
    have e1 : IntKind.wrap .i64 ((i : Int) + 1) = ((i + 1 : Nat) : Int) := by rw [w64 (by omega)]; omega
    rw [e0, e1, byteAt_at, L_B]
    have := hat i g'
    refine ⟨⟨by omega, by omega⟩, fun g1 => ?_, fun g1 => ⟨⟨by omega, by omega⟩, fun g2 => ?_, fun g2 => ⟨_, by omega, i + 1, rfl, by omega, rfl, B3⟩⟩⟩
    · have := of_decide_eq_true g1; omega
    · have := of_decide_eq_true g2; omega
  refine (implUnquote_ok (Go.Vc.B q) w3).ret fun w4 b4 => ?_
  have B4 := B3.vstep b4
  rw [L_B, hback]
  refine ⟨true, ((0 : Nat) : Int), Go.Vc.B (L s), rfl, ?_⟩
  refine newC_in fun w5 s5 k5 e5 => ?_
  refine stW_in k5 (by show 0 + 3 ≤ 3; decide) fun w6 s6 k6 e6 => ?_
  have B6 : Below w.heap.size w w6 := Ext.to (Ext.to B4 e5 fun _ h => h.elim) e6 fun i h => by have := B4.size; omega
  refine ⟨true, k6.cell 0, fun g => by simp at g, fun _ => ⟨Go.Vc.B (L s), k6.cell 2, fun g => by simp at g, fun _ => ?_⟩⟩
  refine (specQuote_ok s w6).ret fun w7 b7 => ?_
  have B7 := B6.vstep b7
  rw [hq]
  refine ⟨Go.Vc.B q, rfl, fun g => by simp at g, fun _ => ?_⟩
  have hC7 : GBytes w7 w7.heap.size a l := by
    have := hC.ext (Ext.of_below (S := fun _ => False) B7) (Nat.le_refl _) (fun _ _ h => h)
    exact ⟨this.1, this.2.imp id fun ⟨b, o, h1, h2, h3⟩ => ⟨b, o, h1, Nat.lt_of_lt_of_le h2 B7.size, h3⟩⟩
  refine (drawUnquote_ok hC7).use fun e w8 he => ?_
  obtain ⟨x, rfl, b8⟩ := he
  have B8 := B7.vstep b8
  refine ⟨x, rfl, ?_⟩
  obtain ⟨t, n, y, hV⟩ : ∃ t n y, unqV (unqT (L x)) = .agg #[.bool t, .int .i64 ((n : Nat) : Int), .string (Go.Vc.B y)] := ⟨_, _, _, rfl⟩
  refine (implUnquote_ok x w8).ret fun w9 b9 => ⟨t, n, Go.Vc.B y, hV, ?_⟩
  refine (specUnquote_ok x w9).ret fun w10 b10 => ⟨t, n, Go.Vc.B y, hV, true, ?_, rfl, (B8.vstep b9).vstep b10⟩
  rw [bind_run (eq35 t n (Go.Vc.B y) w10)]
  rfl
end Go.Proofs.Ytdbhnlelpcoldaa.V

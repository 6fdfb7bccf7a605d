/- The law on ReadTemplate. No statement of the seat is proved here. -/
import Derived.Test.YtdbhnlelpcoldaaTplY
namespace Go.Proofs.Ytdbhnlelpcoldaa.V
open Go.Vc Go.Proofs Go.RowKit
set_option linter.unusedVariables false
set_option linter.unusedSimpArgs false

theorem tpl_short (l : Bytes) (hl : l.length ≤ 100) : ∀ (k i : Nat) (pl : Bytes) (bs : Bits), k = l.length - i → bs.length ≤ i → i ≤ l.length → (tpl l i pl bs).2.2.length ≤ 101 ∧ (tpl l i pl bs).2.1 ≤ 101 := by
  intro k
  induction k using Nat.strongRecOn with
  | _ k ih =>
    intro i pl bs hk hb hi
    have hf : (fl pl bs).length ≤ bs.length + 1 := by unfold fl; split <;> simp
    rw [tpl]
    split
    · split
      · exact ih _ (by omega) _ _ _ rfl (by omega) (by omega)
      · split
        · exact ⟨by simp, by simp; omega⟩
        · split
          · exact ih _ (by omega) _ _ _ rfl (by omega) (by omega)
          · split
            · exact ⟨by simp, by simp; omega⟩
            · exact ih _ (by omega) _ _ _ rfl (by rw [List.length_append]; simp; omega) (by omega)
    · exact ⟨by simp; omega, by simp⟩
theorem tplT_short (l : Bytes) : (tplT l).2.2.length ≤ 101 ∧ (tplT l).2.1 ≤ 101 := by
  unfold tplT
  split
  · exact ⟨by simp, by simp⟩
  · exact tpl_short l (by omega) _ 0 [] [] rfl (by simp) (by omega)

/-- A template's row as a box on the heap holds it. -/
def Box (w : World) (b : Nat) (t : Bool) (n : Int) (a : Option Addr) (l c : Nat) : Prop := Blk w.heap b 29 [.bool t, .int .i64 n, .slice a l c]

/-- The box of a template's value. -/
theorem box_in {w : World} {t : Bool} {n : Int} {a : Option Addr} {l c : Nat} {K : Nat → World → Prop} (h : ∀ w2, w2.heap.size = w.heap.size + 1 → Box w2 w.heap.size t n a l c → Ext (fun k => k = w.heap.size) w w2 → Below w.heap.size w w2 → K w.heap.size w2) :
    newC [.bool false, .int .i64 0, .slice none 0 0] 29 (fun b (w8 : World) => stW b 0 [.bool t, .int .i64 n, .slice a l c] (fun w9 => K b w9) w8) w := by
  refine newC_in fun w1 s1 k1 e1 => ?_
  refine stW_in k1 (by show 0 + 3 ≤ 3; decide) fun w2 s2 k2 e2 => ?_
  exact h w2 (by omega) k2 ((Ext.mono e1 fun _ _ h => h.elim).trans e2) (Ext.to (Ext.to (Below.refl _ _) e1 fun _ h => h.elim) e2 fun i h => by omega)

theorem lawReadTemplate_ok (s : ByteArray) (w : World) : Cl Try.prog 8 [.string s] w (RetB (.bool true) w) := by
  apply vc8
  unfold V8
  refine ⟨fun h1 => ⟨rfl, Below.refl _ _⟩, fun h1 => ?_⟩
  have hsh := tplT_short (L s)
  generalize hr : tplT (L s) = r at hsh
  obtain ⟨t, n, bs⟩ := r
  simp only [] at hsh
  have hl : bs.length ≤ 1000 := by omega
  refine (specTemplate_ok s w).use fun e w1 he => ?_
  rw [hr] at he
  obtain ⟨a1, c1, rfl, R1, B1⟩ := he
  refine ⟨t, n, a1, _, c1, rfl, ?_⟩
  refine box_in fun w2 s2 x2 e2 B2 => ?_
  have Z2 := B1.vstep B2
  refine (implTemplate_ok s w2).use fun e w3 he => ?_
  rw [hr] at he
  obtain ⟨a2, c2, rfl, R2, B3⟩ := he
  refine ⟨t, n, a2, _, c2, rfl, ?_⟩
  refine box_in fun w4 s4 x4 e4 B4 => ?_
  have Z4 := (Z2.vstep B3).vstep B4
  -- what stands in this world
  have x2' : Box w4 w1.heap.size t n a1 bs.length c1 := (x2.below B3).below B4
  have R1' := ((R1.below B2).below B3).below B4
  have R2' := R2.below B4
  have hlt1 : ∀ b, blkOf a1 = some b → b < w1.heap.size := R1.1.lt
  have hlt2 : ∀ b, blkOf a2 = some b → w2.heap.size ≤ b := R2.2.1
  have hlt3 : ∀ b, blkOf a2 = some b → b < w3.heap.size := R2.1.lt
  have hs3 := B3.size
  refine ⟨t, x4.cell 0, n, x4.cell 1, a2, _, c2, x4.cell 2, t, x2'.cell 0, n, x2'.cell 1, a1, _, c1, x2'.cell 2, ?_⟩
  refine (eqTemplate_ok R2' R1' hl).ret fun w5 B5 => ⟨true, rfl, fun h => by simp at h, fun _ => ?_⟩
  have x4' : Box w5 w3.heap.size t n a2 bs.length c2 := x4.below B5
  refine ⟨t, x4'.cell 0, n, x4'.cell 1, a2, _, c2, x4'.cell 2, ?_⟩
  refine (markTemplate_ok (R2'.below B5) rfl hl 1 (by omega)).use fun e w6 he => ?_
  obtain ⟨rfl, R6, e6⟩ := he
  refine ⟨_, rfl, ?_⟩
  have x6 : Box w6 w3.heap.size t n a2 bs.length c2 := x4'.keep e6 fun h => by have := hlt3 _ h; omega
  have Z6 : Below w.heap.size w w6 := Ext.to (Z4.vstep B5) e6 fun i h => by have := hlt2 _ h; have := Z2.size; omega
  have R1'' := (R1'.below B5).1.keep e6 fun b h h2 => by have := hlt1 _ h; have := hlt2 _ h2; omega
  have R16 : Row w.heap.size w6 32 2 a1 bs.length c1 (bitsC bs) := ⟨R1'', R1.2.1, Z6.size⟩
  have x26 : Box w6 w1.heap.size t n a1 bs.length c1 := (x2'.below B5).keep e6 fun h => by have := hlt2 _ h; omega
  refine ⟨t, x6.cell 0, n, x6.cell 1, a2, _, c2, x6.cell 2, ?_⟩
  refine (heldTemplate_ok 1 R6 hl (by omega)).ret fun w7 B7 => ⟨_, rfl, fun h => ?_, fun _ => ⟨fun h => by simp at h, fun _ => ?_⟩⟩
  · have := of_decide_eq_true h; omega
  refine (implTemplate_ok s w7).use fun e w8 he => ?_
  rw [hr] at he
  obtain ⟨a3, c3, rfl, R8, B8⟩ := he
  refine ⟨t, n, a3, _, c3, rfl, ?_⟩
  refine box_in fun w9 s9 x9 e9 B9 => ?_
  have x29 : Box w9 w1.heap.size t n a1 bs.length c1 := ((x26.below B7).below B8).below B9
  have x69 : Box w9 w3.heap.size t n a2 bs.length c2 := ((x6.below B7).below B8).below B9
  have R69 := ((R6.below B7).below B8).below B9
  have R19 := ((R16.below B7).below B8).below B9
  refine ⟨t, x9.cell 0, n, x9.cell 1, a3, _, c3, x9.cell 2, t, x29.cell 0, n, x29.cell 1, a1, _, c1, x29.cell 2, ?_⟩
  refine (eqTemplate_ok (R8.below B9) R19 hl).ret fun w10 B10 => ⟨true, rfl, fun h => by simp at h, fun _ => ?_⟩
  have x10 : Box w10 w3.heap.size t n a2 bs.length c2 := x69.below B10
  refine ⟨t, x10.cell 0, n, x10.cell 1, a2, _, c2, x10.cell 2, ?_⟩
  refine (heldTemplate_ok 1 (R69.below B10) hl (by omega)).ret fun w11 B11 => ⟨_, rfl, fun h => ?_, fun _ => ⟨fun h => by simp at h, fun _ => ⟨rfl, ?_⟩⟩⟩
  · have := of_decide_eq_true h; omega
  · exact ((((Z6.vstep B7).vstep B8).vstep B9).vstep B10).vstep B11
end Go.Proofs.Ytdbhnlelpcoldaa.V

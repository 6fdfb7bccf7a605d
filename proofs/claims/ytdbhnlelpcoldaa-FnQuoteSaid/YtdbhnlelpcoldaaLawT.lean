/- The law FnTemplates. No statement of the seat is proved here. -/
import Derived.Test.YtdbhnlelpcoldaaDrwX
import Derived.Test.YtdbhnlelpcoldaaEqS
namespace Go.Proofs.Ytdbhnlelpcoldaa.V
open Go.Vc Go.Proofs Go.RowKit
set_option linter.unusedVariables false
set_option linter.unusedSimpArgs false

theorem lawTemplates_ok (a : Option Addr) (l c : Nat) (w : World) (h : l ≤ 1048576 → GBytes w w.heap.size a l) : Cl Try.prog 6 [.slice a l c] w (RetB (.bool true) w) := by
  apply vc6
  unfold V6
  refine ⟨fun h1 => ⟨rfl, Below.refl _ _⟩, fun h1 => ?_⟩
  have hC := h (by have := of_decide_eq_false h1; omega)
  refine (drawTemplate_ok hC).use fun e w1 he => ?_
  obtain ⟨s, rfl, B1⟩ := he
  refine ⟨s, rfl, ?_⟩
  have hsh := tplT_short (L s)
  generalize hr : tplT (L s) = r at hsh
  obtain ⟨t, n, bs⟩ := r
  simp only [] at hsh
  have hl : bs.length ≤ 1000 := by omega
  refine (implTemplate_ok s w1).use fun e w2 he => ?_
  rw [hr] at he
  obtain ⟨a1, c1, rfl, R1, B2⟩ := he
  refine ⟨t, n, a1, _, c1, rfl, ?_⟩
  refine box_in fun w3 s3 x3 e3 B3 => ?_
  refine (specTemplate_ok s w3).use fun e w4 he => ?_
  rw [hr] at he
  obtain ⟨a2, c2, rfl, R2, B4⟩ := he
  refine ⟨t, n, a2, _, c2, rfl, ?_⟩
  refine box_in fun w5 s5 x5 e5 B5 => ?_
  have x3' : Box w5 w2.heap.size t n a1 bs.length c1 := (x3.below B4).below B5
  have R1' := ((R1.below B3).below B4).below B5
  have R2' := R2.below B5
  have Z5 := (((B1.vstep B2).vstep B3).vstep B4).vstep B5
  refine ⟨t, x3'.cell 0, t, x5.cell 0, fun g => by simp at g, fun _ => ⟨n, x3'.cell 1, n, x5.cell 1, fun g => by simp at g, fun _ => ⟨a1, _, c1, x3'.cell 2, a2, _, c2, x5.cell 2, fun g => by simp at g, fun _ => ⟨a1, _, c1, x3'.cell 2, ?_⟩⟩⟩⟩
  refine ⟨fun k n w' => ∃ i : Nat, n = i ∧ i ≤ bs.length ∧ k = bs.length - i ∧ Below w5.heap.size w5 w', ⟨_, 0, rfl, by omega, rfl, Below.refl _ _⟩, ?_⟩
  rintro k d n w6 ⟨i, rfl, hi, rfl, B6⟩
  refine ⟨fun g => ?_, fun g => ⟨rfl, Z5.vstep B6⟩⟩
  have g' : i < bs.length := by have := of_decide_eq_true g; omega
  have e0 : Int.toNat (i : Int) = i := by omega
  have e1 : IntKind.wrap .i64 ((i : Int) + 1) = ((i + 1 : Nat) : Int) := by rw [w64 (by omega)]; omega
  rw [e0, e1]
  refine drw_in fun w7 q7 e7 => ?_
  have B7 : Below w5.heap.size w5 w7 := Ext.to B6 e7 fun _ h => h.elim
  have x3'' : Box w7 w2.heap.size t _ a1 bs.length c1 := x3'.below B7
  have x5'' : Box w7 w4.heap.size t _ a2 bs.length c2 := x5.below B7
  obtain ⟨b, cs, rfl, hB, hc, hN, hcell⟩ := (R1'.below B7).at (by simp only []; omega)
  obtain ⟨b', cs', rfl, hB', hc', hN', hcell'⟩ := (R2'.below B7).at (by simp only []; omega)
  have hbit := bitsC_at bs i g'
  refine ⟨_, _, c1, x3''.cell 2, b, 0, ⟨rfl, by omega, by omega⟩, bs[i].1, by rw [Nat.zero_add, hcell _ (by simp only []; omega)]; exact hbit.1, Go.Vc.B bs[i].2, by rw [Nat.zero_add, hcell _ (by simp only []; omega)]; exact hbit.2,
    _, _, c2, x5''.cell 2, b', 0, ⟨rfl, by omega, by omega⟩, bs[i].1, by rw [Nat.zero_add, hcell' _ (by simp only []; omega)]; exact hbit.1, Go.Vc.B bs[i].2, by rw [Nat.zero_add, hcell' _ (by simp only []; omega)]; exact hbit.2, false, ?_, fun h => by simp at h, fun _ => ⟨_, by omega, i + 1, rfl, by omega, rfl, B7⟩⟩
  have := eq32 bs[i].1 (Go.Vc.B bs[i].2) w7
  rw [bind_run this]
  rfl
end Go.Proofs.Ytdbhnlelpcoldaa.V

/- Parts of a proof, put together: definitions, formulas of Go functions and lemmas. No statement of the seat is proved here. -/
import Derived.Laws.StructEq
import Derived.MapKept
import Derived.Laws.MakeOwn
import Derived.Test.YtngbiaeliphdjaaProg
import Derived.Test.YtngbiaeliphdjaaRkB
set_option maxHeartbeats 4000000
/- Printed by vcgen.py, a program of this session: formulas of Go functions, each with the proof that it gives the function's contract. No statement of the seat is proved here. -/
namespace Go.Proofs.Ytngbiaeliphdjaa.V
open Go.Vc Go.Proofs
set_option linter.unusedVariables false
set_option maxRecDepth 100000
/-- (*impl.list).add -/
def V129 (b1 o2 : Nat) (n3 : Int) (g4 : Nat → Int) (R : Rt) : Pred := fun w =>
  newC [.int .i64 n3, .int .i64 (g4 0), .int .i64 (g4 1), .int .i64 (g4 2), .int .i64 (g4 3), .int .i64 (g4 4), .int .i64 (g4 5), .int .i64 (g4 6), .int .i64 (g4 7), .int .i64 (g4 8), .int .i64 (g4 9), .int .i64 (g4 10), .int .i64 (g4 11), .int .i64 (g4 12), .int .i64 (g4 13), .int .i64 (g4 14), .int .i64 (g4 15), .int .i64 (g4 16), .int .i64 (g4 17), .int .i64 (g4 18), .int .i64 (g4 19)] 142 (fun b5 w6 => drw (fun w7 => lI w7 b5 0 fun n8 => (0 ≤ (n8 : Int) ∧ (n8 : Int) < ((201 : Nat) : Int)) ∧ lB w7 b1 (o2 + 1 + (Int.toNat n8) * 1) fun t9 => (cB (!t9) (drw (fun w10 => lI w10 b5 0 fun n11 => (0 ≤ (n11 : Int) ∧ (n11 : Int) < ((201 : Nat) : Int)) ∧ stW b1 (o2 + 1 + (Int.toNat n11) * 1) [.bool true] (fun w12 => drw (fun w13 => lL w13 b1 o2 fun a14 l14 c14 => lI w13 b5 0 fun n15 => ∃ (g16 : Nat → Int), intsAt w13.heap b5 1 20 g16 ∧ newC [.int .i64 n15, .int .i64 (g16 0), .int .i64 (g16 1), .int .i64 (g16 2), .int .i64 (g16 3), .int .i64 (g16 4), .int .i64 (g16 5), .int .i64 (g16 6), .int .i64 (g16 7), .int .i64 (g16 8), .int .i64 (g16 9), .int .i64 (g16 10), .int .i64 (g16 11), .int .i64 (g16 12), .int .i64 (g16 13), .int .i64 (g16 14), .int .i64 (g16 15), .int .i64 (g16 16), .int .i64 (g16 17), .int .i64 (g16 18), .int .i64 (g16 19)] 142 (fun b17 w18 => cellH w18.heap b1 o2 = some (.slice a14 l14 c14) ∧ ∃ a19 l19 c19, ∃ w20, (Builtin.append_ #[137, 137] 137 #[.slice a14 l14 c14, .slice (some ⟨b17, 0, none⟩) 1 1]).run Try.prog w18 = .ok (.slice a19 l19 c19) w20 ∧ stW b1 o2 [.slice a19 l19 c19] (fun w21 => R (.returned (.tuple #[])) w21) w20) w13) w12) w10) w7) (R (.returned (.tuple #[])) w7))) w6) w
def scr129 : Scr := (.q 1 (.q 8 (.cond (.q 7 (.q 11 .nil)) .nil)))
theorem vc129 {b1 o2 n3 g4} {R w} (h : V129 b1 o2 n3 g4 R w) : Cl Try.prog 129 [.pointer (some ⟨b1, o2, none⟩), .agg #[.int .i64 n3, .int .i64 (g4 0), .int .i64 (g4 1), .int .i64 (g4 2), .int .i64 (g4 3), .int .i64 (g4 4), .int .i64 (g4 5), .int .i64 (g4 6), .int .i64 (g4 7), .int .i64 (g4 8), .int .i64 (g4 9), .int .i64 (g4 10), .int .i64 (g4 11), .int .i64 (g4 12), .int .i64 (g4 13), .int .i64 (g4 14), .int .i64 (g4 15), .int .i64 (g4 16), .int .i64 (g4 17), .int .i64 (g4 18), .int .i64 (g4 19)]] w R :=
  cl_of scr129 Try.func129 (by kernel_rfl) _ _ (by kernel_rfl) h
/-- impl.none -/
def V130  (R : Rt) : Pred := fun w =>
  newC [.int .i64 0, .int .i64 0, .int .i64 0, .int .i64 0, .int .i64 0, .int .i64 0, .int .i64 0, .int .i64 0, .int .i64 0, .int .i64 0, .int .i64 0, .int .i64 0, .int .i64 0, .int .i64 0, .int .i64 0, .int .i64 0, .int .i64 0, .int .i64 0, .int .i64 0, .int .i64 0] 140 (fun b1 w2 => ∃ (I3 : Nat → Int → World → Prop), (∃ k5, I3 k5 0 w2) ∧ ∀ k4 (d7 : Nat → Value) n8 w6, I3 k4 n8 w6 → (cB (decide (n8 < 10)) ((0 ≤ (n8 : Int) ∧ (n8 : Int) < ((10 : Nat) : Int)) ∧ stW b1 (0 + (Int.toNat n8) * 2) [.int .i64 (-1), .int .i64 (-1)] (fun w9 => (∃ m10, m10 < k4 ∧ I3 m10 (IntKind.wrap .i64 (n8 + 1)) w9)) w6) (∃ (g11 : Nat → Int), intsAt w6.heap b1 0 20 g11 ∧ stW b1 0 [.int .i64 (g11 0), .int .i64 (g11 1), .int .i64 (g11 2), .int .i64 (g11 3), .int .i64 (g11 4), .int .i64 (g11 5), .int .i64 (g11 6), .int .i64 (g11 7), .int .i64 (g11 8), .int .i64 (g11 9), .int .i64 (g11 10), .int .i64 (g11 11), .int .i64 (g11 12), .int .i64 (g11 13), .int .i64 (g11 14), .int .i64 (g11 15), .int .i64 (g11 16), .int .i64 (g11 17), .int .i64 (g11 18), .int .i64 (g11 19)] (fun w12 => ∃ (g13 : Nat → Int), intsAt w12.heap b1 0 20 g13 ∧ R (.returned (.agg #[.int .i64 (g13 0), .int .i64 (g13 1), .int .i64 (g13 2), .int .i64 (g13 3), .int .i64 (g13 4), .int .i64 (g13 5), .int .i64 (g13 6), .int .i64 (g13 7), .int .i64 (g13 8), .int .i64 (g13 9), .int .i64 (g13 10), .int .i64 (g13 11), .int .i64 (g13 12), .int .i64 (g13 13), .int .i64 (g13 14), .int .i64 (g13 15), .int .i64 (g13 16), .int .i64 (g13 17), .int .i64 (g13 18), .int .i64 (g13 19)])) w12) w6))) w
def scr130 : Scr := (.q 1 (.q 1 (.loop (dr [(2, some (.int .i64))] [(1,1),(3,6)]) (.q 1 (.cond (.q 2 (.q 4 (.q 2 .nil))) (.q 2 .nil))))))
theorem vc130 {R w} (h : V130  R w) : Cl Try.prog 130 [] w R :=
  cl_of scr130 Try.func130 (by kernel_rfl) _ _ (by kernel_rfl) h
/-- (impl.spans).with -/
def V151 (g1 g2 : Nat → Int) (R : Rt) : Pred := fun w =>
  newC [.int .i64 (g1 0), .int .i64 (g1 1), .int .i64 (g1 2), .int .i64 (g1 3), .int .i64 (g1 4), .int .i64 (g1 5), .int .i64 (g1 6), .int .i64 (g1 7), .int .i64 (g1 8), .int .i64 (g1 9), .int .i64 (g1 10), .int .i64 (g1 11), .int .i64 (g1 12), .int .i64 (g1 13), .int .i64 (g1 14), .int .i64 (g1 15), .int .i64 (g1 16), .int .i64 (g1 17), .int .i64 (g1 18), .int .i64 (g1 19)] 140 (fun b3 w4 => newC [.int .i64 (g2 0), .int .i64 (g2 1), .int .i64 (g2 2), .int .i64 (g2 3), .int .i64 (g2 4), .int .i64 (g2 5), .int .i64 (g2 6), .int .i64 (g2 7), .int .i64 (g2 8), .int .i64 (g2 9), .int .i64 (g2 10), .int .i64 (g2 11), .int .i64 (g2 12), .int .i64 (g2 13), .int .i64 (g2 14), .int .i64 (g2 15), .int .i64 (g2 16), .int .i64 (g2 17), .int .i64 (g2 18), .int .i64 (g2 19)] 140 (fun b5 w6 => newC [.int .i64 0, .int .i64 0, .int .i64 0, .int .i64 0, .int .i64 0, .int .i64 0, .int .i64 0, .int .i64 0, .int .i64 0, .int .i64 0, .int .i64 0, .int .i64 0, .int .i64 0, .int .i64 0, .int .i64 0, .int .i64 0, .int .i64 0, .int .i64 0, .int .i64 0, .int .i64 0] 140 (fun b7 w8 => ∃ (g9 : Nat → Int), intsAt w8.heap b5 0 20 g9 ∧ ∃ (I10 : Nat → Int → World → Prop), (∃ k12, I10 k12 0 w8) ∧ ∀ k11 (d14 : Nat → Value) n15 w13, I10 k11 n15 w13 → (cB (decide (n15 < 10)) (∃ n16, ∃ n17, (Instr.index 140 (.agg #[.int .i64 (g9 0), .int .i64 (g9 1), .int .i64 (g9 2), .int .i64 (g9 3), .int .i64 (g9 4), .int .i64 (g9 5), .int .i64 (g9 6), .int .i64 (g9 7), .int .i64 (g9 8), .int .i64 (g9 9), .int .i64 (g9 10), .int .i64 (g9 11), .int .i64 (g9 12), .int .i64 (g9 13), .int .i64 (g9 14), .int .i64 (g9 15), .int .i64 (g9 16), .int .i64 (g9 17), .int .i64 (g9 18), .int .i64 (g9 19)]) (.int .i64 n15)).run Try.prog w13 = .ok (.agg #[.int .i64 n16, .int .i64 n17]) w13 ∧ newC [.int .i64 0, .int .i64 0] 31 (fun b18 w19 => stW b18 0 [.int .i64 n16, .int .i64 n17] (fun w20 => lI w20 b18 0 fun n21 => (cB (decide (n21 ≥ 0)) (lI w20 b18 0 fun n22 => lI w20 b18 1 fun n23 => (0 ≤ (n15 : Int) ∧ (n15 : Int) < ((10 : Nat) : Int)) ∧ stW b3 (0 + (Int.toNat n15) * 2) [.int .i64 n22, .int .i64 n23] (fun w24 => (∃ m25, m25 < k11 ∧ I10 m25 (IntKind.wrap .i64 (n15 + 1)) w24)) w20) ((∃ m26, m26 < k11 ∧ I10 m26 (IntKind.wrap .i64 (n15 + 1)) w20)))) w19) w13) (∃ (g27 : Nat → Int), intsAt w13.heap b3 0 20 g27 ∧ stW b7 0 [.int .i64 (g27 0), .int .i64 (g27 1), .int .i64 (g27 2), .int .i64 (g27 3), .int .i64 (g27 4), .int .i64 (g27 5), .int .i64 (g27 6), .int .i64 (g27 7), .int .i64 (g27 8), .int .i64 (g27 9), .int .i64 (g27 10), .int .i64 (g27 11), .int .i64 (g27 12), .int .i64 (g27 13), .int .i64 (g27 14), .int .i64 (g27 15), .int .i64 (g27 16), .int .i64 (g27 17), .int .i64 (g27 18), .int .i64 (g27 19)] (fun w28 => ∃ (g29 : Nat → Int), intsAt w28.heap b7 0 20 g29 ∧ R (.returned (.agg #[.int .i64 (g29 0), .int .i64 (g29 1), .int .i64 (g29 2), .int .i64 (g29 3), .int .i64 (g29 4), .int .i64 (g29 5), .int .i64 (g29 6), .int .i64 (g29 7), .int .i64 (g29 8), .int .i64 (g29 9), .int .i64 (g29 10), .int .i64 (g29 11), .int .i64 (g29 12), .int .i64 (g29 13), .int .i64 (g29 14), .int .i64 (g29 15), .int .i64 (g29 16), .int .i64 (g29 17), .int .i64 (g29 18), .int .i64 (g29 19)])) w28) w13))) w6) w4) w
def scr151 : Scr := (.q 3 (.q 2 (.loop (dr [(8, some (.int .i64))] [(5,2),(9,10)]) (.q 1 (.cond (.q 5 (.q 3 (.cond (.q 4 (.q 2 .nil)) (.q 2 .nil)))) (.q 2 .nil))))))
theorem vc151 {g1 g2} {R w} (h : V151 g1 g2 R w) : Cl Try.prog 151 [.agg #[.int .i64 (g1 0), .int .i64 (g1 1), .int .i64 (g1 2), .int .i64 (g1 3), .int .i64 (g1 4), .int .i64 (g1 5), .int .i64 (g1 6), .int .i64 (g1 7), .int .i64 (g1 8), .int .i64 (g1 9), .int .i64 (g1 10), .int .i64 (g1 11), .int .i64 (g1 12), .int .i64 (g1 13), .int .i64 (g1 14), .int .i64 (g1 15), .int .i64 (g1 16), .int .i64 (g1 17), .int .i64 (g1 18), .int .i64 (g1 19)], .agg #[.int .i64 (g2 0), .int .i64 (g2 1), .int .i64 (g2 2), .int .i64 (g2 3), .int .i64 (g2 4), .int .i64 (g2 5), .int .i64 (g2 6), .int .i64 (g2 7), .int .i64 (g2 8), .int .i64 (g2 9), .int .i64 (g2 10), .int .i64 (g2 11), .int .i64 (g2 12), .int .i64 (g2 13), .int .i64 (g2 14), .int .i64 (g2 15), .int .i64 (g2 16), .int .i64 (g2 17), .int .i64 (g2 18), .int .i64 (g2 19)]] w R :=
  cl_of scr151 Try.func151 (by kernel_rfl) _ _ (by kernel_rfl) h
/-- (*impl.finder).then -/
def V131 (b1 o2 : Nat) (a3 : Option Addr) (l3 c3 f4 : Nat) (fi4 cp4 : Array Value) (R : Rt) : Pred := fun w =>
  newC ([.slice none 0 0] ++ List.replicate 201 (.bool false)) 163 (fun b5 w6 => ∃ (I7 : Nat → Int → World → Prop), (∃ k9, I7 k9 0 w6) ∧ ∀ k8 (d11 : Nat → Value) n12 w10, I7 k8 n12 w10 → (cB (decide (n12 < ((l3 : Nat) : Int))) (ixS a3 l3 n12 fun b13 o14 => lI w10 b13 (o14 + (Int.toNat n12) * 21) fun n15 => ∃ (g16 : Nat → Int), intsAt w10.heap b13 (o14 + (Int.toNat n12) * 21 + 1) 20 g16 ∧ newC [.int .i64 0, .int .i64 0, .int .i64 0, .int .i64 0, .int .i64 0, .int .i64 0, .int .i64 0, .int .i64 0, .int .i64 0, .int .i64 0, .int .i64 0, .int .i64 0, .int .i64 0, .int .i64 0, .int .i64 0, .int .i64 0, .int .i64 0, .int .i64 0, .int .i64 0, .int .i64 0, .int .i64 0] 142 (fun b17 w18 => stW b17 0 [.int .i64 n15, .int .i64 (g16 0), .int .i64 (g16 1), .int .i64 (g16 2), .int .i64 (g16 3), .int .i64 (g16 4), .int .i64 (g16 5), .int .i64 (g16 6), .int .i64 (g16 7), .int .i64 (g16 8), .int .i64 (g16 9), .int .i64 (g16 10), .int .i64 (g16 11), .int .i64 (g16 12), .int .i64 (g16 13), .int .i64 (g16 14), .int .i64 (g16 15), .int .i64 (g16 16), .int .i64 (g16 17), .int .i64 (g16 18), .int .i64 (g16 19)] (fun w19 => lI w19 b17 0 fun n20 => clL f4 (fi4.toList ++ [.int .i64 n20] ++ cp4.toList) w19 R fun a21 l21 c21 w22 => ∃ (I24 : Nat → Int → World → Prop), (∃ k26, I24 k26 0 w22) ∧ ∀ k25 (d28 : Nat → Value) n29 w27, I24 k25 n29 w27 → (cB (decide (n29 < ((l21 : Nat) : Int))) (ixS a21 l21 n29 fun b30 o31 => lI w27 b30 (o31 + (Int.toNat n29) * 21) fun n32 => ∃ (g33 : Nat → Int), intsAt w27.heap b30 (o31 + (Int.toNat n29) * 21 + 1) 20 g33 ∧ newC [.int .i64 0, .int .i64 0, .int .i64 0, .int .i64 0, .int .i64 0, .int .i64 0, .int .i64 0, .int .i64 0, .int .i64 0, .int .i64 0, .int .i64 0, .int .i64 0, .int .i64 0, .int .i64 0, .int .i64 0, .int .i64 0, .int .i64 0, .int .i64 0, .int .i64 0, .int .i64 0, .int .i64 0] 142 (fun b34 w35 => stW b34 0 [.int .i64 n32, .int .i64 (g33 0), .int .i64 (g33 1), .int .i64 (g33 2), .int .i64 (g33 3), .int .i64 (g33 4), .int .i64 (g33 5), .int .i64 (g33 6), .int .i64 (g33 7), .int .i64 (g33 8), .int .i64 (g33 9), .int .i64 (g33 10), .int .i64 (g33 11), .int .i64 (g33 12), .int .i64 (g33 13), .int .i64 (g33 14), .int .i64 (g33 15), .int .i64 (g33 16), .int .i64 (g33 17), .int .i64 (g33 18), .int .i64 (g33 19)] (fun w36 => drw (fun w37 => lI w37 b34 0 fun n38 => ∃ (g39 : Nat → Int), intsAt w37.heap b17 1 20 g39 ∧ ∃ (g40 : Nat → Int), intsAt w37.heap b34 1 20 g40 ∧ clV 151 ([.agg #[.int .i64 (g39 0), .int .i64 (g39 1), .int .i64 (g39 2), .int .i64 (g39 3), .int .i64 (g39 4), .int .i64 (g39 5), .int .i64 (g39 6), .int .i64 (g39 7), .int .i64 (g39 8), .int .i64 (g39 9), .int .i64 (g39 10), .int .i64 (g39 11), .int .i64 (g39 12), .int .i64 (g39 13), .int .i64 (g39 14), .int .i64 (g39 15), .int .i64 (g39 16), .int .i64 (g39 17), .int .i64 (g39 18), .int .i64 (g39 19)], .agg #[.int .i64 (g40 0), .int .i64 (g40 1), .int .i64 (g40 2), .int .i64 (g40 3), .int .i64 (g40 4), .int .i64 (g40 5), .int .i64 (g40 6), .int .i64 (g40 7), .int .i64 (g40 8), .int .i64 (g40 9), .int .i64 (g40 10), .int .i64 (g40 11), .int .i64 (g40 12), .int .i64 (g40 13), .int .i64 (g40 14), .int .i64 (g40 15), .int .i64 (g40 16), .int .i64 (g40 17), .int .i64 (g40 18), .int .i64 (g40 19)]]) w37 R fun r43 w42 => ∃ (g41 : Nat → Int), r43 = .agg #[.int .i64 (g41 0), .int .i64 (g41 1), .int .i64 (g41 2), .int .i64 (g41 3), .int .i64 (g41 4), .int .i64 (g41 5), .int .i64 (g41 6), .int .i64 (g41 7), .int .i64 (g41 8), .int .i64 (g41 9), .int .i64 (g41 10), .int .i64 (g41 11), .int .i64 (g41 12), .int .i64 (g41 13), .int .i64 (g41 14), .int .i64 (g41 15), .int .i64 (g41 16), .int .i64 (g41 17), .int .i64 (g41 18), .int .i64 (g41 19)] ∧ cellH w42.heap b34 0 = some (.int .i64 n38) ∧ clU 129 ([.pointer (some ⟨b5, 0, none⟩), .agg #[.int .i64 n38, .int .i64 (g41 0), .int .i64 (g41 1), .int .i64 (g41 2), .int .i64 (g41 3), .int .i64 (g41 4), .int .i64 (g41 5), .int .i64 (g41 6), .int .i64 (g41 7), .int .i64 (g41 8), .int .i64 (g41 9), .int .i64 (g41 10), .int .i64 (g41 11), .int .i64 (g41 12), .int .i64 (g41 13), .int .i64 (g41 14), .int .i64 (g41 15), .int .i64 (g41 16), .int .i64 (g41 17), .int .i64 (g41 18), .int .i64 (g41 19)]]) w42 R fun w44 => (∃ m46, m46 < k25 ∧ I24 m46 (IntKind.wrap .i64 (n29 + 1)) w44)) w36) w35) w27) ((∃ m47, m47 < k8 ∧ I7 m47 (IntKind.wrap .i64 (n12 + 1)) w27)))) w18) w10) (lL w10 b5 0 fun a48 l48 c48 => R (.returned (.slice a48 l48 c48)) w10))) w
def scr131 : Scr := (.q 1 (.q 1 (.q 3 (.loop (dr [(14, some (.int .i64))] [(9,1),(11,1),(15,23)]) (.q 1 (.cond (.q 4 (.q 6 (.loop (dr [(23, some (.int .i64))] [(11,1),(24,13)]) (.q 1 (.cond (.q 4 (.q 9 (.q 2 .nil))) (.q 2 .nil)))))) (.q 3 .nil)))))))
theorem vc131 {b1 o2 a3 l3 c3 f4 fi4 cp4} {R w} (h : V131 b1 o2 a3 l3 c3 f4 fi4 cp4 R w) : Cl Try.prog 131 [.pointer (some ⟨b1, o2, none⟩), .slice a3 l3 c3, .func (.func f4) fi4 cp4] w R :=
  cl_of scr131 Try.func131 (by kernel_rfl) _ _ (by kernel_rfl) h
/-- (*impl.finder).ways$1 -/
def V132 (n1 : Int) (b2 o3 b4 o5 : Nat) (R : Rt) : Pred := fun w =>
  lP w b2 o3 fun b6 o7 => lI w b4 o5 fun n8 => clL 114 ([.pointer (some ⟨b6, o7, none⟩), .int .i64 n8, .int .i64 n1]) w R fun a9 l9 c9 w10 => R (.returned (.slice a9 l9 c9)) w10
def scr132 : Scr := (.q 1 (.q 5 .nil))
theorem vc132 {n1 b2 o3 b4 o5} {R w} (h : V132 n1 b2 o3 b4 o5 R w) : Cl Try.prog 132 [.int .i64 n1, .pointer (some ⟨b2, o3, none⟩), .pointer (some ⟨b4, o5, none⟩)] w R :=
  cl_of scr132 Try.func132 (by kernel_rfl) _ _ (by kernel_rfl) h
/-- (*impl.finder).ways$2 -/
def V133 (n1 : Int) (b2 o3 b4 o5 : Nat) (R : Rt) : Pred := fun w =>
  drw (fun w6 => lP w6 b2 o3 fun b7 o8 => lL w6 b4 (o5 + 6) fun a9 l9 c9 => ixS a9 l9 0 fun b10 o11 => lI w6 b10 o11 fun n12 => clL 114 ([.pointer (some ⟨b7, o8, none⟩), .int .i64 n12, .int .i64 n1]) w6 R fun a13 l13 c13 w14 => R (.returned (.slice a13 l13 c13)) w14) w
def scr133 : Scr := (.q 1 (.q 8 .nil))
theorem vc133 {n1 b2 o3 b4 o5} {R w} (h : V133 n1 b2 o3 b4 o5 R w) : Cl Try.prog 133 [.int .i64 n1, .pointer (some ⟨b2, o3, none⟩), .pointer (some ⟨b4, o5, none⟩)] w R :=
  cl_of scr133 Try.func133 (by kernel_rfl) _ _ (by kernel_rfl) h
/-- (*impl.finder).ways$3 -/
def V134 (n1 : Int) (b2 o3 b4 o5 b6 o7 : Nat) (R : Rt) : Pred := fun w =>
  lP w b2 o3 fun b8 o9 => lI w b4 o5 fun n10 => lI w b6 o7 fun n11 => clL 135 ([.pointer (some ⟨b8, o9, none⟩), .int .i64 n10, .int .i64 n1, .int .i64 n11]) w R fun a12 l12 c12 w13 => R (.returned (.slice a12 l12 c12)) w13
def scr134 : Scr := (.q 1 (.q 6 .nil))
theorem vc134 {n1 b2 o3 b4 o5 b6 o7} {R w} (h : V134 n1 b2 o3 b4 o5 b6 o7 R w) : Cl Try.prog 134 [.int .i64 n1, .pointer (some ⟨b2, o3, none⟩), .pointer (some ⟨b4, o5, none⟩), .pointer (some ⟨b6, o7, none⟩)] w R :=
  cl_of scr134 Try.func134 (by kernel_rfl) _ _ (by kernel_rfl) h
/-- (*impl.finder).more -/
def V135 (b1 o2 : Nat) (n3 n4 n5 : Int) (R : Rt) : Pred := fun w =>
  newC [.int .i64 0, .int .i64 0, .int .i64 0] 159 (fun b6 w7 => stW b6 0 [.int .i64 n3, .int .i64 n4, .int .i64 n5] (fun w8 => drw (fun w9 => lM w9 b1 (o2 + 5) fun m10 => lI w9 b6 0 fun n11 => lI w9 b6 1 fun n12 => lI w9 b6 2 fun n13 => ∃ a14 l14 c14, ∃ t15, (Instr.lookup 126 (.map m10) (.agg #[.int .i64 n11, .int .i64 n12, .int .i64 n13]) true).run Try.prog w9 = .ok (.tuple #[.slice a14 l14 c14, .bool t15]) w9 ∧ (cB t15 (R (.returned (.slice a14 l14 c14)) w9) (lL w9 b1 (o2 + 3) fun a16 l16 c16 => ixS a16 l16 n3 fun b17 o18 => lI w9 b17 (o18 + (Int.toNat n3) * 7) fun n19 => lL w9 b17 (o18 + (Int.toNat n3) * 7 + 1) fun a20 l20 c20 => lI w9 b17 (o18 + (Int.toNat n3) * 7 + 2) fun n21 => lI w9 b17 (o18 + (Int.toNat n3) * 7 + 3) fun n22 => lB w9 b17 (o18 + (Int.toNat n3) * 7 + 4) fun t23 => lI w9 b17 (o18 + (Int.toNat n3) * 7 + 5) fun n24 => lL w9 b17 (o18 + (Int.toNat n3) * 7 + 6) fun a25 l25 c25 => newC [.int .i64 0, .slice none 0 0, .int .i64 0, .int .i64 0, .bool false, .int .i64 0, .slice none 0 0] 111 (fun b26 w27 => stW b26 0 [.int .i64 n19, .slice a20 l20 c20, .int .i64 n21, .int .i64 n22, .bool t23, .int .i64 n24, .slice a25 l25 c25] (fun w28 => newC ([.slice none 0 0] ++ List.replicate 201 (.bool false)) 163 (fun b29 w30 => lB w30 b26 4 fun t31 => ∃ (J32 : World → Prop), ((cB t31 (clV 130 ([]) w30 R fun r35 w34 => ∃ (g33 : Nat → Int), r35 = .agg #[.int .i64 (g33 0), .int .i64 (g33 1), .int .i64 (g33 2), .int .i64 (g33 3), .int .i64 (g33 4), .int .i64 (g33 5), .int .i64 (g33 6), .int .i64 (g33 7), .int .i64 (g33 8), .int .i64 (g33 9), .int .i64 (g33 10), .int .i64 (g33 11), .int .i64 (g33 12), .int .i64 (g33 13), .int .i64 (g33 14), .int .i64 (g33 15), .int .i64 (g33 16), .int .i64 (g33 17), .int .i64 (g33 18), .int .i64 (g33 19)] ∧ clU 129 ([.pointer (some ⟨b29, 0, none⟩), .agg #[.int .i64 n4, .int .i64 (g33 0), .int .i64 (g33 1), .int .i64 (g33 2), .int .i64 (g33 3), .int .i64 (g33 4), .int .i64 (g33 5), .int .i64 (g33 6), .int .i64 (g33 7), .int .i64 (g33 8), .int .i64 (g33 9), .int .i64 (g33 10), .int .i64 (g33 11), .int .i64 (g33 12), .int .i64 (g33 13), .int .i64 (g33 14), .int .i64 (g33 15), .int .i64 (g33 16), .int .i64 (g33 17), .int .i64 (g33 18), .int .i64 (g33 19)]]) w34 R fun w36 => J32  w36) (J32  w30))) ∧ ∀ (d38 : Nat → Value)  w39, J32  w39 → (cB (n5 != 0) (∃ (J40 : Int → World → Prop), ((cB (decide (n5 > 0)) (J40 (IntKind.wrap .i64 (n5 - 1)) w39) (J40 (-1) w39))) ∧ ∀ (d41 : Nat → Value) n42 w43, J40 n42 w43 → lL w43 b26 6 fun a44 l44 c44 => ixS a44 l44 0 fun b45 o46 => lI w43 b45 o46 fun n47 => clL 114 ([.pointer (some ⟨b1, o2, none⟩), .int .i64 n47, .int .i64 n4]) w43 R fun a48 l48 c48 w49 => ∃ (I51 : Nat → Int → World → Prop), (∃ k53, I51 k53 0 w49) ∧ ∀ k52 (d55 : Nat → Value) n56 w54, I51 k52 n56 w54 → (cB (decide (n56 < ((l48 : Nat) : Int))) (ixS a48 l48 n56 fun b57 o58 => lI w54 b57 (o58 + (Int.toNat n56) * 21) fun n59 => ∃ (g60 : Nat → Int), intsAt w54.heap b57 (o58 + (Int.toNat n56) * 21 + 1) 20 g60 ∧ newC [.int .i64 0, .int .i64 0, .int .i64 0, .int .i64 0, .int .i64 0, .int .i64 0, .int .i64 0, .int .i64 0, .int .i64 0, .int .i64 0, .int .i64 0, .int .i64 0, .int .i64 0, .int .i64 0, .int .i64 0, .int .i64 0, .int .i64 0, .int .i64 0, .int .i64 0, .int .i64 0, .int .i64 0] 142 (fun b61 w62 => stW b61 0 [.int .i64 n59, .int .i64 (g60 0), .int .i64 (g60 1), .int .i64 (g60 2), .int .i64 (g60 3), .int .i64 (g60 4), .int .i64 (g60 5), .int .i64 (g60 6), .int .i64 (g60 7), .int .i64 (g60 8), .int .i64 (g60 9), .int .i64 (g60 10), .int .i64 (g60 11), .int .i64 (g60 12), .int .i64 (g60 13), .int .i64 (g60 14), .int .i64 (g60 15), .int .i64 (g60 16), .int .i64 (g60 17), .int .i64 (g60 18), .int .i64 (g60 19)] (fun w63 => lI w63 b61 0 fun n64 => (cB (n64 == n4) ((∃ m65, m65 < k52 ∧ I51 m65 (IntKind.wrap .i64 (n56 + 1)) w63)) (lI w63 b61 0 fun n66 => clL 135 ([.pointer (some ⟨b1, o2, none⟩), .int .i64 n3, .int .i64 n66, .int .i64 n42]) w63 R fun a67 l67 c67 w68 => ∃ (I70 : Nat → Int → World → Prop), (∃ k72, I70 k72 0 w68) ∧ ∀ k71 (d74 : Nat → Value) n75 w73, I70 k71 n75 w73 → (cB (decide (n75 < ((l67 : Nat) : Int))) (ixS a67 l67 n75 fun b76 o77 => lI w73 b76 (o77 + (Int.toNat n75) * 21) fun n78 => ∃ (g79 : Nat → Int), intsAt w73.heap b76 (o77 + (Int.toNat n75) * 21 + 1) 20 g79 ∧ newC [.int .i64 0, .int .i64 0, .int .i64 0, .int .i64 0, .int .i64 0, .int .i64 0, .int .i64 0, .int .i64 0, .int .i64 0, .int .i64 0, .int .i64 0, .int .i64 0, .int .i64 0, .int .i64 0, .int .i64 0, .int .i64 0, .int .i64 0, .int .i64 0, .int .i64 0, .int .i64 0, .int .i64 0] 142 (fun b80 w81 => stW b80 0 [.int .i64 n78, .int .i64 (g79 0), .int .i64 (g79 1), .int .i64 (g79 2), .int .i64 (g79 3), .int .i64 (g79 4), .int .i64 (g79 5), .int .i64 (g79 6), .int .i64 (g79 7), .int .i64 (g79 8), .int .i64 (g79 9), .int .i64 (g79 10), .int .i64 (g79 11), .int .i64 (g79 12), .int .i64 (g79 13), .int .i64 (g79 14), .int .i64 (g79 15), .int .i64 (g79 16), .int .i64 (g79 17), .int .i64 (g79 18), .int .i64 (g79 19)] (fun w82 => drw (fun w83 => lI w83 b80 0 fun n84 => ∃ (g85 : Nat → Int), intsAt w83.heap b61 1 20 g85 ∧ ∃ (g86 : Nat → Int), intsAt w83.heap b80 1 20 g86 ∧ clV 151 ([.agg #[.int .i64 (g85 0), .int .i64 (g85 1), .int .i64 (g85 2), .int .i64 (g85 3), .int .i64 (g85 4), .int .i64 (g85 5), .int .i64 (g85 6), .int .i64 (g85 7), .int .i64 (g85 8), .int .i64 (g85 9), .int .i64 (g85 10), .int .i64 (g85 11), .int .i64 (g85 12), .int .i64 (g85 13), .int .i64 (g85 14), .int .i64 (g85 15), .int .i64 (g85 16), .int .i64 (g85 17), .int .i64 (g85 18), .int .i64 (g85 19)], .agg #[.int .i64 (g86 0), .int .i64 (g86 1), .int .i64 (g86 2), .int .i64 (g86 3), .int .i64 (g86 4), .int .i64 (g86 5), .int .i64 (g86 6), .int .i64 (g86 7), .int .i64 (g86 8), .int .i64 (g86 9), .int .i64 (g86 10), .int .i64 (g86 11), .int .i64 (g86 12), .int .i64 (g86 13), .int .i64 (g86 14), .int .i64 (g86 15), .int .i64 (g86 16), .int .i64 (g86 17), .int .i64 (g86 18), .int .i64 (g86 19)]]) w83 R fun r89 w88 => ∃ (g87 : Nat → Int), r89 = .agg #[.int .i64 (g87 0), .int .i64 (g87 1), .int .i64 (g87 2), .int .i64 (g87 3), .int .i64 (g87 4), .int .i64 (g87 5), .int .i64 (g87 6), .int .i64 (g87 7), .int .i64 (g87 8), .int .i64 (g87 9), .int .i64 (g87 10), .int .i64 (g87 11), .int .i64 (g87 12), .int .i64 (g87 13), .int .i64 (g87 14), .int .i64 (g87 15), .int .i64 (g87 16), .int .i64 (g87 17), .int .i64 (g87 18), .int .i64 (g87 19)] ∧ cellH w88.heap b80 0 = some (.int .i64 n84) ∧ clU 129 ([.pointer (some ⟨b29, 0, none⟩), .agg #[.int .i64 n84, .int .i64 (g87 0), .int .i64 (g87 1), .int .i64 (g87 2), .int .i64 (g87 3), .int .i64 (g87 4), .int .i64 (g87 5), .int .i64 (g87 6), .int .i64 (g87 7), .int .i64 (g87 8), .int .i64 (g87 9), .int .i64 (g87 10), .int .i64 (g87 11), .int .i64 (g87 12), .int .i64 (g87 13), .int .i64 (g87 14), .int .i64 (g87 15), .int .i64 (g87 16), .int .i64 (g87 17), .int .i64 (g87 18), .int .i64 (g87 19)]]) w88 R fun w90 => (∃ m92, m92 < k71 ∧ I70 m92 (IntKind.wrap .i64 (n75 + 1)) w90)) w82) w81) w73) ((∃ m93, m93 < k52 ∧ I51 m93 (IntKind.wrap .i64 (n56 + 1)) w73)))))) w62) w54) (clV 130 ([]) w54 R fun r96 w95 => ∃ (g94 : Nat → Int), r96 = .agg #[.int .i64 (g94 0), .int .i64 (g94 1), .int .i64 (g94 2), .int .i64 (g94 3), .int .i64 (g94 4), .int .i64 (g94 5), .int .i64 (g94 6), .int .i64 (g94 7), .int .i64 (g94 8), .int .i64 (g94 9), .int .i64 (g94 10), .int .i64 (g94 11), .int .i64 (g94 12), .int .i64 (g94 13), .int .i64 (g94 14), .int .i64 (g94 15), .int .i64 (g94 16), .int .i64 (g94 17), .int .i64 (g94 18), .int .i64 (g94 19)] ∧ clU 129 ([.pointer (some ⟨b29, 0, none⟩), .agg #[.int .i64 n4, .int .i64 (g94 0), .int .i64 (g94 1), .int .i64 (g94 2), .int .i64 (g94 3), .int .i64 (g94 4), .int .i64 (g94 5), .int .i64 (g94 6), .int .i64 (g94 7), .int .i64 (g94 8), .int .i64 (g94 9), .int .i64 (g94 10), .int .i64 (g94 11), .int .i64 (g94 12), .int .i64 (g94 13), .int .i64 (g94 14), .int .i64 (g94 15), .int .i64 (g94 16), .int .i64 (g94 17), .int .i64 (g94 18), .int .i64 (g94 19)]]) w95 R fun w97 => drw (fun w99 => lM w99 b1 (o2 + 5) fun m100 => lI w99 b6 0 fun n101 => lI w99 b6 1 fun n102 => lI w99 b6 2 fun n103 => lL w99 b29 0 fun a104 l104 c104 => ∃ w105, (Instr.mapUpdate 126 (.map m100) (.agg #[.int .i64 n101, .int .i64 n102, .int .i64 n103]) (.slice a104 l104 c104)).run Try.prog w99 = .ok () w105 ∧ lL w105 b29 0 fun a106 l106 c106 => R (.returned (.slice a106 l106 c106)) w105) w97))) (clV 130 ([]) w39 R fun r109 w108 => ∃ (g107 : Nat → Int), r109 = .agg #[.int .i64 (g107 0), .int .i64 (g107 1), .int .i64 (g107 2), .int .i64 (g107 3), .int .i64 (g107 4), .int .i64 (g107 5), .int .i64 (g107 6), .int .i64 (g107 7), .int .i64 (g107 8), .int .i64 (g107 9), .int .i64 (g107 10), .int .i64 (g107 11), .int .i64 (g107 12), .int .i64 (g107 13), .int .i64 (g107 14), .int .i64 (g107 15), .int .i64 (g107 16), .int .i64 (g107 17), .int .i64 (g107 18), .int .i64 (g107 19)] ∧ clU 129 ([.pointer (some ⟨b29, 0, none⟩), .agg #[.int .i64 n4, .int .i64 (g107 0), .int .i64 (g107 1), .int .i64 (g107 2), .int .i64 (g107 3), .int .i64 (g107 4), .int .i64 (g107 5), .int .i64 (g107 6), .int .i64 (g107 7), .int .i64 (g107 8), .int .i64 (g107 9), .int .i64 (g107 10), .int .i64 (g107 11), .int .i64 (g107 12), .int .i64 (g107 13), .int .i64 (g107 14), .int .i64 (g107 15), .int .i64 (g107 16), .int .i64 (g107 17), .int .i64 (g107 18), .int .i64 (g107 19)]]) w108 R fun w110 => drw (fun w112 => lM w112 b1 (o2 + 5) fun m113 => lI w112 b6 0 fun n114 => lI w112 b6 1 fun n115 => lI w112 b6 2 fun n116 => lL w112 b29 0 fun a117 l117 c117 => ∃ w118, (Instr.mapUpdate 126 (.map m113) (.agg #[.int .i64 n114, .int .i64 n115, .int .i64 n116]) (.slice a117 l117 c117)).run Try.prog w112 = .ok () w118 ∧ lL w118 b29 0 fun a119 l119 c119 => R (.returned (.slice a119 l119 c119)) w118) w110))) w28) w27) w9))) w8) w7) w
def scr135 : Scr := (.q 1 (.q 6 (.q 11 (.q 1 (.cond (.q 2 .nil) (.q 10 (.q 1 (.q 2 (.cut (dr [] [(44,4)]) (.cond (.q 4 .nil) .nil) (.q 2 (.cond (.q 1 (.q 2 (.cut [(14, some (.int .i64)), (52, none), (53, none)] (.cond (.q 3 .nil) .nil) (.q 9 (.loop (dr [(62, some (.int .i64))] [(16,1),(18,1),(63,29)]) (.q 1 (.cond (.q 4 (.q 4 (.cond (.q 2 .nil) (.q 8 (.loop (dr [(77, some (.int .i64))] [(18,1),(78,13)]) (.q 1 (.cond (.q 4 (.q 9 (.q 2 .nil))) (.q 2 .nil)))))))) (.q 4 (.q 8 (.q 3 .nil)))))))))) (.q 4 (.q 8 (.q 3 .nil))))))))))))))
theorem vc135 {b1 o2 n3 n4 n5} {R w} (h : V135 b1 o2 n3 n4 n5 R w) : Cl Try.prog 135 [.pointer (some ⟨b1, o2, none⟩), .int .i64 n3, .int .i64 n4, .int .i64 n5] w R :=
  cl_of scr135 Try.func135 (by kernel_rfl) _ _ (by kernel_rfl) h
/-- (*impl.finder).ways -/
def V114 (b1 o2 : Nat) (n3 n4 : Int) (R : Rt) : Pred := fun w =>
  newC [.pointer (some ⟨b1, o2, none⟩)] 82 (fun b5 w6 => newC [.int .i64 n3] 3 (fun b7 w8 => lI w8 b7 0 fun n9 => newC [.int .i64 0, .int .i64 0, .int .i64 0] 159 (fun b10 w11 => stW b10 0 [.int .i64 n9, .int .i64 n4, .int .i64 (-2)] (fun w12 => drw (fun w13 => lP w13 b5 0 fun b14 o15 => lM w13 b14 (o15 + 5) fun m16 => lI w13 b10 0 fun n17 => lI w13 b10 1 fun n18 => lI w13 b10 2 fun n19 => ∃ a20 l20 c20, ∃ t21, (Instr.lookup 126 (.map m16) (.agg #[.int .i64 n17, .int .i64 n18, .int .i64 n19]) true).run Try.prog w13 = .ok (.tuple #[.slice a20 l20 c20, .bool t21]) w13 ∧ (cB t21 (R (.returned (.slice a20 l20 c20)) w13) (drw (fun w22 => lP w22 b5 0 fun b23 o24 => lL w22 b23 (o24 + 3) fun a25 l25 c25 => lI w22 b7 0 fun n26 => ixS a25 l25 n26 fun b27 o28 => lI w22 b27 (o28 + (Int.toNat n26) * 7) fun n29 => lL w22 b27 (o28 + (Int.toNat n26) * 7 + 1) fun a30 l30 c30 => lI w22 b27 (o28 + (Int.toNat n26) * 7 + 2) fun n31 => lI w22 b27 (o28 + (Int.toNat n26) * 7 + 3) fun n32 => lB w22 b27 (o28 + (Int.toNat n26) * 7 + 4) fun t33 => lI w22 b27 (o28 + (Int.toNat n26) * 7 + 5) fun n34 => lL w22 b27 (o28 + (Int.toNat n26) * 7 + 6) fun a35 l35 c35 => newC [.int .i64 0, .slice none 0 0, .int .i64 0, .int .i64 0, .bool false, .int .i64 0, .slice none 0 0] 111 (fun b36 w37 => cellsAt w37.heap b27 (o28 + (Int.toNat n26) * 7) [.int .i64 n29, .slice a30 l30 c30, .int .i64 n31, .int .i64 n32, .bool t33, .int .i64 n34, .slice a35 l35 c35] ∧ cellH w37.heap b7 0 = some (.int .i64 n26) ∧ cellH w37.heap b23 (o24 + 3) = some (.slice a25 l25 c25) ∧ cellH w37.heap b5 0 = some (.pointer (some ⟨b23, o24, none⟩)) ∧ stW b36 0 [.int .i64 n29, .slice a30 l30 c30, .int .i64 n31, .int .i64 n32, .bool t33, .int .i64 n34, .slice a35 l35 c35] (fun w38 => newC ([.slice none 0 0] ++ List.replicate 201 (.bool false)) 163 (fun b39 w40 => lI w40 b36 0 fun n41 => ∃ (J42 : World → Prop), ((cB (n41 == 1) (lP w40 b5 0 fun b43 o44 => lS w40 b43 (o44 + 4) fun s45 => (cB (decide (n4 < ((ByteArray.size s45 : Nat) : Int))) (lP w40 b5 0 fun b46 o47 => lS w40 b46 (o47 + 4) fun s48 => (ixT s48 n4) ∧ lL w40 b36 1 fun a49 l49 c49 => ∃ (I50 : Nat → Int → World → Prop), (∃ k52, I50 k52 0 w40) ∧ ∀ k51 (d54 : Nat → Value) n55 w53, I50 k51 n55 w53 → (cB (decide (n55 < ((l49 : Nat) : Int))) (ixS a49 l49 n55 fun b56 o57 => lI w53 b56 (o57 + (Int.toNat n55) * 2) fun n58 => lI w53 b56 (o57 + (Int.toNat n55) * 2 + 1) fun n59 => newC [.int .i64 0, .int .i64 0] 134 (fun b60 w61 => stW b60 0 [.int .i64 n58, .int .i64 n59] (fun w62 => lI w62 b60 0 fun n63 => (cB (decide (n63 ≤ (IntKind.wrap .i64 (byteAt s48 (Int.toNat n4))))) (lI w62 b60 1 fun n64 => (cB (decide ((IntKind.wrap .i64 (byteAt s48 (Int.toNat n4))) ≤ n64)) (clV 130 ([]) w62 R fun r67 w66 => ∃ (g65 : Nat → Int), r67 = .agg #[.int .i64 (g65 0), .int .i64 (g65 1), .int .i64 (g65 2), .int .i64 (g65 3), .int .i64 (g65 4), .int .i64 (g65 5), .int .i64 (g65 6), .int .i64 (g65 7), .int .i64 (g65 8), .int .i64 (g65 9), .int .i64 (g65 10), .int .i64 (g65 11), .int .i64 (g65 12), .int .i64 (g65 13), .int .i64 (g65 14), .int .i64 (g65 15), .int .i64 (g65 16), .int .i64 (g65 17), .int .i64 (g65 18), .int .i64 (g65 19)] ∧ clU 129 ([.pointer (some ⟨b39, 0, none⟩), .agg #[.int .i64 (IntKind.wrap .i64 (n4 + 1)), .int .i64 (g65 0), .int .i64 (g65 1), .int .i64 (g65 2), .int .i64 (g65 3), .int .i64 (g65 4), .int .i64 (g65 5), .int .i64 (g65 6), .int .i64 (g65 7), .int .i64 (g65 8), .int .i64 (g65 9), .int .i64 (g65 10), .int .i64 (g65 11), .int .i64 (g65 12), .int .i64 (g65 13), .int .i64 (g65 14), .int .i64 (g65 15), .int .i64 (g65 16), .int .i64 (g65 17), .int .i64 (g65 18), .int .i64 (g65 19)]]) w66 R fun w68 => (∃ m70, m70 < k51 ∧ I50 m70 (IntKind.wrap .i64 (n55 + 1)) w68)) ((∃ m71, m71 < k51 ∧ I50 m71 (IntKind.wrap .i64 (n55 + 1)) w62)))) ((∃ m72, m72 < k51 ∧ I50 m72 (IntKind.wrap .i64 (n55 + 1)) w62)))) w61) w53) (J42  w53))) (J42  w40))) ((cB (n41 == 6) ((cB (n4 == 0) (clV 130 ([]) w40 R fun r75 w74 => ∃ (g73 : Nat → Int), r75 = .agg #[.int .i64 (g73 0), .int .i64 (g73 1), .int .i64 (g73 2), .int .i64 (g73 3), .int .i64 (g73 4), .int .i64 (g73 5), .int .i64 (g73 6), .int .i64 (g73 7), .int .i64 (g73 8), .int .i64 (g73 9), .int .i64 (g73 10), .int .i64 (g73 11), .int .i64 (g73 12), .int .i64 (g73 13), .int .i64 (g73 14), .int .i64 (g73 15), .int .i64 (g73 16), .int .i64 (g73 17), .int .i64 (g73 18), .int .i64 (g73 19)] ∧ clU 129 ([.pointer (some ⟨b39, 0, none⟩), .agg #[.int .i64 n4, .int .i64 (g73 0), .int .i64 (g73 1), .int .i64 (g73 2), .int .i64 (g73 3), .int .i64 (g73 4), .int .i64 (g73 5), .int .i64 (g73 6), .int .i64 (g73 7), .int .i64 (g73 8), .int .i64 (g73 9), .int .i64 (g73 10), .int .i64 (g73 11), .int .i64 (g73 12), .int .i64 (g73 13), .int .i64 (g73 14), .int .i64 (g73 15), .int .i64 (g73 16), .int .i64 (g73 17), .int .i64 (g73 18), .int .i64 (g73 19)]]) w74 R fun w76 => J42  w76) (J42  w40))) ((cB (n41 == 7) (lP w40 b5 0 fun b78 o79 => lS w40 b78 (o79 + 4) fun s80 => (cB (n4 == ((ByteArray.size s80 : Nat) : Int)) (clV 130 ([]) w40 R fun r83 w82 => ∃ (g81 : Nat → Int), r83 = .agg #[.int .i64 (g81 0), .int .i64 (g81 1), .int .i64 (g81 2), .int .i64 (g81 3), .int .i64 (g81 4), .int .i64 (g81 5), .int .i64 (g81 6), .int .i64 (g81 7), .int .i64 (g81 8), .int .i64 (g81 9), .int .i64 (g81 10), .int .i64 (g81 11), .int .i64 (g81 12), .int .i64 (g81 13), .int .i64 (g81 14), .int .i64 (g81 15), .int .i64 (g81 16), .int .i64 (g81 17), .int .i64 (g81 18), .int .i64 (g81 19)] ∧ clU 129 ([.pointer (some ⟨b39, 0, none⟩), .agg #[.int .i64 n4, .int .i64 (g81 0), .int .i64 (g81 1), .int .i64 (g81 2), .int .i64 (g81 3), .int .i64 (g81 4), .int .i64 (g81 5), .int .i64 (g81 6), .int .i64 (g81 7), .int .i64 (g81 8), .int .i64 (g81 9), .int .i64 (g81 10), .int .i64 (g81 11), .int .i64 (g81 12), .int .i64 (g81 13), .int .i64 (g81 14), .int .i64 (g81 15), .int .i64 (g81 16), .int .i64 (g81 17), .int .i64 (g81 18), .int .i64 (g81 19)]]) w82 R fun w84 => J42  w84) (J42  w40))) ((cB (n41 == 2) (clV 130 ([]) w40 R fun r88 w87 => ∃ (g86 : Nat → Int), r88 = .agg #[.int .i64 (g86 0), .int .i64 (g86 1), .int .i64 (g86 2), .int .i64 (g86 3), .int .i64 (g86 4), .int .i64 (g86 5), .int .i64 (g86 6), .int .i64 (g86 7), .int .i64 (g86 8), .int .i64 (g86 9), .int .i64 (g86 10), .int .i64 (g86 11), .int .i64 (g86 12), .int .i64 (g86 13), .int .i64 (g86 14), .int .i64 (g86 15), .int .i64 (g86 16), .int .i64 (g86 17), .int .i64 (g86 18), .int .i64 (g86 19)] ∧ newC [.int .i64 n4, .int .i64 (g86 0), .int .i64 (g86 1), .int .i64 (g86 2), .int .i64 (g86 3), .int .i64 (g86 4), .int .i64 (g86 5), .int .i64 (g86 6), .int .i64 (g86 7), .int .i64 (g86 8), .int .i64 (g86 9), .int .i64 (g86 10), .int .i64 (g86 11), .int .i64 (g86 12), .int .i64 (g86 13), .int .i64 (g86 14), .int .i64 (g86 15), .int .i64 (g86 16), .int .i64 (g86 17), .int .i64 (g86 18), .int .i64 (g86 19)] 142 (fun b89 w90 => lL w90 b36 6 fun a91 l91 c91 => ∃ (I92 : Nat → Option Addr → Nat → Nat → Int → World → Prop), (∃ k94, I92 k94 (some ⟨b89, 0, none⟩) 1 1 0 w90) ∧ ∀ k93 (d96 : Nat → Value) a97 l97 c97 n98 w95, I92 k93 a97 l97 c97 n98 w95 → (cB (decide (n98 < ((l91 : Nat) : Int))) (ixS a91 l91 n98 fun b99 o100 => lI w95 b99 (o100 + (Int.toNat n98) * 1) fun n101 => newC [.int .i64 0] 3 (fun b102 w103 => stW b102 0 [.int .i64 n101] (fun w104 => lP w104 b5 0 fun b105 o106 => clL 131 ([.pointer (some ⟨b105, o106, none⟩), .slice a97 l97 c97, .func (.func 132) #[] #[.pointer (some ⟨b5, 0, none⟩), .pointer (some ⟨b102, 0, none⟩)]]) w104 R fun a107 l107 c107 w108 => (∃ m110, m110 < k93 ∧ I92 m110 a107 l107 c107 (IntKind.wrap .i64 (n98 + 1)) w108)) w103) w95) (∃ (I111 : Nat → Int → World → Prop), (∃ k113, I111 k113 0 w95) ∧ ∀ k112 (d115 : Nat → Value) n116 w114, I111 k112 n116 w114 → (cB (decide (n116 < ((l97 : Nat) : Int))) (ixS a97 l97 n116 fun b117 o118 => lI w114 b117 (o118 + (Int.toNat n116) * 21) fun n119 => ∃ (g120 : Nat → Int), intsAt w114.heap b117 (o118 + (Int.toNat n116) * 21 + 1) 20 g120 ∧ newC [.int .i64 0, .int .i64 0, .int .i64 0, .int .i64 0, .int .i64 0, .int .i64 0, .int .i64 0, .int .i64 0, .int .i64 0, .int .i64 0, .int .i64 0, .int .i64 0, .int .i64 0, .int .i64 0, .int .i64 0, .int .i64 0, .int .i64 0, .int .i64 0, .int .i64 0, .int .i64 0, .int .i64 0] 142 (fun b121 w122 => stW b121 0 [.int .i64 n119, .int .i64 (g120 0), .int .i64 (g120 1), .int .i64 (g120 2), .int .i64 (g120 3), .int .i64 (g120 4), .int .i64 (g120 5), .int .i64 (g120 6), .int .i64 (g120 7), .int .i64 (g120 8), .int .i64 (g120 9), .int .i64 (g120 10), .int .i64 (g120 11), .int .i64 (g120 12), .int .i64 (g120 13), .int .i64 (g120 14), .int .i64 (g120 15), .int .i64 (g120 16), .int .i64 (g120 17), .int .i64 (g120 18), .int .i64 (g120 19)] (fun w123 => lI w123 b121 0 fun n124 => ∃ (g125 : Nat → Int), intsAt w123.heap b121 1 20 g125 ∧ clU 129 ([.pointer (some ⟨b39, 0, none⟩), .agg #[.int .i64 n124, .int .i64 (g125 0), .int .i64 (g125 1), .int .i64 (g125 2), .int .i64 (g125 3), .int .i64 (g125 4), .int .i64 (g125 5), .int .i64 (g125 6), .int .i64 (g125 7), .int .i64 (g125 8), .int .i64 (g125 9), .int .i64 (g125 10), .int .i64 (g125 11), .int .i64 (g125 12), .int .i64 (g125 13), .int .i64 (g125 14), .int .i64 (g125 15), .int .i64 (g125 16), .int .i64 (g125 17), .int .i64 (g125 18), .int .i64 (g125 19)]]) w123 R fun w126 => (∃ m128, m128 < k112 ∧ I111 m128 (IntKind.wrap .i64 (n116 + 1)) w126)) w122) w114) (J42  w114))))) w87) ((cB (n41 == 3) (lL w40 b36 6 fun a129 l129 c129 => ∃ (I130 : Nat → Int → World → Prop), (∃ k132, I130 k132 0 w40) ∧ ∀ k131 (d134 : Nat → Value) n135 w133, I130 k131 n135 w133 → (cB (decide (n135 < ((l129 : Nat) : Int))) (ixS a129 l129 n135 fun b136 o137 => lI w133 b136 (o137 + (Int.toNat n135) * 1) fun n138 => lP w133 b5 0 fun b139 o140 => clL 114 ([.pointer (some ⟨b139, o140, none⟩), .int .i64 n138, .int .i64 n4]) w133 R fun a141 l141 c141 w142 => ∃ (I144 : Nat → Int → World → Prop), (∃ k146, I144 k146 0 w142) ∧ ∀ k145 (d148 : Nat → Value) n149 w147, I144 k145 n149 w147 → (cB (decide (n149 < ((l141 : Nat) : Int))) (ixS a141 l141 n149 fun b150 o151 => lI w147 b150 (o151 + (Int.toNat n149) * 21) fun n152 => ∃ (g153 : Nat → Int), intsAt w147.heap b150 (o151 + (Int.toNat n149) * 21 + 1) 20 g153 ∧ newC [.int .i64 0, .int .i64 0, .int .i64 0, .int .i64 0, .int .i64 0, .int .i64 0, .int .i64 0, .int .i64 0, .int .i64 0, .int .i64 0, .int .i64 0, .int .i64 0, .int .i64 0, .int .i64 0, .int .i64 0, .int .i64 0, .int .i64 0, .int .i64 0, .int .i64 0, .int .i64 0, .int .i64 0] 142 (fun b154 w155 => stW b154 0 [.int .i64 n152, .int .i64 (g153 0), .int .i64 (g153 1), .int .i64 (g153 2), .int .i64 (g153 3), .int .i64 (g153 4), .int .i64 (g153 5), .int .i64 (g153 6), .int .i64 (g153 7), .int .i64 (g153 8), .int .i64 (g153 9), .int .i64 (g153 10), .int .i64 (g153 11), .int .i64 (g153 12), .int .i64 (g153 13), .int .i64 (g153 14), .int .i64 (g153 15), .int .i64 (g153 16), .int .i64 (g153 17), .int .i64 (g153 18), .int .i64 (g153 19)] (fun w156 => lI w156 b154 0 fun n157 => ∃ (g158 : Nat → Int), intsAt w156.heap b154 1 20 g158 ∧ clU 129 ([.pointer (some ⟨b39, 0, none⟩), .agg #[.int .i64 n157, .int .i64 (g158 0), .int .i64 (g158 1), .int .i64 (g158 2), .int .i64 (g158 3), .int .i64 (g158 4), .int .i64 (g158 5), .int .i64 (g158 6), .int .i64 (g158 7), .int .i64 (g158 8), .int .i64 (g158 9), .int .i64 (g158 10), .int .i64 (g158 11), .int .i64 (g158 12), .int .i64 (g158 13), .int .i64 (g158 14), .int .i64 (g158 15), .int .i64 (g158 16), .int .i64 (g158 17), .int .i64 (g158 18), .int .i64 (g158 19)]]) w156 R fun w159 => (∃ m161, m161 < k145 ∧ I144 m161 (IntKind.wrap .i64 (n149 + 1)) w159)) w155) w147) ((∃ m162, m162 < k131 ∧ I130 m162 (IntKind.wrap .i64 (n135 + 1)) w147)))) (J42  w133))) ((cB (n41 == 5) (drw (fun w163 => lP w163 b5 0 fun b164 o165 => lL w163 b36 6 fun a166 l166 c166 => ixS a166 l166 0 fun b167 o168 => lI w163 b167 o168 fun n169 => clL 114 ([.pointer (some ⟨b164, o165, none⟩), .int .i64 n169, .int .i64 n4]) w163 R fun a170 l170 c170 w171 => ∃ (I173 : Nat → Int → World → Prop), (∃ k175, I173 k175 0 w171) ∧ ∀ k174 (d177 : Nat → Value) n178 w176, I173 k174 n178 w176 → (cB (decide (n178 < ((l170 : Nat) : Int))) (ixS a170 l170 n178 fun b179 o180 => lI w176 b179 (o180 + (Int.toNat n178) * 21) fun n181 => ∃ (g182 : Nat → Int), intsAt w176.heap b179 (o180 + (Int.toNat n178) * 21 + 1) 20 g182 ∧ newC [.int .i64 0, .int .i64 0, .int .i64 0, .int .i64 0, .int .i64 0, .int .i64 0, .int .i64 0, .int .i64 0, .int .i64 0, .int .i64 0, .int .i64 0, .int .i64 0, .int .i64 0, .int .i64 0, .int .i64 0, .int .i64 0, .int .i64 0, .int .i64 0, .int .i64 0, .int .i64 0, .int .i64 0] 142 (fun b183 w184 => stW b183 0 [.int .i64 n181, .int .i64 (g182 0), .int .i64 (g182 1), .int .i64 (g182 2), .int .i64 (g182 3), .int .i64 (g182 4), .int .i64 (g182 5), .int .i64 (g182 6), .int .i64 (g182 7), .int .i64 (g182 8), .int .i64 (g182 9), .int .i64 (g182 10), .int .i64 (g182 11), .int .i64 (g182 12), .int .i64 (g182 13), .int .i64 (g182 14), .int .i64 (g182 15), .int .i64 (g182 16), .int .i64 (g182 17), .int .i64 (g182 18), .int .i64 (g182 19)] (fun w185 => lI w185 b36 5 fun n186 => lI w185 b183 0 fun n187 => (0 ≤ (n186 : Int) ∧ (n186 : Int) < ((10 : Nat) : Int)) ∧ stW b183 (1 + (Int.toNat n186) * 2) [.int .i64 n4, .int .i64 n187] (fun w188 => lI w188 b183 0 fun n189 => ∃ (g190 : Nat → Int), intsAt w188.heap b183 1 20 g190 ∧ clU 129 ([.pointer (some ⟨b39, 0, none⟩), .agg #[.int .i64 n189, .int .i64 (g190 0), .int .i64 (g190 1), .int .i64 (g190 2), .int .i64 (g190 3), .int .i64 (g190 4), .int .i64 (g190 5), .int .i64 (g190 6), .int .i64 (g190 7), .int .i64 (g190 8), .int .i64 (g190 9), .int .i64 (g190 10), .int .i64 (g190 11), .int .i64 (g190 12), .int .i64 (g190 13), .int .i64 (g190 14), .int .i64 (g190 15), .int .i64 (g190 16), .int .i64 (g190 17), .int .i64 (g190 18), .int .i64 (g190 19)]]) w188 R fun w191 => (∃ m193, m193 < k174 ∧ I173 m193 (IntKind.wrap .i64 (n178 + 1)) w191)) w185) w184) w176) (J42  w176))) w40) ((cB (n41 == 4) (clV 130 ([]) w40 R fun r196 w195 => ∃ (g194 : Nat → Int), r196 = .agg #[.int .i64 (g194 0), .int .i64 (g194 1), .int .i64 (g194 2), .int .i64 (g194 3), .int .i64 (g194 4), .int .i64 (g194 5), .int .i64 (g194 6), .int .i64 (g194 7), .int .i64 (g194 8), .int .i64 (g194 9), .int .i64 (g194 10), .int .i64 (g194 11), .int .i64 (g194 12), .int .i64 (g194 13), .int .i64 (g194 14), .int .i64 (g194 15), .int .i64 (g194 16), .int .i64 (g194 17), .int .i64 (g194 18), .int .i64 (g194 19)] ∧ newC [.int .i64 n4, .int .i64 (g194 0), .int .i64 (g194 1), .int .i64 (g194 2), .int .i64 (g194 3), .int .i64 (g194 4), .int .i64 (g194 5), .int .i64 (g194 6), .int .i64 (g194 7), .int .i64 (g194 8), .int .i64 (g194 9), .int .i64 (g194 10), .int .i64 (g194 11), .int .i64 (g194 12), .int .i64 (g194 13), .int .i64 (g194 14), .int .i64 (g194 15), .int .i64 (g194 16), .int .i64 (g194 17), .int .i64 (g194 18), .int .i64 (g194 19)] 142 (fun b197 w198 => lI w198 b36 2 fun n199 => ∃ (I200 : Nat → Option Addr → Nat → Nat → Int → World → Prop), (∃ k202, I200 k202 (some ⟨b197, 0, none⟩) 1 1 0 w198) ∧ ∀ k201 (d204 : Nat → Value) a205 l205 c205 n206 w203, I200 k201 a205 l205 c205 n206 w203 → (cB (decide (n206 < n199)) (lP w203 b5 0 fun b207 o208 => clL 131 ([.pointer (some ⟨b207, o208, none⟩), .slice a205 l205 c205, .func (.func 133) #[] #[.pointer (some ⟨b5, 0, none⟩), .pointer (some ⟨b36, 0, none⟩)]]) w203 R fun a209 l209 c209 w210 => (∃ m212, m212 < k201 ∧ I200 m212 a209 l209 c209 (IntKind.wrap .i64 (n206 + 1)) w210)) (newC [.int .i64 0] 3 (fun b213 w214 => stW b213 0 [.int .i64 (-1)] (fun w215 => lI w215 b36 3 fun n216 => (cB (decide (n216 ≥ 0)) (lI w215 b36 3 fun n217 => lI w215 b36 2 fun n218 => stW b213 0 [.int .i64 (IntKind.wrap .i64 (n217 - n218))] (fun w219 => lP w219 b5 0 fun b220 o221 => clL 131 ([.pointer (some ⟨b220, o221, none⟩), .slice a205 l205 c205, .func (.func 134) #[] #[.pointer (some ⟨b5, 0, none⟩), .pointer (some ⟨b7, 0, none⟩), .pointer (some ⟨b213, 0, none⟩)]]) w219 R fun a222 l222 c222 w223 => ∃ (I225 : Nat → Int → World → Prop), (∃ k227, I225 k227 0 w223) ∧ ∀ k226 (d229 : Nat → Value) n230 w228, I225 k226 n230 w228 → (cB (decide (n230 < ((l222 : Nat) : Int))) (ixS a222 l222 n230 fun b231 o232 => lI w228 b231 (o232 + (Int.toNat n230) * 21) fun n233 => ∃ (g234 : Nat → Int), intsAt w228.heap b231 (o232 + (Int.toNat n230) * 21 + 1) 20 g234 ∧ newC [.int .i64 0, .int .i64 0, .int .i64 0, .int .i64 0, .int .i64 0, .int .i64 0, .int .i64 0, .int .i64 0, .int .i64 0, .int .i64 0, .int .i64 0, .int .i64 0, .int .i64 0, .int .i64 0, .int .i64 0, .int .i64 0, .int .i64 0, .int .i64 0, .int .i64 0, .int .i64 0, .int .i64 0] 142 (fun b235 w236 => stW b235 0 [.int .i64 n233, .int .i64 (g234 0), .int .i64 (g234 1), .int .i64 (g234 2), .int .i64 (g234 3), .int .i64 (g234 4), .int .i64 (g234 5), .int .i64 (g234 6), .int .i64 (g234 7), .int .i64 (g234 8), .int .i64 (g234 9), .int .i64 (g234 10), .int .i64 (g234 11), .int .i64 (g234 12), .int .i64 (g234 13), .int .i64 (g234 14), .int .i64 (g234 15), .int .i64 (g234 16), .int .i64 (g234 17), .int .i64 (g234 18), .int .i64 (g234 19)] (fun w237 => lI w237 b235 0 fun n238 => ∃ (g239 : Nat → Int), intsAt w237.heap b235 1 20 g239 ∧ clU 129 ([.pointer (some ⟨b39, 0, none⟩), .agg #[.int .i64 n238, .int .i64 (g239 0), .int .i64 (g239 1), .int .i64 (g239 2), .int .i64 (g239 3), .int .i64 (g239 4), .int .i64 (g239 5), .int .i64 (g239 6), .int .i64 (g239 7), .int .i64 (g239 8), .int .i64 (g239 9), .int .i64 (g239 10), .int .i64 (g239 11), .int .i64 (g239 12), .int .i64 (g239 13), .int .i64 (g239 14), .int .i64 (g239 15), .int .i64 (g239 16), .int .i64 (g239 17), .int .i64 (g239 18), .int .i64 (g239 19)]]) w237 R fun w240 => (∃ m242, m242 < k226 ∧ I225 m242 (IntKind.wrap .i64 (n230 + 1)) w240)) w236) w228) (J42  w228))) w215) (lP w215 b5 0 fun b243 o244 => clL 131 ([.pointer (some ⟨b243, o244, none⟩), .slice a205 l205 c205, .func (.func 134) #[] #[.pointer (some ⟨b5, 0, none⟩), .pointer (some ⟨b7, 0, none⟩), .pointer (some ⟨b213, 0, none⟩)]]) w215 R fun a245 l245 c245 w246 => ∃ (I248 : Nat → Int → World → Prop), (∃ k250, I248 k250 0 w246) ∧ ∀ k249 (d252 : Nat → Value) n253 w251, I248 k249 n253 w251 → (cB (decide (n253 < ((l245 : Nat) : Int))) (ixS a245 l245 n253 fun b254 o255 => lI w251 b254 (o255 + (Int.toNat n253) * 21) fun n256 => ∃ (g257 : Nat → Int), intsAt w251.heap b254 (o255 + (Int.toNat n253) * 21 + 1) 20 g257 ∧ newC [.int .i64 0, .int .i64 0, .int .i64 0, .int .i64 0, .int .i64 0, .int .i64 0, .int .i64 0, .int .i64 0, .int .i64 0, .int .i64 0, .int .i64 0, .int .i64 0, .int .i64 0, .int .i64 0, .int .i64 0, .int .i64 0, .int .i64 0, .int .i64 0, .int .i64 0, .int .i64 0, .int .i64 0] 142 (fun b258 w259 => stW b258 0 [.int .i64 n256, .int .i64 (g257 0), .int .i64 (g257 1), .int .i64 (g257 2), .int .i64 (g257 3), .int .i64 (g257 4), .int .i64 (g257 5), .int .i64 (g257 6), .int .i64 (g257 7), .int .i64 (g257 8), .int .i64 (g257 9), .int .i64 (g257 10), .int .i64 (g257 11), .int .i64 (g257 12), .int .i64 (g257 13), .int .i64 (g257 14), .int .i64 (g257 15), .int .i64 (g257 16), .int .i64 (g257 17), .int .i64 (g257 18), .int .i64 (g257 19)] (fun w260 => lI w260 b258 0 fun n261 => ∃ (g262 : Nat → Int), intsAt w260.heap b258 1 20 g262 ∧ clU 129 ([.pointer (some ⟨b39, 0, none⟩), .agg #[.int .i64 n261, .int .i64 (g262 0), .int .i64 (g262 1), .int .i64 (g262 2), .int .i64 (g262 3), .int .i64 (g262 4), .int .i64 (g262 5), .int .i64 (g262 6), .int .i64 (g262 7), .int .i64 (g262 8), .int .i64 (g262 9), .int .i64 (g262 10), .int .i64 (g262 11), .int .i64 (g262 12), .int .i64 (g262 13), .int .i64 (g262 14), .int .i64 (g262 15), .int .i64 (g262 16), .int .i64 (g262 17), .int .i64 (g262 18), .int .i64 (g262 19)]]) w260 R fun w263 => (∃ m265, m265 < k249 ∧ I248 m265 (IntKind.wrap .i64 (n253 + 1)) w263)) w259) w251) (J42  w251))))) w214) w203))) w195) (J42  w40))))))))))))))) ∧ ∀ (d266 : Nat → Value)  w267, J42  w267 → drw (fun w268 => lP w268 b5 0 fun b269 o270 => lM w268 b269 (o270 + 5) fun m271 => lI w268 b10 0 fun n272 => lI w268 b10 1 fun n273 => lI w268 b10 2 fun n274 => lL w268 b39 0 fun a275 l275 c275 => ∃ w276, (Instr.mapUpdate 126 (.map m271) (.agg #[.int .i64 n272, .int .i64 n273, .int .i64 n274]) (.slice a275 l275 c275)).run Try.prog w268 = .ok () w276 ∧ lL w276 b39 0 fun a277 l277 c277 => R (.returned (.slice a277 l277 c277)) w276) w267) w38) w37) w22) w13))) w12) w11) w8) w6) w
def scr114 : Scr := (.q 3 (.q 5 (.q 11 (.q 1 (.cond (.q 2 .nil) (.q 10 (.q 1 (.q 2 (.q 2 (.cut (dr [] [(12,1),(14,2),(17,1),(19,1),(21,1),(23,1),(25,3),(29,1),(56,167)]) (.cond (.q 7 (.cond (.q 8 (.q 4 (.loop (dr [(73, some (.int .i64))] [(14,1),(74,19)]) (.q 1 (.cond (.q 4 (.run [0,1,2,3,4] (.split 81 (.r [5,6,7,8,9] (.cond (.q 5 (.q 2 .nil)) (.q 2 .nil))) (.r [5,6,7,8,9] (.lit (.q 2 .nil)))))) .nil))))) .nil)) (.q 2 (.cond (.q 2 (.cond (.q 4 .nil) .nil)) (.q 2 (.cond (.q 7 (.cond (.q 4 .nil) .nil)) (.q 2 (.cond (.q 5 (.q 4 (.loop (dr [(15, some .slice), (123, some (.int .i64))] [(17,1),(124,8)]) (.q 1 (.cond (.q 4 (.q 5 (.q 2 .nil))) (.q 3 (.loop (dr [(134, some (.int .i64))] [(19,1),(135,6)]) (.q 1 (.cond (.q 4 (.q 2 (.q 2 .nil))) .nil))))))))) (.q 2 (.cond (.q 4 (.loop (dr [(146, some (.int .i64))] [(21,1),(23,1),(147,16)]) (.q 1 (.cond (.q 3 (.q 6 (.loop (dr [(155, some (.int .i64))] [(23,1),(156,6)]) (.q 1 (.cond (.q 4 (.q 2 (.q 2 .nil))) (.q 2 .nil)))))) .nil)))) (.q 2 (.cond (.r [0,1,2,3,4,5,8,6,7] (.loop (dr [(173, some (.int .i64))] [(25,1),(174,14)]) (.q 1 (.cond (.q 4 (.q 9 (.q 2 (.q 2 .nil)))) .nil)))) (.q 2 (.cond (.q 5 (.q 3 (.loop (dr [(26, some .slice), (196, some (.int .i64))] [(197,6)]) (.q 1 (.cond (.q 5 (.q 2 .nil)) (.q 2 (.q 3 (.cond (.q 6 (.q 6 (.loop (dr [(216, some (.int .i64))] [(29,1),(217,6)]) (.q 1 (.cond (.q 4 (.q 2 (.q 2 .nil))) .nil))))) (.q 6 (.loop (dr [(216, some (.int .i64))] [(29,1),(217,6)]) (.q 1 (.cond (.q 4 (.q 2 (.q 2 .nil))) .nil)))))))))))) .nil))))))))))))) (.q 8 (.q 3 .nil))))))))))))
theorem vc114 {b1 o2 n3 n4} {R w} (h : V114 b1 o2 n3 n4 R w) : Cl Try.prog 114 [.pointer (some ⟨b1, o2, none⟩), .int .i64 n3, .int .i64 n4] w R :=
  cl_of scr114 Try.func114 (by kernel_rfl) _ _ (by kernel_rfl) h
end Go.Proofs.Ytngbiaeliphdjaa.V
/- Ways in the program's memory; its small functions on them. No statement of the seat is proved here. -/
namespace Go.Vc
open Go.RowKit
set_option linter.unusedVariables false
set_option linter.unusedSimpArgs false
/-- A group's span as two numbers, -1 for none. -/
def spI (g : Gr) (i : Nat) : Int := match g (i / 2) with
  | some p => if i % 2 = 0 then (p.1 : Int) else (p.2 : Int)
  | none => -1
def grC (g : Nat → Int) : List Value := (List.range 20).map fun i => .int .i64 (g i)
def wayC (w : Wy) : List Value := .int .i64 (w.1 : Int) :: grC (spI w.2)
def waysC (ws : List Wy) : List Value := ws.flatMap wayC
theorem grC_length (g : Nat → Int) : (grC g).length = 20 := by simp [grC]
theorem grC_get (g : Nat → Int) (i : Nat) (h : i < 20) : (grC g)[i]? = some (.int .i64 (g i)) := by simp [grC, h]
theorem grC_ext {f g : Nat → Int} (h : ∀ n, n < 20 → f n = g n) : grC f = grC g := by
  unfold grC
  apply List.map_congr_left
  intro i hi
  rw [h i (by simpa using hi)]
theorem grC_set (g : Nat → Int) (i : Nat) (x : Int) : (grC g).set i (.int .i64 x) = grC (fun n => if n = i then x else g n) := by
  apply List.ext_getElem?
  intro k
  rw [List.getElem?_set]
  by_cases hk : k < 20
  · rw [grC_get _ k hk, grC_get _ k hk, grC_length]
    by_cases hik : i = k
    · subst hik; simp [hk]
    · rw [if_neg hik, if_neg (by omega)]
  · have h1 : (grC g)[k]? = none := List.getElem?_eq_none (by rw [grC_length]; omega)
    have h2 : (grC fun n => if n = i then x else g n)[k]? = none := List.getElem?_eq_none (by rw [grC_length]; omega)
    rw [h1, h2, grC_length]
    by_cases hik : i = k
    · rw [if_pos hik, if_neg (by omega)]
    · rw [if_neg hik]
theorem wayC_length (w : Wy) : (wayC w).length = 21 := by simp [wayC, grC_length]
theorem waysC_append (l m : List Wy) : waysC (l ++ m) = waysC l ++ waysC m := by simp [waysC]
theorem waysC_one (w : Wy) : waysC [w] = wayC w := by simp [waysC]
theorem waysC_length (l : List Wy) : (waysC l).length = l.length * 21 := by
  induction l with
  | nil => rfl
  | cons b r ih => rw [show b :: r = [b] ++ r from rfl, waysC_append, List.length_append, ih, waysC_one, wayC_length]; simp; omega
theorem waysC_at : ∀ (l : List Wy) (i : Nat) (h : i < l.length) (o : Nat), o < 21 → (waysC l)[i * 21 + o]? = (wayC l[i])[o]?
  | b :: r, 0, h, o, ho => by
    rw [show waysC (b :: r) = wayC b ++ waysC r from by simp [waysC]]
    rw [List.getElem?_append_left (by rw [wayC_length]; omega)]; simp
  | b :: r, i + 1, h, o, ho => by
    rw [show waysC (b :: r) = wayC b ++ waysC r from by simp [waysC]]
    rw [List.getElem?_append_right (by rw [wayC_length]; omega), wayC_length, show (i + 1) * 21 + o - 21 = i * 21 + o from by omega]
    simpa using waysC_at r i (by simpa using h) o ho
theorem wayC_scal (w : Wy) : (wayC w).all scal = true := by simp [wayC, grC, scal]
/-- The numbers of a way, from memory. -/
theorem ints_of {h : Array Obj} {b o : Nat} {g : Nat → Int} (hc : ∀ i, i < 20 → cellH h b (o + i) = (grC g)[i]?) : intsAt h b o 20 g := fun i hi => by rw [hc i hi, grC_get g i hi]
theorem Blk.way {h : Array Obj} {b : Nat} {e : TypeId} {w : Wy} (hb : Blk h b e (wayC w)) : cellH h b 0 = some (.int .i64 (w.1 : Int)) ∧ intsAt h b 1 20 (spI w.2) := by
  refine ⟨hb.cell 0, ints_of fun i hi => ?_⟩
  rw [hb.cell, show 1 + i = i + 1 from by omega]
  rfl
theorem Blk.gr {h : Array Obj} {b : Nat} {e : TypeId} {g : Nat → Int} (hb : Blk h b e (grC g)) : intsAt h b 0 20 g := ints_of fun i hi => by rw [hb.cell, Nat.zero_add]
theorem Vec.way {h : Array Obj} {b l : Nat} {ws : List Wy} (hc : ∀ o, o < l * 21 → cellH h b o = (waysC ws)[o]?) (hl : ws.length = l) {i : Nat} (hi : i < ws.length) :
    cellH h b (0 + i * 21) = some (.int .i64 (ws[i].1 : Int)) ∧ intsAt h b (0 + i * 21 + 1) 20 (spI ws[i].2) := by
  refine ⟨?_, ints_of fun k hk => ?_⟩
  · rw [Nat.zero_add, hc _ (by omega)]
    exact waysC_at ws i hi 0 (by decide)
  · rw [Nat.zero_add, hc _ (by omega), show i * 21 + 1 + k = i * 21 + (k + 1) from by omega, waysC_at ws i hi (k + 1) (by omega)]
    rfl
/-- Few places, few ways. -/
theorem nodup_le : ∀ (n : Nat) (l : List Nat), l.Nodup → (∀ x ∈ l, x < n) → l.length ≤ n
  | 0, l, _, h => by
    cases l with
    | nil => simp
    | cons x r => have := h x (by simp); omega
  | n + 1, l, hn, h => by
    by_cases hm : n ∈ l
    · have h1 := nodup_le n (l.erase n) (hn.erase n) fun x hx => by
        have := (hn.mem_erase_iff).1 hx
        have := h x this.2
        omega
      rw [List.length_erase_of_mem hm] at h1
      omega
    · have h1 := nodup_le n l hn fun x hx => by
        have := h x hx
        have : x ≠ n := fun e => hm (e ▸ hx)
        omega
      omega
theorem DD.short {n : Nat} {ws : List Wy} (h : DD ws) (hb : ∀ x ∈ ws, x.1 ≤ n) : ws.length ≤ n + 1 := by
  have := nodup_le (n + 1) (ws.map Prod.fst) h (by
    intro x hx
    obtain ⟨y, hy, rfl⟩ := List.mem_map.1 hx
    have := hb y hy; omega)
  simpa using this
end Go.Vc
namespace Go.Proofs.Ytngbiaeliphdjaa.V
open Go.Vc Go.Proofs Go.RowKit
set_option linter.unusedVariables false
set_option linter.unusedSimpArgs false
theorem elemWay : Elem Try.prog 137 142 21 168 := ⟨by kernel_rfl, by kernel_rfl, by kernel_rfl, ⟨.int .i64 0 :: grC fun _ => 0, by kernel_rfl, by simp [grC_length]⟩⟩
theorem none_ok (w : World) : Cl Try.prog 130 [] w (RetB (.agg ⟨grC (spI gNone)⟩) w) := by
  apply vc130
  unfold V130
  refine newC_in fun w1 s1 k1 e1 => ?_
  have k1' : Blk w1.heap w.heap.size 140 (grC fun _ => 0) := k1
  have B1 : Below w.heap.size w w1 := Ext.to (Below.refl _ _) e1 fun _ h => h.elim
  generalize hb : w.heap.size = b at *
  refine ⟨fun k n w' => ∃ i : Nat, n = i ∧ i ≤ 10 ∧ k = 10 - i ∧ Blk w'.heap b 140 (grC fun j => if j < 2 * i then -1 else 0) ∧ Below w.heap.size w w', ⟨_, 0, rfl, by omega, rfl, ?_, hb ▸ B1⟩, ?_⟩
  · rw [grC_ext (g := fun _ => 0) fun j _ => by rw [if_neg (by omega)]]; exact k1'
  rintro k d n w2 ⟨i, rfl, hi, rfl, k2, B2⟩
  refine ⟨fun g => ?_, fun g => ?_⟩
  · have g' : i < 10 := by have := of_decide_eq_true g; omega
    refine ⟨⟨by omega, by omega⟩, ?_⟩
    rw [show 0 + Int.toNat (i : Int) * 2 = 2 * i from by omega]
    refine stW_in k2 (by rw [grC_length]; show 2 * i + 2 ≤ 20; omega) fun w3 s3 k3 e3 => ?_
    refine ⟨10 - (i + 1), by omega, i + 1, by rw [w64 (by omega)]; omega, by omega, rfl, ?_, Ext.to B2 e3 fun x hx => by omega⟩
    have : segSet (grC fun j => if j < 2 * i then -1 else 0) (2 * i) [.int .i64 (-1), .int .i64 (-1)] = grC fun j => if j < 2 * (i + 1) then -1 else 0 := by
      show ((grC _).set (2 * i) _).set (2 * i + 1) _ = _
      rw [grC_set, grC_set]
      apply grC_ext
      intro j hj
      by_cases h1 : j = 2 * i + 1
      · rw [if_pos h1, if_pos (by omega)]
      · rw [if_neg h1]
        by_cases h2 : j = 2 * i
        · rw [if_pos h2, if_pos (by omega)]
        · rw [if_neg h2]
          by_cases h3 : j < 2 * i
          · rw [if_pos h3, if_pos (by omega)]
          · rw [if_neg h3, if_neg (by omega)]
    rw [this] at k3; exact k3
  · have g' : i = 10 := by have := of_decide_eq_false g; omega
    subst g'
    rw [grC_ext (g := spI gNone) fun j hj => by rw [if_pos (by omega)]; rfl] at k2
    refine ⟨spI gNone, k2.gr, ?_⟩
    refine stW_in (vs := grC (spI gNone)) k2 (by rw [grC_length]; decide) fun w3 s3 k3 e3 => ?_
    have : segSet (grC (spI gNone)) 0 (grC (spI gNone)) = grC (spI gNone) := by rw [segSet_eq _ _ _ (by omega)]; simp
    rw [this] at k3
    exact ⟨spI gNone, k3.gr, rfl, Ext.to B2 e3 fun x hx => by omega⟩
theorem idx140 (g : Nat → Int) (n : Nat) (h : n < 10) (w : World) : (Instr.index 140 (.agg ⟨grC g⟩) (.int .i64 n)).run Try.prog w = .ok (.agg #[.int .i64 (g (2 * n)), .int .i64 (g (2 * n + 1))]) w := by
  unfold Instr.index
  rw [bind_run (show (asIntOf (.int .i64 (n : Int))).run Try.prog w = .ok (.i64, (n : Int)) w from rfl)]
  simp only []
  rw [bind_run (underlying_run (show Try.prog.underlying 140 = some (.array 10 31) from by kernel_rfl) w)]
  simp only []
  rw [if_pos (by omega), bind_run (sizeOf_run (show sizeP Try.prog 31 = some 2 from by kernel_rfl) w)]
  rw [show Int.toNat (n : Int) * 2 = 2 * n from by omega]
  rw [part_run_agg (n := 2) (show Try.prog.underlying 31 = some (.struct (Try.prog.fieldsOf 31)) from by kernel_rfl) (.inl ⟨_, rfl⟩) (by kernel_rfl)]
  have : ((grC g).drop (2 * n)).take 2 = [.int .i64 (g (2 * n)), .int .i64 (g (2 * n + 1))] := by
    apply List.ext_getElem?
    intro k
    rw [List.getElem?_take]
    match k with
    | 0 => rw [if_pos (by omega), List.getElem?_drop, grC_get _ _ (by omega)]; rfl
    | 1 => rw [if_pos (by omega), List.getElem?_drop, grC_get _ _ (by omega)]; rfl
    | k + 2 => rw [if_neg (by omega)]; rfl
  show Result.ok (Value.agg ⟨((grC g).drop (2 * n)).take 2⟩) w = _
  rw [this]
theorem with_ok (x y : Gr) (w : World) : Cl Try.prog 151 [.agg ⟨grC (spI x)⟩, .agg ⟨grC (spI y)⟩] w (RetB (.agg ⟨grC (spI (gOver x y))⟩) w) := by
  refine vc151 (g1 := spI x) (g2 := spI y) ?_
  unfold V151
  refine newC_in fun w1 s1 k1 e1 => ?_
  refine newC_in fun w2 s2 k2 e2 => ?_
  refine newC_in fun w3 s3 k3 e3 => ?_
  generalize hb1 : w.heap.size = b1 at *
  generalize hb2 : w1.heap.size = b2 at *
  generalize hb3 : w2.heap.size = b3 at *
  have k1' : Blk w3.heap b1 140 (grC (spI x)) := (k1.keep e2 fun h => h).keep e3 fun h => h
  have k2' : Blk w3.heap b2 140 (grC (spI y)) := k2.keep e3 fun h => h
  have k3' : Blk w3.heap b3 140 (grC fun _ => 0) := k3
  have B3 : Below w.heap.size w w3 := Ext.to (Ext.to (Ext.to (Below.refl _ _) e1 fun _ h => h.elim) e2 fun _ h => h.elim) e3 fun _ h => h.elim
  refine ⟨spI y, k2'.gr, fun k n w' => ∃ i : Nat, n = i ∧ i ≤ 10 ∧ k = 10 - i ∧ Blk w'.heap b1 140 (grC fun j => if j < 2 * i then spI (gOver x y) j else spI x j) ∧ Blk w'.heap b3 140 (grC fun _ => 0) ∧ Below w.heap.size w w', ⟨_, 0, rfl, by omega, rfl, ?_, k3', B3⟩, ?_⟩
  · rw [grC_ext (g := spI x) fun j _ => by rw [if_neg (by omega)]]; exact k1'
  rintro k d n w4 ⟨i, rfl, hi, rfl, k4, k4', B4⟩
  have hz4 := k4'.lt
  refine ⟨fun g => ?_, fun g => ?_⟩
  · have g' : i < 10 := by have := of_decide_eq_true g; omega
    refine ⟨_, _, idx140 (spI y) i g' w4, ?_⟩
    refine newC_in fun w5 s5 k5 e5 => ?_
    refine stW_in k5 (by show 0 + 2 ≤ 2; decide) fun w6 s6 k6 e6 => ?_
    have k6' : Blk w6.heap w4.heap.size 31 [.int .i64 (spI y (2 * i)), .int .i64 (spI y (2 * i + 1))] := k6
    have hn1 : b1 ≠ w4.heap.size := by have := k4.lt; omega
    have k46 := (k4.keep e5 fun h => h).keep e6 hn1
    have k46' := (k4'.keep e5 fun h => h).keep e6 (by omega)
    have B6 : Below w.heap.size w w6 := Ext.to (Ext.to B4 e5 fun _ h => h.elim) e6 fun z hz => by have := B4.size; omega
    have ev : (2 * i) / 2 = i ∧ (2 * i + 1) / 2 = i ∧ (2 * i) % 2 = 0 ∧ (2 * i + 1) % 2 ≠ 0 := by omega
    have e1w : IntKind.wrap .i64 ((i : Int) + 1) = ((i + 1 : Nat) : Int) := by rw [w64 (by omega)]; omega
    rw [e1w]
    -- what two numbers become
    have hstep : ∀ (f : Nat → Int), (∀ j, j < 2 * i → f j = spI (gOver x y) j) → f (2 * i) = spI (gOver x y) (2 * i) → f (2 * i + 1) = spI (gOver x y) (2 * i + 1) → (∀ j, 2 * i + 1 < j → f j = spI x j) → grC f = grC fun j => if j < 2 * (i + 1) then spI (gOver x y) j else spI x j := by
      intro f h1 h2 h3 h4
      apply grC_ext
      intro j hj
      by_cases hj1 : j < 2 * (i + 1)
      · rw [if_pos hj1]
        by_cases hj2 : j < 2 * i
        · exact h1 j hj2
        · by_cases hj3 : j = 2 * i
          · subst hj3; exact h2
          · obtain rfl : j = 2 * i + 1 := by omega
            exact h3
      · rw [if_neg hj1]; exact h4 j (by omega)
    refine ⟨_, k6'.cell 0, fun g2 => ?_, fun g2 => ?_⟩
    · have g2' := of_decide_eq_true g2
      obtain ⟨p, hp⟩ : ∃ p, y i = some p := by
        cases hy : y i with
        | some p => exact ⟨p, rfl⟩
        | none => unfold spI at g2'; rw [ev.1, hy] at g2'; simp at g2'
      refine ⟨_, k6'.cell 0, _, k6'.cell 1, ⟨by omega, by omega⟩, ?_⟩
      rw [show 0 + Int.toNat (i : Int) * 2 = 2 * i from by omega]
      refine stW_in k46 (by rw [grC_length]; show 2 * i + 2 ≤ 20; omega) fun w7 s7 k7 e7 => ?_
      refine ⟨10 - (i + 1), by omega, i + 1, rfl, by omega, rfl, ?_, k46'.keep e7 (by omega), Ext.to B6 e7 fun z hz => by omega⟩
      have hset : segSet (grC fun j => if j < 2 * i then spI (gOver x y) j else spI x j) (2 * i) [.int .i64 (spI y (2 * i)), .int .i64 (spI y (2 * i + 1))] = grC fun j => if j < 2 * (i + 1) then spI (gOver x y) j else spI x j := by
        show ((grC _).set (2 * i) _).set (2 * i + 1) _ = _
        rw [grC_set, grC_set]
        apply hstep
        · intro j hj; rw [if_neg (by omega), if_neg (by omega), if_pos hj]
        · rw [if_neg (by omega), if_pos rfl]; unfold spI gOver; rw [ev.1, hp]; rfl
        · rw [if_pos rfl]; unfold spI gOver; rw [ev.2.1, hp]; rfl
        · intro j hj; rw [if_neg (by omega), if_neg (by omega), if_neg (by omega)]
      rw [hset] at k7; exact k7
    · have g2' := of_decide_eq_false g2
      have hp : y i = none := by
        cases hy : y i with
        | none => rfl
        | some p => unfold spI at g2'; rw [ev.1, hy] at g2'; simp only [ev.2.2.1, if_true] at g2'; omega
      refine ⟨10 - (i + 1), by omega, i + 1, rfl, by omega, rfl, ?_, k46', B6⟩
      rw [← hstep (fun j => if j < 2 * i then spI (gOver x y) j else spI x j)]
      · exact k46
      · intro j hj; rw [if_pos hj]
      · rw [if_neg (by omega)]; unfold spI gOver; rw [ev.1, hp]; rfl
      · rw [if_neg (by omega)]; unfold spI gOver; rw [ev.2.1, hp]; rfl
      · intro j hj; rw [if_neg (by omega)]
  · have g' : i = 10 := by have := of_decide_eq_false g; omega
    subst g'
    rw [grC_ext (g := spI (gOver x y)) fun j hj => by rw [if_pos (by omega)]] at k4
    refine ⟨spI (gOver x y), k4.gr, ?_⟩
    refine stW_in (vs := grC (spI (gOver x y))) k4' (by rw [grC_length, grC_length]; decide) fun w5 s5 k5 e5 => ?_
    have : segSet (grC fun _ => 0) 0 (grC (spI (gOver x y))) = grC (spI (gOver x y)) := by
      rw [segSet_eq _ _ _ (by rw [grC_length, grC_length]; decide), grC_length]
      rw [List.drop_of_length_le (by rw [grC_length]; decide)]
      simp
    rw [this] at k5
    exact ⟨spI (gOver x y), k5.gr, rfl, Ext.to B4 e5 fun z hz => by omega⟩
end Go.Proofs.Ytngbiaeliphdjaa.V
/- The memo of the program's finder: a map with keys of three numbers. No statement of the seat is proved here. -/
namespace Go.Vc
open Go.RowKit
set_option linter.unusedVariables false
set_option linter.unusedSimpArgs false
abbrev GoodM := Int → Int → Int → Option Addr → Nat → Nat → Prop
def keyV (a b c : Int) : Value := .agg #[.int .i64 a, .int .i64 b, .int .i64 c]
/-- A map whose entries are good. -/
def MapIs (w : World) (m : Nat) (G : GoodM) : Prop := ∃ es clock, w.heap[m]? = some (.map es clock) ∧ ∀ e ∈ es.toList, ∃ k i j a l c, e.key = keyV k i j ∧ e.val = .slice a l c ∧ G k i j a l c
theorem MapIs.lt {w : World} {m : Nat} {G : GoodM} (h : MapIs w m G) : m < w.heap.size := by
  obtain ⟨es, clock, h, _⟩ := h
  exact (Array.getElem?_eq_some_iff.1 h).1
theorem MapIs.mono {w : World} {m : Nat} {G G' : GoodM} (h : MapIs w m G) (hg : ∀ k i j a l c, G k i j a l c → G' k i j a l c) : MapIs w m G' := by
  obtain ⟨es, clock, h, h2⟩ := h
  refine ⟨es, clock, h, fun e he => ?_⟩
  obtain ⟨k, i, j, a, l, c, h3, h4, h5⟩ := h2 e he
  exact ⟨k, i, j, a, l, c, h3, h4, hg _ _ _ _ _ _ h5⟩
theorem MapIs.keep {S : Nat → Prop} {w w' : World} {m : Nat} {G : GoodM} (h : MapIs w m G) (e : Ext S w w') (hs : ¬ S m) : MapIs w' m G := by
  have hl := h.lt
  obtain ⟨es, clock, h, h2⟩ := h
  exact ⟨es, clock, by rw [e.block m hl hs]; exact h, h2⟩
end Go.Vc
namespace Go.Proofs.Ytngbiaeliphdjaa.V
open Go.Vc Go.Proofs Go.RowKit
set_option linter.unusedVariables false
set_option linter.unusedSimpArgs false
theorem key_check (e : Bool) (a b c : Int) (w : World) : (Instr.checkKey e 10000 159 (.agg #[.int .i64 a, .int .i64 b, .int .i64 c])).run Try.prog w = .ok () w := by kernel_rfl
theorem eqF_step {f : Field} {fs : List Field} {xs ys : List Value} {o : Nat} {x y : Int} (hn : ¬ f.name = "_") (ht : f.type = 3) (ho : f.offset = o) (hx : xs[o]? = some (.int .i64 x)) (hy : ys[o]? = some (.int .i64 y)) (w : World) :
    (Op.eqFields (9998 + 1) ⟨xs⟩ ⟨ys⟩ (f :: fs)).run Try.prog w = if (x == y) = true then (Op.eqFields (9998 + 1) ⟨xs⟩ ⟨ys⟩ fs).run Try.prog w else .ok false w := by
  have hp : ∀ (xs : List Value) (o : Nat) (v : Value), xs[o]? = some v → (part 3 ⟨xs⟩ o).run Try.prog w = .ok v w := fun xs o v h => part_run_one (show Try.prog.underlying 3 = some (.int .i64) from by kernel_rfl) (by intro fs h; cases h) (by intro n e h; cases h) h w
  simp only [Op.eqFields]
  rw [if_pos (by simpa using hn), ht, ho, bind_run (hp xs o _ hx), bind_run (hp ys o _ hy), bind_run (run_equalIn_int w 9998 3 .i64 .i64 x y Try.underlying3)]
  cases h : (x == y) <;> simp
theorem key_eq (a b c a' b' c' : Int) (w : World) : ∃ r : Bool, (Op.equal 159 (.agg #[.int .i64 a, .int .i64 b, .int .i64 c]) (.agg #[.int .i64 a', .int .i64 b', .int .i64 c'])).run Try.prog w = .ok r w ∧ (r = true → a = a' ∧ b = b' ∧ c = c') := by
  unfold Op.equal
  rw [show Op.maxDepth = 9998 + 1 + 1 from rfl]
  rw [run_equalIn_struct w (9998 + 1) 159 _ _ (by kernel_rfl) (by kernel_rfl)]
  have h1 : (Try.prog.fieldsOf 159).toList.map (fun f => (f.name == "_", f.type, f.offset)) = [(false, 3, 0), (false, 3, 1), (false, 3, 2)] := by kernel_rfl
  generalize (Try.prog.fieldsOf 159).toList = fs at *
  rcases fs with _ | ⟨f1, _ | ⟨f2, _ | ⟨f3, _ | ⟨f4, r⟩⟩⟩⟩
  case cons.cons.cons.nil =>
    simp only [List.map_cons, List.map_nil, List.cons.injEq, Prod.mk.injEq, beq_eq_false_iff_ne, ne_eq, and_true] at h1
    obtain ⟨⟨n1, t1, o1⟩, ⟨n2, t2, o2⟩, n3, t3, o3⟩ := h1
    refine ⟨(a == a') && ((b == b') && (c == c')), ?_, by simp⟩
    rw [eqF_step n1 t1 o1 (x := a) (y := a') rfl rfl, eqF_step n2 t2 o2 (x := b) (y := b') rfl rfl, eqF_step n3 t3 o3 (x := c) (y := c') rfl rfl]
    cases h1 : (a == a') <;> cases h2 : (b == b') <;> cases h3 : (c == c') <;> simp [Op.eqFields]
  all_goals simp at h1

theorem find_run (a b c : Int) (w : World) : ∀ (es : List MapEntry) (i : Nat), (∀ e ∈ es, ∃ k i j, e.key = keyV k i j) →
    ∃ r, (Instr.findAsking 159 (keyV a b c) es i).run Try.prog w = .ok r w ∧ ∀ j v, r = some (j, v) → i ≤ j ∧ ∃ e, es[j - i]? = some e ∧ e.key = keyV a b c ∧ v = e.val
  | [], i, _ => ⟨none, rfl, by intro j v h; cases h⟩
  | e :: es, i, h => by
    obtain ⟨k, p, q, hk⟩ := h e (List.mem_cons_self ..)
    obtain ⟨r, hr, hrt⟩ := key_eq a b c k p q w
    simp only [Instr.findAsking]
    rw [hk, bind_run (show (Op.equal 159 (keyV a b c) (keyV k p q)).run Try.prog w = .ok r w from hr)]
    cases r with
    | true =>
      obtain ⟨rfl, rfl, rfl⟩ := hrt rfl
      refine ⟨some (i, e.val), rfl, fun j v hj => ?_⟩
      cases hj
      exact ⟨Nat.le_refl _, e, by simp, hk, rfl⟩
    | false =>
      obtain ⟨r, h1, h2⟩ := find_run a b c w es (i + 1) fun e he => h e (List.mem_cons_of_mem _ he)
      refine ⟨r, h1, fun j v hj => ?_⟩
      obtain ⟨h3, e', h4, h5, h6⟩ := h2 j v hj
      refine ⟨by omega, e', ?_, h5, h6⟩
      rw [show j - i = (j - (i + 1)) + 1 from by omega]
      simpa using h4
theorem findKey_run (a b c : Int) (w : World) (es : List MapEntry) (h : ∀ e ∈ es, ∃ k i j, e.key = keyV k i j) :
    ∃ r, (Instr.findKey 159 (keyV a b c) es).run Try.prog w = .ok r w ∧ ∀ j v, r = some (j, v) → ∃ e, es[j]? = some e ∧ e.key = keyV a b c ∧ v = e.val := by
  obtain ⟨r, h1, h2⟩ := find_run a b c w es 0 h
  have hu : Try.prog.underlying 159 = some (.struct (Try.prog.fieldsOf 159)) := by kernel_rfl
  unfold Instr.findKey
  rw [bind_run (underlying_run hu w)]
  cases es with
  | nil => exact ⟨none, rfl, by intro j v h; cases h⟩
  | cons e es =>
    simp only [Instr.findNow, Instr.sameNow]
    exact ⟨r, h1, fun j v hj => by simpa using (h2 j v hj).2⟩
theorem lookup_run {w : World} {m : Nat} {G : GoodM} (h : MapIs w m G) (a b c : Int) :
    ∃ (ad : Option Addr) (l cp : Nat) (t : Bool), (Instr.lookup 126 (.map (some m)) (.agg #[.int .i64 a, .int .i64 b, .int .i64 c]) true).run Try.prog w = .ok (.tuple #[.slice ad l cp, .bool t]) w ∧ (t = true → G a b c ad l cp) := by
  obtain ⟨es, clock, hm, hes⟩ := h
  have hu : Try.prog.underlying 126 = some (.map 159 137) := by kernel_rfl
  obtain ⟨r, h1, h2⟩ := findKey_run a b c w es.toList fun e he => by
    obtain ⟨k, i, j, _, _, _, h3, _⟩ := hes e he
    exact ⟨k, i, j, h3⟩
  have hrun : ∀ {v : Value} {t : Bool}, (r = none → v = .slice none 0 0 ∧ t = false) → (∀ y, r = some y → v = y.2 ∧ t = true) → (Instr.lookup 126 (.map (some m)) (.agg #[.int .i64 a, .int .i64 b, .int .i64 c]) true).run Try.prog w = .ok (.tuple #[v, .bool t]) w := by
    intro v t hn hy
    unfold Instr.lookup
    rw [bind_run (underlying_run hu w)]
    simp only []
    rw [bind_run (MapKept.run_getObj_map hm)]
    simp only []
    rw [bind_run (show (pure es : Sem (Array MapEntry)).run Try.prog w = .ok es w from rfl)]
    rw [bind_run (key_check _ a b c w)]
    rw [bind_run (show (Instr.findKey 159 (.agg #[.int .i64 a, .int .i64 b, .int .i64 c]) es.toList).run Try.prog w = .ok r w from h1)]
    cases r with
    | none =>
      obtain ⟨rfl, rfl⟩ := hn rfl
      simp only []
      rw [bind_run (show (zeroValue 137).run Try.prog w = .ok (.slice none 0 0) w from by kernel_rfl)]
      rfl
    | some y =>
      obtain ⟨j, v⟩ := y
      obtain ⟨rfl, rfl⟩ := hy _ rfl
      rfl
  cases r with
  | none => exact ⟨none, 0, 0, false, hrun (fun _ => ⟨rfl, rfl⟩) (fun y h => by cases h), by simp⟩
  | some y =>
    obtain ⟨j, v⟩ := y
    obtain ⟨e, h3, h4, rfl⟩ := h2 j v rfl
    obtain ⟨k, i, q, ad, l, cp, h5, h6, h7⟩ := hes e (List.mem_of_getElem? h3)
    rw [h5] at h4
    unfold keyV at h4
    simp only [Value.agg.injEq, Array.mk.injEq, List.cons.injEq, Value.int.injEq, true_and, and_true] at h4
    obtain ⟨rfl, rfl, rfl⟩ := h4
    exact ⟨ad, l, cp, true, hrun (fun h => by cases h) (fun y h => by cases h; exact ⟨h6.symm, rfl⟩), fun _ => h7⟩
theorem update_run {w : World} {m : Nat} {G : GoodM} (h : MapIs w m G) {a b c : Int} {ad : Option Addr} {l cp : Nat} (hg : G a b c ad l cp) :
    ∃ w', (Instr.mapUpdate 126 (.map (some m)) (.agg #[.int .i64 a, .int .i64 b, .int .i64 c]) (.slice ad l cp)).run Try.prog w = .ok () w' ∧ w'.heap.size = w.heap.size ∧ MapIs w' m G ∧ Ext (fun k => k = m) w w' := by
  have hlt := h.lt
  obtain ⟨es, clock, hm, hes⟩ := h
  have hu : Try.prog.underlying 126 = some (.map 159 137) := by kernel_rfl
  obtain ⟨r, h1, h2⟩ := findKey_run a b c w es.toList fun e he => by
    obtain ⟨k, i, j, _, _, _, h3, _⟩ := hes e he
    exact ⟨k, i, j, h3⟩
  have hset : ∀ (es' : Array MapEntry) (clock' : Nat), (∀ e ∈ es'.toList, e ∈ es.toList ∨ (e.key = keyV a b c ∧ e.val = .slice ad l cp)) → ∃ w', (setObj m (.map es' clock')).run Try.prog w = .ok () w' ∧ w'.heap.size = w.heap.size ∧ MapIs w' m G ∧ Ext (fun k => k = m) w w' := by
    intro es' clock' hall
    refine ⟨{ w with heap := w.heap.setIfInBounds m (.map es' clock') }, ?_, by simp, ⟨es', clock', by simp [hlt], fun e he => ?_⟩, ⟨rfl, rfl, rfl, by simp, fun k hk hkm => by simp [Ne.symm hkm]⟩⟩
    · exact MapKept.run_setObj_map _ hm
    · rcases hall e he with h3 | ⟨h3, h4⟩
      · exact hes e h3
      · exact ⟨a, b, c, ad, l, cp, h3, h4, hg⟩
  have hrun : ∀ {es' : Array MapEntry} {clock' : Nat} {w' : World}, (r = none → es' = es.push { key := keyV a b c, val := .slice ad l cp, born := clock } ∧ clock' = clock + 1) → (∀ y, r = some y → es' = es.modify y.1 (fun e => { e with key := keyV a b c, val := .slice ad l cp }) ∧ clock' = clock) → (setObj m (.map es' clock')).run Try.prog w = .ok () w' → (Instr.mapUpdate 126 (.map (some m)) (.agg #[.int .i64 a, .int .i64 b, .int .i64 c]) (.slice ad l cp)).run Try.prog w = .ok () w' := by
    intro es' clock' w' hn hy hs
    unfold Instr.mapUpdate
    rw [bind_run (underlying_run hu w)]
    simp only []
    rw [bind_run (MapKept.run_getObj_map hm)]
    simp only []
    rw [bind_run (key_check _ a b c w), bind_run (show (Instr.findKey 159 (.agg #[.int .i64 a, .int .i64 b, .int .i64 c]) es.toList).run Try.prog w = .ok r w from h1)]
    cases r with
    | none =>
      obtain ⟨rfl, rfl⟩ := hn rfl
      exact hs
    | some y =>
      obtain ⟨j, v⟩ := y
      obtain ⟨rfl, rfl⟩ := hy _ rfl
      obtain ⟨e, h3, h4, rfl⟩ := h2 j v rfl
      simp only []
      have hej : es[j]? = some e := by simpa using h3
      have hk : (Instr.keyThatStays (((es[j]?).map (·.key)).getD (.agg #[.int .i64 a, .int .i64 b, .int .i64 c])) (.agg #[.int .i64 a, .int .i64 b, .int .i64 c])).run Try.prog w = .ok (.agg #[.int .i64 a, .int .i64 b, .int .i64 c]) w := by
        rw [hej]
        show (Instr.keyThatStays e.key _).run Try.prog w = _
        rw [h4]
        unfold Instr.keyThatStays
        rw [if_pos (by unfold keyV; simp [Instr.sameBits])]
        rfl
      rw [bind_run hk]
      exact hs
  cases r with
  | none =>
    obtain ⟨w', e1, rest⟩ := hset (es.push { key := keyV a b c, val := .slice ad l cp, born := clock }) (clock + 1) fun e he => by
      simp only [Array.toList_push, List.mem_append, List.mem_singleton] at he
      rcases he with he | rfl
      · exact .inl he
      · exact .inr ⟨rfl, rfl⟩
    exact ⟨w', hrun (fun _ => ⟨rfl, rfl⟩) (fun y h => by cases h) e1, rest⟩
  | some y =>
    obtain ⟨j, v⟩ := y
    obtain ⟨w', e1, rest⟩ := hset (es.modify j fun e => { e with key := keyV a b c, val := .slice ad l cp }) clock fun e' he' => by
      obtain ⟨q, hq⟩ := List.getElem?_of_mem he'
      rw [Array.toList_modify, List.getElem?_modify] at hq
      cases hh : es.toList[q]? with
      | none => rw [hh] at hq; cases hq
      | some y =>
        rw [hh] at hq
        by_cases hjq : j = q
        · simp only [Option.map_eq_map, Option.map_some, Option.some.injEq, if_pos hjq] at hq; subst hq; exact .inr ⟨rfl, rfl⟩
        · simp only [Option.map_eq_map, Option.map_some, Option.some.injEq, if_neg hjq] at hq; subst hq; exact .inl (List.mem_of_getElem? hh)
    exact ⟨w', hrun (fun h => by cases h) (fun y h => by cases h; exact ⟨rfl, rfl⟩) e1, rest⟩
end Go.Proofs.Ytngbiaeliphdjaa.V
/- The program's finder in memory; what add does. No statement of the seat is proved here. -/
namespace Go.Proofs.Ytngbiaeliphdjaa.V
open Go.Vc Go.Proofs Go.RowKit
set_option linter.unusedVariables false
set_option linter.unusedSimpArgs false
/-- A finder: its block, its memo, its pattern's pieces, its text. -/
structure Cx where
  bf : Nat
  m : Nat
  N : Nat
  P : Pat
  t : ByteArray
  pa : Option Addr
  pl : Nat
  pc : Nat
  rs : List Raw
def Cx.ps (c : Cx) : List Pc := c.P.pieces
def Cx.n (c : Cx) : Nat := (L c.t).length
def Cx.ends (c : Cx) (k i : Nat) : List Wy := endsP c.P.pieces (L c.t) k i
def Cx.sub (c : Cx) (k : Nat) : Nat → List Wy := c.ends ((c.P.pieces.getD k pSta).kids.getD 0 0).toNat
def Cx.more (c : Cx) (k : Nat) (left : Option Nat) (i : Nat) : List Wy := moreP (c.sub k) c.n (c.P.pieces.getD k pSta).lazy left i
def leftI : Option Nat → Int
  | none => -1
  | some n => n
/-- Ways in memory, apart from the blocks X. -/
def WaysAt (c : Cx) (X : Nat → Prop) (w : World) (a : Option Addr) (l cp : Nat) (ws : List Wy) : Prop := Vec w.heap 142 21 a l cp (waysC ws) ∧ ∀ k, blkOf a = some k → ¬ X k ∧ k ≠ c.m
def Good (c : Cx) (X : Nat → Prop) (w : World) : GoodM := fun x y z a l cp => (∀ k i : Nat, x = k → y = i → z = -2 → WaysAt c X w a l cp (c.ends k i)) ∧ (∀ (k i : Nat) (left : Option Nat), x = k → y = i → z = leftI left → WaysAt c X w a l cp (c.more k left i))
/-- The finder stands; what it holds is apart from X. -/
structure FInv (c : Cx) (X : Nat → Prop) (w : World) : Prop where
  fb : Blk w.heap c.bf 128 [.bool c.P.ok, .int .i64 (c.P.at_ : Int), .int .i64 (c.P.groups : Int), .slice c.pa c.pl c.pc, .string c.t, .map (some c.m)]
  pcs : Pcs c.N w c.pa c.pl c.pc c.rs c.P.pieces
  memo : MapIs w c.m (Good c X w)
  ne1 : c.bf ≠ c.m
  ne2 : c.m ∉ blks c.pa c.rs
  priv : ∀ x, X x → x ≠ c.bf ∧ x ≠ c.m ∧ x ∉ blks c.pa c.rs ∧ x < w.heap.size
theorem WaysAt.lt {c : Cx} {X : Nat → Prop} {w : World} {a : Option Addr} {l cp : Nat} {ws : List Wy} (h : WaysAt c X w a l cp ws) : ∀ k, blkOf a = some k → k < w.heap.size := h.1.lt
theorem WaysAt.len {c : Cx} {X : Nat → Prop} {w : World} {a : Option Addr} {l cp : Nat} {ws : List Wy} (h : WaysAt c X w a l cp ws) : ws.length = l := by
  have := h.1.1; rw [waysC_length] at this; omega
/-- Private blocks change, new ones become private. -/
theorem WaysAt.grow {c : Cx} {X Y S : Nat → Prop} {w w' : World} {a : Option Addr} {l cp : Nat} {ws : List Wy} (h : WaysAt c X w a l cp ws) (e : Ext S w w') (hS : ∀ x, S x → X x ∨ x = c.m) (hY : ∀ x, Y x → X x ∨ w.heap.size ≤ x) : WaysAt c Y w' a l cp ws :=
  ⟨h.1.keep e fun b hb hs => by
    rcases hS b hs with h1 | h1
    · exact (h.2 b hb).1 h1
    · exact (h.2 b hb).2 h1, fun k hk => ⟨fun hy => by
    rcases hY k hy with h1 | h1
    · exact (h.2 k hk).1 h1
    · have := h.lt k hk; omega, (h.2 k hk).2⟩⟩
theorem WaysAt.below {c : Cx} {X : Nat → Prop} {w w' : World} {a : Option Addr} {l cp : Nat} {ws : List Wy} (h : WaysAt c X w a l cp ws) (e : Below w.heap.size w w') : WaysAt c X w' a l cp ws :=
  h.grow (S := fun _ => False) (Ext.of_below e) (fun _ h => h.elim) fun _ h => .inl h
theorem FInv.grow {c : Cx} {X Y S : Nat → Prop} {w w' : World} (h : FInv c X w) (e : Ext S w w') (hS : ∀ x, S x → X x) (hY : ∀ x, Y x → X x ∨ w.heap.size ≤ x) (hYl : ∀ x, Y x → x < w'.heap.size) : FInv c Y w' := by
  have hp := h.priv
  have hm := h.memo.lt
  have hb := h.fb.lt
  have hB := h.pcs.lt
  refine ⟨h.fb.keep e fun hs => (hp _ (hS _ hs)).1 rfl, h.pcs.keep e fun k hk hs => (hp _ (hS _ hs)).2.2.1 hk, (h.memo.keep e fun hs => (hp _ (hS _ hs)).2.1 rfl).mono fun x y z a l cp hg => ?_, h.ne1, h.ne2, fun x hx => ?_⟩
  · exact ⟨fun k i h1 h2 h3 => (hg.1 k i h1 h2 h3).grow e (fun x hx => .inl (hS x hx)) hY, fun k i left h1 h2 h3 => (hg.2 k i left h1 h2 h3).grow e (fun x hx => .inl (hS x hx)) hY⟩
  · rcases hY x hx with h1 | h1
    · have := hp x h1
      exact ⟨this.1, this.2.1, this.2.2.1, hYl x hx⟩
    · exact ⟨by omega, by omega, fun hk => by have := hB x hk; omega, hYl x hx⟩
theorem FInv.below {c : Cx} {X : Nat → Prop} {w w' : World} (h : FInv c X w) (e : Below w.heap.size w w') : FInv c X w' :=
  h.grow (S := fun _ => False) (Ext.of_below e) (fun _ h => h.elim) (fun _ h => .inl h) fun x hx => Nat.lt_of_lt_of_le (h.priv x hx).2.2.2 e.size
theorem FInv.drop {c : Cx} {X Y : Nat → Prop} {w : World} (h : FInv c X w) (hY : ∀ x, Y x → X x) : FInv c Y w :=
  h.grow (S := fun _ => False) (Ext.refl _ _) (fun _ h => h.elim) (fun x hx => .inl (hY x hx)) fun x hx => (h.priv x (hY x hx)).2.2.2
/-- Ways, as a call gives them. -/
def ResW (c : Cx) (X : Nat → Prop) (w : World) (ws : List Wy) : Ending → World → Prop := fun e w' => ∃ a l cp, e = .returned (.slice a l cp) ∧ WaysAt c X w' a l cp ws ∧ FInv c X w' ∧ Ext (fun x => x = c.m) w w'
/-- The contract of ways at a piece. -/
def WaysC (c : Cx) (k : Nat) : Prop := ∀ (X : Nat → Prop) (w : World) (i : Nat), FInv c X w → i ≤ c.n → Cl Try.prog 114 [.pointer (some ⟨c.bf, 0, none⟩), .int .i64 k, .int .i64 i] w (ResW c X w (c.ends k i))
def MoreC (c : Cx) (k : Nat) : Prop := ∀ (X : Nat → Prop) (w : World) (i : Nat) (left : Option Nat), FInv c X w → i ≤ c.n → (∀ q, left = some q → q ≤ 50) → Cl Try.prog 135 [.pointer (some ⟨c.bf, 0, none⟩), .int .i64 k, .int .i64 i, .int .i64 (leftI left)] w (ResW c X w (c.more k left i))
/-! ### Lists -/
def seenL (ws : List Wy) : List Value := (List.range 201).map fun p => .bool (has ws p)
theorem seenL_get (ws : List Wy) (p : Nat) (h : p < 201) : (seenL ws)[p]? = some (.bool (has ws p)) := by simp [seenL, h]
theorem seenL_length (ws : List Wy) : (seenL ws).length = 201 := by simp [seenL]
theorem seenL_nil : seenL [] = List.replicate 201 (.bool false) := by simp [seenL, has, List.map_const']
theorem seenL_set (ws : List Wy) (x : Wy) (hx : x.1 < 201) : (seenL ws).set x.1 (.bool true) = seenL (ws ++ [x]) := by
  apply List.ext_getElem?
  intro k
  rw [List.getElem?_set, seenL_length]
  by_cases hk : k < 201
  · rw [seenL_get _ k hk, seenL_get _ k hk, has_append]
    by_cases hxk : x.1 = k
    · rw [if_pos hxk, if_pos (by omega)]; simp [has, hxk]
    · rw [if_neg hxk]; simp [has, hxk]
  · have h1 : (seenL ws)[k]? = none := List.getElem?_eq_none (by rw [seenL_length]; omega)
    have h2 : (seenL (ws ++ [x]))[k]? = none := List.getElem?_eq_none (by rw [seenL_length]; omega)
    rw [h1, h2, if_neg (by omega)]
/-- A list of ways that is gathered: the block b, its row. -/
def LisAt (w : World) (b : Nat) (a : Option Addr) (l cp : Nat) (ws : List Wy) : Prop := Blk w.heap b 163 (.slice a l cp :: seenL ws) ∧ Vec w.heap 142 21 a l cp (waysC ws)
theorem LisAt.keep {S : Nat → Prop} {w w' : World} {b : Nat} {a : Option Addr} {l cp : Nat} {ws : List Wy} (h : LisAt w b a l cp ws) (e : Ext S w w') (hb : ¬ S b) (ha : ∀ k, blkOf a = some k → ¬ S k) : LisAt w' b a l cp ws := ⟨h.1.keep e hb, h.2.keep e ha⟩
theorem LisAt.ne {w : World} {b : Nat} {a : Option Addr} {l cp : Nat} {ws : List Wy} (h : LisAt w b a l cp ws) : ∀ k, blkOf a = some k → k ≠ b := by
  intro k hk hkb
  subst hkb
  obtain ⟨h0, _, _, h3⟩ := h
  rcases h3 with ⟨rfl, _⟩ | ⟨b', cs', rfl, hb, _⟩
  · simp [blkOf] at hk
  · simp only [blkOf, Option.some.injEq] at hk
    subst hk
    unfold Blk at hb h0
    rw [h0] at hb
    simp at hb
theorem add_way {w : World} {b : Nat} {a : Option Addr} {l cp : Nat} {ws : List Wy} (h : LisAt w b a l cp ws) (x : Wy) (hx : x.1 ≤ 200) (hl : ws.length ≤ 1000) :
    Cl Try.prog 129 [.pointer (some ⟨b, 0, none⟩), .agg ⟨wayC x⟩] w (fun e w' => e = .returned (.tuple #[]) ∧ ∃ a' l' cp', LisAt w' b a' l' cp' (addW ws x) ∧ Ext (fun k => k = b ∨ blkOf a = some k) w w' ∧ ∀ k, blkOf a' = some k → blkOf a = some k ∨ w.heap.size ≤ k) := by
  refine vc129 (n3 := (x.1 : Int)) (g4 := spI x.2) ?_
  unfold V129
  have hbl := h.1.lt
  have hll : ws.length = l := by have := h.2.1; rw [waysC_length] at this; omega
  refine newC_in fun w1 s1 k1 e1 => ?_
  have k1' : Blk w1.heap w.heap.size 142 (wayC x) := k1
  refine drw_in fun w2 q2 e2 => ?_
  have B2 : Below w.heap.size w w2 := Ext.to (Ext.to (Below.refl _ _) e1 fun _ h => h.elim) e2 fun _ h => h.elim
  have k2 := k1'.keep e2 fun h => h
  have h2 : LisAt w2 b a l cp ws := h.keep (S := fun _ => False) (Ext.of_below B2) (fun h => h) fun _ _ h => h
  have e0 : 0 + 1 + Int.toNat (x.1 : Int) * 1 = x.1 + 1 := by omega
  refine ⟨_, k2.way.1, ⟨by omega, by omega⟩, has ws x.1, ?_, fun g => ?_, fun g => ?_⟩
  · rw [e0, h2.1.cell]
    show (seenL ws)[x.1]? = _
    exact seenL_get ws x.1 (by omega)
  · have g' : has ws x.1 = false := by simpa using g
    refine drw_in fun w3 q3 e3 => ?_
    have k3 := k2.keep e3 fun h => h
    have h3 := h2.keep e3 (fun h => h) fun _ _ h => h
    refine ⟨_, k3.way.1, ⟨by omega, by omega⟩, ?_⟩
    rw [e0]
    refine stW_in h3.1 (by show x.1 + 1 + 1 ≤ (seenL ws).length + 1; rw [seenL_length]; omega) fun w4 s4 k4 e4 => ?_
    have hset : segSet (.slice a l cp :: seenL ws) (x.1 + 1) [.bool true] = .slice a l cp :: seenL (ws ++ [x]) := by
      show (Value.slice a l cp :: seenL ws).set (x.1 + 1) _ = _
      rw [List.set_cons_succ, seenL_set ws x (by omega)]
    rw [hset] at k4
    refine drw_in fun w5 q5 e5 => ?_
    have k5 := k4.keep e5 fun h => h
    have E5 : Ext (fun k => k = b) w w5 := (((Ext.of_below B2).trans (Ext.mono e3 fun _ _ h => h.elim)).trans e4).trans (Ext.mono e5 fun _ _ h => h.elim)
    have kw5 : Blk w5.heap w.heap.size 142 (wayC x) := (k3.keep e4 (by omega)).keep e5 fun h => h
    have v5 : Vec w5.heap 142 21 a l cp (waysC ws) := h.2.keep E5 fun k hk hkb => h.ne k hk hkb
    refine ⟨a, l, cp, k5.cell 0, _, kw5.way.1, _, kw5.way.2, ?_⟩
    have E6 : Ext (fun _ => False) w5 (newW w5 (.cells ⟨wayC x⟩ 142)) := (Ext.refl _ w5).vnew _
    obtain ⟨a2, c2, w7, r1, r2, r3, r4⟩ := append_run (P := Try.prog) (T := 137) (T' := 137) (T'' := 137) elemWay.und elemWay.und elemWay.size elemWay.bytes (by rw [show zeroL Try.prog 142 = some _ from elemWay.zero.choose_spec.1]; simp)
      (by rw [show zeroL Try.prog 142 = some _ from elemWay.zero.choose_spec.1]; intro y hy; cases hy; exact elemWay.zero.choose_spec.2) (v5.keep E6 fun _ _ h => h) (a' := some ⟨w5.heap.size, 0, none⟩) (n := 1) (c' := 1) (ys := wayC x) (by rw [wayC_length]) (wayC_scal x) (.inr ⟨_, _, rfl, cellsAt_newW w5 _ _⟩) (fun h => by cases h) (by omega) (by omega)
    rw [size_newW] at r4
    have E7 : Ext (fun k => blkOf a = some k) w5 w7 := (Ext.mono E6 fun _ _ h => h.elim).trans r3
    refine ⟨k5.vnew _ |>.cell 0, a2, l + 1, c2, w7, r1, ?_⟩
    have k7 : Blk w7.heap b 163 (.slice a l cp :: seenL (ws ++ [x])) := k5.keep E7 fun hk => h.ne b hk rfl
    refine stW_in k7 (by show 0 + 1 ≤ (seenL (ws ++ [x])).length + 1; omega) fun w8 s8 k8 e8 => ?_
    have hz5 := E5.size
    have hne : ∀ k, blkOf a2 = some k → k ≠ b := by
      intro k hk
      rcases r4 with rfl | rfl
      · exact h.ne k hk
      · simp only [blkOf, Option.some.injEq] at hk; omega
    refine ⟨rfl, a2, l + 1, c2, ?_, ?_, ?_⟩
    · rw [show addW ws x = ws ++ [x] from by simp [addW, g']]
      refine ⟨k8, ?_⟩
      rw [waysC_append, waysC_one]
      exact r2.keep e8 fun k hk hkb => hne k hk hkb
    · exact ((Ext.mono E5 fun _ _ h => .inl h).trans (Ext.mono E7 fun _ _ h => .inr h)).trans (Ext.mono e8 fun _ _ h => .inl h)
    · intro k hk
      rcases r4 with rfl | rfl
      · exact .inl hk
      · simp only [blkOf, Option.some.injEq] at hk; exact .inr (by omega)
  · refine ⟨rfl, a, l, cp, ?_, Ext.of_below B2, fun k hk => .inl hk⟩
    rw [addW_has (by simpa using g : has ws x.1 = true)]
    exact h2
/-- A list that is gathered while the finder stands. -/
structure LSt (c : Cx) (X0 : Nat → Prop) (w0 : World) (b : Nat) (X : Nat → Prop) (w : World) (ws : List Wy) : Prop where
  sub : ∀ x, X0 x → X x
  mem : X b
  new : w0.heap.size ≤ b
  row : ∃ a l cp, LisAt w b a l cp ws ∧ ∀ k, blkOf a = some k → X k ∧ w0.heap.size ≤ k
  fin : FInv c X w
  ext : Ext (fun x => x = c.m) w0 w
theorem LSt.below {c : Cx} {X0 X : Nat → Prop} {w0 w w' : World} {b : Nat} {ws : List Wy} (h : LSt c X0 w0 b X w ws) (e : Below w.heap.size w w') : LSt c X0 w0 b X w' ws := by
  obtain ⟨a, l, cp, h1, h2⟩ := h.row
  exact ⟨h.sub, h.mem, h.new, ⟨a, l, cp, h1.keep (S := fun _ => False) (Ext.of_below e) (fun h => h) (fun _ _ h => h), h2⟩, h.fin.below e, h.ext.trans (Ext.of_below e)⟩
/-- A call of the finder leaves the list. -/
theorem LSt.call {c : Cx} {X0 X : Nat → Prop} {w0 w w' : World} {b : Nat} {ws : List Wy} (h : LSt c X0 w0 b X w ws) (hf : FInv c X w') (e : Ext (fun x => x = c.m) w w') : LSt c X0 w0 b X w' ws := by
  obtain ⟨a, l, cp, h1, h2⟩ := h.row
  exact ⟨h.sub, h.mem, h.new, ⟨a, l, cp, h1.keep e (fun hb => (h.fin.priv b h.mem).2.1 hb) (fun k hk hkm => (h.fin.priv k (h2 k hk).1).2.1 hkm), h2⟩, hf, h.ext.trans e⟩
theorem LSt.add {c : Cx} {X0 X : Nat → Prop} {w0 w : World} {b : Nat} {ws : List Wy} (h : LSt c X0 w0 b X w ws) (x : Wy) (hx : x.1 ≤ 200) (hl : ws.length ≤ 1000) :
    Cl Try.prog 129 [.pointer (some ⟨b, 0, none⟩), .agg ⟨wayC x⟩] w (fun e w' => e = .returned (.tuple #[]) ∧ ∃ X', LSt c X0 w0 b X' w' (addW ws x) ∧ Ext X w w' ∧ ∀ y, X' y → X y ∨ w.heap.size ≤ y) := by
  obtain ⟨a, l, cp, h1, h2⟩ := h.row
  refine (add_way h1 x hx hl).use fun e w' he => ?_
  obtain ⟨rfl, a', l', cp', h3, h4, h5⟩ := he
  have hE : Ext X w w' := Ext.mono h4 fun k _ hk => by
    rcases hk with rfl | hk
    · exact h.mem
    · exact (h2 k hk).1
  have hz := h.ext.size
  refine ⟨rfl, fun y => X y ∨ (blkOf a' = some y ∧ w.heap.size ≤ y), ⟨fun y hy => .inl (h.sub y hy), .inl h.mem, h.new, ⟨a', l', cp', h3, fun k hk => ?_⟩, h.fin.grow hE (fun _ h => h) (fun y hy => ?_) (fun y hy => ?_), h.ext.step h4 fun i hi hk => ?_⟩, hE, fun y hy => ?_⟩
  · rcases h5 k hk with h6 | h6
    · exact ⟨.inl (h2 k h6).1, (h2 k h6).2⟩
    · exact ⟨.inr ⟨hk, h6⟩, by omega⟩
  · rcases hy with hy | hy
    · exact .inl hy
    · exact .inr hy.2
  · rcases hy with hy | hy
    · exact Nat.lt_of_lt_of_le (h.fin.priv y hy).2.2.2 hE.size
    · exact h3.2.lt y hy.1
  · rcases hk with rfl | hk
    · have := h.new; omega
    · have := (h2 i hk).2; omega
  · rcases hy with hy | hy
    · exact .inl hy
    · exact .inr hy.2
/-- A new list. -/
theorem LSt.start {c : Cx} {X0 : Nat → Prop} {w0 w w' : World} (hf : FInv c X0 w) (e0 : Ext (fun x => x = c.m) w0 w) (k : Blk w'.heap w.heap.size 163 ([.slice none 0 0] ++ List.replicate 201 (.bool false))) (e : Ext (fun _ => False) w w') : LSt c X0 w0 w.heap.size (fun y => X0 y ∨ y = w.heap.size) w' [] := by
  refine ⟨fun _ h => .inl h, .inr rfl, e0.size, ⟨none, 0, 0, ⟨?_, Vec.nil _ _ _⟩, by simp [blkOf]⟩, hf.grow e (fun _ h => h.elim) (fun y hy => ?_) (fun y hy => ?_), e0.trans (Ext.mono e fun _ _ h => h.elim)⟩
  · rw [seenL_nil]; exact k
  · rcases hy with hy | rfl
    · exact .inl hy
    · exact .inr (Nat.le_refl _)
  · rcases hy with hy | rfl
    · exact Nat.lt_of_lt_of_le (hf.priv y hy).2.2.2 e.size
    · exact k.lt
/-- What was gathered is handed back. -/
theorem LSt.res {c : Cx} {X0 X : Nat → Prop} {w0 w : World} {b : Nat} {ws : List Wy} (h : LSt c X0 w0 b X w ws) (hX0 : ∀ x, X0 x → x < w0.heap.size) (hm : c.m < w0.heap.size) : ∃ a l cp, cellH w.heap b 0 = some (.slice a l cp) ∧ WaysAt c X0 w a l cp ws ∧ FInv c X0 w := by
  obtain ⟨a, l, cp, h1, h2⟩ := h.row
  refine ⟨a, l, cp, h1.1.cell 0, ⟨h1.2, fun k hk => ⟨fun hx => ?_, ?_⟩⟩, h.fin.drop h.sub⟩
  · have := hX0 k hx; have := (h2 k hk).2; omega
  · have := (h2 k hk).2; omega
end Go.Proofs.Ytngbiaeliphdjaa.V
/- What then does in the program's finder. No statement of the seat is proved here. -/
namespace Go.Vc
set_option linter.unusedVariables false
def ovW (g : Gr) (b : Wy) : Wy := (b.1, gOver g b.2)
def ovL (next : Nat → List Wy) (x : Wy) : List Wy := (next x.1).map (ovW x.2)
theorem thenP_eq (cur : List Wy) (next : Nat → List Wy) : thenP cur next = addA [] (cur.flatMap (ovL next)) := rfl
theorem addA_short {n : Nat} {l : List Wy} (h : ∀ z ∈ l, z.1 ≤ n) : (addA [] l).length ≤ n + 1 :=
  (DD.addA (xs := l) (l := []) (by simp [DD])).short fun z hz => by
    rcases mem_addA hz with hz | hz
    · cases hz
    · exact h z hz
end Go.Vc
namespace Go.Proofs.Ytngbiaeliphdjaa.V
open Go.Vc Go.Proofs Go.RowKit
set_option linter.unusedVariables false
set_option linter.unusedSimpArgs false
/-- A way is copied into a block of its own. -/
theorem copy_way {w : World} {b : Nat} {cs : List Value} (hb : Blk w.heap b 142 cs) (hl : cs.length = 21) (x : Wy) {K : World → Prop} (h : ∀ w1, w1.heap.size = w.heap.size → Blk w1.heap b 142 (wayC x) → Ext (fun k => k = b) w w1 → K w1) : stW b 0 (wayC x) K w := by
  refine stW_in hb (by rw [wayC_length, hl]; decide) fun w1 s1 k1 e1 => h w1 s1 ?_ e1
  rw [segSet_eq _ _ _ (by rw [wayC_length, hl]; decide), wayC_length] at k1
  rw [List.drop_of_length_le (by omega)] at k1
  simpa using k1
/-- The element of a row of ways. -/
theorem WaysAt.elem {c : Cx} {X : Nat → Prop} {w : World} {a : Option Addr} {l cp : Nat} {A B : List Wy} {x : Wy} (h : WaysAt c X w a l cp (A ++ x :: B)) :
    ∃ b, a = some ⟨b, 0, none⟩ ∧ A.length < l ∧ cellH w.heap b (0 + A.length * 21) = some (.int .i64 (x.1 : Int)) ∧ intsAt w.heap b (0 + A.length * 21 + 1) 20 (spI x.2) := by
  have hl := h.len
  have hl' : A.length < l := by rw [← hl]; simp
  obtain ⟨b, rfl, hc⟩ := h.1.open (by omega)
  have := Vec.way hc hl (i := A.length) (by simp)
  simp only [List.getElem_append_right (Nat.le_refl _), Nat.sub_self, List.getElem_cons_zero] at this
  exact ⟨b, rfl, hl', this.1, this.2⟩
theorem then_ok {c : Cx} {X : Nat → Prop} {w : World} {cur : List Wy} {a : Option Addr} {l cp : Nat} {f : FuncId} {fi cv : Array Value} {next : Nat → List Wy} {b0 o0 : Nat} (hF : FInv c X w) (hcur : WaysAt c X w a l cp cur) (hcl : cur.length ≤ 1000) (hcb : ∀ x ∈ cur, x.1 ≤ c.n) (hn : c.n ≤ 200) (hnb : ∀ p, p ≤ c.n → ∀ x ∈ next p, x.1 ≤ c.n) (hnl : ∀ p, p ≤ c.n → (next p).length ≤ 1000)
    (hnext : ∀ (X' : Nat → Prop) (w' : World) (p : Nat), p ≤ c.n → FInv c X' w' → Ext (fun x => x = c.m) w w' → Cl Try.prog f (fi.toList ++ [.int .i64 p] ++ cv.toList) w' (ResW c X' w' (next p))) :
    Cl Try.prog 131 [.pointer (some ⟨b0, o0, none⟩), .slice a l cp, .func (.func f) fi cv] w (ResW c X w (thenP cur next)) := by
  apply vc131
  unfold V131
  have hm := hF.memo.lt
  have hX0 : ∀ x, X x → x < w.heap.size := fun x hx => (hF.priv x hx).2.2.2
  have hlen := hcur.len
  refine newC_in fun w6 s6 k6 e6 => ?_
  have S6 := LSt.start hF (Ext.refl _ w) k6 e6
  generalize hb5 : w.heap.size = b5 at *
  have c6 : WaysAt c (fun y => X y ∨ y = b5) w6 a l cp cur := hcur.grow e6 (fun _ h => h.elim) fun y hy => by
    rcases hy with hy | hy
    · exact .inl hy
    · exact .inr (by omega)
  refine ⟨fun k n w' => ∃ (A B : List Wy) (X' : Nat → Prop), cur = A ++ B ∧ n = A.length ∧ k = B.length ∧ LSt c X w b5 X' w' (addA [] (A.flatMap (ovL next))) ∧ WaysAt c X' w' a l cp cur, ⟨_, [], cur, _, rfl, rfl, rfl, S6, c6⟩, ?_⟩
  clear c6 S6 k6 e6 s6
  rintro k d n w10 ⟨A, B, X1, hAB, rfl, rfl, S10, c10⟩
  have hABl : cur.length = A.length + B.length := by rw [hAB]; simp
  have e0 : Int.toNat (A.length : Int) = A.length := by omega
  have e1 : IntKind.wrap .i64 ((A.length : Int) + 1) = ((A.length + 1 : Nat) : Int) := by rw [w64 (by omega)]; omega
  rw [e0, e1]
  have hbnd : ∀ (A' : List Wy), (∀ z ∈ A', z ∈ cur) → ∀ z ∈ A'.flatMap (ovL next), z.1 ≤ 200 := by
    intro A' hA' z hz
    simp only [List.mem_flatMap, ovL, List.mem_map] at hz
    obtain ⟨x, hx, b, hb, rfl⟩ := hz
    exact Nat.le_trans (hnb x.1 (hcb x (hA' x hx)) b hb) hn
  refine ⟨fun g => ?_, fun g => ?_⟩
  · have g' : A.length < l := by have := of_decide_eq_true g; omega
    obtain ⟨x, B', rfl⟩ : ∃ x B', B = x :: B' := by
      cases B with
      | nil => simp at hABl; omega
      | cons x B' => exact ⟨x, B', rfl⟩
    have hxm : x ∈ cur := by rw [hAB]; simp
    have hxb := hcb x hxm
    have c10' := c10
    rw [hAB] at c10'
    obtain ⟨ba, hba, _, hx1, hx2⟩ := c10'.elem
    refine ⟨ba, 0, ⟨hba, by omega, by omega⟩, _, hx1, _, hx2, ?_⟩
    refine newC_in fun w18 s18 k18 e18 => ?_
    generalize hb17 : w10.heap.size = b17 at *
    refine copy_way k18 rfl x fun w19 s19 k19 e19 => ?_
    have B19 : Below w10.heap.size w10 w19 := Ext.to (Ext.to (Below.refl _ _) e18 fun _ h => h.elim) e19 fun i hi => by omega
    have S19 := S10.below B19
    have c19 := c10.below B19
    have hz10 := S10.ext.size
    have hX17 : ¬ X1 b17 := fun h => by have := (S10.fin.priv b17 h).2.2.2; omega
    refine ⟨_, k19.way.1, ?_⟩
    refine (hnext X1 w19 x.1 hxb S19.fin S19.ext).use fun e w22 he => ?_
    obtain ⟨a21, l21, c21, rfl, r22, f22, e22⟩ := he
    refine ⟨a21, l21, c21, rfl, ?_⟩
    have S22 := S19.call f22 e22
    have c22 : WaysAt c X1 w22 a l cp cur := c19.grow e22 (fun _ h => .inr h) fun _ h => .inl h
    have hm17 : b17 ≠ c.m := by omega
    have k22 := k19.keep e22 hm17
    have hl21 := r22.len
    have hnl' := hnl x.1 hxb
    refine ⟨fun k n w' => ∃ (C D : List Wy) (X2 : Nat → Prop), next x.1 = C ++ D ∧ n = C.length ∧ k = D.length ∧ LSt c X w b5 X2 w' (addA (addA [] (A.flatMap (ovL next))) (C.map (ovW x.2))) ∧ WaysAt c X2 w' a l cp cur ∧ WaysAt c X2 w' a21 l21 c21 (next x.1) ∧ Blk w'.heap b17 142 (wayC x) ∧ ¬ X2 b17, ⟨_, [], next x.1, X1, rfl, rfl, rfl, S22, c22, r22, k22, hX17⟩, ?_⟩
    clear k22 c22 S22 r22 f22 e22 hX17 c19 S19 B19 k19 e19 s19 k18 e18 s18 hx1 hx2 c10' c10 S10
    rintro k d2 n w27 ⟨C, D, X2, hCD, rfl, rfl, S27, c27, r27, k27, hX27⟩
    have hCDl : (next x.1).length = C.length + D.length := by rw [hCD]; simp
    have e0' : Int.toNat (C.length : Int) = C.length := by omega
    have e1' : IntKind.wrap .i64 ((C.length : Int) + 1) = ((C.length + 1 : Nat) : Int) := by rw [w64 (by omega)]; omega
    rw [e0', e1']
    refine ⟨fun g2 => ?_, fun g2 => ?_⟩
    · have g2' : C.length < l21 := by have := of_decide_eq_true g2; omega
      obtain ⟨y, D', rfl⟩ : ∃ x B', D = x :: B' := by
        cases D with
        | nil => simp at hCDl; omega
        | cons x B' => exact ⟨x, B', rfl⟩
      have hym : y ∈ next x.1 := by rw [hCD]; simp
      have hyb := hnb x.1 hxb y hym
      have r27' := r27
      rw [hCD] at r27'
      obtain ⟨br, hbr, _, hy1, hy2⟩ := r27'.elem
      refine ⟨br, 0, ⟨hbr, by omega, by omega⟩, _, hy1, _, hy2, ?_⟩
      refine newC_in fun w35 s35 k35 e35 => ?_
      generalize hb34 : w27.heap.size = b34 at *
      refine copy_way k35 rfl y fun w36 s36 k36 e36 => ?_
      refine drw_in fun w37 q37 e37 => ?_
      have B37 : Below w27.heap.size w27 w37 := Ext.to (Ext.to (Ext.to (Below.refl _ _) e35 fun _ h => h.elim) e36 fun i hi => by omega) e37 fun _ h => h.elim
      have k37 := k36.keep e37 fun h => h
      have kx37 := k27.below B37
      refine ⟨_, k37.way.1, _, kx37.way.2, _, k37.way.2, ?_⟩
      refine (with_ok x.2 y.2 w37).ret fun w42 b42 => ⟨spI (gOver x.2 y.2), rfl, (k37.below b42).way.1, ?_⟩
      have B42 := B37.vstep b42
      have S42 := S27.below B42
      refine (S42.add (y.1, gOver x.2 y.2) (by show y.1 ≤ 200; omega) ?_).use fun e w44 he => ?_
      · rw [← addA_append]
        refine Nat.le_trans (addA_short (n := 200) fun z hz => ?_) (by decide)
        rcases List.mem_append.1 hz with hz | hz
        · exact hbnd A (fun z hz => by rw [hAB]; exact List.mem_append_left _ hz) z hz
        · obtain ⟨b, hb, rfl⟩ := List.mem_map.1 hz
          exact Nat.le_trans (hnb x.1 hxb b (by rw [hCD]; exact List.mem_append_left _ hb)) hn
      obtain ⟨rfl, X3, S44, e44, hX3⟩ := he
      have hz42 := B42.size
      refine ⟨rfl, D'.length, by simp, C ++ [y], D', X3, by rw [hCD]; simp, by simp, rfl, ?_, (c27.below B42).grow e44 (fun _ h => .inl h) hX3, (r27.below B42).grow e44 (fun _ h => .inl h) hX3, (k27.below B42).keep e44 hX27, fun h => ?_⟩
      · rw [List.map_append, addA_append]; exact S44
      · rcases hX3 b17 h with h | h
        · exact hX27 h
        · have := k27.lt; omega
    · have g2' : ¬ C.length < l21 := by have := of_decide_eq_false g2; omega
      have : D = [] := by
        cases D with
        | nil => rfl
        | cons x r => have := r27.len; simp at hCDl; omega
      subst this
      rw [List.append_nil] at hCD
      refine ⟨B'.length, by simp, A ++ [x], B', X2, by rw [hAB]; simp, by simp, rfl, ?_, c27⟩
      rw [List.flatMap_append, addA_append, List.flatMap_cons, List.flatMap_nil, List.append_nil]
      unfold ovL at *
      rw [hCD]
      exact S27
  · have g' : ¬ A.length < l := by have := of_decide_eq_false g; omega
    have : B = [] := by
      cases B with
      | nil => rfl
      | cons x r => simp at hABl; omega
    subst this
    rw [List.append_nil] at hAB
    subst hAB
    obtain ⟨a4, l4, c4, h1, h2, h3⟩ := S10.res (fun x hx => by have := hX0 x hx; omega) (by omega)
    exact ⟨a4, l4, c4, h1, a4, l4, c4, rfl, h2, h3, S10.ext⟩
end Go.Proofs.Ytngbiaeliphdjaa.V
/- What more does in the program's finder. No statement of the seat is proved here. -/
namespace Go.Proofs.Ytngbiaeliphdjaa.V
open Go.Vc Go.Proofs Go.RowKit
set_option linter.unusedVariables false
set_option linter.unusedSimpArgs false
structure CxOk (c : Cx) : Prop where
  wf : Wf c.P.groups c.P.pieces
  g9 : c.P.groups ≤ 9
  len : c.P.pieces.length ≤ 482
  n200 : c.n ≤ 200
  small : AllS c.P.pieces
theorem CxOk.wok {c : Cx} (h : CxOk c) (k i : Nat) (hi : i ≤ c.n) : ∀ w ∈ c.ends k i, WOk c.P.groups c.n i w :=
  endsP_ok (fun x hx h5 => by
    obtain ⟨j, hj⟩ := List.getElem?_of_mem hx
    have := (h.wf j x hj).num h5
    omega) k i hi
theorem CxOk.short {c : Cx} (h : CxOk c) (k i : Nat) (hi : i ≤ c.n) : (c.ends k i).length ≤ 201 := by
  have := (endsP_dd c.P.pieces (L c.t) k i).short fun x hx => (h.wok k i hi x hx).hi
  have := h.n200
  show (endsP c.P.pieces (L c.t) k i).length ≤ 201
  omega
theorem CxOk.mok {c : Cx} (h : CxOk c) (k i : Nat) (left : Option Nat) (hi : i ≤ c.n) : ∀ w ∈ c.more k left i, WOk c.P.groups c.n i w :=
  moreP_ok (fun p hp => h.wok _ p hp) _ i left rfl hi
theorem CxOk.mshort {c : Cx} (h : CxOk c) (k i : Nat) (left : Option Nat) (hi : i ≤ c.n) : (c.more k left i).length ≤ 201 := by
  have := (moreP_dd (c.sub k) c.n (c.P.pieces.getD k pSta).lazy left i).short fun x hx => (h.mok k i left hi x hx).hi
  have := h.n200
  show (moreP (c.sub k) c.n (c.P.pieces.getD k pSta).lazy left i).length ≤ 201
  omega
/-- One piece in memory. -/
theorem FInv.piece {c : Cx} {X : Nat → Prop} {w : World} (h : FInv c X w) {k : Nat} (hk : k < c.P.pieces.length) :
    ∃ bp r, c.pa = some ⟨bp, 0, none⟩ ∧ k < c.pl ∧ (∀ o, o < 7 → cellH w.heap bp (0 + k * 7 + o) = r.cells[o]?) ∧ RawOk w r (c.P.pieces.getD k pSta) ∧ ∀ q ∈ r.blocks, q ∈ blks c.pa c.rs := by
  have h1 := h.pcs.len
  have h2 := h.pcs.len'
  obtain ⟨b, hb, hc⟩ := h.pcs.row.open (by omega)
  refine ⟨b, c.rs[k]'(by omega), hb, by omega, raw_at hc h1 (i := k) (by omega), ?_, fun q hq => List.mem_append_right _ (List.mem_flatMap.2 ⟨_, List.getElem_mem _, hq⟩)⟩
  refine h.pcs.all k _ _ (List.getElem?_eq_getElem (by omega)) ?_
  rw [List.getD_eq_getElem?_getD, List.getElem?_eq_getElem hk]; rfl
/-- The memo has it. -/
theorem memo_get {c : Cx} {X : Nat → Prop} {w0 w : World} (h : FInv c X w) (E : Ext (fun x => x = c.m) w0 w) (x y z : Int) :
    ∃ (a : Option Addr) (l cp : Nat) (t : Bool), (Instr.lookup 126 (.map (some c.m)) (.agg #[.int .i64 x, .int .i64 y, .int .i64 z]) true).run Try.prog w = .ok (.tuple #[.slice a l cp, .bool t]) w ∧ (t = true → Good c X w x y z a l cp) := lookup_run h.memo x y z
/-- The memo is told. -/
theorem memo_put {c : Cx} {X X1 : Nat → Prop} {w0 w : World} {b : Nat} {ws : List Wy} (S : LSt c X w0 b X1 w ws) (hX0 : ∀ x, X x → x < w0.heap.size) (hm : c.m < w0.heap.size) (x y z : Int) (hg : ∀ (w : World) (a : Option Addr) (l cp : Nat), WaysAt c X w a l cp ws → Good c X w x y z a l cp) :
    ∃ (a : Option Addr) (l cp : Nat) (w' : World), cellH w.heap b 0 = some (.slice a l cp) ∧ (Instr.mapUpdate 126 (.map (some c.m)) (.agg #[.int .i64 x, .int .i64 y, .int .i64 z]) (.slice a l cp)).run Try.prog w = .ok () w' ∧ cellH w'.heap b 0 = some (.slice a l cp) ∧ ResW c X w0 ws (.returned (.slice a l cp)) w' := by
  obtain ⟨a, l, cp, h1, h2, h3⟩ := S.res hX0 hm
  obtain ⟨w', r1, r2, r3, r4⟩ := update_run h3.memo (hg w a l cp h2)
  have hbm : b ≠ c.m := by have := S.new; omega
  have hbl : b < w.heap.size := (S.fin.priv b S.mem).2.2.2
  have hgrow : ∀ {a : Option Addr} {l cp : Nat} {ws : List Wy}, WaysAt c X w a l cp ws → WaysAt c X w' a l cp ws := fun h => h.grow r4 (fun _ h => .inr h) fun _ h => .inl h
  refine ⟨a, l, cp, w', h1, r1, by rw [Ext.cellH r4 hbl hbm]; exact h1, a, l, cp, rfl, hgrow h2, ⟨h3.fb.keep r4 h3.ne1, h3.pcs.keep r4 fun k hk hkm => h3.ne2 (hkm ▸ hk), r3.mono fun x y z a l cp hg => ?_, h3.ne1, h3.ne2, fun q hq => ?_⟩, S.ext.trans r4⟩
  · exact ⟨fun k i e1 e2 e3 => hgrow (hg.1 k i e1 e2 e3), fun k i left e1 e2 e3 => hgrow (hg.2 k i left e1 e2 e3)⟩
  · have := h3.priv q hq
    exact ⟨this.1, this.2.1, this.2.2.1, by omega⟩
theorem leftI_inj {a b : Option Nat} (h : leftI a = leftI b) : a = b := by
  cases a <;> cases b <;> simp only [leftI] at h
  · rfl
  · omega
  · omega
  · congr 1; omega
theorem leftI_ge (a : Option Nat) : -1 ≤ leftI a := by cases a <;> simp only [leftI] <;> omega
theorem good_more {c : Cx} {X : Nat → Prop} {w : World} {k i : Nat} {left : Option Nat} {a : Option Addr} {l cp : Nat} (h : WaysAt c X w a l cp (c.more k left i)) : Good c X w k i (leftI left) a l cp := by
  refine ⟨fun k' i' _ _ h3 => ?_, fun k' i' left' h1 h2 h3 => ?_⟩
  · have := leftI_ge left; omega
  · obtain rfl : k = k' := by omega
    obtain rfl : i = i' := by omega
    obtain rfl := leftI_inj h3
    exact h
theorem good_ways {c : Cx} {X : Nat → Prop} {w : World} {k i : Nat} {a : Option Addr} {l cp : Nat} (h : WaysAt c X w a l cp (c.ends k i)) : Good c X w k i (-2) a l cp := by
  refine ⟨fun k' i' h1 h2 _ => ?_, fun k' i' left' h1 h2 h3 => ?_⟩
  · obtain rfl : k = k' := by omega
    obtain rfl : i = i' := by omega
    exact h
  · have := leftI_ge left'; omega
/-- What a way on gives. -/
def stepM (c : Cx) (k : Nat) (left : Option Nat) (i : Nat) (a : Wy) : List Wy := if i < a.1 ∧ a.1 ≤ c.n then (c.more k (left.map (· - 1)) a.1).map (ovW a.2) else []
theorem more_eq (c : Cx) (k : Nat) (left : Option Nat) (i : Nat) : c.more k left i = addA [] ((if (c.P.pieces.getD k pSta).lazy then [(i, gNone)] else []) ++ (if left = some 0 then [] else (c.sub k i).flatMap (stepM c k left i)) ++ [(i, gNone)]) := by
  show moreP _ _ _ _ _ = _
  rw [moreP]
  congr 3
theorem fmore_ok {c : Cx} (ok : CxOk c) {k : Nat} (hk : k < c.P.pieces.length) (h4 : (c.P.pieces.getD k pSta).kind = 4) (hsub : ∀ k', k' < k → WaysC c k') : MoreC c k := by
  have hpk : c.P.pieces[k]? = some (c.P.pieces.getD k pSta) := by rw [List.getD_eq_getElem?_getD, List.getElem?_eq_getElem hk]; rfl
  have hpo := ok.wf k _ hpk
  obtain ⟨kid, hkid⟩ := hpo.one (.inl h4)
  have hkb := hpo.kids kid (by rw [hkid]; simp)
  have hkt : (kid.toNat : Int) = kid := by omega
  have hsubk : c.sub k = c.ends kid.toNat := by funext i; unfold Cx.sub; rw [hkid]; rfl
  intro X w i left hF hi hlq
  induction hm : c.n - i using Nat.strongRecOn generalizing X w i left with
  | _ m ih =>
  apply vc135
  unfold V135
  have hX0 : ∀ x, X x → x < w.heap.size := fun x hx => (hF.priv x hx).2.2.2
  have hml := hF.memo.lt
  have hn200 := ok.n200
  have hlen482 := ok.len
  refine newC_in fun w7 s7 k7 e7 => ?_
  generalize hb6 : w.heap.size = b6 at *
  refine stW_in k7 (by show 0 + 3 ≤ 3; decide) fun w8 s8 k8 e8 => ?_
  have k8' : Blk w8.heap b6 159 [.int .i64 k, .int .i64 i, .int .i64 (leftI left)] := k8
  refine drw_in fun w9 q9 e9 => ?_
  have B9 : Below w.heap.size w w9 := Ext.to (Ext.to (Ext.to (Below.refl _ _) e7 fun _ h => h.elim) e8 fun i hi => by omega) e9 fun _ h => h.elim
  have k9 := k8'.keep e9 fun h => h
  have F9 := hF.below B9
  obtain ⟨a0, l0, c0, t0, hl1, hl2⟩ := memo_get F9 (Ext.refl _ _) (k : Int) (i : Int) (leftI left)
  refine ⟨some c.m, F9.fb.cell 5, _, k9.cell 0, _, k9.cell 1, _, k9.cell 2, a0, l0, c0, t0, hl1, fun ht => ?_, fun ht => ?_⟩
  · exact ⟨a0, l0, c0, rfl, (hl2 ht).2 k i left rfl rfl rfl, F9, Ext.of_below (hb6 ▸ B9)⟩
  clear hl1 hl2
  obtain ⟨bp, r, hpa, hkpl, hcell, hraw, hrb⟩ := F9.piece hk
  have e0 : Int.toNat (k : Int) = k := by omega
  rw [e0]
  refine ⟨_, _, _, F9.fb.cell 3, bp, 0, ⟨hpa, by omega, by omega⟩, _, hcell 0 (by decide), _, _, _, hcell 1 (by decide), _, hcell 2 (by decide), _, hcell 3 (by decide), _, hcell 4 (by decide), _, hcell 5 (by decide), _, _, _, hcell 6 (by decide), ?_⟩
  refine newC_in fun w27 s27 k27 e27 => ?_
  generalize hb26 : w9.heap.size = b26 at *
  refine stW_in k27 (by show 0 + 7 ≤ 7; decide) fun w28 s28 k28 e28 => ?_
  have k28' : Blk w28.heap b26 111 r.cells := k28
  have B28 : Below w9.heap.size w9 w28 := Ext.to (Ext.to (Below.refl _ _) e27 fun _ h => h.elim) e28 fun i hi => by omega
  have F28 := F9.below B28
  have k28b := k9.below B28
  have hraw28 := hraw.keep (S := fun _ => False) (Ext.of_below B28) fun _ _ h => h
  have hz9 := B9.size
  refine newC_in fun w30 s30 k30 e30 => ?_
  have E28 : Ext (fun x => x = c.m) w w28 := (Ext.of_below (hb6 ▸ B9)).trans (Ext.of_below B28)
  have S30 := LSt.start F28 E28 k30 e30
  have k30a := k28'.keep e30 fun h => h
  have k30b := k28b.keep e30 fun h => h
  have hraw30 := hraw28.keep e30 fun _ _ h => h
  have hb6l := k28b.lt
  have hb26l := k28'.lt
  generalize hb29 : w28.heap.size = b29 at *
  have hn6 : ¬ (X b6 ∨ b6 = b29) := fun h => by
    rcases h with h | h
    · have := hX0 b6 h; omega
    · omega
  have hn26 : ¬ (X b26 ∨ b26 = b29) := fun h => by
    rcases h with h | h
    · have := hX0 b26 h; omega
    · omega
  have hm6 : b6 ≠ c.m := by omega
  have hm26 : b26 ≠ c.m := by omega
  have hlz : r.lazy = (c.P.pieces.getD k pSta).lazy := hraw.lazy
  refine ⟨r.lazy, k30a.cell 4, fun w' => ∃ X', LSt c X w b29 X' w' (addA [] (if (c.P.pieces.getD k pSta).lazy then [(i, gNone)] else [])) ∧ Blk w'.heap b26 111 r.cells ∧ Blk w'.heap b6 159 [.int .i64 k, .int .i64 i, .int .i64 (leftI left)] ∧ RawOk w' r (c.P.pieces.getD k pSta) ∧ ¬ X' b6 ∧ ¬ X' b26, ⟨fun g => ?_, fun g => ?_⟩, ?_⟩
  · refine (none_ok w30).ret fun w34 b34 => ⟨spI gNone, rfl, ?_⟩
    refine ((S30.below b34).add (i, gNone) (by show i ≤ 200; omega) (by simp)).use fun e w36 he => ?_
    obtain ⟨rfl, X3, S36, e36, hX3⟩ := he
    have hz34 := b34.size
    refine ⟨rfl, X3, ?_, (k30a.below b34).keep e36 hn26, (k30b.below b34).keep e36 hn6, (hraw30.keep (S := fun _ => False) (Ext.of_below b34) fun _ _ h => h).keep e36 fun q hq hX => ?_, fun h => ?_, fun h => ?_⟩
    · rw [← hlz, g]; exact S36
    · rcases hX with h | h
      · exact (hF.priv q h).2.2.1 (hrb q hq)
      · have := hF.pcs.lt q (hrb q hq); omega
    · rcases hX3 b6 h with h | h
      · exact hn6 h
      · have := k30b.lt; omega
    · rcases hX3 b26 h with h | h
      · exact hn26 h
      · have := k30a.lt; omega
  · exact ⟨_, by rw [← hlz, g]; exact S30, k30a, k30b, hraw30, hn6, hn26⟩
  clear hn26 hn6 hraw30 k30b k30a S30 e30 k30 s30 hraw28 k28b F28 k28' k28 e28 s28 k27 e27 s27 hcell F9 k9 B9 e9 q9 k8' k8 e8 s8 k7 e7 s7
  rintro d39 w39 ⟨X1, S39, kp39, kk39, hr39, hx6, hx26⟩
  -- the end
  have hfin : ∀ {w' : World} {X' : Nat → Prop} {ws : List Wy}, LSt c X w b29 X' w' ws → Blk w'.heap b6 159 [.int .i64 k, .int .i64 i, .int .i64 (leftI left)] → ¬ X' b6 → ws.length ≤ 1000 → addA ws [(i, gNone)] = c.more k left i → Cl Try.prog 130 ([]) w' (retG (fun (r96 : Value) (w95 : World) => ∃ (g94 : Nat → Int), r96 = .agg #[.int .i64 (g94 0), .int .i64 (g94 1), .int .i64 (g94 2), .int .i64 (g94 3), .int .i64 (g94 4), .int .i64 (g94 5), .int .i64 (g94 6), .int .i64 (g94 7), .int .i64 (g94 8), .int .i64 (g94 9), .int .i64 (g94 10), .int .i64 (g94 11), .int .i64 (g94 12), .int .i64 (g94 13), .int .i64 (g94 14), .int .i64 (g94 15), .int .i64 (g94 16), .int .i64 (g94 17), .int .i64 (g94 18), .int .i64 (g94 19)] ∧ Cl Try.prog 129 ([.pointer (some ⟨b29, 0, none⟩), .agg #[.int .i64 (i : Int), .int .i64 (g94 0), .int .i64 (g94 1), .int .i64 (g94 2), .int .i64 (g94 3), .int .i64 (g94 4), .int .i64 (g94 5), .int .i64 (g94 6), .int .i64 (g94 7), .int .i64 (g94 8), .int .i64 (g94 9), .int .i64 (g94 10), .int .i64 (g94 11), .int .i64 (g94 12), .int .i64 (g94 13), .int .i64 (g94 14), .int .i64 (g94 15), .int .i64 (g94 16), .int .i64 (g94 17), .int .i64 (g94 18), .int .i64 (g94 19)]]) w95 (retG (fun (r98 : Value) (w97 : World) => r98 = .tuple #[] ∧ drw (fun (w99 : World) => ∃ (m100 : Option Nat), cellH w99.heap c.bf (0 + 5) = some (.map m100) ∧ ∃ (n101 : Int), cellH w99.heap b6 0 = some (.int .i64 n101) ∧ ∃ (n102 : Int), cellH w99.heap b6 1 = some (.int .i64 n102) ∧ ∃ (n103 : Int), cellH w99.heap b6 2 = some (.int .i64 n103) ∧ ∃ (a104 : Option Addr), ∃ (l104 : Nat), ∃ (c104 : Nat), cellH w99.heap b29 0 = some (.slice a104 l104 c104) ∧ ∃ (w105 : World), (Instr.mapUpdate 126 (.map m100) (.agg #[.int .i64 n101, .int .i64 n102, .int .i64 n103]) (.slice a104 l104 c104)).run Try.prog w99 = .ok () w105 ∧ ∃ (a106 : Option Addr), ∃ (l106 : Nat), ∃ (c106 : Nat), cellH w105.heap b29 0 = some (.slice a106 l106 c106) ∧ ResW c X w (c.more k left i) (.returned (.slice a106 l106 c106)) w105) w97) (fun c1 w1' => ResW c X w (c.more k left i) (.panicked c1) w1'))) (fun c1 w1' => ResW c X w (c.more k left i) (.panicked c1) w1')) := by
    intro w' X' ws S' k' hx' hl' hws
    refine (none_ok w').ret fun w95 b95 => ⟨spI gNone, rfl, ?_⟩
    refine ((S'.below b95).add (i, gNone) (by show i ≤ 200; omega) hl').use fun e w97 he => ?_
    obtain ⟨rfl, X3, S97, e97, hX3⟩ := he
    refine ⟨rfl, drw_in fun w99 q99 e99 => ?_⟩
    have B99 : Below w97.heap.size w97 w99 := Ext.to (Below.refl _ _) e99 fun _ h => h.elim
    have S99 := S97.below B99
    have k99 := ((k'.below b95).keep e97 hx').below B99
    have S99' : LSt c X w b29 X3 w99 (c.more k left i) := by rw [← hws]; exact S99
    obtain ⟨a1, l1, c1, w105, p1, p2, p3, p4⟩ := memo_put S99' (fun x hx => by have := hX0 x hx; omega) (by omega) (k : Int) (i : Int) (leftI left) fun _ _ _ _ h => good_more h
    exact ⟨some c.m, S99.fin.fb.cell 5, _, k99.cell 0, _, k99.cell 1, _, k99.cell 2, a1, l1, c1, p1, w105, p2, a1, l1, c1, p3, p4⟩
  have hsh : ∀ {l : List Wy}, (∀ z ∈ l, z.1 ≤ 200) → (addA [] l).length ≤ 1000 := fun h => Nat.le_trans (addA_short h) (by decide)
  have hlz1 : ∀ z ∈ (if (c.P.pieces.getD k pSta).lazy = true then [((i : Nat), gNone)] else [] : List Wy), z.1 ≤ 200 := by
    intro z hz
    split at hz
    · simp only [List.mem_singleton] at hz; subst hz; show i ≤ 200; omega
    · cases hz
  refine ⟨fun g => ?_, fun g => ?_⟩
  rotate_left
  · have g' : left = some 0 := by
      have : leftI left = 0 := by simpa using g
      exact leftI_inj (by rw [this]; rfl)
    refine hfin S39 kk39 hx6 (hsh hlz1) ?_
    rw [more_eq, if_pos g', List.append_nil, addA_append]
  have g' : left ≠ some 0 := fun h => by subst h; simp [leftI] at g
  refine ⟨fun n' w' => n' = leftI (left.map (· - 1)) ∧ w' = w39, ⟨fun g2 => ?_, fun g2 => ?_⟩, ?_⟩
  · have g2' := of_decide_eq_true g2
    cases left with
    | none => simp [leftI] at g2'
    | some q =>
      simp only [leftI] at g2'
      have := hlq q rfl
      refine ⟨?_, rfl⟩
      show IntKind.wrap .i64 ((q : Int) - 1) = ((q - 1 : Nat) : Int)
      rw [w64 (by omega)]; omega
  · have g2' := of_decide_eq_false g2
    cases left with
    | none => exact ⟨rfl, rfl⟩
    | some q =>
      simp only [leftI] at g2'
      have : q = 0 := by omega
      subst this; exact absurd rfl g'
  rintro dn n42 w43 ⟨rfl, rfl⟩
  -- the kid
  have hkv := hr39.kids
  rw [hkid] at hkv
  have hkl : r.kl = 1 := by have := hkv.1; rw [intC_length] at this; simp at this; omega
  obtain ⟨bk, hbk, hkc⟩ := hkv.open (by omega)
  refine ⟨_, _, _, kp39.cell 6, bk, 0, ⟨hbk, by omega, by omega⟩, kid, by rw [hkc 0 (by omega)]; rfl, ?_⟩
  have hl50 : ∀ q, left.map (· - 1) = some q → q ≤ 50 := by
    intro q hq
    cases left with
    | none => cases hq
    | some q' => have := hlq q' rfl; simp only [Option.map_some, Option.some.injEq] at hq; omega
  have hcall := hsub kid.toNat (by omega) X1 w43 i S39.fin hi
  rw [hkt] at hcall
  refine hcall.use fun e w49 he => ?_
  obtain ⟨a48, l48, c48, rfl, r48, f48, e48⟩ := he
  have S49 := S39.call f48 e48
  have kk49 := kk39.keep e48 hm6
  have hwk := ok.wok kid.toNat i hi
  have hlw := ok.short kid.toNat i hi
  have hl48 := r48.len
  refine ⟨a48, l48, c48, rfl, fun m' n' w' => ∃ (A B : List Wy) (X2 : Nat → Prop), c.ends kid.toNat i = A ++ B ∧ n' = A.length ∧ m' = B.length ∧ LSt c X w b29 X2 w' (addA (addA [] (if (c.P.pieces.getD k pSta).lazy then [(i, gNone)] else [])) (A.flatMap (stepM c k left i))) ∧ WaysAt c X2 w' a48 l48 c48 (c.ends kid.toNat i) ∧ Blk w'.heap b6 159 [.int .i64 k, .int .i64 i, .int .i64 (leftI left)] ∧ ¬ X2 b6, ⟨_, [], _, X1, rfl, rfl, rfl, S49, r48, kk49, hx6⟩, ?_⟩
  clear S49 kk49 r48 f48 e48 hcall hkc hkv kp39 hr39 hx26 kk39 S39 hx6
  have hbndS : ∀ (A : List Wy), ∀ z ∈ A.flatMap (stepM c k left i), z.1 ≤ 200 := by
    intro A z hz
    simp only [List.mem_flatMap] at hz
    obtain ⟨x, hx, hz⟩ := hz
    unfold stepM at hz
    split at hz
    · rename_i hc
      obtain ⟨y, hy, rfl⟩ := List.mem_map.1 hz
      exact Nat.le_trans (ok.mok k x.1 _ hc.2 y hy).hi hn200
    · cases hz
  rintro m' d n' w54 ⟨A, B, X2, hAB, rfl, rfl, S54, r54, kk54, hx54⟩
  have hABl : (c.ends kid.toNat i).length = A.length + B.length := by rw [hAB]; simp
  have e0 : Int.toNat (A.length : Int) = A.length := by omega
  have e1 : IntKind.wrap .i64 ((A.length : Int) + 1) = ((A.length + 1 : Nat) : Int) := by rw [w64 (by omega)]; omega
  rw [e0, e1]
  have hbnd2 : ∀ z ∈ (if (c.P.pieces.getD k pSta).lazy = true then [((i : Nat), gNone)] else [] : List Wy) ++ A.flatMap (stepM c k left i), z.1 ≤ 200 := fun z hz => by
    rcases List.mem_append.1 hz with hz | hz
    · exact hlz1 z hz
    · exact hbndS A z hz
  refine ⟨fun g2 => ?_, fun g2 => ?_⟩
  · have g2' : A.length < l48 := by have := of_decide_eq_true g2; omega
    obtain ⟨x, B', rfl⟩ : ∃ x B', B = x :: B' := by
      cases B with
      | nil => simp at hABl; omega
      | cons x B' => exact ⟨x, B', rfl⟩
    have hxm : x ∈ c.ends kid.toNat i := by rw [hAB]; simp
    have hxb := hwk x hxm
    have r54' := r54
    rw [hAB] at r54'
    obtain ⟨ba, hba, _, hx1, hx2⟩ := r54'.elem
    refine ⟨ba, 0, ⟨hba, by omega, by omega⟩, _, hx1, _, hx2, ?_⟩
    refine newC_in fun w62 s62 k62 e62 => ?_
    generalize hb61 : w54.heap.size = b61 at *
    refine copy_way k62 rfl x fun w63 s63 k63 e63 => ?_
    have B63 : Below w54.heap.size w54 w63 := Ext.to (Ext.to (Below.refl _ _) e62 fun _ h => h.elim) e63 fun i hi => by omega
    have S63 := S54.below B63
    have r63 := r54.below B63
    have kk63 := kk54.below B63
    have hz54 := S54.ext.size
    have hX61 : ¬ X2 b61 := fun h => by have := (S54.fin.priv b61 h).2.2.2; omega
    refine ⟨_, k63.way.1, fun g3 => ?_, fun g3 => ?_⟩
    · have g3' : x.1 = i := by have : ((x.1 : Nat) : Int) = i := by simpa using g3
                               omega
      refine ⟨B'.length, by simp, A ++ [x], B', X2, by rw [hAB]; simp, by simp, rfl, ?_, r63, kk63, hx54⟩
      rw [List.flatMap_append, List.flatMap_cons, List.flatMap_nil, List.append_nil]
      rw [show stepM c k left i x = [] from by unfold stepM; rw [if_neg (by omega)], List.append_nil]
      exact S63
    · have g3' : x.1 ≠ i := by have : ¬ ((x.1 : Nat) : Int) = i := by simpa using g3
                               omega
      have hlo := hxb.lo
      have hhi := hxb.hi
      refine ⟨_, k63.way.1, ?_⟩
      refine (ih (c.n - x.1) (by omega) X2 w63 x.1 (left.map (· - 1)) S63.fin hhi hl50 rfl).use fun e w68 he => ?_
      obtain ⟨a67, l67, c67, rfl, r67, f67, e67⟩ := he
      have S68 := S63.call f67 e67
      have r68 : WaysAt c X2 w68 a48 l48 c48 (c.ends kid.toNat i) := r63.grow e67 (fun _ h => .inr h) fun _ h => .inl h
      have hm61 : b61 ≠ c.m := by omega
      have k68 := k63.keep e67 hm61
      have kk68 := kk63.keep e67 hm6
      have hl67 := r67.len
      have hml' := ok.mshort k x.1 (left.map (· - 1)) hhi
      have hmw := ok.mok k x.1 (left.map (· - 1)) hhi
      refine ⟨a67, l67, c67, rfl, fun m3 n3 w' => ∃ (C D : List Wy) (X3 : Nat → Prop), c.more k (left.map (· - 1)) x.1 = C ++ D ∧ n3 = C.length ∧ m3 = D.length ∧ LSt c X w b29 X3 w' (addA (addA (addA [] (if (c.P.pieces.getD k pSta).lazy then [(i, gNone)] else [])) (A.flatMap (stepM c k left i))) (C.map (ovW x.2))) ∧ WaysAt c X3 w' a48 l48 c48 (c.ends kid.toNat i) ∧ WaysAt c X3 w' a67 l67 c67 (c.more k (left.map (· - 1)) x.1) ∧ Blk w'.heap b6 159 [.int .i64 k, .int .i64 i, .int .i64 (leftI left)] ∧ Blk w'.heap b61 142 (wayC x) ∧ ¬ X3 b6 ∧ ¬ X3 b61, ⟨_, [], _, X2, rfl, rfl, rfl, S68, r68, r67, kk68, k68, hx54, hX61⟩, ?_⟩
      clear S68 r68 r67 kk68 k68 hX61 hx54 f67 e67 kk63 r63 S63 B63 k63 e63 s63 k62 e62 s62 hx1 hx2 r54' r54 S54 kk54
      rintro m3 d3 n3 w73 ⟨C, D, X3, hCD, rfl, rfl, S73, r73, q73, kk73, k73, hx73, hx61⟩
      have hCDl : (c.more k (left.map (· - 1)) x.1).length = C.length + D.length := by rw [hCD]; simp
      have e0' : Int.toNat (C.length : Int) = C.length := by omega
      have e1' : IntKind.wrap .i64 ((C.length : Int) + 1) = ((C.length + 1 : Nat) : Int) := by rw [w64 (by omega)]; omega
      rw [e0', e1']
      refine ⟨fun g4 => ?_, fun g4 => ?_⟩
      · have g4' : C.length < l67 := by have := of_decide_eq_true g4; omega
        obtain ⟨y, D', rfl⟩ : ∃ x B', D = x :: B' := by
          cases D with
          | nil => simp at hCDl; omega
          | cons x B' => exact ⟨x, B', rfl⟩
        have hym : y ∈ c.more k (left.map (· - 1)) x.1 := by rw [hCD]; simp
        have hyb := (hmw y hym).hi
        have q73' := q73
        rw [hCD] at q73'
        obtain ⟨br, hbr, _, hy1, hy2⟩ := q73'.elem
        refine ⟨br, 0, ⟨hbr, by omega, by omega⟩, _, hy1, _, hy2, ?_⟩
        refine newC_in fun w81 s81 k81 e81 => ?_
        generalize hb80 : w73.heap.size = b80 at *
        refine copy_way k81 rfl y fun w82 s82 k82 e82 => ?_
        refine drw_in fun w83 q83 e83 => ?_
        have B83 : Below w73.heap.size w73 w83 := Ext.to (Ext.to (Ext.to (Below.refl _ _) e81 fun _ h => h.elim) e82 fun i hi => by omega) e83 fun _ h => h.elim
        have k83 := k82.keep e83 fun h => h
        have kx83 := k73.below B83
        refine ⟨_, k83.way.1, _, kx83.way.2, _, k83.way.2, ?_⟩
        refine (with_ok x.2 y.2 w83).ret fun w88 b88 => ⟨spI (gOver x.2 y.2), rfl, (k83.below b88).way.1, ?_⟩
        have B88 := B83.vstep b88
        have S88 := S73.below B88
        have hz88 := B88.size
        refine (S88.add (ovW x.2 y) (by show y.1 ≤ 200; omega) ?_).use fun e w90 he => ?_
        · rw [← addA_append, ← addA_append]
          refine hsh fun z hz => ?_
          have hz' : z ∈ ((if (c.P.pieces.getD k pSta).lazy = true then [((i : Nat), gNone)] else [] : List Wy) ++ A.flatMap (stepM c k left i)) ++ C.map (ovW x.2) := by rw [List.append_assoc]; exact hz
          rcases List.mem_append.1 hz' with hz | hz
          · exact hbnd2 z hz
          · obtain ⟨b, hb, rfl⟩ := List.mem_map.1 hz
            exact Nat.le_trans (hmw b (by rw [hCD]; exact List.mem_append_left _ hb)).hi hn200
        obtain ⟨rfl, X4, S90, e90, hX4⟩ := he
        refine ⟨rfl, D'.length, by simp, C ++ [y], D', X4, by rw [hCD]; simp, by simp, rfl, ?_, (r73.below B88).grow e90 (fun _ h => .inl h) hX4, (q73.below B88).grow e90 (fun _ h => .inl h) hX4, (kk73.below B88).keep e90 hx73, (k73.below B88).keep e90 hx61, fun h => ?_, fun h => ?_⟩
        · rw [List.map_append, addA_append]; exact S90
        · rcases hX4 b6 h with h | h
          · exact hx73 h
          · have := kk73.lt; omega
        · rcases hX4 b61 h with h | h
          · exact hx61 h
          · have := k73.lt; omega
      · have g4' : ¬ C.length < l67 := by have := of_decide_eq_false g4; omega
        have : D = [] := by
          cases D with
          | nil => rfl
          | cons x r => have := q73.len; simp at hCDl; omega
        subst this
        rw [List.append_nil] at hCD
        refine ⟨B'.length, by simp, A ++ [x], B', X3, by rw [hAB]; simp, by simp, rfl, ?_, r73, kk73, hx73⟩
        rw [List.flatMap_append, addA_append, List.flatMap_cons, List.flatMap_nil, List.append_nil]
        rw [show stepM c k left i x = (c.more k (left.map (· - 1)) x.1).map (ovW x.2) from by unfold stepM; rw [if_pos ⟨by omega, hhi⟩], hCD]
        exact S73
  · have g2' : ¬ A.length < l48 := by have := of_decide_eq_false g2; omega
    have : B = [] := by
      cases B with
      | nil => rfl
      | cons x r => simp at hABl; omega
    subst this
    rw [List.append_nil] at hAB
    subst hAB
    refine hfin S54 kk54 hx54 ?_ ?_
    · rw [← addA_append]; exact hsh hbnd2
    · rw [more_eq, if_neg g', addA_append, addA_append, hsubk]
end Go.Proofs.Ytngbiaeliphdjaa.V
/- The reference's sets, byte by byte: plain lists, no program in sight. No statement of the seat is proved here. -/
namespace Go.Vc
set_option linter.unusedVariables false
set_option linter.unusedSimpArgs false
theorem runsF_no {f : Nat → Bool} {b : Nat} (hb : b < 256) (h : f b = false) : runsF f b = runsF f (b + 1) := by
  conv => lhs; rw [runsF]
  rw [dif_pos hb, h]; simp
theorem runsF_yes {f : Nat → Bool} {b : Nat} (hb : b < 256) (h : f b = true) : runsF f b = ((b : Int), (runEnd f b : Int)) :: runsF f (runEnd f b + 1) := by
  conv => lhs; rw [runsF]
  rw [dif_pos hb, h]; simp
theorem runsF_out {f : Nat → Bool} {b : Nat} (hb : ¬ b < 256) : runsF f b = [] := by rw [runsF, dif_neg hb]
theorem runEnd_no {f : Nat → Bool} {j : Nat} (h : f (j + 1) = false) : runEnd f j = j := by
  rw [runEnd]; split
  · rw [h]; simp
  · rfl
theorem runEnd_yes {f : Nat → Bool} {j : Nat} (hj : j < 255) (h : f (j + 1) = true) : runEnd f j = runEnd f (j + 1) := by
  conv => lhs; rw [runEnd]
  rw [dif_pos hj, h]; simp
theorem runEnd_255 (f : Nat → Bool) : runEnd f 255 = 255 := by rw [runEnd]; simp
/-- What was gathered of the bytes below b: the last row is done with, or goes on. -/
def SetInv (f : Nat → Bool) (b : Nat) (xs : List (Int × Int)) : Prop :=
  (xs ++ runsF f b = runs f ∧ ∀ ys lo hi, xs = ys ++ [(lo, hi)] → hi + 1 < (b : Int)) ∨
  (∃ c, b = c + 1 ∧ ∃ ys lo, xs = ys ++ [(lo, (c : Int))] ∧ ys ++ (lo, (runEnd f c : Int)) :: runsF f (runEnd f c + 1) = runs f)
theorem SetInv.init (f : Nat → Bool) : SetInv f 0 [] := .inl ⟨rfl, by intro ys lo hi h; simp at h⟩
theorem SetInv.no {f : Nat → Bool} {b : Nat} {xs : List (Int × Int)} (h : SetInv f b xs) (hb : b < 256) (hf : f b = false) : SetInv f (b + 1) xs := by
  rcases h with ⟨h1, h2⟩ | ⟨c, rfl, ys, lo, rfl, h⟩
  · exact .inl ⟨by rw [← runsF_no hb hf]; exact h1, fun ys lo hi e => by have := h2 ys lo hi e; omega⟩
  · rw [runEnd_no hf, runsF_no hb hf] at h
    refine .inl ⟨by rw [← h]; simp, fun ys' lo' hi' e => ?_⟩
    have := List.append_inj_right' e rfl
    simp only [List.cons.injEq, Prod.mk.injEq, and_true] at this
    omega
theorem SetInv.on {f : Nat → Bool} {b : Nat} {ys : List (Int × Int)} {lo hi : Int} (h : SetInv f b (ys ++ [(lo, hi)])) (hb : b < 256) (hf : f b = true) (hh : hi = (b : Int) - 1) : SetInv f (b + 1) (ys ++ [(lo, (b : Int))]) := by
  rcases h with ⟨h1, h2⟩ | ⟨c, rfl, ys', lo', e, h⟩
  · have := h2 ys lo hi rfl; omega
  · have e2 := List.append_inj_right' e rfl
    have e1 := List.append_inj_left' e rfl
    simp only [List.cons.injEq, Prod.mk.injEq, and_true] at e2
    obtain ⟨rfl, _⟩ := e2
    subst e1
    rw [runEnd_yes (by omega) hf] at h
    exact .inr ⟨c + 1, rfl, ys, lo, rfl, h⟩
theorem SetInv.new {f : Nat → Bool} {b : Nat} {xs : List (Int × Int)} (h : SetInv f b xs) (hb : b < 256) (hf : f b = true) (hn : ∀ ys lo hi, xs = ys ++ [(lo, hi)] → hi ≠ (b : Int) - 1) : SetInv f (b + 1) (xs ++ [((b : Int), (b : Int))]) := by
  rcases h with ⟨h1, h2⟩ | ⟨c, rfl, ys', lo', rfl, h⟩
  · rw [runsF_yes hb hf] at h1
    exact .inr ⟨b, rfl, xs, b, rfl, h1⟩
  · exact absurd (by omega) (hn _ _ _ rfl)
theorem SetInv.done {f : Nat → Bool} {xs : List (Int × Int)} (h : SetInv f 256 xs) : xs = runs f := by
  rcases h with ⟨h1, h2⟩ | ⟨c, hc, ys', lo', rfl, h⟩
  · rw [runsF_out (by omega)] at h1; simpa using h1
  · obtain rfl : c = 255 := by omega
    rw [runEnd_255, runsF_out (by omega)] at h; exact h
end Go.Vc
/- Printed by vcgen.py, a program of this session: formulas of Go functions, each with the proof that it gives the function's contract. No statement of the seat is proved here. -/
namespace Go.Proofs.Ytngbiaeliphdjaa.V
open Go.Vc Go.Proofs
set_option linter.unusedVariables false
set_option maxRecDepth 100000
/-- (*spec.l1R).more -/
def V78 (b1 o2 : Nat) (R : Rt) : Pred := fun w =>
  drw (fun w3 => lI w3 b1 (o2 + 2) fun n4 => (cB (decide (n4 < 0)) (lI w3 b1 (o2 + 1) fun n5 => lS w3 b1 o2 fun s6 => R (.returned (.bool (decide (n5 < ((ByteArray.size s6 : Nat) : Int))))) w3) (R (.returned (.bool false)) w3))) w
def scr78 : Scr := (.q 1 (.run [0,1,2,3,4,5] (.split 8 (.r [6,7,8,9,10,11,12,13,14,15,16,17] .nil) (.r [6,7,8,9,10,11,12,13,14,15,16,17] .nil))))
theorem vc78 {b1 o2} {R w} (h : V78 b1 o2 R w) : Cl Try.prog 78 [.pointer (some ⟨b1, o2, none⟩)] w R :=
  cl_of scr78 Try.func78 (by kernel_rfl) _ _ (by kernel_rfl) h
/-- (*spec.l1R).fail -/
def V79 (b1 o2 : Nat) (R : Rt) : Pred := fun w =>
  lI w b1 (o2 + 2) fun n3 => (cB (decide (n3 < 0)) (lI w b1 (o2 + 1) fun n4 => stW b1 (o2 + 2) [.int .i64 n4] (fun w5 => R (.returned (.tuple #[])) w5) w) (R (.returned (.tuple #[])) w))
def scr79 : Scr := (.q 5 (.cond (.q 8 .nil) .nil))
theorem vc79 {b1 o2} {R w} (h : V79 b1 o2 R w) : Cl Try.prog 79 [.pointer (some ⟨b1, o2, none⟩)] w R :=
  cl_of scr79 Try.func79 (by kernel_rfl) _ _ (by kernel_rfl) h
/-- (*spec.l1R).is -/
def V112 (b1 o2 : Nat) (n3 : Int) (R : Rt) : Pred := fun w =>
  drw (fun w4 => clB 78 ([.pointer (some ⟨b1, o2, none⟩)]) w4 R fun t5 w6 => (cB t5 (lS w6 b1 o2 fun s8 => lI w6 b1 (o2 + 1) fun n9 => (ixT s8 n9) ∧ (cB ((byteAt s8 (Int.toNat n9)) == n3) (lI w6 b1 (o2 + 1) fun n10 => stW b1 (o2 + 1) [.int .i64 (IntKind.wrap .i64 (n10 + 1))] (fun w11 => R (.returned (.bool true)) w11) w6) (R (.returned (.bool false)) w6))) (R (.returned (.bool false)) w6))) w
def scr112 : Scr := (.q 1 (.run [0,1,2] (.split 7 (.r [3,4,5,6,7,8,9,10,11,12,13,14] (.cond (.q 8 (.q 1 .nil)) (.q 1 .nil))) (.r [3,4,5,6,7,8,9,10,11,12,13,14] (.lit (.q 1 .nil))))))
theorem vc112 {b1 o2 n3} {R w} (h : V112 b1 o2 n3 R w) : Cl Try.prog 112 [.pointer (some ⟨b1, o2, none⟩), .int .u8 n3] w R :=
  cl_of scr112 Try.func112 (by kernel_rfl) _ _ (by kernel_rfl) h
/-- (*spec.l1R).add -/
def V113 (b1 o2 : Nat) (n3 : Int) (a4 : Option Addr) (l4 c4 : Nat) (n5 n6 : Int) (t7 : Bool) (n8 : Int) (a9 : Option Addr) (l9 c9 : Nat) (R : Rt) : Pred := fun w =>
  newC [.int .i64 n3, .slice a4 l4 c4, .int .i64 n5, .int .i64 n6, .bool t7, .int .i64 n8, .slice a9 l9 c9] 111 (fun b10 w11 => drw (fun w12 => lL w12 b1 (o2 + 4) fun a13 l13 c13 => lI w12 b10 0 fun n14 => lL w12 b10 1 fun a15 l15 c15 => lI w12 b10 2 fun n16 => lI w12 b10 3 fun n17 => lB w12 b10 4 fun t18 => lI w12 b10 5 fun n19 => lL w12 b10 6 fun a20 l20 c20 => newC [.int .i64 n14, .slice a15 l15 c15, .int .i64 n16, .int .i64 n17, .bool t18, .int .i64 n19, .slice a20 l20 c20] 111 (fun b21 w22 => cellH w22.heap b1 (o2 + 4) = some (.slice a13 l13 c13) ∧ ∃ a23 l23 c23, ∃ w24, (Builtin.append_ #[35, 35] 35 #[.slice a13 l13 c13, .slice (some ⟨b21, 0, none⟩) 1 1]).run Try.prog w22 = .ok (.slice a23 l23 c23) w24 ∧ stW b1 (o2 + 4) [.slice a23 l23 c23] (fun w25 => lL w25 b1 (o2 + 4) fun a26 l26 c26 => R (.returned (.int .i64 (IntKind.wrap .i64 (((l26 : Nat) : Int) - 1)))) w25) w24) w12) w11) w
def scr113 : Scr := (.q 2 (.q 11 (.q 7 .nil)))
theorem vc113 {b1 o2 n3 a4 l4 c4 n5 n6 t7 n8 a9 l9 c9} {R w} (h : V113 b1 o2 n3 a4 l4 c4 n5 n6 t7 n8 a9 l9 c9 R w) : Cl Try.prog 113 [.pointer (some ⟨b1, o2, none⟩), .agg #[.int .i64 n3, .slice a4 l4 c4, .int .i64 n5, .int .i64 n6, .bool t7, .int .i64 n8, .slice a9 l9 c9]] w R :=
  cl_of scr113 Try.func113 (by kernel_rfl) _ _ (by kernel_rfl) h
/-- spec.l1hex -/
def V169 (n1 : Int) (R : Rt) : Pred := fun w =>
  (cB (decide (n1 ≥ 48)) ((cB (decide (n1 ≤ 57)) (R (.returned (.int .i64 (IntKind.wrap .i64 (IntKind.wrap .u8 (n1 - 48))))) w) ((cB (decide (n1 ≥ 97)) ((cB (decide (n1 ≤ 102)) (R (.returned (.int .i64 (IntKind.wrap .i64 ((IntKind.wrap .i64 (IntKind.wrap .u8 (n1 - 97))) + 10)))) w) (R (.returned (.int .i64 (-1))) w))) (R (.returned (.int .i64 (-1))) w))))) ((cB (decide (n1 ≥ 97)) ((cB (decide (n1 ≤ 102)) (R (.returned (.int .i64 (IntKind.wrap .i64 ((IntKind.wrap .i64 (IntKind.wrap .u8 (n1 - 97))) + 10)))) w) (R (.returned (.int .i64 (-1))) w))) (R (.returned (.int .i64 (-1))) w))))
def scr169 : Scr := (.q 1 (.run [0,1,2] (.split 5 (.r [3,4,5] (.cond (.q 4 .nil) (.run [0,1,2] (.split 14 (.r [3,4,5] (.cond (.q 5 .nil) (.q 1 .nil))) (.r [3,4,5] (.lit (.q 1 .nil))))))) (.r [3,4,5] (.lit (.run [0,1,2] (.split 14 (.r [3,4,5] (.cond (.q 5 .nil) (.q 1 .nil))) (.r [3,4,5] (.lit (.q 1 .nil))))))))))
theorem vc169 {n1} {R w} (h : V169 n1 R w) : Cl Try.prog 169 [.int .u8 n1] w R :=
  cl_of scr169 Try.func169 (by kernel_rfl) _ _ (by kernel_rfl) h
/-- spec.l1range -/
def V165 (a1 : Option Addr) (l1 c1 : Nat) (n2 n3 : Int) (R : Rt) : Pred := fun w =>
  ∃ (I4 : Nat → Int → World → Prop), (∃ k6, I4 k6 n2 w) ∧ ∀ k5 (d8 : Nat → Value) n9 w7, I4 k5 n9 w7 → (cB (decide (n9 ≤ n3)) (ixS a1 l1 n9 fun b10 o11 => stW b10 (o11 + (Int.toNat n9) * 1) [.bool true] (fun w12 => (∃ m13, m13 < k5 ∧ I4 m13 (IntKind.wrap .i64 (n9 + 1)) w12)) w7) (R (.returned (.tuple #[])) w7))
def scr165 : Scr := (.q 2 (.loop (dr [(6, some (.int .i64))] [(8,8)]) (.q 3 (.cond (.q 4 (.q 3 .nil)) .nil))))
theorem vc165 {a1 l1 c1 n2 n3} {R w} (h : V165 a1 l1 c1 n2 n3 R w) : Cl Try.prog 165 [.slice a1 l1 c1, .int .i64 n2, .int .i64 n3] w R :=
  cl_of scr165 Try.func165 (by kernel_rfl) _ _ (by kernel_rfl) h
/-- spec.l1set -/
def V167 (a1 : Option Addr) (l1 c1 : Nat) (R : Rt) : Pred := fun w =>
  ∃ (I2 : Nat → Option Addr → Nat → Nat → Int → World → Prop), (∃ k4, I2 k4 none 0 0 0 w) ∧ ∀ k3 (d6 : Nat → Value) a7 l7 c7 n8 w5, I2 k3 a7 l7 c7 n8 w5 → (cB (decide (n8 < 256)) (ixS a1 l1 n8 fun b9 o10 => lB w5 b9 (o10 + (Int.toNat n8) * 1) fun t11 => (cB (!t11) ((∃ m12, m12 < k3 ∧ I2 m12 a7 l7 c7 (IntKind.wrap .i64 (n8 + 1)) w5)) ((cB (decide (((l7 : Nat) : Int) > 0)) (ixS a7 l7 (IntKind.wrap .i64 (((l7 : Nat) : Int) - 1)) fun b13 o14 => lI w5 b13 (o14 + (Int.toNat (IntKind.wrap .i64 (((l7 : Nat) : Int) - 1))) * 2 + 1) fun n15 => (cB (n15 == (IntKind.wrap .i64 (n8 - 1))) (ixS a7 l7 (IntKind.wrap .i64 (((l7 : Nat) : Int) - 1)) fun b16 o17 => stW b16 (o17 + (Int.toNat (IntKind.wrap .i64 (((l7 : Nat) : Int) - 1))) * 2 + 1) [.int .i64 n8] (fun w18 => (∃ m19, m19 < k3 ∧ I2 m19 a7 l7 c7 (IntKind.wrap .i64 (n8 + 1)) w18)) w5) (newC [.int .i64 n8, .int .i64 n8] 134 (fun b20 w21 => ∃ a22 l22 c22, ∃ w23, (Builtin.append_ #[108, 108] 108 #[.slice a7 l7 c7, .slice (some ⟨b20, 0, none⟩) 1 1]).run Try.prog w21 = .ok (.slice a22 l22 c22) w23 ∧ (∃ m24, m24 < k3 ∧ I2 m24 a22 l22 c22 (IntKind.wrap .i64 (n8 + 1)) w23)) w5))) (newC [.int .i64 n8, .int .i64 n8] 134 (fun b25 w26 => ∃ a27 l27 c27, ∃ w28, (Builtin.append_ #[108, 108] 108 #[.slice a7 l7 c7, .slice (some ⟨b25, 0, none⟩) 1 1]).run Try.prog w26 = .ok (.slice a27 l27 c27) w28 ∧ (∃ m29, m29 < k3 ∧ I2 m29 a27 l27 c27 (IntKind.wrap .i64 (n8 + 1)) w28)) w5))))) (R (.returned (.slice a7 l7 c7)) w5))
def scr167 : Scr := (.q 1 (.q 1 (.q 1 (.loop (dr [(3, some .slice), (4, some (.int .i64))] [(5,37)]) (.q 2 (.cond (.q 5 (.cond (.q 3 .nil) (.q 3 (.run [0,1,2] (.split 19 (.r [3,4,5,6,7,8,9,10,11,12] (.cond (.q 7 (.q 3 .nil)) (.q 7 (.q 3 .nil)))) (.r [3,4,5,6,7,8,9,10,11,12] (.lit (.q 7 (.q 3 .nil))))))))) (.q 2 .nil)))))))
theorem vc167 {a1 l1 c1} {R w} (h : V167 a1 l1 c1 R w) : Cl Try.prog 167 [.slice a1 l1 c1] w R :=
  cl_of scr167 Try.func167 (by kernel_rfl) _ _ (by kernel_rfl) h
/-- (*spec.l1R).number -/
def V168 (b1 o2 : Nat) (R : Rt) : Pred := fun w =>
  lI w b1 (o2 + 1) fun n3 => ∃ (I4 : Nat → Int → World → Prop), (∃ k6, I4 k6 0 w) ∧ ∀ k5 (d8 : Nat → Value) n9 w7, I4 k5 n9 w7 → drw (fun w10 => clB 78 ([.pointer (some ⟨b1, o2, none⟩)]) w10 R fun t11 w12 => (cB t11 (lS w12 b1 o2 fun s14 => lI w12 b1 (o2 + 1) fun n15 => (ixT s14 n15) ∧ (cB (decide ((byteAt s14 (Int.toNat n15)) ≥ 48)) (lS w12 b1 o2 fun s16 => lI w12 b1 (o2 + 1) fun n17 => (ixT s16 n17) ∧ (cB (decide ((byteAt s16 (Int.toNat n17)) ≤ 57)) (drw (fun w18 => lS w18 b1 o2 fun s19 => lI w18 b1 (o2 + 1) fun n20 => (ixT s19 n20) ∧ (cB (decide ((IntKind.wrap .i64 ((IntKind.wrap .i64 (n9 * 10)) + (IntKind.wrap .i64 (IntKind.wrap .u8 ((byteAt s19 (Int.toNat n20)) - 48))))) > 50)) (stW b1 (o2 + 1) [.int .i64 n3] (fun w21 => clU 79 ([.pointer (some ⟨b1, o2, none⟩)]) w21 R fun w22 => R (.returned (.int .i64 0)) w22) w18) (lI w18 b1 (o2 + 1) fun n24 => stW b1 (o2 + 1) [.int .i64 (IntKind.wrap .i64 (n24 + 1))] (fun w25 => (∃ m26, m26 < k5 ∧ I4 m26 (IntKind.wrap .i64 ((IntKind.wrap .i64 (n9 * 10)) + (IntKind.wrap .i64 (IntKind.wrap .u8 ((byteAt s19 (Int.toNat n20)) - 48))))) w25)) w18))) w12) (lI w12 b1 (o2 + 1) fun n27 => (cB (n27 == n3) (R (.returned (.int .i64 (-1))) w12) (R (.returned (.int .i64 n9)) w12))))) (lI w12 b1 (o2 + 1) fun n28 => (cB (n28 == n3) (R (.returned (.int .i64 (-1))) w12) (R (.returned (.int .i64 n9)) w12))))) (lI w12 b1 (o2 + 1) fun n29 => (cB (n29 == n3) (R (.returned (.int .i64 (-1))) w12) (R (.returned (.int .i64 n9)) w12))))) w7
def scr168 : Scr := (.q 1 (.q 1 (.q 5 (.loop (dr [(3, some (.int .i64))] [(2,1),(9,55)]) (.run [0,1,2] (.split 11 (.run [3,4,5,6,7,8,9,10,11,12,13,14] (.split 23 (.r [15,16,17,18,19,20,21,22,23,24,25] (.cond (.q 15 (.q 2 (.cond (.q 5 (.q 2 (.q 1 .nil))) (.q 8 .nil)))) (.q 6 (.cond (.q 1 .nil) (.q 2 .nil))))) (.r [15,16,17,18,19,20,21,22,23,24,25] (.lit (.q 6 (.cond (.q 1 .nil) (.q 2 .nil))))))) (.r [3,4,5,6,7,8,9,10,11,12,13,14,15,16,17,18,19,20,21,22,23,24,25] (.lit (.q 6 (.cond (.q 1 .nil) (.q 2 .nil)))))))))))
theorem vc168 {b1 o2} {R w} (h : V168 b1 o2 R w) : Cl Try.prog 168 [.pointer (some ⟨b1, o2, none⟩)] w R :=
  cl_of scr168 Try.func168 (by kernel_rfl) _ _ (by kernel_rfl) h
/-- (*spec.l1R).counts -/
def V150 (b1 o2 : Nat) (R : Rt) : Pred := fun w =>
  clI 168 ([.pointer (some ⟨b1, o2, none⟩)]) w R fun n3 w4 => (cB (decide (n3 < 0)) (clU 79 ([.pointer (some ⟨b1, o2, none⟩)]) w4 R fun w6 => R (.returned (.tuple #[.int .i64 0, .int .i64 0])) w6) (clB 112 ([.pointer (some ⟨b1, o2, none⟩), .int .u8 44]) w4 R fun t8 w9 => ∃ (J11 : Int → World → Prop), ((cB t8 (lI w9 b1 (o2 + 1) fun n12 => clI 168 ([.pointer (some ⟨b1, o2, none⟩)]) w9 R fun n13 w14 => lI w14 b1 (o2 + 2) fun n16 => (cB (decide (n16 < 0)) ((cB (decide (n13 ≥ 0)) ((cB (decide (n13 < n3)) (stW b1 (o2 + 1) [.int .i64 n12] (fun w17 => clU 79 ([.pointer (some ⟨b1, o2, none⟩)]) w17 R fun w18 => J11 n13 w18) w14) (J11 n13 w14))) (J11 n13 w14))) (J11 n13 w14))) (J11 n3 w9))) ∧ ∀ (d20 : Nat → Value) n21 w22, J11 n21 w22 → clB 112 ([.pointer (some ⟨b1, o2, none⟩), .int .u8 125]) w22 R fun t23 w24 => (cB (!t23) (clU 79 ([.pointer (some ⟨b1, o2, none⟩)]) w24 R fun w26 => R (.returned (.tuple #[.int .i64 n3, .int .i64 n21])) w26) (R (.returned (.tuple #[.int .i64 n3, .int .i64 n21])) w24))))
def scr150 : Scr := (.q 2 (.q 3 (.q 2 (.cond (.q 2 (.q 2 .nil)) (.q 2 (.q 2 (.cut (dr [(5, some (.int .i64))] [(6,1),(16,26)]) (.cond (.q 5 (.q 3 (.run [0,1,2,3,4,5] (.split 27 (.run [6,7,8,9] (.split 31 (.r [10,11,12,13] (.cond (.q 5 (.q 2 .nil)) .nil)) (.r [10,11,12,13] (.lit .nil)))) (.r [6,7,8,9,10,11,12,13] (.lit .nil)))))) .nil) (.q 3 (.cond (.q 2 (.q 4 .nil)) (.q 4 .nil))))))))))
theorem vc150 {b1 o2} {R w} (h : V150 b1 o2 R w) : Cl Try.prog 150 [.pointer (some ⟨b1, o2, none⟩)] w R :=
  cl_of scr150 Try.func150 (by kernel_rfl) _ _ (by kernel_rfl) h
/-- (*spec.l1R).escape -/
def V166 (b1 o2 : Nat) (a3 : Option Addr) (l3 c3 : Nat) (R : Rt) : Pred := fun w =>
  clB 78 ([.pointer (some ⟨b1, o2, none⟩)]) w R fun t4 w5 => (cB (!t4) (clU 79 ([.pointer (some ⟨b1, o2, none⟩)]) w5 R fun w7 => R (.returned (.tuple #[.int .i64 0, .bool false])) w7) (drw (fun w9 => lS w9 b1 o2 fun s10 => lI w9 b1 (o2 + 1) fun n11 => (ixT s10 n11) ∧ (cB ((byteAt s10 (Int.toNat n11)) == 100) (clU 165 ([.slice a3 l3 c3, .int .i64 48, .int .i64 57]) w9 R fun w12 => lI w12 b1 (o2 + 1) fun n14 => stW b1 (o2 + 1) [.int .i64 (IntKind.wrap .i64 (n14 + 1))] (fun w15 => R (.returned (.tuple #[.int .i64 0, .bool false])) w15) w12) ((cB ((byteAt s10 (Int.toNat n11)) == 119) (clU 165 ([.slice a3 l3 c3, .int .i64 48, .int .i64 57]) w9 R fun w16 => clU 165 ([.slice a3 l3 c3, .int .i64 65, .int .i64 90]) w16 R fun w18 => clU 165 ([.slice a3 l3 c3, .int .i64 97, .int .i64 122]) w18 R fun w20 => clU 165 ([.slice a3 l3 c3, .int .i64 95, .int .i64 95]) w20 R fun w22 => lI w22 b1 (o2 + 1) fun n24 => stW b1 (o2 + 1) [.int .i64 (IntKind.wrap .i64 (n24 + 1))] (fun w25 => R (.returned (.tuple #[.int .i64 0, .bool false])) w25) w22) ((cB ((byteAt s10 (Int.toNat n11)) == 115) (clU 165 ([.slice a3 l3 c3, .int .i64 9, .int .i64 10]) w9 R fun w26 => clU 165 ([.slice a3 l3 c3, .int .i64 13, .int .i64 13]) w26 R fun w28 => clU 165 ([.slice a3 l3 c3, .int .i64 32, .int .i64 32]) w28 R fun w30 => lI w30 b1 (o2 + 1) fun n32 => stW b1 (o2 + 1) [.int .i64 (IntKind.wrap .i64 (n32 + 1))] (fun w33 => R (.returned (.tuple #[.int .i64 0, .bool false])) w33) w30) ((cB ((byteAt s10 (Int.toNat n11)) == 110) ((cB ((byteAt s10 (Int.toNat n11)) == 116) (lI w9 b1 (o2 + 1) fun n34 => stW b1 (o2 + 1) [.int .i64 (IntKind.wrap .i64 (n34 + 1))] (fun w35 => ixS a3 l3 9 fun b36 o37 => stW b36 (o37 + 9) [.bool true] (fun w38 => R (.returned (.tuple #[.int .i64 9, .bool true])) w38) w35) w9) ((cB ((byteAt s10 (Int.toNat n11)) == 114) (lI w9 b1 (o2 + 1) fun n39 => stW b1 (o2 + 1) [.int .i64 (IntKind.wrap .i64 (n39 + 1))] (fun w40 => ixS a3 l3 13 fun b41 o42 => stW b41 (o42 + 13) [.bool true] (fun w43 => R (.returned (.tuple #[.int .i64 13, .bool true])) w43) w40) w9) (lI w9 b1 (o2 + 1) fun n44 => stW b1 (o2 + 1) [.int .i64 (IntKind.wrap .i64 (n44 + 1))] (fun w45 => ixS a3 l3 10 fun b46 o47 => stW b46 (o47 + 10) [.bool true] (fun w48 => R (.returned (.tuple #[.int .i64 10, .bool true])) w48) w45) w9))))) ((cB ((byteAt s10 (Int.toNat n11)) == 116) ((cB ((byteAt s10 (Int.toNat n11)) == 116) (lI w9 b1 (o2 + 1) fun n49 => stW b1 (o2 + 1) [.int .i64 (IntKind.wrap .i64 (n49 + 1))] (fun w50 => ixS a3 l3 9 fun b51 o52 => stW b51 (o52 + 9) [.bool true] (fun w53 => R (.returned (.tuple #[.int .i64 9, .bool true])) w53) w50) w9) ((cB ((byteAt s10 (Int.toNat n11)) == 114) (lI w9 b1 (o2 + 1) fun n54 => stW b1 (o2 + 1) [.int .i64 (IntKind.wrap .i64 (n54 + 1))] (fun w55 => ixS a3 l3 13 fun b56 o57 => stW b56 (o57 + 13) [.bool true] (fun w58 => R (.returned (.tuple #[.int .i64 13, .bool true])) w58) w55) w9) (lI w9 b1 (o2 + 1) fun n59 => stW b1 (o2 + 1) [.int .i64 (IntKind.wrap .i64 (n59 + 1))] (fun w60 => ixS a3 l3 10 fun b61 o62 => stW b61 (o62 + 10) [.bool true] (fun w63 => R (.returned (.tuple #[.int .i64 10, .bool true])) w63) w60) w9))))) ((cB ((byteAt s10 (Int.toNat n11)) == 114) ((cB ((byteAt s10 (Int.toNat n11)) == 116) (lI w9 b1 (o2 + 1) fun n64 => stW b1 (o2 + 1) [.int .i64 (IntKind.wrap .i64 (n64 + 1))] (fun w65 => ixS a3 l3 9 fun b66 o67 => stW b66 (o67 + 9) [.bool true] (fun w68 => R (.returned (.tuple #[.int .i64 9, .bool true])) w68) w65) w9) ((cB ((byteAt s10 (Int.toNat n11)) == 114) (lI w9 b1 (o2 + 1) fun n69 => stW b1 (o2 + 1) [.int .i64 (IntKind.wrap .i64 (n69 + 1))] (fun w70 => ixS a3 l3 13 fun b71 o72 => stW b71 (o72 + 13) [.bool true] (fun w73 => R (.returned (.tuple #[.int .i64 13, .bool true])) w73) w70) w9) (lI w9 b1 (o2 + 1) fun n74 => stW b1 (o2 + 1) [.int .i64 (IntKind.wrap .i64 (n74 + 1))] (fun w75 => ixS a3 l3 10 fun b76 o77 => stW b76 (o77 + 10) [.bool true] (fun w78 => R (.returned (.tuple #[.int .i64 10, .bool true])) w78) w75) w9))))) ((cB ((byteAt s10 (Int.toNat n11)) == 120) (lI w9 b1 (o2 + 1) fun n79 => stW b1 (o2 + 1) [.int .i64 (IntKind.wrap .i64 (n79 + 1))] (fun w80 => ∃ (I81 : Nat → Int → Int → World → Prop), (∃ k83, I81 k83 0 0 w80) ∧ ∀ k82 (d85 : Nat → Value) n86 n87 w84, I81 k82 n86 n87 w84 → (cB (decide (n87 < 2)) (drw (fun w88 => clB 78 ([.pointer (some ⟨b1, o2, none⟩)]) w88 R fun t89 w90 => (cB (!t89) (clU 79 ([.pointer (some ⟨b1, o2, none⟩)]) w90 R fun w92 => R (.returned (.tuple #[.int .i64 0, .bool false])) w92) (lS w90 b1 o2 fun s94 => lI w90 b1 (o2 + 1) fun n95 => (ixT s94 n95) ∧ clI 169 ([.int .u8 (byteAt s94 (Int.toNat n95))]) w90 R fun n96 w97 => (cB (decide (n96 < 0)) (clU 79 ([.pointer (some ⟨b1, o2, none⟩)]) w97 R fun w99 => R (.returned (.tuple #[.int .i64 0, .bool false])) w99) (drw (fun w101 => lS w101 b1 o2 fun s102 => lI w101 b1 (o2 + 1) fun n103 => (ixT s102 n103) ∧ clI 169 ([.int .u8 (byteAt s102 (Int.toNat n103))]) w101 R fun n104 w105 => lI w105 b1 (o2 + 1) fun n107 => stW b1 (o2 + 1) [.int .i64 (IntKind.wrap .i64 (n107 + 1))] (fun w108 => (∃ m109, m109 < k82 ∧ I81 m109 (IntKind.wrap .i64 ((IntKind.wrap .i64 (n86 * 16)) + n104)) (IntKind.wrap .i64 (n87 + 1)) w108)) w105) w97))))) w84) (ixS a3 l3 n86 fun b110 o111 => stW b110 (o111 + (Int.toNat n86) * 1) [.bool true] (fun w112 => R (.returned (.tuple #[.int .i64 n86, .bool true])) w112) w84))) w9) (∃ (J113 : Bool → World → Prop), ((cB (decide ((byteAt s10 (Int.toNat n11)) ≥ 97)) ((cB (decide ((byteAt s10 (Int.toNat n11)) ≤ 122)) (J113 true w9) ((cB (decide ((byteAt s10 (Int.toNat n11)) ≥ 65)) ((cB (decide ((byteAt s10 (Int.toNat n11)) ≤ 90)) (J113 true w9) ((cB (decide ((byteAt s10 (Int.toNat n11)) ≥ 48)) (J113 (decide ((byteAt s10 (Int.toNat n11)) ≤ 57)) w9) (J113 false w9))))) ((cB (decide ((byteAt s10 (Int.toNat n11)) ≥ 48)) (J113 (decide ((byteAt s10 (Int.toNat n11)) ≤ 57)) w9) (J113 false w9))))))) ((cB (decide ((byteAt s10 (Int.toNat n11)) ≥ 65)) ((cB (decide ((byteAt s10 (Int.toNat n11)) ≤ 90)) (J113 true w9) ((cB (decide ((byteAt s10 (Int.toNat n11)) ≥ 48)) (J113 (decide ((byteAt s10 (Int.toNat n11)) ≤ 57)) w9) (J113 false w9))))) ((cB (decide ((byteAt s10 (Int.toNat n11)) ≥ 48)) (J113 (decide ((byteAt s10 (Int.toNat n11)) ≤ 57)) w9) (J113 false w9))))))) ∧ ∀ (d114 : Nat → Value) t115 w116, J113 t115 w116 → (cB t115 (clU 79 ([.pointer (some ⟨b1, o2, none⟩)]) w116 R fun w117 => R (.returned (.tuple #[.int .i64 0, .bool false])) w117) ((cB (decide ((byteAt s10 (Int.toNat n11)) < 33)) (clU 79 ([.pointer (some ⟨b1, o2, none⟩)]) w116 R fun w119 => R (.returned (.tuple #[.int .i64 0, .bool false])) w119) ((cB (decide ((byteAt s10 (Int.toNat n11)) > 126)) (clU 79 ([.pointer (some ⟨b1, o2, none⟩)]) w116 R fun w121 => R (.returned (.tuple #[.int .i64 0, .bool false])) w121) (lI w116 b1 (o2 + 1) fun n123 => stW b1 (o2 + 1) [.int .i64 (IntKind.wrap .i64 (n123 + 1))] (fun w124 => ixS a3 l3 (IntKind.wrap .i64 (byteAt s10 (Int.toNat n11))) fun b125 o126 => stW b125 (o126 + (Int.toNat (IntKind.wrap .i64 (byteAt s10 (Int.toNat n11)))) * 1) [.bool true] (fun w127 => R (.returned (.tuple #[.int .i64 (IntKind.wrap .i64 (byteAt s10 (Int.toNat n11))), .bool true])) w127) w124) w116))))))))))))))))))))) w5))
def scr166 : Scr := (.q 2 (.q 3 (.cond (.q 2 (.q 2 .nil)) (.q 10 (.q 1 (.q 2 (.cond (.q 2 (.q 8 (.q 2 .nil))) (.q 2 (.cond (.q 2 (.q 2 (.q 2 (.q 2 (.q 8 (.q 2 .nil)))))) (.q 2 (.cond (.q 2 (.q 2 (.q 2 (.q 8 (.q 2 .nil))))) (.q 2 (.cond (.lit (.q 1 (.q 2 (.cond (.q 1 (.q 8 (.q 4 (.q 3 .nil)))) (.q 2 (.cond (.q 1 (.q 8 (.q 4 (.q 3 .nil)))) (.q 8 (.q 4 (.q 3 .nil))))))))) (.q 2 (.cond (.lit (.q 1 (.q 2 (.cond (.q 1 (.q 8 (.q 4 (.q 3 .nil)))) (.q 2 (.cond (.q 1 (.q 8 (.q 4 (.q 3 .nil)))) (.q 8 (.q 4 (.q 3 .nil))))))))) (.q 2 (.cond (.q 1 (.q 2 (.cond (.q 1 (.q 8 (.q 4 (.q 3 .nil)))) (.q 2 (.cond (.q 1 (.q 8 (.q 4 (.q 3 .nil)))) (.q 8 (.q 4 (.q 3 .nil)))))))) (.q 2 (.cond (.q 8 (.q 1 (.q 1 (.loop (dr [(8, some (.int .i64)), (9, some (.int .i64))] [(4,2),(122,42)]) (.q 2 (.cond (.run [0,1,2,3] (.split 129 (.r [4,5,6,7,8,9,10,11,12,13,14,15] (.lit (.q 2 (.q 2 .nil)))) (.r [4,5,6,7,8,9,10,11,12,13,14,15] (.cond (.q 2 (.q 2 .nil)) (.q 14 (.q 8 (.q 3 .nil))))))) (.q 4 (.q 3 .nil)))))))) (.cutS (dr [(10, some .bool)] [(26,22)]) (.run [0,1,2] (.split 28 (.run [3,4,5,6] (.split 32 (.r [7,8,9,10,11,12,13,14,15,16,17,18,19,20,21,22] .nil) (.run [7,8,9] (.split 35 (.run [10,11,12,13,14] (.split 40 (.r [15,16,17,18,19,20,21,22] .nil) (.run [15,16,17] (.split 43 (.r [18,19,20,21,22] .nil) (.r [18,19,20,21,22] .nil))))) (.run [10,11,12,13,14,15,16,17] (.split 43 (.r [18,19,20,21,22] .nil) (.r [18,19,20,21,22] .nil))))))) (.run [3,4,5,6,7,8,9] (.split 35 (.run [10,11,12,13,14] (.split 40 (.r [15,16,17,18,19,20,21,22] .nil) (.run [15,16,17] (.split 43 (.r [18,19,20,21,22] .nil) (.r [18,19,20,21,22] .nil))))) (.run [10,11,12,13,14,15,16,17] (.split 43 (.r [18,19,20,21,22] .nil) (.r [18,19,20,21,22] .nil))))))) (.run [0,1] (.split 49 (.r [2,3,4,5,6,7,8] (.lit (.q 2 (.q 2 .nil)))) (.run [2,3,4,5] (.split 53 (.r [6,7,8] (.lit (.q 2 (.q 2 .nil)))) (.r [6,7,8] (.cond (.q 2 (.q 2 .nil)) (.q 8 (.q 5 (.q 4 .nil)))))))))))))))))))))))))))))
theorem vc166 {b1 o2 a3 l3 c3} {R w} (h : V166 b1 o2 a3 l3 c3 R w) : Cl Try.prog 166 [.pointer (some ⟨b1, o2, none⟩), .slice a3 l3 c3] w R :=
  cl_of scr166 Try.func166 (by kernel_rfl) _ _ (by kernel_rfl) h
end Go.Proofs.Ytngbiaeliphdjaa.V
/- The reference's reader: its small functions. No statement of the seat is proved here. -/
namespace Go.Vc
open Go.RowKit
set_option linter.unusedVariables false
set_option linter.unusedSimpArgs false
theorem madeCells_one (z : Value) (n : Nat) : madeCells #[z] n = ⟨List.replicate n z⟩ := by
  apply Array.ext
  · simp [madeCells]
  · intro i h1 h2
    simp [madeCells, Nat.mod_one]
/-- A slice that is made: its cells are one value, again and again. -/
theorem make_in {P : Program} {t e : TypeId} {i : TypeInfo} {z : Value} (ht : P.underlying t = some (.slice e)) (hi : P.info? e = some i) (hz : i.zero = some z) {z1 : Value} (hz1 : z.cells = #[z1]) (hs : i.size = 1) {by_ : Nat} (hby : i.bytes = by_) (hb8 : by_ ≤ 100) (n : Nat) (hn : n ≤ 1000000000) (w : World) :
    ∃ w', (Instr.makeSlice t (.int .i64 n) (.int .i64 n)).run P w = .ok (.slice (some ⟨w.heap.size, 0, none⟩) n n) w' ∧ w'.heap.size = w.heap.size + 1 ∧ Blk w'.heap w.heap.size e (List.replicate n z1) ∧ Ext (fun _ => False) w w' := by
  have hbb : (i.bytes : Int) * (n : Int) ≤ 281474976710656 := by
    have h : i.bytes * n ≤ 281474976710656 := by
      have := Nat.mul_le_mul (show i.bytes ≤ 100 by omega) hn
      omega
    have h2 : ((i.bytes * n : Nat) : Int) ≤ 281474976710656 := by omega
    rwa [Int.natCast_mul] at h2
  have hr := run_make (P := P) w t e i z ht hi hz .i64 .i64 n n (by omega) (Int.le_refl _) hbb (by omega)
  refine ⟨_, hr, ?_, ?_, ?_⟩
  · exact size_newW w _
  · rw [hz1, hs, madeCells_one, Int.toNat_natCast, Nat.mul_one]
    exact Blk.new w e _
  · exact (Ext.refl _ w).vnew _
end Go.Vc
namespace Go.Proofs.Ytngbiaeliphdjaa.V
open Go.Vc Go.Proofs Go.RowKit
set_option linter.unusedVariables false
set_option linter.unusedSimpArgs false

theorem make256 (w : World) : ∃ w', (Instr.makeSlice 59 (.int .i64 256) (.int .i64 256)).run Try.prog w = .ok (.slice (some ⟨w.heap.size, 0, none⟩) 256 256) w' ∧ w'.heap.size = w.heap.size + 1 ∧ Blk w'.heap w.heap.size 4 (b256 fun _ => false) ∧ Ext (fun _ => False) w w' := by
  rw [b256_false]
  exact make_in (P := Try.prog) (t := 59) (e := 4) (i := Try.t4) (z := .bool false) (by kernel_rfl) (by kernel_rfl) (by kernel_rfl) (z1 := .bool false) rfl (by kernel_rfl) (by_ := 1) (by kernel_rfl) (by decide) 256 (by decide) w

/-- The reference's reader. -/
def Sd (w : World) (b : Nat) (s : ByteArray) (i : Nat) (bd : Int) (g : Nat) (a : Option Addr) (ln c : Nat) : Prop := Blk w.heap b 97 [.string s, .int .i64 i, .int .i64 bd, .int .i64 g, .slice a ln c]
theorem Sd.below {w w' : World} {b : Nat} {s : ByteArray} {i g : Nat} {bd : Int} {a : Option Addr} {ln c : Nat} (h : Sd w b s i bd g a ln c) (k : Below w.heap.size w w') : Sd w' b s i bd g a ln c := Blk.below h k
theorem Sd.mv {w : World} {b : Nat} {s : ByteArray} {i g : Nat} {bd : Int} {a : Option Addr} {ln c : Nat} (h : Sd w b s i bd g a ln c) {n : Int} {j : Nat} (hn : n = j) {K : World → Prop} (hK : ∀ w1, w1.heap.size = w.heap.size → Sd w1 b s j bd g a ln c → Ext (fun k => k = b) w w1 → K w1) :
    stW b (0 + 1) [.int .i64 n] K w := by
  subst hn
  exact stW_in h (by show 0 + 1 + 1 ≤ 5; decide) fun w1 s1 k1 e1 => hK w1 s1 k1 e1
section
variable {w : World} {b : Nat} {s : ByteArray} {i g : Nat} {a : Option Addr} {ln c : Nat}
theorem more_ok (h : Sd w b s i (-1) g a ln c) : Cl Try.prog 78 [.pointer (some ⟨b, 0, none⟩)] w (RetB (.bool (decide (i < s.size))) w) := by
  apply vc78
  unfold V78
  refine drw_in fun w1 q1 e1 => ?_
  have h1 := Blk.keep h e1 fun h => h
  have E := Ext.to (Below.refl _ _) e1 fun _ h => h.elim
  refine ⟨-1, h1.cell 2, fun _ => ⟨i, h1.cell 1, s, h1.cell 0, ?_, E⟩, fun g => ?_⟩
  · simp only [Int.ofNat_lt]
  · exact absurd (of_decide_eq_false g) (by decide)
theorem more_bad {n : Nat} (h : Sd w b s i n g a ln c) : Cl Try.prog 78 [.pointer (some ⟨b, 0, none⟩)] w (RetB (.bool false) w) := by
  apply vc78
  unfold V78
  refine drw_in fun w1 q1 e1 => ?_
  have h1 := Blk.keep h e1 fun h => h
  have E := Ext.to (Below.refl _ _) e1 fun _ h => h.elim
  refine ⟨n, h1.cell 2, fun g => ?_, fun _ => ⟨rfl, E⟩⟩
  have := of_decide_eq_true g; omega
theorem sfail_ok (h : Sd w b s i (-1) g a ln c) : Cl Try.prog 79 [.pointer (some ⟨b, 0, none⟩)] w (fun e w' => e = .returned (.tuple #[]) ∧ Sd w' b s i i g a ln c ∧ Ext (fun k => k = b) w w') := by
  apply vc79
  unfold V79
  refine ⟨-1, h.cell 2, fun _ => ⟨i, h.cell 1, stW_in h (by show 0 + 2 + 1 ≤ 5; decide) fun w1 s1 k1 e1 => ⟨rfl, k1, e1⟩⟩, fun g => ?_⟩
  exact absurd (of_decide_eq_false g) (by decide)
theorem sfail_bad {n : Nat} (h : Sd w b s i n g a ln c) : Cl Try.prog 79 [.pointer (some ⟨b, 0, none⟩)] w (RetB (.tuple #[]) w) := by
  apply vc79
  unfold V79
  refine ⟨n, h.cell 2, fun g => ?_, fun _ => ⟨rfl, Below.refl _ _⟩⟩
  have := of_decide_eq_true g; omega
theorem is_yes (h : Sd w b s i (-1) g a ln c) {ch : Nat} (hi : i < s.size) (hl : s.size ≤ 100000) (hc : at_ (L s) i = ch) {ch' : Int} (hch : ch' = ch) : Cl Try.prog 112 [.pointer (some ⟨b, 0, none⟩), .int .u8 ch'] w (fun e w' => e = .returned (.bool true) ∧ Sd w' b s (i + 1) (-1) g a ln c ∧ Ext (fun k => k = b) w w') := by
  subst hch
  apply vc112
  unfold V112
  refine drw_in fun w1 q1 e1 => ?_
  have h1 : Sd w1 b s i (-1) g a ln c := Blk.keep h e1 fun h => h
  refine (more_ok h1).ret fun w2 b2 => ⟨_, rfl, fun _ => ?_, fun g => ?_⟩
  · have h2 := h1.below b2
    refine ⟨s, h2.cell 0, i, h2.cell 1, ⟨by omega, by omega⟩, ?_⟩
    rw [byteI s (j := i) rfl, hc]
    refine ⟨fun _ => ⟨i, h2.cell 1, h2.mv (j := i + 1) (by rw [w64 (by omega)]; omega) fun w3 s3 h3 e3 => ⟨rfl, h3, ?_⟩⟩, fun g => ?_⟩
    · exact ((Ext.mono e1 fun _ _ h => h.elim).trans (Ext.of_below b2)).trans e3
    · simp at g
  · have := of_decide_eq_false g; omega
theorem is_no (h : Sd w b s i (-1) g a ln c) {ch : Nat} (hc : ¬ (i < s.size ∧ at_ (L s) i = ch)) {ch' : Int} (hch : ch' = ch) : Cl Try.prog 112 [.pointer (some ⟨b, 0, none⟩), .int .u8 ch'] w (RetB (.bool false) w) := by
  subst hch
  apply vc112
  unfold V112
  refine drw_in fun w1 q1 e1 => ?_
  have h1 : Sd w1 b s i (-1) g a ln c := Blk.keep h e1 fun h => h
  have E1 := Ext.to (Below.refl _ _) e1 fun _ h => h.elim
  refine (more_ok h1).ret fun w2 b2 => ⟨_, rfl, fun g => ?_, fun g => ⟨rfl, E1.vstep b2⟩⟩
  have g' := of_decide_eq_true g
  have h2 := h1.below b2
  refine ⟨s, h2.cell 0, i, h2.cell 1, ⟨by omega, by omega⟩, ?_⟩
  rw [byteI s (j := i) rfl]
  refine ⟨fun g => ?_, fun g => ⟨rfl, E1.vstep b2⟩⟩
  simp only [beq_iff_eq] at g
  omega
theorem is_bad {n : Nat} (h : Sd w b s i n g a ln c) (ch' : Int) : Cl Try.prog 112 [.pointer (some ⟨b, 0, none⟩), .int .u8 ch'] w (RetB (.bool false) w) := by
  apply vc112
  unfold V112
  refine drw_in fun w1 q1 e1 => ?_
  have h1 : Sd w1 b s i n g a ln c := Blk.keep h e1 fun h => h
  have E1 := Ext.to (Below.refl _ _) e1 fun _ h => h.elim
  refine (more_bad h1).ret fun w2 b2 => ⟨_, rfl, fun g => (by cases g), fun g => ⟨rfl, E1.vstep b2⟩⟩
end
/-- One digit. -/
theorem shex_ok (n : Nat) (hn : n < 256) {n' : Int} (h : n' = n) (w : World) : Cl Try.prog 169 [.int .u8 n'] w (RetB (.int .i64 (match hexv n with | some v => (v : Int) | none => -1)) w) := by
  subst h
  apply vc169
  unfold V169
  have B := Below.refl w.heap.size w
  have w1 : IntKind.wrap .i64 (IntKind.wrap .u8 ((n : Int) - 48)) = ((n : Int) - 48) % 256 := by rw [w8, w64 (by omega)]
  have w2 : IntKind.wrap .i64 (IntKind.wrap .i64 (IntKind.wrap .u8 ((n : Int) - 97)) + 10) = ((n : Int) - 97) % 256 + 10 := by rw [w8, w64 (n := ((n : Int) - 97) % 256) (by omega), w64 (by omega)]
  have r1 : 48 ≤ n → n ≤ 57 → RetB (.int .i64 (match hexv n with | some v => (v : Int) | none => -1)) w (.returned (.int .i64 (IntKind.wrap .i64 (IntKind.wrap .u8 ((n : Int) - 48))))) w := by
    intro h1 h2
    rw [show hexv n = some (n - 48) from by unfold hexv; rw [if_pos ⟨h1, h2⟩], w1]
    refine ⟨?_, B⟩
    show Ending.returned (.int .i64 _) = .returned (.int .i64 ((n - 48 : Nat) : Int))
    rw [show ((n : Int) - 48) % 256 = ((n - 48 : Nat) : Int) from by omega]
  have r2 : 97 ≤ n → n ≤ 102 → RetB (.int .i64 (match hexv n with | some v => (v : Int) | none => -1)) w (.returned (.int .i64 (IntKind.wrap .i64 (IntKind.wrap .i64 (IntKind.wrap .u8 ((n : Int) - 97)) + 10)))) w := by
    intro h1 h2
    rw [show hexv n = some (n - 87) from by unfold hexv; rw [if_neg (by omega), if_pos ⟨h1, h2⟩], w2]
    refine ⟨?_, B⟩
    show Ending.returned (.int .i64 _) = .returned (.int .i64 ((n - 87 : Nat) : Int))
    rw [show ((n : Int) - 97) % 256 + 10 = ((n - 87 : Nat) : Int) from by omega]
  have r3 : ¬ (48 ≤ n ∧ n ≤ 57) → ¬ (97 ≤ n ∧ n ≤ 102) → RetB (.int .i64 (match hexv n with | some v => (v : Int) | none => -1)) w (.returned (.int .i64 (-1))) w := by
    intro h1 h2
    rw [show hexv n = none from by unfold hexv; rw [if_neg h1, if_neg h2]]
    exact ⟨rfl, B⟩
  refine ⟨fun g1 => ⟨fun g2 => ?_, fun g2 => ⟨fun g3 => ⟨fun g4 => ?_, fun g4 => ?_⟩, fun g3 => ?_⟩⟩, fun g1 => ⟨fun g3 => ⟨fun g4 => ?_, fun g4 => ?_⟩, fun g3 => ?_⟩⟩
  all_goals try simp only [decide_eq_true_eq, decide_eq_false_iff_not] at g1
  all_goals try simp only [decide_eq_true_eq, decide_eq_false_iff_not] at g2
  all_goals try simp only [decide_eq_true_eq, decide_eq_false_iff_not] at g3
  all_goals try simp only [decide_eq_true_eq, decide_eq_false_iff_not] at g4
  · exact r1 (by omega) (by omega)
  · exact r2 (by omega) (by omega)
  all_goals first
    | exact r3 (by omega) (by omega)
    | exact r2 (by omega) (by omega)
/-- A row of bytes is put into a set. -/
theorem srange_ok {w : World} {k : Nat} {f : Nat → Bool} (h : Blk w.heap k 4 (b256 f)) (lo hi : Nat) (hh : hi < 256) {lo' hi' : Int} (e1 : lo' = lo) (e2 : hi' = hi) :
    Cl Try.prog 165 [.slice (some ⟨k, 0, none⟩) 256 256, .int .i64 lo', .int .i64 hi'] w (fun e w' => e = .returned (.tuple #[]) ∧ Blk w'.heap k 4 (b256 fun n => f n || inR [(lo, hi)] n) ∧ Ext (fun x => x = k) w w') := by
  subst e1 e2
  apply vc165
  unfold V165
  refine ⟨fun m j w' => ∃ i : Nat, j = i ∧ lo ≤ i ∧ (i ≤ hi + 1 ∨ i = lo) ∧ m = hi + 1 - i ∧ Blk w'.heap k 4 (b256 fun n => f n || decide (lo ≤ n ∧ n < i)) ∧ Ext (fun x => x = k) w w', ⟨_, lo, rfl, Nat.le_refl _, .inr rfl, rfl, ?_, Ext.refl _ _⟩, ?_⟩
  · rw [b256_ext (g := f) fun n _ => by rw [decide_eq_false (by omega), Bool.or_false]]; exact h
  rintro m d j w1 ⟨i, rfl, hl, hi2, rfl, hB, hE⟩
  refine ⟨fun g => ?_, fun g => ?_⟩
  · have g' : i ≤ hi := by have := of_decide_eq_true g; omega
    refine ⟨k, 0, ⟨rfl, by omega, by show (i : Int) < 256; omega⟩, ?_⟩
    dsimp only
    rw [show 0 + Int.toNat (i : Int) * 1 = i from by omega]
    refine stW_in hB (by rw [b256_length]; show i + 1 ≤ 256; omega) fun w2 s2 k2 e2 => ?_
    refine ⟨hi + 1 - (i + 1), by omega, i + 1, by rw [w64 (by omega)]; omega, by omega, .inl (by omega), rfl, ?_, hE.trans e2⟩
    have : segSet (b256 fun n => f n || decide (lo ≤ n ∧ n < i)) i [.bool true] = b256 fun n => f n || decide (lo ≤ n ∧ n < i + 1) := by
      show (b256 _).set i _ = _
      rw [b256_set]
      apply b256_ext
      intro n hn
      by_cases hni : n = i
      · subst hni; simp [hl]
      · rw [if_neg hni]; congr 1; apply decide_eq_decide.2; omega
    rw [this] at k2; exact k2
  · have g' : ¬ i ≤ hi := by have := of_decide_eq_false g; omega
    refine ⟨rfl, ?_, hE⟩
    rw [b256_ext (g := fun n => f n || decide (lo ≤ n ∧ n < i)) fun n _ => ?_]
    · exact hB
    · rw [inR_one]; congr 1; apply decide_eq_decide.2; omega
/-- One byte is put into a set. -/
theorem set_one (f : Nat → Bool) (v : Nat) : segSet (b256 f) v [.bool true] = b256 fun n => f n || inR [(v, v)] n := by
  show (b256 f).set v _ = _
  rw [b256_set]
  apply b256_ext
  intro n hn
  rw [inR_one]
  by_cases hni : n = v
  · subst hni; simp
  · rw [if_neg hni, decide_eq_false (by omega), Bool.or_false]
theorem st_one {w : World} {k v : Nat} {f : Nat → Bool} (h : Blk w.heap k 4 (b256 f)) (hv : v < 256) {o : Nat} (ho : o = v) {K : World → Prop} (hK : ∀ w', w'.heap.size = w.heap.size → Blk w'.heap k 4 (b256 fun n => f n || inR [(v, v)] n) → Ext (fun x => x = k) w w' → K w') : stW k o [.bool true] K w := by
  subst ho
  refine stW_in h (by rw [b256_length]; show o + 1 ≤ 256; omega) fun w2 s2 k2 e2 => hK w2 s2 ?_ e2
  rw [set_one] at k2; exact k2
/-- A set's rows. -/
theorem sset_ok {w : World} {k : Nat} {f : Nat → Bool} (h : Blk w.heap k 4 (b256 f)) :
    Cl Try.prog 167 [.slice (some ⟨k, 0, none⟩) 256 256] w (fun e w' => ∃ a c, e = .returned (.slice a (runs f).length c) ∧ Row w.heap.size w' 134 2 a (runs f).length c (rngC (runs f)) ∧ Below w.heap.size w w') := by
  apply vc167
  unfold V167
  have hbl := h.lt
  refine ⟨fun m a l c n w' => ∃ (i : Nat) (xs : List (Int × Int)), n = i ∧ m = 256 - i ∧ l = xs.length ∧ SetInv f i xs ∧ xs.length ≤ i ∧ i ≤ 256 ∧ Row w.heap.size w' 134 2 a l c (rngC xs) ∧ Below w.heap.size w w',
    ⟨_, 0, [], rfl, rfl, rfl, SetInv.init f, Nat.le_refl _, by omega, Row.nil _ _ (Nat.le_refl _), Below.refl _ _⟩, ?_⟩
  rintro m d a l c n w1 ⟨i, xs, rfl, rfl, rfl, hI, hx, hi, hR, hb⟩
  refine ⟨fun g => ?_, fun g => ?_⟩
  · have g' : i < 256 := by have := of_decide_eq_true g; omega
    have e1 : IntKind.wrap .i64 ((i : Int) + 1) = ((i + 1 : Nat) : Int) := by rw [w64 (by omega)]; omega
    refine ⟨k, 0, ⟨rfl, by omega, by show (i : Int) < 256; omega⟩, f i, ?_, fun g1 => ?_, fun g1 => ?_⟩
    · rw [(h.below hb).cell, show 0 + Int.toNat (i : Int) * 1 = i from by omega]; exact b256_get f i g'
    · have hf : f i = false := by simpa using g1
      exact ⟨256 - (i + 1), by omega, i + 1, xs, e1, rfl, rfl, hI.no g' hf, by omega, by omega, hR, hb⟩
    · have hf : f i = true := by simpa using g1
      have hnew : (∀ ys lo hi, xs = ys ++ [(lo, hi)] → hi ≠ (i : Int) - 1) → newC [.int .i64 (i : Int), .int .i64 (i : Int)] 134 (fun (b20 : Nat) (w21 : World) => ∃ (a22 : Option Addr), ∃ (l22 : Nat), ∃ (c22 : Nat), ∃ (w23 : World), (Builtin.append_ #[108, 108] 108 #[.slice a xs.length c, .slice (some ⟨b20, 0, none⟩) 1 1]).run Try.prog w21 = .ok (.slice a22 l22 c22) w23 ∧ (∃ (m24 : Nat), m24 < 256 - i ∧
          (fun (m : Nat) (a : Option Addr) (l c : Nat) (n : Int) (w' : World) => ∃ (i : Nat) (xs : List (Int × Int)), n = i ∧ m = 256 - i ∧ l = xs.length ∧ SetInv f i xs ∧ xs.length ≤ i ∧ i ≤ 256 ∧ Row w.heap.size w' 134 2 a l c (rngC xs) ∧ Below w.heap.size w w') m24 a22 l22 c22 (IntKind.wrap .i64 ((i : Int) + 1)) w23)) w1 := by
        intro hn
        obtain ⟨a3, c3, w3, r1, r2, r3⟩ := hR.app1 elemRng (ys := [.int .i64 (i : Int), .int .i64 (i : Int)]) (n := 1) rfl rfl (by omega) (by omega)
        refine ⟨a3, _, c3, w3, r1, 256 - (i + 1), by omega, i + 1, xs ++ [((i : Int), (i : Int))], e1, rfl, by simp, hI.new g' hf hn, by simp; omega, by omega, ?_, r3.step hb (Nat.le_refl _)⟩
        rw [rngC_append]; exact r2
      refine ⟨fun g2 => ?_, fun g2 => ?_⟩
      · have g2' : 0 < xs.length := by have := of_decide_eq_true g2; omega
        obtain ⟨ys, p, hxs⟩ : ∃ ys p, xs = ys ++ [p] := ⟨xs.dropLast, xs.getLast (by intro h; subst h; simp at g2'), (List.dropLast_concat_getLast _).symm⟩
        obtain ⟨lo, hi0⟩ := p
        subst hxs
        have hlen : (ys ++ [(lo, hi0)]).length = ys.length + 1 := by simp
        have ew : IntKind.wrap .i64 ((((ys ++ [(lo, hi0)]).length : Nat) : Int) - 1) = (ys.length : Int) := by rw [w64 (by omega)]; omega
        have ew2 : IntKind.wrap .i64 ((i : Int) - 1) = (i : Int) - 1 := w64 (by omega)
        rw [ew, ew2]
        obtain ⟨b9, cs, rfl, hB9, hc9, hN9, hat⟩ := hR.at (by omega)
        have hget : cellH w1.heap b9 (ys.length * 2 + 1) = some (.int .i64 hi0) := by
          rw [hat _ (by omega), rngC_append, List.getElem?_append_right (by rw [rngC_length]; omega), rngC_length]
          rw [show ys.length * 2 + 1 - ys.length * 2 = 1 from by omega]
          rfl
        refine ⟨b9, 0, ⟨rfl, by omega, by omega⟩, hi0, ?_, fun g3 => ?_, fun g3 => ?_⟩
        · rw [show 0 + Int.toNat (ys.length : Int) * 2 + 1 = ys.length * 2 + 1 from by omega]; exact hget
        · have g3' : hi0 = (i : Int) - 1 := by simpa using g3
          refine ⟨b9, 0, ⟨rfl, by omega, by omega⟩, ?_⟩
          dsimp only
          rw [show 0 + Int.toNat (ys.length : Int) * 2 + 1 = ys.length * 2 + 1 from by omega]
          refine hR.st (by omega) fun w2 hR2 e2 => ?_
          refine ⟨256 - (i + 1), by omega, i + 1, ys ++ [(lo, (i : Int))], e1, rfl, by simp, hI.on g' hf g3', by simp; omega, by omega, ?_, Ext.to hb e2 fun x hx => by omega⟩
          have hset : (rngC (ys ++ [(lo, hi0)])).set (ys.length * 2 + 1) (.int .i64 (i : Int)) = rngC (ys ++ [(lo, (i : Int))]) := by
            rw [rngC_append, rngC_append, List.set_append_right _ _ (by rw [rngC_length]; omega), rngC_length, show ys.length * 2 + 1 - ys.length * 2 = 1 from by omega]
            rfl
          rw [hset] at hR2; exact hR2
        · have g3' : hi0 ≠ (i : Int) - 1 := by simpa using g3
          refine hnew fun ys' lo' hi' e => ?_
          have e2 := List.append_inj_right' e rfl
          simp only [List.cons.injEq, Prod.mk.injEq, and_true] at e2
          omega
      · have g2' : xs = [] := by
          have := of_decide_eq_false g2
          cases xs with
          | nil => rfl
          | cons x r => simp only [List.length_cons] at this; omega
        subst g2'
        refine hnew fun ys lo hi e => ?_
        simp at e
  · have g' : i = 256 := by have := of_decide_eq_false g; omega
    subst g'
    have := hI.done
    subst this
    exact ⟨a, c, rfl, hR, hb⟩
end Go.Proofs.Ytngbiaeliphdjaa.V
/- Printed by vcgen.py, a program of this session: formulas of Go functions, each with the proof that it gives the function's contract. No statement of the seat is proved here. -/
namespace Go.Proofs.Ytngbiaeliphdjaa.V
open Go.Vc Go.Proofs
set_option linter.unusedVariables false
set_option maxRecDepth 100000
/-- (*spec.l2M).empty -/
def V153 (b1 o2 : Nat) (R : Rt) : Pred := fun w =>
  lS w b1 (o2 + 4) fun s3 => ∃ a4 l4 c4, ∃ w5, (Instr.makeSlice 59 (.int .i64 (IntKind.wrap .i64 (((ByteArray.size s3 : Nat) : Int) + 1))) (.int .i64 (IntKind.wrap .i64 (((ByteArray.size s3 : Nat) : Int) + 1)))).run Try.prog w = .ok (.slice a4 l4 c4) w5 ∧ newC [.slice a4 l4 c4, .slice none 0 0] 195 (fun b6 w7 => R (.returned (.pointer (some ⟨b6, 0, none⟩))) w7) w5
def scr153 : Scr := (.q 1 (.q 10 .nil))
theorem vc153 {b1 o2} {R w} (h : V153 b1 o2 R w) : Cl Try.prog 153 [.pointer (some ⟨b1, o2, none⟩)] w R :=
  cl_of scr153 Try.func153 (by kernel_rfl) _ _ (by kernel_rfl) h
/-- spec.l2in -/
def V154 (a1 : Option Addr) (l1 c1 : Nat) (n2 : Int) (R : Rt) : Pred := fun w =>
  ∃ (I3 : Nat → Int → World → Prop), (∃ k5, I3 k5 0 w) ∧ ∀ k4 (d7 : Nat → Value) n8 w6, I3 k4 n8 w6 → (cB (decide (n8 < ((l1 : Nat) : Int))) (ixS a1 l1 n8 fun b9 o10 => lI w6 b9 (o10 + (Int.toNat n8) * 2) fun n11 => lI w6 b9 (o10 + (Int.toNat n8) * 2 + 1) fun n12 => newC [.int .i64 0, .int .i64 0] 134 (fun b13 w14 => stW b13 0 [.int .i64 n11, .int .i64 n12] (fun w15 => lI w15 b13 0 fun n16 => (cB (decide ((IntKind.wrap .i64 n2) ≥ n16)) (lI w15 b13 1 fun n17 => (cB (decide ((IntKind.wrap .i64 n2) ≤ n17)) (R (.returned (.bool true)) w15) ((∃ m18, m18 < k4 ∧ I3 m18 (IntKind.wrap .i64 (n8 + 1)) w15)))) ((∃ m19, m19 < k4 ∧ I3 m19 (IntKind.wrap .i64 (n8 + 1)) w15)))) w14) w6) (R (.returned (.bool false)) w6))
def scr154 : Scr := (.q 1 (.q 3 (.loop (dr [(9, some (.int .i64))] [(4,1),(6,1),(10,16)]) (.q 1 (.cond (.q 4 (.run [0,1,2,3,4,5] (.split 18 (.r [6,7,8,9,10,11] (.cond (.q 1 .nil) (.q 2 .nil))) (.r [6,7,8,9,10,11] (.lit (.q 2 .nil)))))) (.q 1 .nil))))))
theorem vc154 {a1 l1 c1 n2} {R w} (h : V154 a1 l1 c1 n2 R w) : Cl Try.prog 154 [.slice a1 l1 c1, .int .u8 n2] w R :=
  cl_of scr154 Try.func154 (by kernel_rfl) _ _ (by kernel_rfl) h
/-- (*spec.l2L).add -/
def V155 (b1 o2 : Nat) (n3 : Int) (a4 : Option Addr) (l4 c4 : Nat) (R : Rt) : Pred := fun w =>
  lL w b1 o2 fun a5 l5 c5 => ixS a5 l5 n3 fun b6 o7 => lB w b6 (o7 + (Int.toNat n3) * 1) fun t8 => (cB (!t8) (lL w b1 o2 fun a9 l9 c9 => ixS a9 l9 n3 fun b10 o11 => stW b10 (o11 + (Int.toNat n3) * 1) [.bool true] (fun w12 => lL w12 b1 (o2 + 1) fun a13 l13 c13 => newC [.int .i64 n3, .slice a4 l4 c4] 150 (fun b14 w15 => ∃ a16 l16 c16, ∃ w17, (Builtin.append_ #[147, 147] 147 #[.slice a13 l13 c13, .slice (some ⟨b14, 0, none⟩) 1 1]).run Try.prog w15 = .ok (.slice a16 l16 c16) w17 ∧ stW b1 (o2 + 1) [.slice a16 l16 c16] (fun w18 => R (.returned (.tuple #[])) w18) w17) w12) w) (R (.returned (.tuple #[])) w))
def scr155 : Scr := (.q 8 (.cond (.q 7 (.q 13 .nil)) .nil))
theorem vc155 {b1 o2 n3 a4 l4 c4} {R w} (h : V155 b1 o2 n3 a4 l4 c4 R w) : Cl Try.prog 155 [.pointer (some ⟨b1, o2, none⟩), .int .i64 n3, .slice a4 l4 c4] w R :=
  cl_of scr155 Try.func155 (by kernel_rfl) _ _ (by kernel_rfl) h
/-- (*spec.l2M).none -/
def V156 (b1 o2 : Nat) (R : Rt) : Pred := fun w =>
  lI w b1 (o2 + 2) fun n3 => ∃ a4 l4 c4, ∃ w5, (Instr.makeSlice 27 (.int .i64 n3) (.int .i64 n3)).run Try.prog w = .ok (.slice a4 l4 c4) w5 ∧ ∃ (I6 : Nat → Int → World → Prop), (∃ k8, I6 k8 0 w5) ∧ ∀ k7 (d10 : Nat → Value) n11 w9, I6 k7 n11 w9 → (cB (decide (n11 < ((l4 : Nat) : Int))) (ixS a4 l4 n11 fun b12 o13 => stW b12 (o13 + (Int.toNat n11) * 2) [.int .i64 (-2)] (fun w14 => (∃ m15, m15 < k7 ∧ I6 m15 (IntKind.wrap .i64 (n11 + 1)) w14)) w9) (R (.returned (.slice a4 l4 c4)) w9))
def scr156 : Scr := (.q 1 (.q 7 (.q 3 (.loop (dr [(13, some (.int .i64))] [(4,1),(14,7)]) (.q 1 (.cond (.q 2 (.q 5 (.q 2 .nil))) (.q 2 .nil)))))))
theorem vc156 {b1 o2} {R w} (h : V156 b1 o2 R w) : Cl Try.prog 156 [.pointer (some ⟨b1, o2, none⟩)] w R :=
  cl_of scr156 Try.func156 (by kernel_rfl) _ _ (by kernel_rfl) h
/-- spec.l2over -/
def V157 (a1 : Option Addr) (l1 c1 : Nat) (a2 : Option Addr) (l2 c2 : Nat) (R : Rt) : Pred := fun w =>
  ∃ a3 l3 c3, ∃ w4, (Instr.makeSlice 27 (.int .i64 ((l1 : Nat) : Int)) (.int .i64 ((l1 : Nat) : Int))).run Try.prog w = .ok (.slice a3 l3 c3) w4 ∧ ∃ (I5 : Nat → Int → World → Prop), (∃ k7, I5 k7 0 w4) ∧ ∀ k6 (d9 : Nat → Value) n10 w8, I5 k6 n10 w8 → (cB (decide (n10 < ((l1 : Nat) : Int))) (ixS a1 l1 n10 fun b11 o12 => lI w8 b11 (o12 + (Int.toNat n10) * 2) fun n13 => lI w8 b11 (o12 + (Int.toNat n10) * 2 + 1) fun n14 => ixS a3 l3 n10 fun b15 o16 => stW b15 (o16 + (Int.toNat n10) * 2) [.int .i64 n13, .int .i64 n14] (fun w17 => ixS a2 l2 n10 fun b18 o19 => lI w17 b18 (o19 + (Int.toNat n10) * 2) fun n20 => (cB (n20 != (-2)) (ixS a2 l2 n10 fun b21 o22 => lI w17 b21 (o22 + (Int.toNat n10) * 2) fun n23 => lI w17 b21 (o22 + (Int.toNat n10) * 2 + 1) fun n24 => ixS a3 l3 n10 fun b25 o26 => stW b25 (o26 + (Int.toNat n10) * 2) [.int .i64 n23, .int .i64 n24] (fun w27 => (∃ m28, m28 < k6 ∧ I5 m28 (IntKind.wrap .i64 (n10 + 1)) w27)) w17) ((∃ m29, m29 < k6 ∧ I5 m29 (IntKind.wrap .i64 (n10 + 1)) w17)))) w8) (R (.returned (.slice a3 l3 c3)) w8))
def scr157 : Scr := (.q 1 (.q 4 (.q 3 (.loop (dr [(12, some (.int .i64))] [(6,1),(13,23)]) (.q 1 (.cond (.q 2 (.q 8 (.q 6 (.cond (.q 8 (.q 2 .nil)) (.q 2 .nil))))) (.q 2 .nil)))))))
theorem vc157 {a1 l1 c1 a2 l2 c2} {R w} (h : V157 a1 l1 c1 a2 l2 c2 R w) : Cl Try.prog 157 [.slice a1 l1 c1, .slice a2 l2 c2] w R :=
  cl_of scr157 Try.func157 (by kernel_rfl) _ _ (by kernel_rfl) h
/-- (*spec.l2M).then -/
def V158 (b1 o2 : Nat) (a3 : Option Addr) (l3 c3 : Nat) (n4 : Int) (R : Rt) : Pred := fun w =>
  clP 153 ([.pointer (some ⟨b1, o2, none⟩)]) w R fun b5 o6 w7 => ∃ (I9 : Nat → Int → World → Prop), (∃ k11, I9 k11 0 w7) ∧ ∀ k10 (d13 : Nat → Value) n14 w12, I9 k10 n14 w12 → (cB (decide (n14 < ((l3 : Nat) : Int))) (ixS a3 l3 n14 fun b15 o16 => lI w12 b15 (o16 + (Int.toNat n14) * 2) fun n17 => lL w12 b15 (o16 + (Int.toNat n14) * 2 + 1) fun a18 l18 c18 => newC [.int .i64 0, .slice none 0 0] 150 (fun b19 w20 => stW b19 0 [.int .i64 n17, .slice a18 l18 c18] (fun w21 => lI w21 b19 0 fun n22 => clL 121 ([.pointer (some ⟨b1, o2, none⟩), .int .i64 n4, .int .i64 n22]) w21 R fun a23 l23 c23 w24 => ∃ (I26 : Nat → Int → World → Prop), (∃ k28, I26 k28 0 w24) ∧ ∀ k27 (d30 : Nat → Value) n31 w29, I26 k27 n31 w29 → (cB (decide (n31 < ((l23 : Nat) : Int))) (ixS a23 l23 n31 fun b32 o33 => lI w29 b32 (o33 + (Int.toNat n31) * 2) fun n34 => lL w29 b32 (o33 + (Int.toNat n31) * 2 + 1) fun a35 l35 c35 => newC [.int .i64 0, .slice none 0 0] 150 (fun b36 w37 => stW b36 0 [.int .i64 n34, .slice a35 l35 c35] (fun w38 => drw (fun w39 => lL w39 b5 o6 fun a40 l40 c40 => lI w39 b36 0 fun n41 => ixS a40 l40 n41 fun b42 o43 => lB w39 b42 (o43 + (Int.toNat n41) * 1) fun t44 => (cB (!t44) (drw (fun w45 => lI w45 b36 0 fun n46 => lL w45 b19 1 fun a47 l47 c47 => lL w45 b36 1 fun a48 l48 c48 => clL 157 ([.slice a47 l47 c47, .slice a48 l48 c48]) w45 R fun a49 l49 c49 w50 => cellH w50.heap b36 0 = some (.int .i64 n46) ∧ clU 155 ([.pointer (some ⟨b5, o6, none⟩), .int .i64 n46, .slice a49 l49 c49]) w50 R fun w52 => (∃ m54, m54 < k27 ∧ I26 m54 (IntKind.wrap .i64 (n31 + 1)) w52)) w39) ((∃ m55, m55 < k27 ∧ I26 m55 (IntKind.wrap .i64 (n31 + 1)) w39)))) w38) w37) w29) ((∃ m56, m56 < k10 ∧ I9 m56 (IntKind.wrap .i64 (n14 + 1)) w29)))) w20) w12) (lL w12 b5 (o6 + 1) fun a57 l57 c57 => R (.returned (.slice a57 l57 c57)) w12))
def scr158 : Scr := (.q 1 (.q 3 (.q 3 (.loop (dr [(16, some (.int .i64))] [(9,1),(11,1),(17,33)]) (.q 1 (.cond (.q 4 (.q 7 (.loop (dr [(26, some (.int .i64))] [(11,1),(27,22)]) (.q 1 (.cond (.q 4 (.q 9 (.cond (.q 9 (.q 2 .nil)) (.q 2 .nil)))) (.q 2 .nil)))))) (.q 5 .nil)))))))
theorem vc158 {b1 o2 a3 l3 c3 n4} {R w} (h : V158 b1 o2 a3 l3 c3 n4 R w) : Cl Try.prog 158 [.pointer (some ⟨b1, o2, none⟩), .slice a3 l3 c3, .int .i64 n4] w R :=
  cl_of scr158 Try.func158 (by kernel_rfl) _ _ (by kernel_rfl) h
/-- (*spec.l2M).further -/
def V159 (b1 o2 : Nat) (n3 : Int) (a4 : Option Addr) (l4 c4 : Nat) (n5 n6 : Int) (t7 : Bool) (n8 : Int) (a9 : Option Addr) (l9 c9 : Nat) (n10 : Int) (a11 : Option Addr) (l11 c11 : Nat) (n12 : Int) (a13 : Option Addr) (l13 c13 b14 o15 : Nat) (R : Rt) : Pred := fun w =>
  newC [.int .i64 n3, .slice a4 l4 c4, .int .i64 n5, .int .i64 n6, .bool t7, .int .i64 n8, .slice a9 l9 c9] 111 (fun b16 w17 => newC [.int .i64 n10, .slice a11 l11 c11] 150 (fun b18 w19 => lI w19 b18 0 fun n20 => ixS a13 l13 (IntKind.wrap .i64 ((IntKind.wrap .i64 (n20 * 52)) + n12)) fun b21 o22 => lB w19 b21 (o22 + (Int.toNat (IntKind.wrap .i64 ((IntKind.wrap .i64 (n20 * 52)) + n12))) * 1) fun t23 => (cB t23 (R (.returned (.tuple #[])) w19) (ixS a13 l13 (IntKind.wrap .i64 ((IntKind.wrap .i64 (n20 * 52)) + n12)) fun b24 o25 => stW b24 (o25 + (Int.toNat (IntKind.wrap .i64 ((IntKind.wrap .i64 (n20 * 52)) + n12))) * 1) [.bool true] (fun w26 => lB w26 b16 4 fun t27 => ∃ (J28 : World → Prop), ((cB t27 (lI w26 b18 0 fun n29 => lL w26 b18 1 fun a30 l30 c30 => clU 155 ([.pointer (some ⟨b14, o15, none⟩), .int .i64 n29, .slice a30 l30 c30]) w26 R fun w31 => J28  w31) (J28  w26))) ∧ ∀ (d33 : Nat → Value)  w34, J28  w34 → (cB (decide (n12 > 0)) (∃ (J35 : Int → World → Prop), ((cB (decide (n12 > 50)) (J35 n12 w34) (J35 (IntKind.wrap .i64 (n12 - 1)) w34))) ∧ ∀ (d36 : Nat → Value) n37 w38, J35 n37 w38 → drw (fun w39 => lL w39 b16 6 fun a40 l40 c40 => ixS a40 l40 0 fun b41 o42 => lI w39 b41 o42 fun n43 => lI w39 b18 0 fun n44 => clL 121 ([.pointer (some ⟨b1, o2, none⟩), .int .i64 n43, .int .i64 n44]) w39 R fun a45 l45 c45 w46 => ∃ (I48 : Nat → Int → World → Prop), (∃ k50, I48 k50 0 w46) ∧ ∀ k49 (d52 : Nat → Value) n53 w51, I48 k49 n53 w51 → (cB (decide (n53 < ((l45 : Nat) : Int))) (ixS a45 l45 n53 fun b54 o55 => lI w51 b54 (o55 + (Int.toNat n53) * 2) fun n56 => lL w51 b54 (o55 + (Int.toNat n53) * 2 + 1) fun a57 l57 c57 => newC [.int .i64 0, .slice none 0 0] 150 (fun b58 w59 => stW b58 0 [.int .i64 n56, .slice a57 l57 c57] (fun w60 => lI w60 b58 0 fun n61 => lI w60 b18 0 fun n62 => (cB (decide (n61 > n62)) (drw (fun w63 => lI w63 b16 0 fun n64 => lL w63 b16 1 fun a65 l65 c65 => lI w63 b16 2 fun n66 => lI w63 b16 3 fun n67 => lB w63 b16 4 fun t68 => lI w63 b16 5 fun n69 => lL w63 b16 6 fun a70 l70 c70 => lI w63 b58 0 fun n71 => lL w63 b18 1 fun a72 l72 c72 => lL w63 b58 1 fun a73 l73 c73 => clL 157 ([.slice a72 l72 c72, .slice a73 l73 c73]) w63 R fun a74 l74 c74 w75 => cellH w75.heap b58 0 = some (.int .i64 n71) ∧ cellsAt w75.heap b16 0 [.int .i64 n64, .slice a65 l65 c65, .int .i64 n66, .int .i64 n67, .bool t68, .int .i64 n69, .slice a70 l70 c70] ∧ clU 159 ([.pointer (some ⟨b1, o2, none⟩), .agg #[.int .i64 n64, .slice a65 l65 c65, .int .i64 n66, .int .i64 n67, .bool t68, .int .i64 n69, .slice a70 l70 c70], .agg #[.int .i64 n71, .slice a74 l74 c74], .int .i64 n37, .slice a13 l13 c13, .pointer (some ⟨b14, o15, none⟩)]) w75 R fun w77 => (∃ m79, m79 < k49 ∧ I48 m79 (IntKind.wrap .i64 (n53 + 1)) w77)) w60) ((∃ m80, m80 < k49 ∧ I48 m80 (IntKind.wrap .i64 (n53 + 1)) w60)))) w59) w51) (lI w51 b18 0 fun n81 => lL w51 b18 1 fun a82 l82 c82 => clU 155 ([.pointer (some ⟨b14, o15, none⟩), .int .i64 n81, .slice a82 l82 c82]) w51 R fun w83 => R (.returned (.tuple #[])) w83))) w38) (lI w34 b18 0 fun n85 => lL w34 b18 1 fun a86 l86 c86 => clU 155 ([.pointer (some ⟨b14, o15, none⟩), .int .i64 n85, .slice a86 l86 c86]) w34 R fun w87 => R (.returned (.tuple #[])) w87))) w19))) w17) w
def scr159 : Scr := (.q 2 (.q 6 (.q 4 (.cond .nil (.q 4 (.q 2 (.cut (dr [] [(30,6)]) (.cond (.q 6 .nil) .nil) (.q 2 (.cond (.q 3 (.q 2 (.cut [(13, some (.int .i64)), (42, none)] (.cond (.q 2 .nil) .nil) (.r [0,1,2,3,4,5,6,9,7,8] (.loop (dr [(52, some (.int .i64))] [(15,1),(53,23)]) (.q 1 (.cond (.q 4 (.q 5 (.cond (.r [0,1,2,3,4,5,6,7,10,11,12,8,9,13] (.q 2 .nil)) (.q 2 .nil)))) (.q 6 .nil)))))))) (.q 6 .nil))))))))))
theorem vc159 {b1 o2 n3 a4 l4 c4 n5 n6 t7 n8 a9 l9 c9 n10 a11 l11 c11 n12 a13 l13 c13 b14 o15} {R w} (h : V159 b1 o2 n3 a4 l4 c4 n5 n6 t7 n8 a9 l9 c9 n10 a11 l11 c11 n12 a13 l13 c13 b14 o15 R w) : Cl Try.prog 159 [.pointer (some ⟨b1, o2, none⟩), .agg #[.int .i64 n3, .slice a4 l4 c4, .int .i64 n5, .int .i64 n6, .bool t7, .int .i64 n8, .slice a9 l9 c9], .agg #[.int .i64 n10, .slice a11 l11 c11], .int .i64 n12, .slice a13 l13 c13, .pointer (some ⟨b14, o15, none⟩)] w R :=
  cl_of scr159 Try.func159 (by kernel_rfl) _ _ (by kernel_rfl) h
/-- (*spec.l2M).work -/
def V138 (b1 o2 : Nat) (n3 n4 : Int) (R : Rt) : Pred := fun w =>
  lL w b1 (o2 + 3) fun a5 l5 c5 => ixS a5 l5 n3 fun b6 o7 => lI w b6 (o7 + (Int.toNat n3) * 7) fun n8 => lL w b6 (o7 + (Int.toNat n3) * 7 + 1) fun a9 l9 c9 => lI w b6 (o7 + (Int.toNat n3) * 7 + 2) fun n10 => lI w b6 (o7 + (Int.toNat n3) * 7 + 3) fun n11 => lB w b6 (o7 + (Int.toNat n3) * 7 + 4) fun t12 => lI w b6 (o7 + (Int.toNat n3) * 7 + 5) fun n13 => lL w b6 (o7 + (Int.toNat n3) * 7 + 6) fun a14 l14 c14 => newC [.int .i64 0, .slice none 0 0, .int .i64 0, .int .i64 0, .bool false, .int .i64 0, .slice none 0 0] 111 (fun b15 w16 => stW b15 0 [.int .i64 n8, .slice a9 l9 c9, .int .i64 n10, .int .i64 n11, .bool t12, .int .i64 n13, .slice a14 l14 c14] (fun w17 => clP 153 ([.pointer (some ⟨b1, o2, none⟩)]) w17 R fun b18 o19 w20 => lI w20 b15 0 fun n22 => (cB (n22 == 1) (drw (fun w23 => lS w23 b1 (o2 + 4) fun s24 => (cB (decide (n4 < ((ByteArray.size s24 : Nat) : Int))) (lL w23 b15 1 fun a25 l25 c25 => lS w23 b1 (o2 + 4) fun s26 => (ixT s26 n4) ∧ clB 154 ([.slice a25 l25 c25, .int .u8 (byteAt s26 (Int.toNat n4))]) w23 R fun t27 w28 => (cB t27 (clL 156 ([.pointer (some ⟨b1, o2, none⟩)]) w28 R fun a30 l30 c30 w31 => clU 155 ([.pointer (some ⟨b18, o19, none⟩), .int .i64 (IntKind.wrap .i64 (n4 + 1)), .slice a30 l30 c30]) w31 R fun w33 => lL w33 b18 (o19 + 1) fun a35 l35 c35 => R (.returned (.slice a35 l35 c35)) w33) (lL w28 b18 (o19 + 1) fun a36 l36 c36 => R (.returned (.slice a36 l36 c36)) w28))) (lL w23 b18 (o19 + 1) fun a37 l37 c37 => R (.returned (.slice a37 l37 c37)) w23))) w20) ((cB (n22 == 6) ((cB (n4 == 0) (clL 156 ([.pointer (some ⟨b1, o2, none⟩)]) w20 R fun a38 l38 c38 w39 => clU 155 ([.pointer (some ⟨b18, o19, none⟩), .int .i64 n4, .slice a38 l38 c38]) w39 R fun w41 => lL w41 b18 (o19 + 1) fun a43 l43 c43 => R (.returned (.slice a43 l43 c43)) w41) (lL w20 b18 (o19 + 1) fun a44 l44 c44 => R (.returned (.slice a44 l44 c44)) w20))) ((cB (n22 == 7) (lS w20 b1 (o2 + 4) fun s45 => (cB (n4 == ((ByteArray.size s45 : Nat) : Int)) (clL 156 ([.pointer (some ⟨b1, o2, none⟩)]) w20 R fun a46 l46 c46 w47 => clU 155 ([.pointer (some ⟨b18, o19, none⟩), .int .i64 n4, .slice a46 l46 c46]) w47 R fun w49 => lL w49 b18 (o19 + 1) fun a51 l51 c51 => R (.returned (.slice a51 l51 c51)) w49) (lL w20 b18 (o19 + 1) fun a52 l52 c52 => R (.returned (.slice a52 l52 c52)) w20))) ((cB (n22 == 5) (lL w20 b15 6 fun a53 l53 c53 => ixS a53 l53 0 fun b54 o55 => lI w20 b54 o55 fun n56 => clL 121 ([.pointer (some ⟨b1, o2, none⟩), .int .i64 n56, .int .i64 n4]) w20 R fun a57 l57 c57 w58 => ∃ (I60 : Nat → Int → World → Prop), (∃ k62, I60 k62 0 w58) ∧ ∀ k61 (d64 : Nat → Value) n65 w63, I60 k61 n65 w63 → (cB (decide (n65 < ((l57 : Nat) : Int))) (ixS a57 l57 n65 fun b66 o67 => lI w63 b66 (o67 + (Int.toNat n65) * 2) fun n68 => lL w63 b66 (o67 + (Int.toNat n65) * 2 + 1) fun a69 l69 c69 => newC [.int .i64 0, .slice none 0 0] 150 (fun b70 w71 => stW b70 0 [.int .i64 n68, .slice a69 l69 c69] (fun w72 => drw (fun w73 => lL w73 b70 1 fun a74 l74 c74 => clL 156 ([.pointer (some ⟨b1, o2, none⟩)]) w73 R fun a75 l75 c75 w76 => cellH w76.heap b70 1 = some (.slice a74 l74 c74) ∧ clL 157 ([.slice a74 l74 c74, .slice a75 l75 c75]) w76 R fun a78 l78 c78 w79 => lI w79 b15 5 fun n81 => lI w79 b70 0 fun n82 => ixS a78 l78 (IntKind.wrap .i64 (n81 - 1)) fun b83 o84 => stW b83 (o84 + (Int.toNat (IntKind.wrap .i64 (n81 - 1))) * 2) [.int .i64 n4, .int .i64 n82] (fun w85 => lI w85 b70 0 fun n86 => clU 155 ([.pointer (some ⟨b18, o19, none⟩), .int .i64 n86, .slice a78 l78 c78]) w85 R fun w87 => (∃ m89, m89 < k61 ∧ I60 m89 (IntKind.wrap .i64 (n65 + 1)) w87)) w79) w72) w71) w63) (lL w63 b18 (o19 + 1) fun a90 l90 c90 => R (.returned (.slice a90 l90 c90)) w63))) ((cB (n22 == 3) (lL w20 b15 6 fun a91 l91 c91 => ∃ (I92 : Nat → Int → World → Prop), (∃ k94, I92 k94 0 w20) ∧ ∀ k93 (d96 : Nat → Value) n97 w95, I92 k93 n97 w95 → (cB (decide (n97 < ((l91 : Nat) : Int))) (ixS a91 l91 n97 fun b98 o99 => lI w95 b98 (o99 + (Int.toNat n97) * 1) fun n100 => clL 121 ([.pointer (some ⟨b1, o2, none⟩), .int .i64 n100, .int .i64 n4]) w95 R fun a101 l101 c101 w102 => ∃ (I104 : Nat → Int → World → Prop), (∃ k106, I104 k106 0 w102) ∧ ∀ k105 (d108 : Nat → Value) n109 w107, I104 k105 n109 w107 → (cB (decide (n109 < ((l101 : Nat) : Int))) (ixS a101 l101 n109 fun b110 o111 => lI w107 b110 (o111 + (Int.toNat n109) * 2) fun n112 => lL w107 b110 (o111 + (Int.toNat n109) * 2 + 1) fun a113 l113 c113 => newC [.int .i64 0, .slice none 0 0] 150 (fun b114 w115 => stW b114 0 [.int .i64 n112, .slice a113 l113 c113] (fun w116 => lI w116 b114 0 fun n117 => lL w116 b114 1 fun a118 l118 c118 => clU 155 ([.pointer (some ⟨b18, o19, none⟩), .int .i64 n117, .slice a118 l118 c118]) w116 R fun w119 => (∃ m121, m121 < k105 ∧ I104 m121 (IntKind.wrap .i64 (n109 + 1)) w119)) w115) w107) ((∃ m122, m122 < k93 ∧ I92 m122 (IntKind.wrap .i64 (n97 + 1)) w107)))) (lL w95 b18 (o19 + 1) fun a123 l123 c123 => R (.returned (.slice a123 l123 c123)) w95))) ((cB (n22 == 4) (clL 156 ([.pointer (some ⟨b1, o2, none⟩)]) w20 R fun a124 l124 c124 w125 => newC [.int .i64 n4, .slice a124 l124 c124] 150 (fun b127 w128 => ∃ (I129 : Nat → Option Addr → Nat → Nat → Int → World → Prop), (∃ k131, I129 k131 (some ⟨b127, 0, none⟩) 1 1 0 w128) ∧ ∀ k130 (d133 : Nat → Value) a134 l134 c134 n135 w132, I129 k130 a134 l134 c134 n135 w132 → lI w132 b15 2 fun n136 => (cB (decide (n135 < n136)) (lL w132 b15 6 fun a137 l137 c137 => ixS a137 l137 0 fun b138 o139 => lI w132 b138 o139 fun n140 => clL 158 ([.pointer (some ⟨b1, o2, none⟩), .slice a134 l134 c134, .int .i64 n140]) w132 R fun a141 l141 c141 w142 => (∃ m144, m144 < k130 ∧ I129 m144 a141 l141 c141 (IntKind.wrap .i64 (n135 + 1)) w142)) (lS w132 b1 (o2 + 4) fun s145 => ∃ a146 l146 c146, ∃ w147, (Instr.makeSlice 59 (.int .i64 (IntKind.wrap .i64 ((IntKind.wrap .i64 (((ByteArray.size s145 : Nat) : Int) + 1)) * 52))) (.int .i64 (IntKind.wrap .i64 ((IntKind.wrap .i64 (((ByteArray.size s145 : Nat) : Int) + 1)) * 52)))).run Try.prog w132 = .ok (.slice a146 l146 c146) w147 ∧ lI w147 b15 3 fun n148 => (cB (decide (n148 ≥ 0)) (lI w147 b15 3 fun n149 => lI w147 b15 2 fun n150 => ∃ (I151 : Nat → Int → World → Prop), (∃ k153, I151 k153 0 w147) ∧ ∀ k152 (d155 : Nat → Value) n156 w154, I151 k152 n156 w154 → (cB (decide (n156 < ((l134 : Nat) : Int))) (ixS a134 l134 n156 fun b157 o158 => lI w154 b157 (o158 + (Int.toNat n156) * 2) fun n159 => lL w154 b157 (o158 + (Int.toNat n156) * 2 + 1) fun a160 l160 c160 => newC [.int .i64 0, .slice none 0 0] 150 (fun b161 w162 => stW b161 0 [.int .i64 n159, .slice a160 l160 c160] (fun w163 => lI w163 b15 0 fun n164 => lL w163 b15 1 fun a165 l165 c165 => lI w163 b15 2 fun n166 => lI w163 b15 3 fun n167 => lB w163 b15 4 fun t168 => lI w163 b15 5 fun n169 => lL w163 b15 6 fun a170 l170 c170 => lI w163 b161 0 fun n171 => lL w163 b161 1 fun a172 l172 c172 => clU 159 ([.pointer (some ⟨b1, o2, none⟩), .agg #[.int .i64 n164, .slice a165 l165 c165, .int .i64 n166, .int .i64 n167, .bool t168, .int .i64 n169, .slice a170 l170 c170], .agg #[.int .i64 n171, .slice a172 l172 c172], .int .i64 (IntKind.wrap .i64 (n149 - n150)), .slice a146 l146 c146, .pointer (some ⟨b18, o19, none⟩)]) w163 R fun w173 => (∃ m175, m175 < k152 ∧ I151 m175 (IntKind.wrap .i64 (n156 + 1)) w173)) w162) w154) (lL w154 b18 (o19 + 1) fun a176 l176 c176 => R (.returned (.slice a176 l176 c176)) w154))) (∃ (I177 : Nat → Int → World → Prop), (∃ k179, I177 k179 0 w147) ∧ ∀ k178 (d181 : Nat → Value) n182 w180, I177 k178 n182 w180 → (cB (decide (n182 < ((l134 : Nat) : Int))) (ixS a134 l134 n182 fun b183 o184 => lI w180 b183 (o184 + (Int.toNat n182) * 2) fun n185 => lL w180 b183 (o184 + (Int.toNat n182) * 2 + 1) fun a186 l186 c186 => newC [.int .i64 0, .slice none 0 0] 150 (fun b187 w188 => stW b187 0 [.int .i64 n185, .slice a186 l186 c186] (fun w189 => lI w189 b15 0 fun n190 => lL w189 b15 1 fun a191 l191 c191 => lI w189 b15 2 fun n192 => lI w189 b15 3 fun n193 => lB w189 b15 4 fun t194 => lI w189 b15 5 fun n195 => lL w189 b15 6 fun a196 l196 c196 => lI w189 b187 0 fun n197 => lL w189 b187 1 fun a198 l198 c198 => clU 159 ([.pointer (some ⟨b1, o2, none⟩), .agg #[.int .i64 n190, .slice a191 l191 c191, .int .i64 n192, .int .i64 n193, .bool t194, .int .i64 n195, .slice a196 l196 c196], .agg #[.int .i64 n197, .slice a198 l198 c198], .int .i64 51, .slice a146 l146 c146, .pointer (some ⟨b18, o19, none⟩)]) w189 R fun w199 => (∃ m201, m201 < k178 ∧ I177 m201 (IntKind.wrap .i64 (n182 + 1)) w199)) w188) w180) (lL w180 b18 (o19 + 1) fun a202 l202 c202 => R (.returned (.slice a202 l202 c202)) w180))))))) w125) (clL 156 ([.pointer (some ⟨b1, o2, none⟩)]) w20 R fun a203 l203 c203 w204 => newC [.int .i64 n4, .slice a203 l203 c203] 150 (fun b206 w207 => lL w207 b15 6 fun a208 l208 c208 => ∃ (I209 : Nat → Option Addr → Nat → Nat → Int → World → Prop), (∃ k211, I209 k211 (some ⟨b206, 0, none⟩) 1 1 0 w207) ∧ ∀ k210 (d213 : Nat → Value) a214 l214 c214 n215 w212, I209 k210 a214 l214 c214 n215 w212 → (cB (decide (n215 < ((l208 : Nat) : Int))) (ixS a208 l208 n215 fun b216 o217 => lI w212 b216 (o217 + (Int.toNat n215) * 1) fun n218 => clL 158 ([.pointer (some ⟨b1, o2, none⟩), .slice a214 l214 c214, .int .i64 n218]) w212 R fun a219 l219 c219 w220 => (∃ m222, m222 < k210 ∧ I209 m222 a219 l219 c219 (IntKind.wrap .i64 (n215 + 1)) w220)) (R (.returned (.slice a214 l214 c214)) w212))) w204))))))))))))) w16) w
def scr138 : Scr := (.q 1 (.q 10 (.q 3 (.q 2 (.q 2 (.cond (.run [0,1,2,3,4,5,6,7] (.split 64 (.r [8,9,10,11,12,13,14,15,16,17] (.cond (.q 6 (.q 5 .nil)) (.q 5 .nil))) (.r [8,9,10,11,12,13,14,15,16,17] (.lit (.q 5 .nil))))) (.q 2 (.cond (.q 2 (.cond (.q 5 (.q 5 .nil)) (.q 5 .nil))) (.q 2 (.cond (.q 7 (.cond (.q 5 (.q 5 .nil)) (.q 5 .nil))) (.q 2 (.cond (.q 9 (.loop (dr [(114, some (.int .i64))] [(10,2),(115,23)]) (.q 1 (.cond (.q 4 (.q 6 (.q 10 (.q 5 (.q 2 .nil))))) (.q 5 .nil))))) (.q 2 (.cond (.q 4 (.loop (dr [(143, some (.int .i64))] [(13,1),(15,1),(144,20)]) (.q 1 (.cond (.q 3 (.q 6 (.loop (dr [(152, some (.int .i64))] [(15,1),(153,10)]) (.q 1 (.cond (.q 4 (.q 6 (.q 2 .nil))) (.q 2 .nil)))))) (.q 5 .nil))))) (.q 2 (.cond (.q 6 (.q 1 (.loop (dr [(16, some .slice), (17, some (.int .i64))] [(171,13)]) (.q 4 (.cond (.q 8 (.q 3 .nil)) (.q 9 (.q 1 (.q 3 (.cond (.q 6 (.q 3 (.loop (dr [(202, some (.int .i64))] [(21,1),(203,11)]) (.q 1 (.cond (.q 4 (.q 7 (.q 2 .nil))) (.q 5 .nil)))))) (.q 3 (.loop (dr [(202, some (.int .i64))] [(21,1),(203,11)]) (.q 1 (.cond (.q 4 (.q 7 (.q 2 .nil))) (.q 5 .nil)))))))))))))) (.q 6 (.q 4 (.loop (dr [(22, some .slice), (45, some (.int .i64))] [(24,1),(46,8)]) (.q 1 (.cond (.q 3 (.q 5 (.q 2 .nil))) (.q 2 .nil))))))))))))))))))))))
theorem vc138 {b1 o2 n3 n4} {R w} (h : V138 b1 o2 n3 n4 R w) : Cl Try.prog 138 [.pointer (some ⟨b1, o2, none⟩), .int .i64 n3, .int .i64 n4] w R :=
  cl_of scr138 Try.func138 (by kernel_rfl) _ _ (by kernel_rfl) h
/-- (*spec.l2M).ends -/
def V121 (b1 o2 : Nat) (n3 n4 : Int) (R : Rt) : Pred := fun w =>
  lS w b1 (o2 + 4) fun s5 => lL w b1 (o2 + 5) fun a6 l6 c6 => ixS a6 l6 (IntKind.wrap .i64 ((IntKind.wrap .i64 (n3 * (IntKind.wrap .i64 (((ByteArray.size s5 : Nat) : Int) + 1)))) + n4)) fun b7 o8 => lB w b7 (o8 + (Int.toNat (IntKind.wrap .i64 ((IntKind.wrap .i64 (n3 * (IntKind.wrap .i64 (((ByteArray.size s5 : Nat) : Int) + 1)))) + n4))) * 1) fun t9 => (cB (!t9) (lL w b1 (o2 + 5) fun a10 l10 c10 => ixS a10 l10 (IntKind.wrap .i64 ((IntKind.wrap .i64 (n3 * (IntKind.wrap .i64 (((ByteArray.size s5 : Nat) : Int) + 1)))) + n4)) fun b11 o12 => stW b11 (o12 + (Int.toNat (IntKind.wrap .i64 ((IntKind.wrap .i64 (n3 * (IntKind.wrap .i64 (((ByteArray.size s5 : Nat) : Int) + 1)))) + n4))) * 1) [.bool true] (fun w13 => drw (fun w14 => lL w14 b1 (o2 + 6) fun a15 l15 c15 => clL 138 ([.pointer (some ⟨b1, o2, none⟩), .int .i64 n3, .int .i64 n4]) w14 R fun a16 l16 c16 w17 => cellH w17.heap b1 (o2 + 6) = some (.slice a15 l15 c15) ∧ ixS a15 l15 (IntKind.wrap .i64 ((IntKind.wrap .i64 (n3 * (IntKind.wrap .i64 (((ByteArray.size s5 : Nat) : Int) + 1)))) + n4)) fun b19 o20 => stW b19 (o20 + (Int.toNat (IntKind.wrap .i64 ((IntKind.wrap .i64 (n3 * (IntKind.wrap .i64 (((ByteArray.size s5 : Nat) : Int) + 1)))) + n4))) * 1) [.slice a16 l16 c16] (fun w21 => lL w21 b1 (o2 + 6) fun a22 l22 c22 => ixS a22 l22 (IntKind.wrap .i64 ((IntKind.wrap .i64 (n3 * (IntKind.wrap .i64 (((ByteArray.size s5 : Nat) : Int) + 1)))) + n4)) fun b23 o24 => lL w21 b23 (o24 + (Int.toNat (IntKind.wrap .i64 ((IntKind.wrap .i64 (n3 * (IntKind.wrap .i64 (((ByteArray.size s5 : Nat) : Int) + 1)))) + n4))) * 1) fun a25 l25 c25 => R (.returned (.slice a25 l25 c25)) w21) w17) w13) w) (lL w b1 (o2 + 6) fun a26 l26 c26 => ixS a26 l26 (IntKind.wrap .i64 ((IntKind.wrap .i64 (n3 * (IntKind.wrap .i64 (((ByteArray.size s5 : Nat) : Int) + 1)))) + n4)) fun b27 o28 => lL w b27 (o28 + (Int.toNat (IntKind.wrap .i64 ((IntKind.wrap .i64 (n3 * (IntKind.wrap .i64 (((ByteArray.size s5 : Nat) : Int) + 1)))) + n4))) * 1) fun a29 l29 c29 => R (.returned (.slice a29 l29 c29)) w))
def scr121 : Scr := (.q 1 (.q 11 (.q 8 (.cond (.q 7 (.q 11 (.q 8 .nil))) (.q 8 .nil)))))
theorem vc121 {b1 o2 n3 n4} {R w} (h : V121 b1 o2 n3 n4 R w) : Cl Try.prog 121 [.pointer (some ⟨b1, o2, none⟩), .int .i64 n3, .int .i64 n4] w R :=
  cl_of scr121 Try.func121 (by kernel_rfl) _ _ (by kernel_rfl) h
end Go.Proofs.Ytngbiaeliphdjaa.V
/- The reference's ends in memory; its small functions on them. No statement of the seat is proved here. -/
namespace Go.Vc
open Go.RowKit
set_option linter.unusedVariables false
set_option linter.unusedSimpArgs false
/-- A row of n cells, told by a function. -/
def rowN (n : Nat) (f : Nat → Value) : List Value := (List.range n).map f
theorem rowN_length (n : Nat) (f : Nat → Value) : (rowN n f).length = n := by simp [rowN]
theorem rowN_get {n : Nat} (f : Nat → Value) {i : Nat} (h : i < n) : (rowN n f)[i]? = some (f i) := by simp [rowN, h]
theorem rowN_ext {n : Nat} {f g : Nat → Value} (h : ∀ i, i < n → f i = g i) : rowN n f = rowN n g := by
  unfold rowN
  apply List.map_congr_left
  intro i hi
  exact h i (by simpa using hi)
theorem rowN_set (n : Nat) (f : Nat → Value) (i : Nat) (v : Value) : (rowN n f).set i v = rowN n (fun j => if j = i then v else f j) := by
  apply List.ext_getElem?
  intro k
  rw [List.getElem?_set, rowN_length]
  by_cases hk : k < n
  · rw [rowN_get _ hk, rowN_get _ hk]
    by_cases hik : i = k
    · subst hik; simp [hk]
    · rw [if_neg hik, if_neg (Ne.symm hik)]
  · rw [List.getElem?_eq_none (l := rowN n f) (by rw [rowN_length]; omega), List.getElem?_eq_none (l := rowN n _) (by rw [rowN_length]; omega)]
    split
    · rw [if_neg (by omega)]
    · rfl
theorem rowN_rep (n : Nat) (v : Value) : List.replicate n v = rowN n fun _ => v := by simp [rowN, List.map_const']
/-- A group's span as the reference keeps it: -2 for one that was left as it was. -/
def spS (g : Gr) (j : Nat) : Int := match g (j / 2 + 1) with
  | some p => if j % 2 = 0 then (p.1 : Int) else (p.2 : Int)
  | none => if j % 2 = 0 then -2 else 0
def sgC (G : Nat) (g : Gr) : List Value := rowN (2 * G) fun j => .int .i64 (spS g j)
theorem sgC_length (G : Nat) (g : Gr) : (sgC G g).length = G * 2 := by unfold sgC; rw [rowN_length]; omega
theorem madeCells_two (z : Value) (n : Nat) : madeCells #[z, z] (n * 2) = ⟨List.replicate (n * 2) z⟩ := by
  apply Array.ext
  · simp [madeCells]
  · intro i h1 h2
    have : i % 2 = 0 ∨ i % 2 = 1 := by omega
    rcases this with h | h <;> simp [madeCells, h]
theorem make_in2 {P : Program} {t e : TypeId} {i : TypeInfo} {z : Value} (ht : P.underlying t = some (.slice e)) (hi : P.info? e = some i) (hz : i.zero = some z) {z1 : Value} (hz1 : z.cells = #[z1, z1]) (hs : i.size = 2) {by_ : Nat} (hby : i.bytes = by_) (hb8 : by_ ≤ 100) (n : Nat) (hn : n ≤ 1000000000) (w : World) :
    ∃ w', (Instr.makeSlice t (.int .i64 n) (.int .i64 n)).run P w = .ok (.slice (some ⟨w.heap.size, 0, none⟩) n n) w' ∧ w'.heap.size = w.heap.size + 1 ∧ Blk w'.heap w.heap.size e (List.replicate (n * 2) z1) ∧ Ext (fun _ => False) w w' := by
  have hbb : (i.bytes : Int) * (n : Int) ≤ 281474976710656 := by
    have h : i.bytes * n ≤ 281474976710656 := by
      have := Nat.mul_le_mul (show i.bytes ≤ 100 by omega) hn
      omega
    have h2 : ((i.bytes * n : Nat) : Int) ≤ 281474976710656 := by omega
    rwa [Int.natCast_mul] at h2
  have hr := run_make (P := P) w t e i z ht hi hz .i64 .i64 n n (by omega) (Int.le_refl _) hbb (by omega)
  refine ⟨_, hr, size_newW w _, ?_, (Ext.refl _ w).vnew _⟩
  rw [hz1, hs, Int.toNat_natCast, madeCells_two]
  exact Blk.new w e _
abbrev G3 := Option Addr × Nat × Nat
def endC (e : Wy × G3) : List Value := [.int .i64 (e.1.1 : Int), .slice e.2.1 e.2.2.1 e.2.2.2]
def endsC (es : List (Wy × G3)) : List Value := es.flatMap endC
theorem endsC_append (l m : List (Wy × G3)) : endsC (l ++ m) = endsC l ++ endsC m := by simp [endsC]
theorem endsC_one (e : Wy × G3) : endsC [e] = endC e := by simp [endsC]
theorem endsC_length (l : List (Wy × G3)) : (endsC l).length = l.length * 2 := by
  induction l with
  | nil => rfl
  | cons b r ih => rw [show b :: r = [b] ++ r from rfl, endsC_append, List.length_append, ih, endsC_one]; simp [endC]; omega
theorem endsC_at : ∀ (l : List (Wy × G3)) (i : Nat) (h : i < l.length), (endsC l)[i * 2]? = some (.int .i64 (l[i].1.1 : Int)) ∧ (endsC l)[i * 2 + 1]? = some (.slice l[i].2.1 l[i].2.2.1 l[i].2.2.2)
  | x :: r, 0, h => ⟨rfl, rfl⟩
  | x :: r, i + 1, h => by
    have := endsC_at r i (by simpa using h)
    rw [show (i + 1) * 2 = i * 2 + 2 from by omega, show i * 2 + 2 + 1 = (i * 2 + 1) + 2 from by omega]
    exact this
end Go.Vc
namespace Go.Proofs.Ytngbiaeliphdjaa.V
open Go.Vc Go.Proofs Go.RowKit
set_option linter.unusedVariables false
set_option linter.unusedSimpArgs false
theorem elemEnd : Elem Try.prog 147 150 2 32 := ⟨by kernel_rfl, by kernel_rfl, by kernel_rfl, ⟨[.int .i64 0, .slice none 0 0], by kernel_rfl, rfl⟩⟩
theorem makeSpans (G : Nat) (hG : G ≤ 1000) (w : World) : ∃ w', (Instr.makeSlice 27 (.int .i64 G) (.int .i64 G)).run Try.prog w = .ok (.slice (some ⟨w.heap.size, 0, none⟩) G G) w' ∧ w'.heap.size = w.heap.size + 1 ∧ Blk w'.heap w.heap.size 31 (rowN (2 * G) fun _ => .int .i64 0) ∧ Ext (fun _ => False) w w' := by
  rw [show 2 * G = G * 2 from by omega, ← rowN_rep]
  exact make_in2 (P := Try.prog) (t := 27) (e := 31) (i := Try.t31) (z := .agg #[.int .i64 0, .int .i64 0]) (by kernel_rfl) (by kernel_rfl) (by kernel_rfl) (z1 := .int .i64 0) rfl (by kernel_rfl) (by_ := 16) (by kernel_rfl) (by decide) G (by omega) w
theorem makeBools (n : Nat) (hn : n ≤ 1000000) (w : World) : ∃ w', (Instr.makeSlice 59 (.int .i64 n) (.int .i64 n)).run Try.prog w = .ok (.slice (some ⟨w.heap.size, 0, none⟩) n n) w' ∧ w'.heap.size = w.heap.size + 1 ∧ Blk w'.heap w.heap.size 4 (rowN n fun _ => .bool false) ∧ Ext (fun _ => False) w w' := by
  rw [← rowN_rep]
  exact make_in (P := Try.prog) (t := 59) (e := 4) (i := Try.t4) (z := .bool false) (by kernel_rfl) (by kernel_rfl) (by kernel_rfl) (z1 := .bool false) rfl (by kernel_rfl) (by_ := 1) (by kernel_rfl) (by decide) n (by omega) w
theorem makeLists (n : Nat) (hn : n ≤ 1000000) (w : World) : ∃ w', (Instr.makeSlice 122 (.int .i64 n) (.int .i64 n)).run Try.prog w = .ok (.slice (some ⟨w.heap.size, 0, none⟩) n n) w' ∧ w'.heap.size = w.heap.size + 1 ∧ Blk w'.heap w.heap.size 147 (rowN n fun _ => .slice none 0 0) ∧ Ext (fun _ => False) w w' := by
  rw [← rowN_rep]
  exact make_in (P := Try.prog) (t := 122) (e := 147) (i := Try.t147) (z := .slice none 0 0) (by kernel_rfl) (by kernel_rfl) (by kernel_rfl) (z1 := .slice none 0 0) rfl (by kernel_rfl) (by_ := 24) (by kernel_rfl) (by decide) n (by omega) w
/-- The groups, none of them set. -/
theorem snone_ok {w : World} {b : Nat} {G : Nat} (hG : G ≤ 1000) (h2 : cellH w.heap b 2 = some (.int .i64 (G : Int))) :
    Cl Try.prog 156 [.pointer (some ⟨b, 0, none⟩)] w (fun e w' => ∃ k, e = .returned (.slice (some ⟨k, 0, none⟩) G G) ∧ w.heap.size ≤ k ∧ Vec w'.heap 31 2 (some ⟨k, 0, none⟩) G G (sgC G gNone) ∧ Below w.heap.size w w') := by
  apply vc156
  unfold V156
  obtain ⟨w5, hr, s5, k5, e5⟩ := makeSpans G hG w
  have B5 : Below w.heap.size w w5 := Ext.to (Below.refl _ _) e5 fun _ h => h.elim
  generalize hk : w.heap.size = k at *
  refine ⟨(G : Int), by rw [Nat.zero_add]; exact h2, _, _, _, w5, hr, fun m n w' => ∃ i : Nat, n = i ∧ i ≤ G ∧ m = G - i ∧ Blk w'.heap k 31 (rowN (2 * G) fun j => .int .i64 (if j < 2 * i ∧ j % 2 = 0 then -2 else 0)) ∧ Below w.heap.size w w', ⟨_, 0, rfl, by omega, rfl, ?_, by rw [hk]; exact B5⟩, ?_⟩
  · rw [rowN_ext (g := fun _ => .int .i64 0) fun j _ => by rw [if_neg (by omega)]]; exact k5
  rintro m d n w1 ⟨i, rfl, hi, rfl, k1, B1⟩
  refine ⟨fun g => ?_, fun g => ?_⟩
  · have g' : i < G := by have := of_decide_eq_true g; omega
    refine ⟨k, 0, ⟨rfl, by omega, by omega⟩, ?_⟩
    dsimp only
    rw [show 0 + Int.toNat (i : Int) * 2 = 2 * i from by omega]
    refine stW_in k1 (by rw [rowN_length]; show 2 * i + 1 ≤ 2 * G; omega) fun w2 s2 k2 e2 => ⟨G - (i + 1), by omega, i + 1, by rw [w64 (by omega)]; omega, by omega, rfl, ?_, Ext.to B1 e2 fun x hx => by omega⟩
    have : segSet (rowN (2 * G) fun j => .int .i64 (if j < 2 * i ∧ j % 2 = 0 then -2 else 0)) (2 * i) [.int .i64 (-2)] = rowN (2 * G) fun j => .int .i64 (if j < 2 * (i + 1) ∧ j % 2 = 0 then -2 else 0) := by
      show (rowN _ _).set (2 * i) _ = _
      rw [rowN_set]
      apply rowN_ext
      intro j hj
      by_cases h1 : j = 2 * i
      · rw [if_pos h1, if_pos (by omega)]
      · rw [if_neg h1]
        by_cases h2 : j < 2 * i ∧ j % 2 = 0
        · rw [if_pos h2, if_pos (by omega)]
        · rw [if_neg h2, if_neg (by omega)]
    rw [this] at k2; exact k2
  · have g' : i = G := by have := of_decide_eq_false g; omega
    subst g'
    have hc : (rowN (2 * i) fun j => .int .i64 (if j < 2 * i ∧ j % 2 = 0 then -2 else 0)) = sgC i gNone := by
      apply rowN_ext
      intro j hj
      unfold spS gNone
      by_cases h : j % 2 = 0
      · rw [if_pos ⟨hj, h⟩]; simp only [h, if_true]
      · rw [if_neg (fun h' => h h'.2)]; simp only [h, if_false]
    rw [hc] at k1
    exact ⟨k, rfl, by omega, ⟨sgC_length _ _, Nat.le_refl _, .inr ⟨k, _, rfl, k1, sgC_length _ _, List.take_of_length_le (by rw [sgC_length]; exact Nat.le_refl _)⟩⟩, hk ▸ B1⟩
/-- Groups as another way left them. -/
theorem sover_ok {w : World} {a1 a2 : Option Addr} {l1 l2 c1 c2 : Nat} {x y : Gr} {G : Nat} (hG : G ≤ 1000) (h1 : Vec w.heap 31 2 a1 l1 c1 (sgC G x)) (h2 : Vec w.heap 31 2 a2 l2 c2 (sgC G y)) :
    Cl Try.prog 157 [.slice a1 l1 c1, .slice a2 l2 c2] w (fun e w' => ∃ k, e = .returned (.slice (some ⟨k, 0, none⟩) G G) ∧ w.heap.size ≤ k ∧ Vec w'.heap 31 2 (some ⟨k, 0, none⟩) G G (sgC G (gOver x y)) ∧ Below w.heap.size w w') := by
  have hl1 : l1 = G := by have := h1.1; rw [sgC_length] at this; omega
  have hl2 : l2 = G := by have := h2.1; rw [sgC_length] at this; omega
  subst hl1
  subst hl2
  apply vc157
  unfold V157
  obtain ⟨w4, hr, s4, k4, e4⟩ := makeSpans l2 hG w
  have B4 : Below w.heap.size w w4 := Ext.to (Below.refl _ _) e4 fun _ h => h.elim
  generalize hk : w.heap.size = k at *
  refine ⟨_, _, _, w4, hr, fun m n w' => ∃ i : Nat, n = i ∧ i ≤ l2 ∧ m = l2 - i ∧ Blk w'.heap k 31 (rowN (2 * l2) fun j => .int .i64 (if j < 2 * i then spS (gOver x y) j else 0)) ∧ Below w.heap.size w w', ⟨_, 0, rfl, by omega, rfl, ?_, by rw [hk]; exact B4⟩, ?_⟩
  · rw [rowN_ext (g := fun _ => .int .i64 0) fun j _ => by rw [if_neg (by omega)]]; exact k4
  rintro m d n w8 ⟨i, rfl, hi, rfl, k8, B8⟩
  refine ⟨fun g => ?_, fun g => ?_⟩
  · have g' : i < l2 := by have := of_decide_eq_true g; omega
    have e0 : Int.toNat (i : Int) = i := by omega
    have e1 : IntKind.wrap .i64 ((i : Int) + 1) = ((i + 1 : Nat) : Int) := by rw [w64 (by omega)]; omega
    rw [e0, e1]
    have v1 := h1.keep (S := fun _ => False) (Ext.of_below B8) fun _ _ h => h
    have v2 := h2.keep (S := fun _ => False) (Ext.of_below B8) fun _ _ h => h
    obtain ⟨b1, rfl, hc1⟩ := v1.open (by omega)
    obtain ⟨b2, rfl, hc2⟩ := v2.open (by omega)
    have hb1 := h1.lt b1 rfl
    have hb2 := h2.lt b2 rfl
    have hx : ∀ o, o < 2 → cellH w8.heap b1 (0 + i * 2 + o) = some (.int .i64 (spS x (2 * i + o))) := fun o ho => by
      rw [Nat.zero_add, hc1 _ (by omega), show i * 2 + o = 2 * i + o from by omega]; exact rowN_get _ (by omega)
    have hy : ∀ {w' : World} o, o < 2 → (∀ q, cellH w'.heap b2 q = cellH w8.heap b2 q) → cellH w'.heap b2 (0 + i * 2 + o) = some (.int .i64 (spS y (2 * i + o))) := fun o ho hq => by
      rw [hq, Nat.zero_add, hc2 _ (by omega), show i * 2 + o = 2 * i + o from by omega]; exact rowN_get _ (by omega)
    have ev : (2 * i) / 2 = i ∧ (2 * i + 1) / 2 = i ∧ (2 * i) % 2 = 0 ∧ (2 * i + 1) % 2 ≠ 0 := by omega
    refine ⟨b1, 0, ⟨rfl, by omega, by omega⟩, _, hx 0 (by decide), _, hx 1 (by decide), k, 0, ⟨rfl, by omega, by omega⟩, ?_⟩
    refine stW_in k8 (by rw [rowN_length]; show 0 + i * 2 + 2 ≤ 2 * l2; omega) fun w17 s17 k17 e17 => ?_
    have hq17 : ∀ q, cellH w17.heap b2 q = cellH w8.heap b2 q := fun q => Ext.cellH e17 (by have := B8.size; omega) (by omega) q
    have B17 : Below w.heap.size w w17 := Ext.to B8 e17 fun z hz => by omega
    -- what two numbers become
    have hstep : ∀ (f : Nat → Value), (∀ j, j < 2 * i → f j = .int .i64 (spS (gOver x y) j)) → f (2 * i) = .int .i64 (spS (gOver x y) (2 * i)) → f (2 * i + 1) = .int .i64 (spS (gOver x y) (2 * i + 1)) → (∀ j, 2 * i + 1 < j → f j = .int .i64 0) → rowN (2 * l2) f = rowN (2 * l2) fun j => .int .i64 (if j < 2 * (i + 1) then spS (gOver x y) j else 0) := by
      intro f f1 f2 f3 f4
      apply rowN_ext
      intro j hj
      by_cases hj1 : j < 2 * (i + 1)
      · rw [if_pos hj1]
        by_cases hj2 : j < 2 * i
        · exact f1 j hj2
        · by_cases hj3 : j = 2 * i
          · subst hj3; exact f2
          · obtain rfl : j = 2 * i + 1 := by omega
            exact f3
      · rw [if_neg hj1]; exact f4 j (by omega)
    have hk17 : Blk w17.heap k 31 (rowN (2 * l2) fun j => if j = 2 * i + 1 then .int .i64 (spS x (2 * i + 1)) else if j = 2 * i then .int .i64 (spS x (2 * i)) else .int .i64 (if j < 2 * i then spS (gOver x y) j else 0)) := by
      have : segSet (rowN (2 * l2) fun j => .int .i64 (if j < 2 * i then spS (gOver x y) j else 0)) (0 + i * 2) [.int .i64 (spS x (2 * i + 0)), .int .i64 (spS x (2 * i + 1))] = rowN (2 * l2) fun j => if j = 2 * i + 1 then .int .i64 (spS x (2 * i + 1)) else if j = 2 * i then .int .i64 (spS x (2 * i)) else .int .i64 (if j < 2 * i then spS (gOver x y) j else 0) := by
        show ((rowN _ _).set (0 + i * 2) _).set (0 + i * 2 + 1) _ = _
        rw [rowN_set, rowN_set, show 0 + i * 2 = 2 * i from by omega]
        rfl
      rw [this] at k17; exact k17
    refine ⟨b2, 0, ⟨rfl, by omega, by omega⟩, _, hy 0 (by decide) hq17, fun g2 => ?_, fun g2 => ?_⟩
    · obtain ⟨p, hp⟩ : ∃ p, y (i + 1) = some p := by
        cases hyi : y (i + 1) with
        | some p => exact ⟨p, rfl⟩
        | none =>
          have h0 : spS y (2 * i + 0) = -2 := by unfold spS; simp only [Nat.add_zero, ev.1, hyi, ev.2.2.1, if_true]
          rw [h0] at g2; simp at g2
      refine ⟨b2, 0, ⟨rfl, by omega, by omega⟩, _, hy 0 (by decide) hq17, _, hy 1 (by decide) hq17, k, 0, ⟨rfl, by omega, by omega⟩, ?_⟩
      refine stW_in hk17 (by rw [rowN_length]; show 0 + i * 2 + 2 ≤ 2 * l2; omega) fun w27 s27 k27 e27 => ⟨l2 - (i + 1), by omega, i + 1, rfl, by omega, rfl, ?_, Ext.to B17 e27 fun z hz => by omega⟩
      have hs : ∀ f : Nat → Value, segSet (rowN (2 * l2) f) (0 + i * 2) [.int .i64 (spS y (2 * i + 0)), .int .i64 (spS y (2 * i + 1))] = rowN (2 * l2) fun j => if j = 2 * i + 1 then .int .i64 (spS y (2 * i + 1)) else if j = 2 * i then .int .i64 (spS y (2 * i)) else f j := by
        intro f
        show ((rowN _ _).set (0 + i * 2) _).set (0 + i * 2 + 1) _ = _
        rw [rowN_set, rowN_set, show 0 + i * 2 = 2 * i from by omega]
        rfl
      rw [hs, hstep] at k27
      · exact k27
      · intro j hj; rw [if_neg (by omega), if_neg (by omega), if_neg (by omega), if_neg (by omega), if_pos hj]
      · rw [if_neg (by omega), if_pos rfl]; unfold spS gOver; rw [ev.1, hp]; rfl
      · rw [if_pos rfl]; unfold spS gOver; rw [ev.2.1, hp]; rfl
      · intro j hj; rw [if_neg (by omega), if_neg (by omega), if_neg (by omega), if_neg (by omega), if_neg (by omega)]
    · have hp : y (i + 1) = none := by
        cases hyi : y (i + 1) with
        | none => rfl
        | some p =>
          have h0 : spS y (2 * i + 0) = (p.1 : Int) := by unfold spS; simp only [Nat.add_zero, ev.1, hyi, ev.2.2.1, if_true]
          rw [h0] at g2
          simp at g2
      refine ⟨l2 - (i + 1), by omega, i + 1, rfl, by omega, rfl, ?_, B17⟩
      rw [hstep] at hk17
      · exact hk17
      · intro j hj; rw [if_neg (by omega), if_neg (by omega), if_pos hj]
      · rw [if_neg (by omega), if_pos rfl]; unfold spS gOver; rw [ev.1, hp]; rfl
      · rw [if_pos rfl]; unfold spS gOver; rw [ev.2.1, hp]; rfl
      · intro j hj; rw [if_neg (by omega), if_neg (by omega), if_neg (by omega)]
  · have g' : i = l2 := by have := of_decide_eq_false g; omega
    subst g'
    rw [rowN_ext (g := fun j => .int .i64 (spS (gOver x y) j)) fun j hj => by rw [if_pos hj]] at k8
    exact ⟨k, rfl, by omega, ⟨sgC_length _ _, Nat.le_refl _, .inr ⟨k, _, rfl, k8, sgC_length _ _, List.take_of_length_le (by rw [rowN_length]; omega)⟩⟩, hk ▸ B8⟩
/-- Is the byte in the set? -/
theorem sin_ok {w : World} {a : Option Addr} {l c : Nat} {s : List (Int × Int)} (h : Vec w.heap 134 2 a l c (rngC s)) (hl : s.length ≤ 1000) (ch : Nat) (hc : ch < 256) {ch' : Int} (e : ch' = ch) :
    Cl Try.prog 154 [.slice a l c, .int .u8 ch'] w (RetB (.bool (inSet s ch)) w) := by
  subst e
  apply vc154
  unfold V154
  have hls : l = s.length := by have := h.1; rw [rngC_length] at this; omega
  subst hls
  rw [w64 (n := (ch : Int)) (by omega)]
  refine ⟨fun m n w' => ∃ (A B : List (Int × Int)), s = A ++ B ∧ n = A.length ∧ m = B.length ∧ inSet A ch = false ∧ Below w.heap.size w w', ⟨_, [], s, rfl, rfl, rfl, rfl, Below.refl _ _⟩, ?_⟩
  rintro m d n w1 ⟨A, B, hs, rfl, rfl, hA, hb⟩
  have hsl : s.length = A.length + B.length := by rw [hs]; simp
  have e0 : Int.toNat (A.length : Int) = A.length := by omega
  have e1 : IntKind.wrap .i64 ((A.length : Int) + 1) = ((A.length + 1 : Nat) : Int) := by rw [w64 (by omega)]; omega
  rw [e0, e1]
  refine ⟨fun g => ?_, fun g => ?_⟩
  · have g' : A.length < s.length := by have := of_decide_eq_true g; omega
    obtain ⟨x, B', rfl⟩ : ∃ x B', B = x :: B' := by
      cases B with
      | nil => simp only [List.length_nil] at hsl; omega
      | cons x B' => exact ⟨x, B', rfl⟩
    have hv := h.keep (S := fun _ => False) (Ext.of_below hb) fun _ _ h => h
    obtain ⟨b, rfl, hcell⟩ := hv.open (by omega)
    have hrg := rngC_at s A.length g'
    have hx : s[A.length] = x := by rw [List.getElem_of_eq hs]; simp
    rw [hx] at hrg
    refine ⟨b, 0, ⟨rfl, by omega, by omega⟩, x.1, by rw [Nat.zero_add, hcell _ (by omega)]; exact hrg.1, x.2, by rw [Nat.zero_add, hcell _ (by omega)]; exact hrg.2, ?_⟩
    refine newC_in fun w2 s2 k2 e2 => ?_
    refine stW_in k2 (by show 0 + 2 ≤ 2; decide) fun w3 s3 k3 e3 => ?_
    have B3 : Below w.heap.size w w3 := Ext.to (Ext.to hb e2 fun _ h => h.elim) e3 fun i hi => by have := hb.size; omega
    have hin : inSet (A ++ [x]) ch = (inSet A ch || (decide (x.1 ≤ (ch : Int)) && decide ((ch : Int) ≤ x.2))) := by simp [inSet]
    have hno : (decide (x.1 ≤ (ch : Int)) && decide ((ch : Int) ≤ x.2)) = false → ∃ m, m < B'.length + 1 ∧ ∃ (A' B'' : List (Int × Int)), s = A' ++ B'' ∧ ((A.length + 1 : Nat) : Int) = A'.length ∧ m = B''.length ∧ inSet A' ch = false ∧ Below w.heap.size w w3 := fun h =>
      ⟨B'.length, by omega, A ++ [x], B', by rw [hs]; simp, by simp, rfl, by rw [hin, hA, h]; rfl, B3⟩
    refine ⟨_, k3.cell 0, fun g9 => ⟨_, k3.cell 1, fun g10 => ?_, fun g10 => hno (by rw [g10, Bool.and_false])⟩, fun g9 => hno (by rw [show decide (x.1 ≤ (ch : Int)) = false from g9, Bool.false_and])⟩
    have : inSet s ch = true := by
      rw [hs]
      unfold inSet
      rw [List.any_append, List.any_cons, show decide (x.1 ≤ (ch : Int)) = true from g9, g10]
      simp
    rw [this]
    exact ⟨rfl, B3⟩
  · have g' : ¬ A.length < s.length := by have := of_decide_eq_false g; omega
    have : B = [] := by
      cases B with
      | nil => rfl
      | cons x r => simp only [List.length_cons] at hsl; omega
    subst this
    rw [List.append_nil] at hs
    subst hs
    rw [hA]
    exact ⟨rfl, hb⟩
end Go.Proofs.Ytngbiaeliphdjaa.V
/- Printed by vcgen.py, a program of this session: formulas of Go functions, each with the proof that it gives the function's contract. No statement of the seat is proved here. -/
namespace Go.Proofs.Ytngbiaeliphdjaa.V
open Go.Vc Go.Proofs
set_option linter.unusedVariables false
set_option maxRecDepth 100000
/-- laws.wPieces -/
def V72 (a1 : Option Addr) (l1 c1 : Nat) (a2 : Option Addr) (l2 c2 : Nat) (R : Rt) : Pred := fun w =>
  (cB (((l1 : Nat) : Int) != ((l2 : Nat) : Int)) (R (.returned (.bool false)) w) (∃ (I3 : Nat → Int → World → Prop), (∃ k5, I3 k5 0 w) ∧ ∀ k4 (d7 : Nat → Value) n8 w6, I3 k4 n8 w6 → (cB (decide (n8 < ((l1 : Nat) : Int))) (ixS a1 l1 n8 fun b9 o10 => lI w6 b9 (o10 + (Int.toNat n8) * 7) fun n11 => lL w6 b9 (o10 + (Int.toNat n8) * 7 + 1) fun a12 l12 c12 => lI w6 b9 (o10 + (Int.toNat n8) * 7 + 2) fun n13 => lI w6 b9 (o10 + (Int.toNat n8) * 7 + 3) fun n14 => lB w6 b9 (o10 + (Int.toNat n8) * 7 + 4) fun t15 => lI w6 b9 (o10 + (Int.toNat n8) * 7 + 5) fun n16 => lL w6 b9 (o10 + (Int.toNat n8) * 7 + 6) fun a17 l17 c17 => newC [.int .i64 0, .slice none 0 0, .int .i64 0, .int .i64 0, .bool false, .int .i64 0, .slice none 0 0] 111 (fun b18 w19 => stW b18 0 [.int .i64 n11, .slice a12 l12 c12, .int .i64 n13, .int .i64 n14, .bool t15, .int .i64 n16, .slice a17 l17 c17] (fun w20 => ixS a2 l2 n8 fun b21 o22 => lI w20 b21 (o22 + (Int.toNat n8) * 7) fun n23 => lL w20 b21 (o22 + (Int.toNat n8) * 7 + 1) fun a24 l24 c24 => lI w20 b21 (o22 + (Int.toNat n8) * 7 + 2) fun n25 => lI w20 b21 (o22 + (Int.toNat n8) * 7 + 3) fun n26 => lB w20 b21 (o22 + (Int.toNat n8) * 7 + 4) fun t27 => lI w20 b21 (o22 + (Int.toNat n8) * 7 + 5) fun n28 => lL w20 b21 (o22 + (Int.toNat n8) * 7 + 6) fun a29 l29 c29 => newC [.int .i64 0, .slice none 0 0, .int .i64 0, .int .i64 0, .bool false, .int .i64 0, .slice none 0 0] 111 (fun b30 w31 => stW b30 0 [.int .i64 n23, .slice a24 l24 c24, .int .i64 n25, .int .i64 n26, .bool t27, .int .i64 n28, .slice a29 l29 c29] (fun w32 => lI w32 b18 0 fun n33 => lI w32 b30 0 fun n34 => (cB (n33 != n34) (R (.returned (.bool false)) w32) (lI w32 b18 2 fun n35 => lI w32 b30 2 fun n36 => (cB (n35 != n36) (R (.returned (.bool false)) w32) (lI w32 b18 3 fun n37 => lI w32 b30 3 fun n38 => (cB (n37 != n38) (R (.returned (.bool false)) w32) (lB w32 b18 4 fun t39 => lB w32 b30 4 fun t40 => (cB (!(t39 == t40)) (R (.returned (.bool false)) w32) (lI w32 b18 5 fun n41 => lI w32 b30 5 fun n42 => (cB (n41 != n42) (R (.returned (.bool false)) w32) (lL w32 b18 1 fun a43 l43 c43 => lL w32 b30 1 fun a44 l44 c44 => (cB (((l43 : Nat) : Int) != ((l44 : Nat) : Int)) (R (.returned (.bool false)) w32) (lL w32 b18 6 fun a45 l45 c45 => lL w32 b30 6 fun a46 l46 c46 => (cB (((l45 : Nat) : Int) != ((l46 : Nat) : Int)) (R (.returned (.bool false)) w32) (lL w32 b18 1 fun a47 l47 c47 => ∃ (I48 : Nat → Int → World → Prop), (∃ k50, I48 k50 0 w32) ∧ ∀ k49 (d52 : Nat → Value) n53 w51, I48 k49 n53 w51 → (cB (decide (n53 < ((l47 : Nat) : Int))) (drw (fun w54 => lL w54 b18 1 fun a55 l55 c55 => ixS a55 l55 n53 fun b56 o57 => lI w54 b56 (o57 + (Int.toNat n53) * 2) fun n58 => lI w54 b56 (o57 + (Int.toNat n53) * 2 + 1) fun n59 => lL w54 b30 1 fun a60 l60 c60 => ixS a60 l60 n53 fun b61 o62 => lI w54 b61 (o62 + (Int.toNat n53) * 2) fun n63 => lI w54 b61 (o62 + (Int.toNat n53) * 2 + 1) fun n64 => ∃ t65, (do pure (Value.bool (!(← Op.equal 134 (.agg #[.int .i64 n58, .int .i64 n59]) (.agg #[.int .i64 n63, .int .i64 n64])))) : Sem Value).run Try.prog w54 = .ok (.bool t65) w54 ∧ (cB t65 (R (.returned (.bool false)) w54) ((∃ m66, m66 < k49 ∧ I48 m66 (IntKind.wrap .i64 (n53 + 1)) w54)))) w51) (lL w51 b18 6 fun a67 l67 c67 => ∃ (I68 : Nat → Int → World → Prop), (∃ k70, I68 k70 0 w51) ∧ ∀ k69 (d72 : Nat → Value) n73 w71, I68 k69 n73 w71 → (cB (decide (n73 < ((l67 : Nat) : Int))) (drw (fun w74 => lL w74 b18 6 fun a75 l75 c75 => ixS a75 l75 n73 fun b76 o77 => lI w74 b76 (o77 + (Int.toNat n73) * 1) fun n78 => lL w74 b30 6 fun a79 l79 c79 => ixS a79 l79 n73 fun b80 o81 => lI w74 b80 (o81 + (Int.toNat n73) * 1) fun n82 => (cB (n78 != n82) (R (.returned (.bool false)) w74) ((∃ m83, m83 < k69 ∧ I68 m83 (IntKind.wrap .i64 (n73 + 1)) w74)))) w71) ((∃ m84, m84 < k4 ∧ I3 m84 (IntKind.wrap .i64 (n8 + 1)) w71)))))))))))))))))))) w31) w20) w19) w6) (R (.returned (.bool true)) w6))))
def scr72 : Scr := (.q 1 (.q 5 (.cond (.q 1 .nil) (.q 3 (.loop (dr [(17, some (.int .i64))] [(4,6),(18,98)]) (.q 1 (.cond (.q 2 (.q 6 (.q 6 (.run [0,1,2,3,4,5] (.split 33 (.r [6,7,8,9,10,11,12,13,14,15,16,17,18,19,20,21,22,23,24,25,26,27,28,29,30,31,32,33,34,35,36,37,38,39,40,41,42,43,44,45,46,47,48,49,50] (.lit (.q 1 .nil))) (.run [6,7,8,9,10,11,12] (.split 40 (.r [13,14,15,16,17,18,19,20,21,22,23,24,25,26,27,28,29,30,31,32,33,34,35,36,37,38,39,40,41,42,43,44,45,46,47,48,49,50] (.lit (.q 1 .nil))) (.run [13,14,15,16,17,18,19] (.split 47 (.r [20,21,22,23,24,25,26,27,28,29,30,31,32,33,34,35,36,37,38,39,40,41,42,43,44,45,46,47,48,49,50] (.lit (.q 1 .nil))) (.run [20,21,22,23,24,25,26] (.split 54 (.r [27,28,29,30,31,32,33,34,35,36,37,38,39,40,41,42,43,44,45,46,47,48,49,50] (.lit (.q 1 .nil))) (.run [27,28,29,30,31,32,33] (.split 61 (.r [34,35,36,37,38,39,40,41,42,43,44,45,46,47,48,49,50] (.lit (.q 1 .nil))) (.run [34,35,36,37,38,39,40,41,42] (.split 70 (.r [43,44,45,46,47,48,49,50] (.lit (.q 1 .nil))) (.r [43,44,45,46,47,48,49,50] (.cond (.q 1 .nil) (.q 4 (.loop (dr [(82, some (.int .i64))] [(4,1),(8,1),(83,14)]) (.q 1 (.cond (.q 2 (.q 11 (.cond (.q 1 .nil) (.q 2 .nil)))) (.q 4 (.loop (dr [(100, some (.int .i64))] [(4,1),(9,1),(101,14)]) (.q 1 (.cond (.q 2 (.q 11 (.cond (.q 1 .nil) (.q 2 .nil)))) (.q 2 .nil)))))))))))))))))))))))))) (.q 1 .nil))))))))
theorem vc72 {a1 l1 c1 a2 l2 c2} {R w} (h : V72 a1 l1 c1 a2 l2 c2 R w) : Cl Try.prog 72 [.slice a1 l1 c1, .slice a2 l2 c2] w R :=
  cl_of scr72 Try.func72 (by kernel_rfl) _ _ (by kernel_rfl) h
/-- spec.l1pieces -/
def V97 := V72
def scr97 : Scr := scr72
theorem vc97 {a1 l1 c1 a2 l2 c2} {R w} (h : V97 a1 l1 c1 a2 l2 c2 R w) : Cl Try.prog 97 [.slice a1 l1 c1, .slice a2 l2 c2] w R :=
  cl_of scr97 Try.func97 (by kernel_rfl) _ _ (by kernel_rfl) h
end Go.Proofs.Ytngbiaeliphdjaa.V
/- Equality of a struct with itself. No statement of the seat is proved here. -/
namespace Go.Proofs.Ytngbiaeliphdjaa.V
open Go.Vc Go.Proofs Go.RowKit
set_option linter.unusedVariables false
set_option linter.unusedSimpArgs false

theorem eqFields_refl {P : Program} {w : World} (d : Nat) (xs : Array Value) : ∀ fs : List Field, (∀ f ∈ fs, ∃ a, (part f.type xs f.offset).run P w = .ok a w ∧ (Op.equalIn d f.type a a).run P w = .ok true w) → (Op.eqFields d xs xs fs).run P w = .ok true w
  | [], _ => by simp [Op.eqFields]
  | f :: fs, h => by
    obtain ⟨a, h1, h2⟩ := h f (by simp)
    have ih := eqFields_refl d xs fs fun g hg => h g (by simp [hg])
    simp only [Op.eqFields]
    split
    · simp [h1, h2, ih]
    · exact ih
theorem mem_fields {fs : List Field} {l : List (TypeId × Nat)} (h : fs.map (fun f => (f.type, f.offset)) = l) {f : Field} (hf : f ∈ fs) : (f.type, f.offset) ∈ l := by
  rw [← h]; exact List.mem_map.2 ⟨f, hf, rfl⟩
theorem eq31 (n m : Int) (w : World) : (Op.equal 31 (.agg #[.int .i64 n, .int .i64 m]) (.agg #[.int .i64 n, .int .i64 m])).run Try.prog w = .ok true w := by
  unfold Op.equal
  rw [show Op.maxDepth = 9998 + 1 + 1 from rfl]
  rw [run_equalIn_struct w (9998 + 1) 31 _ _ (by kernel_rfl) (by kernel_rfl)]
  refine eqFields_refl _ _ _ fun f hf => ?_
  have := mem_fields (l := [(3, 0), (3, 1)]) (by kernel_rfl) hf
  simp only [List.mem_cons, List.not_mem_nil, or_false, Prod.mk.injEq] at this
  rcases this with ⟨h1, h2⟩ | ⟨h1, h2⟩ <;> rw [h1, h2]
  · exact ⟨.int .i64 n, by kernel_rfl, by rw [run_equalIn_int w 9998 3 .i64 .i64 _ _ Try.underlying3]; simp⟩
  · exact ⟨.int .i64 m, by kernel_rfl, by rw [run_equalIn_int w 9998 3 .i64 .i64 _ _ Try.underlying3]; simp⟩
/-- As the laws ask it. -/
theorem ne_of {T : TypeId} {v : Value} {w : World} (h : (Op.equal T v v).run Try.prog w = .ok true w) : (do pure (Value.bool (!(← Op.equal T v v))) : Sem Value).run Try.prog w = .ok (.bool false) w := by
  rw [bind_run h]; rfl
end Go.Proofs.Ytngbiaeliphdjaa.V
/- Pieces are compared by the laws and by the reference. No statement of the seat is proved here. -/
namespace Go.Proofs.Ytngbiaeliphdjaa.V
open Go.Vc Go.Proofs Go.RowKit
set_option linter.unusedVariables false
set_option linter.unusedSimpArgs false
theorem eq134 (a b c d : Int) (w : World) : (Op.equal 134 (.agg #[.int .i64 a, .int .i64 b]) (.agg #[.int .i64 c, .int .i64 d])).run Try.prog w = .ok (a == c && b == d) w := by
  unfold Op.equal
  rw [show Op.maxDepth = 9998 + 1 + 1 from rfl]
  rw [run_equalIn_struct w (9998 + 1) 134 _ _ (by kernel_rfl) (by kernel_rfl)]
  have hm : (Try.prog.fieldsOf 134).toList.map (fun f => (decide (f.name = "_"), f.type, f.offset)) = [(false, 3, 0), (false, 3, 1)] := by kernel_rfl
  generalize (Try.prog.fieldsOf 134).toList = fs at hm
  obtain ⟨f0, f1, rfl⟩ : ∃ f0 f1, fs = [f0, f1] := by
    cases fs with
    | nil => cases hm
    | cons f0 r =>
      cases r with
      | nil => simp at hm
      | cons f1 r =>
        cases r with
        | nil => exact ⟨f0, f1, rfl⟩
        | cons f2 r => simp at hm
  · simp only [List.map_cons, List.map_nil, List.cons.injEq, Prod.mk.injEq, decide_eq_false_iff_not, and_true] at hm
    obtain ⟨⟨n0, t0, o0⟩, n1, t1, o1⟩ := hm
    have p0 : ∀ x y : Int, (part 3 #[.int .i64 x, .int .i64 y] 0).run Try.prog w = .ok (.int .i64 x) w := fun x y => by kernel_rfl
    have p1 : ∀ x y : Int, (part 3 #[.int .i64 x, .int .i64 y] 1).run Try.prog w = .ok (.int .i64 y) w := fun x y => by kernel_rfl
    have q : ∀ x y : Int, (Op.equalIn (9998 + 1) 3 (.int .i64 x) (.int .i64 y)).run Try.prog w = .ok (x == y) w := fun x y => run_equalIn_int w 9998 3 .i64 .i64 _ _ Try.underlying3
    simp only [Op.eqFields, t0, o0, t1, o1]
    rw [if_pos n0, if_pos n1, bind_run (p0 a b), bind_run (p0 c d), bind_run (q a c)]
    by_cases h : a = c
    · subst h
      rw [if_neg (by simp), bind_run (p1 a b), bind_run (p1 a d), bind_run (q b d)]
      by_cases h2 : b = d
      · subst h2; rw [if_neg (by simp)]; simp
      · have : (b == d) = false := by simpa using h2
        rw [this, if_pos (by rfl)]; simp
    · have : (a == c) = false := by simpa using h
      rw [this, if_pos (by rfl)]; rfl
theorem ne134 (a b c d : Int) (w : World) : (do pure (Value.bool (!(← Op.equal 134 (.agg #[.int .i64 a, .int .i64 b]) (.agg #[.int .i64 c, .int .i64 d])))) : Sem Value).run Try.prog w = .ok (.bool (!(a == c && b == d))) w := by
  rw [bind_run (eq134 a b c d w)]; rfl
/-- Bounds that hold of every row in memory that a law asks for. -/
def Fits (ps : List Pc) : Prop := ps.length ≤ 1099511627776 ∧ ∀ x ∈ ps, x.set.length ≤ 1099511627776 ∧ x.kids.length ≤ 1099511627776
theorem pc_ext {x y : Pc} (h1 : x.kind = y.kind) (h2 : x.set = y.set) (h3 : x.min = y.min) (h4 : x.max = y.max) (h5 : x.lazy = y.lazy) (h6 : x.num = y.num) (h7 : x.kids = y.kids) : x = y := by
  cases x; cases y; simp_all
theorem pieces_V {w : World} {N1 N2 : Nat} {a1 a2 : Option Addr} {l1 l2 c1 c2 : Nat} {rs1 rs2 : List Raw} {ps1 ps2 : List Pc} (h1 : Pcs N1 w a1 l1 c1 rs1 ps1) (h2 : Pcs N2 w a2 l2 c2 rs2 ps2) (f1 : Fits ps1) (f2 : Fits ps2) {R : Rt}
    (hR : ∀ (b : Bool) (w' : World), (b = true ↔ ps1 = ps2) → Below w.heap.size w w' → R (.returned (.bool b)) w') : V72 a1 l1 c1 a2 l2 c2 R w := by
  unfold V72
  have hl1 := h1.len
  have hl2 := h2.len
  have hl1' := h1.len'
  have hl2' := h2.len'
  have hb1 := f1.1
  have hb2 := f2.1
  have no : ps1 ≠ ps2 → ∀ {w'}, Below w.heap.size w w' → R (.returned (.bool false)) w' := fun hne {w'} hb => hR false w' ⟨fun h => (by cases h), fun h => absurd h hne⟩ hb
  refine ⟨fun g => no (fun h => ?_) (Below.refl _ _), fun g => ?_⟩
  · subst h
    have : ((l1 : Nat) : Int) ≠ l2 := by simpa using g
    omega
  have hll : l1 = l2 := by have : ((l1 : Nat) : Int) = l2 := by simpa using g
                           omega
  refine ⟨fun k n w' => ∃ i : Nat, n = i ∧ i ≤ l1 ∧ k = l1 - i ∧ ps1.take i = ps2.take i ∧ Below w.heap.size w w', ⟨_, 0, rfl, by omega, rfl, rfl, Below.refl _ _⟩, ?_⟩
  rintro k d n w6 ⟨i, rfl, hi, rfl, htk, hb⟩
  refine ⟨fun g => ?_, fun g => hR true _ ⟨fun _ => ?_, fun _ => rfl⟩ hb⟩
  rotate_left
  · have : i = l1 := by have := of_decide_eq_false g; omega
    subst this
    rw [List.take_of_length_le (by omega), List.take_of_length_le (by omega)] at htk
    exact htk
  have gi : i < l1 := by have := of_decide_eq_true g; omega
  have e0 : Int.toNat (i : Int) = i := by omega
  have e1 : IntKind.wrap .i64 ((i : Int) + 1) = ((i + 1 : Nat) : Int) := by rw [w64 (by omega)]; omega
  rw [e0, e1]
  have P1 := h1.below hb
  have P2 := h2.below hb
  obtain ⟨b1, ha1, hc1⟩ := P1.row.open (by omega)
  obtain ⟨b2, ha2, hc2⟩ := P2.row.open (by omega)
  have i1 : i < rs1.length := by omega
  have i2 : i < rs2.length := by omega
  have j1 : i < ps1.length := by omega
  have j2 : i < ps2.length := by omega
  have k1 := fun o ho => raw_at hc1 hl1 i1 o ho
  have k2 := fun o ho => raw_at hc2 hl2 i2 o ho
  have o1 := P1.all i _ _ (List.getElem?_eq_getElem i1) (List.getElem?_eq_getElem j1)
  have o2 := P2.all i _ _ (List.getElem?_eq_getElem i2) (List.getElem?_eq_getElem j2)
  have s1 := f1.2 _ (List.getElem_mem j1)
  have s2 := f2.2 _ (List.getElem_mem j2)
  have hsuf : ∀ {w'}, Below w.heap.size w w' → ps1[i] = ps2[i] → ∃ m84, m84 < l1 - i ∧ ∃ i_1 : Nat, ((i + 1 : Nat) : Int) = i_1 ∧ i_1 ≤ l1 ∧ m84 = l1 - i_1 ∧ ps1.take i_1 = ps2.take i_1 ∧ Below w.heap.size w w' := fun hb' he =>
    ⟨_, by omega, i + 1, rfl, by omega, rfl, by rw [List.take_succ_eq_append_getElem j1, List.take_succ_eq_append_getElem j2, htk, he], hb'⟩
  have no' : ps1[i] ≠ ps2[i] → ∀ {w'}, Below w.heap.size w w' → R (.returned (.bool false)) w' := fun hne => no fun h => hne (by subst h; rfl)
  generalize rs1[i] = r1 at *
  generalize rs2[i] = r2 at *
  generalize ps1[i] = p1 at *
  generalize ps2[i] = p2 at *
  refine ⟨b1, 0, ⟨ha1, by omega, by omega⟩, _, k1 0 (by decide), _, _, _, k1 1 (by decide), _, k1 2 (by decide), _, k1 3 (by decide), _, k1 4 (by decide), _, k1 5 (by decide), _, _, _, k1 6 (by decide), ?_⟩
  refine newC_in fun w19 z19 q19 x19 => ?_
  refine stW_in q19 (by show 0 + 7 ≤ 7; decide) fun w20 z20 q20 x20 => ?_
  have B20 : Below w6.heap.size w6 w20 := Ext.to (Ext.to (Below.refl _ _) x19 fun _ h => h.elim) x20 fun i hi => by omega
  have P2' := P2.below B20
  obtain ⟨b2', ha2', hc2'⟩ := P2'.row.open (by omega)
  obtain rfl : b2' = b2 := by rw [ha2] at ha2'; injection ha2' with h; injection h with h; exact h.symm
  have k2' : ∀ o, o < 7 → cellH w20.heap b2' (0 + i * 7 + o) = r2.cells[o]? := fun o ho => by
    have hlt := P2.row.lt b2' (by rw [ha2]; rfl)
    rw [B20.vcell hlt]; exact k2 o ho
  refine ⟨b2', 0, ⟨ha2, by omega, by omega⟩, _, k2' 0 (by decide), _, _, _, k2' 1 (by decide), _, k2' 2 (by decide), _, k2' 3 (by decide), _, k2' 4 (by decide), _, k2' 5 (by decide), _, _, _, k2' 6 (by decide), ?_⟩
  refine newC_in fun w31 z31 q31 x31 => ?_
  refine stW_in q31 (by show 0 + 7 ≤ 7; decide) fun w32 z32 q32 x32 => ?_
  have B32 : Below w20.heap.size w20 w32 := Ext.to (Ext.to (Below.refl _ _) x31 fun _ h => h.elim) x32 fun i hi => by omega
  have B632 := B20.vstep B32
  have Bw := hb.vstep B632
  have y1 : ∀ o, o < 7 → cellH w32.heap w6.heap.size o = r1.cells[o]? := fun o ho => (q20.below B32).cell o
  have y2 : ∀ o, o < 7 → cellH w32.heap w20.heap.size o = r2.cells[o]? := fun o ho => q32.cell o
  have K1 := q20.below B32
  have S1 := o1.keep (S := fun _ => False) (Ext.of_below B632) fun _ _ h => h
  have S2 := o2.keep (S := fun _ => False) (Ext.of_below B632) fun _ _ h => h
  have sl1 : r1.sl = p1.set.length := by have := S1.set.1; rw [rngC_length] at this; omega
  have sl2 : r2.sl = p2.set.length := by have := S2.set.1; rw [rngC_length] at this; omega
  have kl1 : r1.kl = p1.kids.length := by have := S1.kids.1; rw [intC_length] at this; omega
  have kl2 : r2.kl = p2.kids.length := by have := S2.kids.1; rw [intC_length] at this; omega
  have ne_i : ∀ {x y : Int}, (x != y) = true → x ≠ y := fun h => by simpa using h
  have eq_i : ∀ {x y : Int}, (x != y) = false → x = y := fun h => by simpa using h
  refine ⟨_, y1 0 (by decide), _, y2 0 (by decide), fun g => no' (fun h => ne_i g (by rw [o1.kind, o2.kind, h])) Bw, fun u0 => ⟨_, y1 2 (by decide), _, y2 2 (by decide), fun g => no' (fun h => ne_i g (by rw [o1.min, o2.min, h])) Bw, fun u2 => ⟨_, y1 3 (by decide), _, y2 3 (by decide), fun g => no' (fun h => ne_i g (by rw [o1.max, o2.max, h])) Bw, fun u3 =>
    ⟨_, y1 4 (by decide), _, y2 4 (by decide), fun g => no' (fun h => by rw [o1.lazy, o2.lazy, h] at g; simp at g) Bw, fun u4 => ⟨_, y1 5 (by decide), _, y2 5 (by decide), fun g => no' (fun h => ne_i g (by rw [o1.num, o2.num, h])) Bw, fun u5 => ⟨_, _, _, y1 1 (by decide), _, _, _, y2 1 (by decide), fun g => no' (fun h => ne_i g (by rw [sl1, sl2, h])) Bw, fun u1 =>
    ⟨_, _, _, y1 6 (by decide), _, _, _, y2 6 (by decide), fun g => no' (fun h => ne_i g (by rw [kl1, kl2, h])) Bw, fun u6 => ⟨_, _, _, y1 1 (by decide), ?_⟩⟩⟩⟩⟩⟩⟩⟩
  have v0 := eq_i u0
  have v2 := eq_i u2
  have v3 := eq_i u3
  have v4 : r1.lazy = r2.lazy := by simpa using u4
  have v5 := eq_i u5
  have v1 : p1.set.length = p2.set.length := by have := eq_i u1; omega
  have v6 : p1.kids.length = p2.kids.length := by have := eq_i u6; omega
  refine ⟨fun k n w' => ∃ j : Nat, n = j ∧ j ≤ p1.set.length ∧ k = p1.set.length - j ∧ p1.set.take j = p2.set.take j ∧ Below w32.heap.size w32 w', ⟨_, 0, rfl, by omega, rfl, rfl, Below.refl _ _⟩, ?_⟩
  rintro k5 d5 _ w51 ⟨j, rfl, hj, rfl, htj, B51⟩
  have Bw51 := Bw.vstep B51
  refine ⟨fun g => ?_, fun g => ?_⟩
  · have gj : j < p1.set.length := by have := of_decide_eq_true g; omega
    have gj2 : j < p2.set.length := by omega
    have f0 : Int.toNat (j : Int) = j := by omega
    have f1 : IntKind.wrap .i64 ((j : Int) + 1) = ((j + 1 : Nat) : Int) := by rw [w64 (by omega)]; omega
    rw [f0, f1]
    refine drw_in fun w54 z54 x54 => ?_
    have B54 := Ext.to B51 x54 fun _ h => h.elim
    have Bw54 := Ext.to Bw51 x54 fun _ h => h.elim
    have T1 := S1.keep (S := fun _ => False) (Ext.of_below B54) fun _ _ h => h
    have T2 := S2.keep (S := fun _ => False) (Ext.of_below B54) fun _ _ h => h
    obtain ⟨d1, hd1, hg1⟩ := T1.set.open (by omega)
    obtain ⟨d2, hd2, hg2⟩ := T2.set.open (by omega)
    have m1 := rngC_at p1.set j gj
    have m2 := rngC_at p2.set j gj2
    refine ⟨_, _, _, (K1.below B54).cell 1, d1, 0, ⟨hd1, by omega, by omega⟩, _, by rw [Nat.zero_add, hg1 _ (by omega)]; exact m1.1, _, by rw [Nat.zero_add, hg1 _ (by omega)]; exact m1.2,
      _, _, _, (q32.below B54).cell 1, d2, 0, ⟨hd2, by omega, by omega⟩, _, by rw [Nat.zero_add, hg2 _ (by omega)]; exact m2.1, _, by rw [Nat.zero_add, hg2 _ (by omega)]; exact m2.2, _, ne134 _ _ _ _ _, ?_⟩
    refine ⟨fun g => no' (fun h => ?_) Bw54, fun g => ?_⟩
    · subst h; simp at g
    · have h5 : (p1.set[j].1 == p2.set[j].1 && p1.set[j].2 == p2.set[j].2) = true := by simpa using g
      simp only [Bool.and_eq_true, beq_iff_eq] at h5
      have he : p1.set[j] = p2.set[j] := Prod.ext h5.1 h5.2
      exact ⟨_, by omega, j + 1, rfl, by omega, rfl, by rw [List.take_succ_eq_append_getElem gj, List.take_succ_eq_append_getElem gj2, htj, he], B54⟩
  have hset : p1.set = p2.set := by
    have : j = p1.set.length := by have := of_decide_eq_false g; omega
    subst this
    rw [List.take_of_length_le (by omega), List.take_of_length_le (by omega)] at htj
    exact htj
  refine ⟨_, _, _, (K1.below B51).cell 6, ?_⟩
  refine ⟨fun k n w' => ∃ j : Nat, n = j ∧ j ≤ p1.kids.length ∧ k = p1.kids.length - j ∧ p1.kids.take j = p2.kids.take j ∧ Below w32.heap.size w32 w', ⟨_, 0, rfl, by omega, rfl, rfl, B51⟩, ?_⟩
  rintro k6 d6 _ w71 ⟨j, rfl, hj, rfl, htj, B71⟩
  have Bw71 := Bw.vstep B71
  refine ⟨fun g => ?_, fun g => ?_⟩
  · have gj : j < p1.kids.length := by have := of_decide_eq_true g; omega
    have gj2 : j < p2.kids.length := by omega
    have f0 : Int.toNat (j : Int) = j := by omega
    have f1 : IntKind.wrap .i64 ((j : Int) + 1) = ((j + 1 : Nat) : Int) := by rw [w64 (by omega)]; omega
    rw [f0, f1]
    refine drw_in fun w74 z74 x74 => ?_
    have B74 := Ext.to B71 x74 fun _ h => h.elim
    have Bw74 := Ext.to Bw71 x74 fun _ h => h.elim
    have T1 := S1.keep (S := fun _ => False) (Ext.of_below B74) fun _ _ h => h
    have T2 := S2.keep (S := fun _ => False) (Ext.of_below B74) fun _ _ h => h
    obtain ⟨d1, hd1, hg1⟩ := T1.kids.open (by omega)
    obtain ⟨d2, hd2, hg2⟩ := T2.kids.open (by omega)
    refine ⟨_, _, _, (K1.below B74).cell 6, d1, 0, ⟨hd1, by omega, by omega⟩, _, by rw [show 0 + j * 1 = j from by omega, hg1 _ (by omega)]; exact intC_at _ j gj,
      _, _, _, (q32.below B74).cell 6, d2, 0, ⟨hd2, by omega, by omega⟩, _, by rw [show 0 + j * 1 = j from by omega, hg2 _ (by omega)]; exact intC_at _ j gj2, ?_⟩
    refine ⟨fun g => no' (fun h => ?_) Bw74, fun g => ?_⟩
    · subst h; simp at g
    · exact ⟨_, by omega, j + 1, rfl, by omega, rfl, by rw [List.take_succ_eq_append_getElem gj, List.take_succ_eq_append_getElem gj2, htj, eq_i g], B74⟩
  have hkids : p1.kids = p2.kids := by
    have : j = p1.kids.length := by have := of_decide_eq_false g; omega
    subst this
    rw [List.take_of_length_le (by omega), List.take_of_length_le (by omega)] at htj
    exact htj
  exact hsuf Bw71 (pc_ext (by rw [← o1.kind, ← o2.kind]; exact v0) hset (by rw [← o1.min, ← o2.min]; exact v2) (by rw [← o1.max, ← o2.max]; exact v3) (by rw [← o1.lazy, ← o2.lazy]; exact v4) (by rw [← o1.num, ← o2.num]; exact v5) hkids)
def RetEq (ps1 ps2 : List Pc) (w : World) : Rt := fun e w' => ∃ b : Bool, e = .returned (.bool b) ∧ (b = true ↔ ps1 = ps2) ∧ Below w.heap.size w w'
theorem wPieces_ok {w : World} {N1 N2 : Nat} {a1 a2 : Option Addr} {l1 l2 c1 c2 : Nat} {rs1 rs2 : List Raw} {ps1 ps2 : List Pc} (h1 : Pcs N1 w a1 l1 c1 rs1 ps1) (h2 : Pcs N2 w a2 l2 c2 rs2 ps2) (f1 : Fits ps1) (f2 : Fits ps2) : Cl Try.prog 72 [.slice a1 l1 c1, .slice a2 l2 c2] w (RetEq ps1 ps2 w) :=
  vc72 (pieces_V h1 h2 f1 f2 fun b w' hb hB => ⟨b, rfl, hb, hB⟩)
theorem l1pieces_ok {w : World} {N1 N2 : Nat} {a1 a2 : Option Addr} {l1 l2 c1 c2 : Nat} {rs1 rs2 : List Raw} {ps1 ps2 : List Pc} (h1 : Pcs N1 w a1 l1 c1 rs1 ps1) (h2 : Pcs N2 w a2 l2 c2 rs2 ps2) (f1 : Fits ps1) (f2 : Fits ps2) : Cl Try.prog 97 [.slice a1 l1 c1, .slice a2 l2 c2] w (RetEq ps1 ps2 w) :=
  vc97 (pieces_V h1 h2 f1 f2 fun b w' hb hB => ⟨b, rfl, hb, hB⟩)
end Go.Proofs.Ytngbiaeliphdjaa.V

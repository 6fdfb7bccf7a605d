/- Parts of a proof, put together: definitions, formulas of Go functions and lemmas. No statement of the seat is proved here. -/
import Derived.Test.YtngbiaeliphdjaaProg
import Derived.Laws.MakeOwn
import Derived.Test.YtngbiaeliphdjaaQcC
/- Printed by vcgen.py, a program of this session: formulas of Go functions, each with the proof that it gives the function's contract. No statement of the seat is proved here. -/
namespace Go.Proofs.Ytngbiaeliphdjaa.V
open Go.Vc Go.Proofs
set_option linter.unusedVariables false
set_option maxRecDepth 100000
/-- (*spec.l1R).more -/
def V78 (b1 : Nat) (o2 : Nat) (R : Ending → World → Prop) : World → Prop := fun w =>
  drw (fun (w3 : World) => ∃ (n4 : Int), cellH w3.heap b1 (o2 + 2) = some (.int .i64 n4) ∧ (((decide ((n4 : Int) < 0)) = true → ∃ (n5 : Int), cellH w3.heap b1 (o2 + 1) = some (.int .i64 n5) ∧ ∃ (s6 : ByteArray), cellH w3.heap b1 o2 = some (.string s6) ∧ R (.returned (.bool (decide ((n5 : Int) < ((ByteArray.size s6 : Nat) : Int))))) w3) ∧ ((decide ((n4 : Int) < 0)) = false → R (.returned (.bool false)) w3))) w
def scr78 : Scr := (.run [0] (.close (.run [0, 1, 2, 3, 4, 5] (.split 8 (.run [6, 7, 8, 9, 10, 11, 12, 13, 14, 15, 16, 17] (.close .nil)) (.run [6, 7, 8, 9, 10, 11, 12, 13, 14, 15, 16, 17] (.close .nil))))))
theorem vc78 {b1 : Nat} {o2 : Nat} {R : Ending → World → Prop} {w : World} (h : V78 b1 o2 R w) : Cl Try.prog 78 [.pointer (some ⟨b1, o2, none⟩)] w R :=
  cl_of scr78 Try.func78 (by kernel_rfl) [.pointer (some ⟨b1, o2, none⟩)] (V78 b1 o2 R) (by kernel_rfl) h
/-- (*spec.l1R).fail -/
def V79 (b1 : Nat) (o2 : Nat) (R : Ending → World → Prop) : World → Prop := fun w =>
  ∃ (n3 : Int), cellH w.heap b1 (o2 + 2) = some (.int .i64 n3) ∧ (((decide ((n3 : Int) < 0)) = true → ∃ (n4 : Int), cellH w.heap b1 (o2 + 1) = some (.int .i64 n4) ∧ stW b1 (o2 + 2) [.int .i64 n4] (fun (w5 : World) => R (.returned (.tuple #[])) w5) w) ∧ ((decide ((n3 : Int) < 0)) = false → R (.returned (.tuple #[])) w))
def scr79 : Scr := (.run [0, 1, 2, 3, 4] (.close (.cond (.run [0, 1, 2, 3, 4, 5, 6, 7] (.close .nil)) .nil)))
theorem vc79 {b1 : Nat} {o2 : Nat} {R : Ending → World → Prop} {w : World} (h : V79 b1 o2 R w) : Cl Try.prog 79 [.pointer (some ⟨b1, o2, none⟩)] w R :=
  cl_of scr79 Try.func79 (by kernel_rfl) [.pointer (some ⟨b1, o2, none⟩)] (V79 b1 o2 R) (by kernel_rfl) h
/-- (*spec.l1R).is -/
def V112 (b1 : Nat) (o2 : Nat) (n3 : Int) (R : Ending → World → Prop) : World → Prop := fun w =>
  drw (fun (w4 : World) => Cl Try.prog 78 ([.pointer (some ⟨b1, o2, none⟩)]) w4 (retG (fun (r7 : Value) (w6 : World) => ∃ (t5 : Bool), r7 = .bool t5 ∧ ((t5 = true → ∃ (s8 : ByteArray), cellH w6.heap b1 o2 = some (.string s8) ∧ ∃ (n9 : Int), cellH w6.heap b1 (o2 + 1) = some (.int .i64 n9) ∧ (0 ≤ (n9 : Int) ∧ (n9 : Int) < ((ByteArray.size s8 : Nat) : Int)) ∧ ((((byteAt s8 (Int.toNat n9) : Int) == n3) = true → ∃ (n10 : Int), cellH w6.heap b1 (o2 + 1) = some (.int .i64 n10) ∧ stW b1 (o2 + 1) [.int .i64 (IntKind.wrap .i64 (n10 + 1))] (fun (w11 : World) => R (.returned (.bool true)) w11) w6) ∧ (((byteAt s8 (Int.toNat n9) : Int) == n3) = false → R (.returned (.bool false)) w6))) ∧ (t5 = false → R (.returned (.bool false)) w6))) (fun c w => R (.panicked c) w))) w
def scr112 : Scr := (.run [0] (.close (.run [0, 1, 2] (.split 7 (.run [3, 4, 5, 6, 7, 8, 9, 10, 11, 12, 13, 14] (.close (.cond (.run [0, 1, 2, 3, 4, 5, 6, 7] (.close (.run [0] (.close .nil)))) (.run [0] (.close .nil))))) (.run [3, 4, 5, 6, 7, 8, 9, 10, 11, 12, 13, 14] (.close (.lit (.run [0] (.close .nil)))))))))
theorem vc112 {b1 : Nat} {o2 : Nat} {n3 : Int} {R : Ending → World → Prop} {w : World} (h : V112 b1 o2 n3 R w) : Cl Try.prog 112 [.pointer (some ⟨b1, o2, none⟩), .int .u8 n3] w R :=
  cl_of scr112 Try.func112 (by kernel_rfl) [.pointer (some ⟨b1, o2, none⟩), .int .u8 n3] (V112 b1 o2 n3 R) (by kernel_rfl) h
/-- (*spec.l1R).add -/
def V113 (b1 : Nat) (o2 : Nat) (n3 : Int) (a4 : Option Addr) (l4 : Nat) (c4 : Nat) (n5 : Int) (n6 : Int) (t7 : Bool) (n8 : Int) (a9 : Option Addr) (l9 : Nat) (c9 : Nat) (R : Ending → World → Prop) : World → Prop := fun w =>
  newC [.int .i64 n3, .slice a4 l4 c4, .int .i64 n5, .int .i64 n6, .bool t7, .int .i64 n8, .slice a9 l9 c9] 111 (fun (b10 : Nat) (w11 : World) => drw (fun (w12 : World) => ∃ (a13 : Option Addr), ∃ (l13 : Nat), ∃ (c13 : Nat), cellH w12.heap b1 (o2 + 4) = some (.slice a13 l13 c13) ∧ ∃ (n14 : Int), cellH w12.heap b10 0 = some (.int .i64 n14) ∧ ∃ (a15 : Option Addr), ∃ (l15 : Nat), ∃ (c15 : Nat), cellH w12.heap b10 1 = some (.slice a15 l15 c15) ∧ ∃ (n16 : Int), cellH w12.heap b10 2 = some (.int .i64 n16) ∧ ∃ (n17 : Int), cellH w12.heap b10 3 = some (.int .i64 n17) ∧ ∃ (t18 : Bool), cellH w12.heap b10 4 = some (.bool t18) ∧ ∃ (n19 : Int), cellH w12.heap b10 5 = some (.int .i64 n19) ∧ ∃ (a20 : Option Addr), ∃ (l20 : Nat), ∃ (c20 : Nat), cellH w12.heap b10 6 = some (.slice a20 l20 c20) ∧ newC [.int .i64 n14, .slice a15 l15 c15, .int .i64 n16, .int .i64 n17, .bool t18, .int .i64 n19, .slice a20 l20 c20] 111 (fun (b21 : Nat) (w22 : World) => cellH w22.heap b1 (o2 + 4) = some (.slice a13 l13 c13) ∧ ∃ (a23 : Option Addr), ∃ (l23 : Nat), ∃ (c23 : Nat), ∃ (w24 : World), (Builtin.append_ #[35, 35] 35 #[.slice a13 l13 c13, .slice (some ⟨b21, 0, none⟩) 1 1]).run Try.prog w22 = .ok (.slice a23 l23 c23) w24 ∧ stW b1 (o2 + 4) [.slice a23 l23 c23] (fun (w25 : World) => ∃ (a26 : Option Addr), ∃ (l26 : Nat), ∃ (c26 : Nat), cellH w25.heap b1 (o2 + 4) = some (.slice a26 l26 c26) ∧ R (.returned (.int .i64 (IntKind.wrap .i64 (((l26 : Nat) : Int) - 1)))) w25) w24) w12) w11) w
def scr113 : Scr := (.run [0, 1] (.close (.run [0, 1, 2, 3, 4, 5, 6, 7, 8, 9, 10] (.close (.run [0, 1, 2, 3, 4, 5, 6] (.close .nil))))))
theorem vc113 {b1 : Nat} {o2 : Nat} {n3 : Int} {a4 : Option Addr} {l4 : Nat} {c4 : Nat} {n5 : Int} {n6 : Int} {t7 : Bool} {n8 : Int} {a9 : Option Addr} {l9 : Nat} {c9 : Nat} {R : Ending → World → Prop} {w : World} (h : V113 b1 o2 n3 a4 l4 c4 n5 n6 t7 n8 a9 l9 c9 R w) : Cl Try.prog 113 [.pointer (some ⟨b1, o2, none⟩), .agg #[.int .i64 n3, .slice a4 l4 c4, .int .i64 n5, .int .i64 n6, .bool t7, .int .i64 n8, .slice a9 l9 c9]] w R :=
  cl_of scr113 Try.func113 (by kernel_rfl) [.pointer (some ⟨b1, o2, none⟩), .agg #[.int .i64 n3, .slice a4 l4 c4, .int .i64 n5, .int .i64 n6, .bool t7, .int .i64 n8, .slice a9 l9 c9]] (V113 b1 o2 n3 a4 l4 c4 n5 n6 t7 n8 a9 l9 c9 R) (by kernel_rfl) h
/-- spec.l1hex -/
def V169 (n1 : Int) (R : Ending → World → Prop) : World → Prop := fun w =>
  (((decide ((n1 : Int) ≥ 48)) = true → (((decide ((n1 : Int) ≤ 57)) = true → R (.returned (.int .i64 (IntKind.wrap .i64 (IntKind.wrap .u8 (n1 - 48))))) w) ∧ ((decide ((n1 : Int) ≤ 57)) = false → (((decide ((n1 : Int) ≥ 97)) = true → (((decide ((n1 : Int) ≤ 102)) = true → R (.returned (.int .i64 (IntKind.wrap .i64 ((IntKind.wrap .i64 (IntKind.wrap .u8 (n1 - 97))) + 10)))) w) ∧ ((decide ((n1 : Int) ≤ 102)) = false → R (.returned (.int .i64 (-1))) w))) ∧ ((decide ((n1 : Int) ≥ 97)) = false → R (.returned (.int .i64 (-1))) w))))) ∧ ((decide ((n1 : Int) ≥ 48)) = false → (((decide ((n1 : Int) ≥ 97)) = true → (((decide ((n1 : Int) ≤ 102)) = true → R (.returned (.int .i64 (IntKind.wrap .i64 ((IntKind.wrap .i64 (IntKind.wrap .u8 (n1 - 97))) + 10)))) w) ∧ ((decide ((n1 : Int) ≤ 102)) = false → R (.returned (.int .i64 (-1))) w))) ∧ ((decide ((n1 : Int) ≥ 97)) = false → R (.returned (.int .i64 (-1))) w))))
def scr169 : Scr := (.run [0] (.close (.run [0, 1, 2] (.split 5 (.run [3, 4, 5] (.close (.cond (.run [0, 1, 2, 3] (.close .nil)) (.run [0, 1, 2] (.split 14 (.run [3, 4, 5] (.close (.cond (.run [0, 1, 2, 3, 4] (.close .nil)) (.run [0] (.close .nil))))) (.run [3, 4, 5] (.close (.lit (.run [0] (.close .nil)))))))))) (.run [3, 4, 5] (.close (.lit (.run [0, 1, 2] (.split 14 (.run [3, 4, 5] (.close (.cond (.run [0, 1, 2, 3, 4] (.close .nil)) (.run [0] (.close .nil))))) (.run [3, 4, 5] (.close (.lit (.run [0] (.close .nil))))))))))))))
theorem vc169 {n1 : Int} {R : Ending → World → Prop} {w : World} (h : V169 n1 R w) : Cl Try.prog 169 [.int .u8 n1] w R :=
  cl_of scr169 Try.func169 (by kernel_rfl) [.int .u8 n1] (V169 n1 R) (by kernel_rfl) h
/-- spec.l1range -/
def V165 (a1 : Option Addr) (l1 : Nat) (c1 : Nat) (n2 : Int) (n3 : Int) (R : Ending → World → Prop) : World → Prop := fun w =>
  ∃ (I4 : Nat → Int → World → Prop), (∃ (k6 : Nat), I4 k6 n2 w) ∧ ∀ (k5 : Nat) (d8 : Nat → Value) (n9 : Int) (w7 : World), I4 k5 n9 w7 → (((decide ((n9 : Int) ≤ n3)) = true → ∃ (b10 : Nat) (o11 : Nat), ((a1 : Option Addr) = some ⟨b10, o11, none⟩ ∧ 0 ≤ (n9 : Int) ∧ (n9 : Int) < ((l1 : Nat) : Int)) ∧ stW b10 (o11 + (Int.toNat n9) * 1) [.bool true] (fun (w12 : World) => (∃ (m13 : Nat), m13 < k5 ∧ I4 m13 (IntKind.wrap .i64 (n9 + 1)) w12)) w7) ∧ ((decide ((n9 : Int) ≤ n3)) = false → R (.returned (.tuple #[])) w7))
def scr165 : Scr := (.run [0, 1] (.close (.loop [(6, some (.int .i64)), (8, none), (9, none), (10, none), (11, none), (12, none), (13, none), (14, none), (15, none)] (.run [0, 1, 2] (.close (.cond (.run [0, 1, 2, 3] (.close (.run [0, 1, 2] (.close .nil)))) .nil))))))
theorem vc165 {a1 : Option Addr} {l1 : Nat} {c1 : Nat} {n2 : Int} {n3 : Int} {R : Ending → World → Prop} {w : World} (h : V165 a1 l1 c1 n2 n3 R w) : Cl Try.prog 165 [.slice a1 l1 c1, .int .i64 n2, .int .i64 n3] w R :=
  cl_of scr165 Try.func165 (by kernel_rfl) [.slice a1 l1 c1, .int .i64 n2, .int .i64 n3] (V165 a1 l1 c1 n2 n3 R) (by kernel_rfl) h
/-- spec.l1set -/
def V167 (a1 : Option Addr) (l1 : Nat) (c1 : Nat) (R : Ending → World → Prop) : World → Prop := fun w =>
  ∃ (I2 : Nat → Option Addr → Nat → Nat → Int → World → Prop), (∃ (k4 : Nat), I2 k4 none 0 0 0 w) ∧ ∀ (k3 : Nat) (d6 : Nat → Value) (a7 : Option Addr) (l7 : Nat) (c7 : Nat) (n8 : Int) (w5 : World), I2 k3 a7 l7 c7 n8 w5 → (((decide ((n8 : Int) < 256)) = true → ∃ (b9 : Nat) (o10 : Nat), ((a1 : Option Addr) = some ⟨b9, o10, none⟩ ∧ 0 ≤ (n8 : Int) ∧ (n8 : Int) < ((l1 : Nat) : Int)) ∧ ∃ (t11 : Bool), cellH w5.heap b9 (o10 + (Int.toNat n8) * 1) = some (.bool t11) ∧ (((!t11) = true → (∃ (m12 : Nat), m12 < k3 ∧ I2 m12 a7 l7 c7 (IntKind.wrap .i64 (n8 + 1)) w5)) ∧ ((!t11) = false → (((decide ((((l7 : Nat) : Int) : Int) > 0)) = true → ∃ (b13 : Nat) (o14 : Nat), ((a7 : Option Addr) = some ⟨b13, o14, none⟩ ∧ 0 ≤ (IntKind.wrap .i64 (((l7 : Nat) : Int) - 1) : Int) ∧ (IntKind.wrap .i64 (((l7 : Nat) : Int) - 1) : Int) < ((l7 : Nat) : Int)) ∧ ∃ (n15 : Int), cellH w5.heap b13 (o14 + (Int.toNat (IntKind.wrap .i64 (((l7 : Nat) : Int) - 1))) * 2 + 1) = some (.int .i64 n15) ∧ ((((n15 : Int) == (IntKind.wrap .i64 (n8 - 1))) = true → ∃ (b16 : Nat) (o17 : Nat), ((a7 : Option Addr) = some ⟨b16, o17, none⟩ ∧ 0 ≤ (IntKind.wrap .i64 (((l7 : Nat) : Int) - 1) : Int) ∧ (IntKind.wrap .i64 (((l7 : Nat) : Int) - 1) : Int) < ((l7 : Nat) : Int)) ∧ stW b16 (o17 + (Int.toNat (IntKind.wrap .i64 (((l7 : Nat) : Int) - 1))) * 2 + 1) [.int .i64 n8] (fun (w18 : World) => (∃ (m19 : Nat), m19 < k3 ∧ I2 m19 a7 l7 c7 (IntKind.wrap .i64 (n8 + 1)) w18)) w5) ∧ (((n15 : Int) == (IntKind.wrap .i64 (n8 - 1))) = false → newC [.int .i64 n8, .int .i64 n8] 134 (fun (b20 : Nat) (w21 : World) => ∃ (a22 : Option Addr), ∃ (l22 : Nat), ∃ (c22 : Nat), ∃ (w23 : World), (Builtin.append_ #[108, 108] 108 #[.slice a7 l7 c7, .slice (some ⟨b20, 0, none⟩) 1 1]).run Try.prog w21 = .ok (.slice a22 l22 c22) w23 ∧ (∃ (m24 : Nat), m24 < k3 ∧ I2 m24 a22 l22 c22 (IntKind.wrap .i64 (n8 + 1)) w23)) w5))) ∧ ((decide ((((l7 : Nat) : Int) : Int) > 0)) = false → newC [.int .i64 n8, .int .i64 n8] 134 (fun (b25 : Nat) (w26 : World) => ∃ (a27 : Option Addr), ∃ (l27 : Nat), ∃ (c27 : Nat), ∃ (w28 : World), (Builtin.append_ #[108, 108] 108 #[.slice a7 l7 c7, .slice (some ⟨b25, 0, none⟩) 1 1]).run Try.prog w26 = .ok (.slice a27 l27 c27) w28 ∧ (∃ (m29 : Nat), m29 < k3 ∧ I2 m29 a27 l27 c27 (IntKind.wrap .i64 (n8 + 1)) w28)) w5))))) ∧ ((decide ((n8 : Int) < 256)) = false → R (.returned (.slice a7 l7 c7)) w5))
def scr167 : Scr := (.run [0] (.close (.run [0] (.close (.run [0] (.close (.loop [(3, some .slice), (4, some (.int .i64)), (5, none), (6, none), (7, none), (8, none), (9, none), (10, none), (11, none), (12, none), (13, none), (14, none), (15, none), (16, none), (17, none), (18, none), (19, none), (20, none), (21, none), (22, none), (23, none), (24, none), (25, none), (26, none), (27, none), (28, none), (29, none), (30, none), (31, none), (32, none), (33, none), (34, none), (35, none), (36, none), (37, none), (38, none), (39, none), (40, none), (41, none)] (.run [0, 1] (.close (.cond (.run [0, 1, 2, 3, 4] (.close (.cond (.run [0, 1, 2] (.close .nil)) (.run [0, 1, 2] (.close (.run [0, 1, 2] (.split 19 (.run [3, 4, 5, 6, 7, 8, 9, 10, 11, 12] (.close (.cond (.run [0, 1, 2, 3, 4, 5, 6] (.close (.run [0, 1, 2] (.close .nil)))) (.run [0, 1, 2, 3, 4, 5, 6] (.close (.run [0, 1, 2] (.close .nil))))))) (.run [3, 4, 5, 6, 7, 8, 9, 10, 11, 12] (.close (.lit (.run [0, 1, 2, 3, 4, 5, 6] (.close (.run [0, 1, 2] (.close .nil)))))))))))))) (.run [0, 1] (.close .nil))))))))))))
theorem vc167 {a1 : Option Addr} {l1 : Nat} {c1 : Nat} {R : Ending → World → Prop} {w : World} (h : V167 a1 l1 c1 R w) : Cl Try.prog 167 [.slice a1 l1 c1] w R :=
  cl_of scr167 Try.func167 (by kernel_rfl) [.slice a1 l1 c1] (V167 a1 l1 c1 R) (by kernel_rfl) h
/-- (*spec.l1R).number -/
def V168 (b1 : Nat) (o2 : Nat) (R : Ending → World → Prop) : World → Prop := fun w =>
  ∃ (n3 : Int), cellH w.heap b1 (o2 + 1) = some (.int .i64 n3) ∧ ∃ (I4 : Nat → Int → World → Prop), (∃ (k6 : Nat), I4 k6 0 w) ∧ ∀ (k5 : Nat) (d8 : Nat → Value) (n9 : Int) (w7 : World), I4 k5 n9 w7 → drw (fun (w10 : World) => Cl Try.prog 78 ([.pointer (some ⟨b1, o2, none⟩)]) w10 (retG (fun (r13 : Value) (w12 : World) => ∃ (t11 : Bool), r13 = .bool t11 ∧ ((t11 = true → ∃ (s14 : ByteArray), cellH w12.heap b1 o2 = some (.string s14) ∧ ∃ (n15 : Int), cellH w12.heap b1 (o2 + 1) = some (.int .i64 n15) ∧ (0 ≤ (n15 : Int) ∧ (n15 : Int) < ((ByteArray.size s14 : Nat) : Int)) ∧ (((decide ((byteAt s14 (Int.toNat n15) : Int) ≥ 48)) = true → ∃ (s16 : ByteArray), cellH w12.heap b1 o2 = some (.string s16) ∧ ∃ (n17 : Int), cellH w12.heap b1 (o2 + 1) = some (.int .i64 n17) ∧ (0 ≤ (n17 : Int) ∧ (n17 : Int) < ((ByteArray.size s16 : Nat) : Int)) ∧ (((decide ((byteAt s16 (Int.toNat n17) : Int) ≤ 57)) = true → drw (fun (w18 : World) => ∃ (s19 : ByteArray), cellH w18.heap b1 o2 = some (.string s19) ∧ ∃ (n20 : Int), cellH w18.heap b1 (o2 + 1) = some (.int .i64 n20) ∧ (0 ≤ (n20 : Int) ∧ (n20 : Int) < ((ByteArray.size s19 : Nat) : Int)) ∧ (((decide ((IntKind.wrap .i64 ((IntKind.wrap .i64 (n9 * 10)) + (IntKind.wrap .i64 (IntKind.wrap .u8 ((byteAt s19 (Int.toNat n20)) - 48)))) : Int) > 50)) = true → stW b1 (o2 + 1) [.int .i64 n3] (fun (w21 : World) => Cl Try.prog 79 ([.pointer (some ⟨b1, o2, none⟩)]) w21 (retG (fun (r23 : Value) (w22 : World) => r23 = .tuple #[] ∧ R (.returned (.int .i64 0)) w22) (fun c w => R (.panicked c) w))) w18) ∧ ((decide ((IntKind.wrap .i64 ((IntKind.wrap .i64 (n9 * 10)) + (IntKind.wrap .i64 (IntKind.wrap .u8 ((byteAt s19 (Int.toNat n20)) - 48)))) : Int) > 50)) = false → ∃ (n24 : Int), cellH w18.heap b1 (o2 + 1) = some (.int .i64 n24) ∧ stW b1 (o2 + 1) [.int .i64 (IntKind.wrap .i64 (n24 + 1))] (fun (w25 : World) => (∃ (m26 : Nat), m26 < k5 ∧ I4 m26 (IntKind.wrap .i64 ((IntKind.wrap .i64 (n9 * 10)) + (IntKind.wrap .i64 (IntKind.wrap .u8 ((byteAt s19 (Int.toNat n20)) - 48))))) w25)) w18))) w12) ∧ ((decide ((byteAt s16 (Int.toNat n17) : Int) ≤ 57)) = false → ∃ (n27 : Int), cellH w12.heap b1 (o2 + 1) = some (.int .i64 n27) ∧ ((((n27 : Int) == n3) = true → R (.returned (.int .i64 (-1))) w12) ∧ (((n27 : Int) == n3) = false → R (.returned (.int .i64 n9)) w12))))) ∧ ((decide ((byteAt s14 (Int.toNat n15) : Int) ≥ 48)) = false → ∃ (n28 : Int), cellH w12.heap b1 (o2 + 1) = some (.int .i64 n28) ∧ ((((n28 : Int) == n3) = true → R (.returned (.int .i64 (-1))) w12) ∧ (((n28 : Int) == n3) = false → R (.returned (.int .i64 n9)) w12))))) ∧ (t11 = false → ∃ (n29 : Int), cellH w12.heap b1 (o2 + 1) = some (.int .i64 n29) ∧ ((((n29 : Int) == n3) = true → R (.returned (.int .i64 (-1))) w12) ∧ (((n29 : Int) == n3) = false → R (.returned (.int .i64 n9)) w12))))) (fun c w => R (.panicked c) w))) w7
def scr168 : Scr := (.run [0] (.close (.run [0] (.close (.run [0, 1, 2, 3, 4] (.close (.loop [(3, some (.int .i64)), (2, none), (9, none), (10, none), (11, none), (12, none), (13, none), (14, none), (15, none), (16, none), (17, none), (18, none), (19, none), (20, none), (21, none), (22, none), (23, none), (24, none), (25, none), (26, none), (27, none), (28, none), (29, none), (30, none), (31, none), (32, none), (33, none), (34, none), (35, none), (36, none), (37, none), (38, none), (39, none), (40, none), (41, none), (42, none), (43, none), (44, none), (45, none), (46, none), (47, none), (48, none), (49, none), (50, none), (51, none), (52, none), (53, none), (54, none), (55, none), (56, none), (57, none), (58, none), (59, none), (60, none), (61, none), (62, none), (63, none)] (.run [0, 1, 2] (.split 11 (.run [3, 4, 5, 6, 7, 8, 9, 10, 11, 12, 13, 14] (.split 23 (.run [15, 16, 17, 18, 19, 20, 21, 22, 23, 24, 25] (.close (.cond (.run [0, 1, 2, 3, 4, 5, 6, 7, 8, 9, 10, 11, 12, 13, 14] (.close (.run [0, 1] (.close (.cond (.run [0, 1, 2, 3, 4] (.close (.run [0, 1] (.close (.run [0] (.close .nil)))))) (.run [0, 1, 2, 3, 4, 5, 6, 7] (.close .nil))))))) (.run [0, 1, 2, 3, 4, 5] (.close (.cond (.run [0] (.close .nil)) (.run [0, 1] (.close .nil)))))))) (.run [15, 16, 17, 18, 19, 20, 21, 22, 23, 24, 25] (.close (.lit (.run [0, 1, 2, 3, 4, 5] (.close (.cond (.run [0] (.close .nil)) (.run [0, 1] (.close .nil)))))))))) (.run [3, 4, 5, 6, 7, 8, 9, 10, 11, 12, 13, 14, 15, 16, 17, 18, 19, 20, 21, 22, 23, 24, 25] (.close (.lit (.run [0, 1, 2, 3, 4, 5] (.close (.cond (.run [0] (.close .nil)) (.run [0, 1] (.close .nil)))))))))))))))))
theorem vc168 {b1 : Nat} {o2 : Nat} {R : Ending → World → Prop} {w : World} (h : V168 b1 o2 R w) : Cl Try.prog 168 [.pointer (some ⟨b1, o2, none⟩)] w R :=
  cl_of scr168 Try.func168 (by kernel_rfl) [.pointer (some ⟨b1, o2, none⟩)] (V168 b1 o2 R) (by kernel_rfl) h
/-- (*spec.l1R).counts -/
def V150 (b1 : Nat) (o2 : Nat) (R : Ending → World → Prop) : World → Prop := fun w =>
  Cl Try.prog 168 ([.pointer (some ⟨b1, o2, none⟩)]) w (retG (fun (r5 : Value) (w4 : World) => ∃ (n3 : Int), r5 = .int .i64 n3 ∧ (((decide ((n3 : Int) < 0)) = true → Cl Try.prog 79 ([.pointer (some ⟨b1, o2, none⟩)]) w4 (retG (fun (r7 : Value) (w6 : World) => r7 = .tuple #[] ∧ R (.returned (.tuple #[.int .i64 0, .int .i64 0])) w6) (fun c w => R (.panicked c) w))) ∧ ((decide ((n3 : Int) < 0)) = false → Cl Try.prog 112 ([.pointer (some ⟨b1, o2, none⟩), .int .u8 44]) w4 (retG (fun (r10 : Value) (w9 : World) => ∃ (t8 : Bool), r10 = .bool t8 ∧ ∃ (J11 : Int → World → Prop), (((t8 = true → ∃ (n12 : Int), cellH w9.heap b1 (o2 + 1) = some (.int .i64 n12) ∧ Cl Try.prog 168 ([.pointer (some ⟨b1, o2, none⟩)]) w9 (retG (fun (r15 : Value) (w14 : World) => ∃ (n13 : Int), r15 = .int .i64 n13 ∧ ∃ (n16 : Int), cellH w14.heap b1 (o2 + 2) = some (.int .i64 n16) ∧ (((decide ((n16 : Int) < 0)) = true → (((decide ((n13 : Int) ≥ 0)) = true → (((decide ((n13 : Int) < n3)) = true → stW b1 (o2 + 1) [.int .i64 n12] (fun (w17 : World) => Cl Try.prog 79 ([.pointer (some ⟨b1, o2, none⟩)]) w17 (retG (fun (r19 : Value) (w18 : World) => r19 = .tuple #[] ∧ J11 n13 w18) (fun c w => R (.panicked c) w))) w14) ∧ ((decide ((n13 : Int) < n3)) = false → J11 n13 w14))) ∧ ((decide ((n13 : Int) ≥ 0)) = false → J11 n13 w14))) ∧ ((decide ((n16 : Int) < 0)) = false → J11 n13 w14))) (fun c w => R (.panicked c) w))) ∧ (t8 = false → J11 n3 w9))) ∧ ∀ (d20 : Nat → Value) (n21 : Int) (w22 : World), J11 n21 w22 → Cl Try.prog 112 ([.pointer (some ⟨b1, o2, none⟩), .int .u8 125]) w22 (retG (fun (r25 : Value) (w24 : World) => ∃ (t23 : Bool), r25 = .bool t23 ∧ (((!t23) = true → Cl Try.prog 79 ([.pointer (some ⟨b1, o2, none⟩)]) w24 (retG (fun (r27 : Value) (w26 : World) => r27 = .tuple #[] ∧ R (.returned (.tuple #[.int .i64 n3, .int .i64 n21])) w26) (fun c w => R (.panicked c) w))) ∧ ((!t23) = false → R (.returned (.tuple #[.int .i64 n3, .int .i64 n21])) w24))) (fun c w => R (.panicked c) w))) (fun c w => R (.panicked c) w))))) (fun c w => R (.panicked c) w))
def scr150 : Scr := (.run [0, 1] (.close (.run [0, 1, 2] (.close (.run [0, 1] (.close (.cond (.run [0, 1] (.close (.run [0, 1] (.close .nil)))) (.run [0, 1] (.close (.run [0, 1] (.close (.cut [(5, some (.int .i64)), (6, none), (16, none), (17, none), (18, none), (19, none), (20, none), (21, none), (22, none), (23, none), (24, none), (25, none), (26, none), (27, none), (28, none), (29, none), (30, none), (31, none), (32, none), (33, none), (34, none), (35, none), (36, none), (37, none), (38, none), (39, none), (40, none), (41, none)] (.cond (.run [0, 1, 2, 3, 4] (.close (.run [0, 1, 2] (.close (.run [0, 1, 2, 3, 4, 5] (.split 27 (.run [6, 7, 8, 9] (.split 31 (.run [10, 11, 12, 13] (.close (.cond (.run [0, 1, 2, 3, 4] (.close (.run [0, 1] (.close .nil)))) .nil))) (.run [10, 11, 12, 13] (.close (.lit .nil))))) (.run [6, 7, 8, 9, 10, 11, 12, 13] (.close (.lit .nil))))))))) .nil) (.run [0, 1, 2] (.close (.cond (.run [0, 1] (.close (.run [0, 1, 2, 3] (.close .nil)))) (.run [0, 1, 2, 3] (.close .nil)))))))))))))))))
theorem vc150 {b1 : Nat} {o2 : Nat} {R : Ending → World → Prop} {w : World} (h : V150 b1 o2 R w) : Cl Try.prog 150 [.pointer (some ⟨b1, o2, none⟩)] w R :=
  cl_of scr150 Try.func150 (by kernel_rfl) [.pointer (some ⟨b1, o2, none⟩)] (V150 b1 o2 R) (by kernel_rfl) h
/-- (*spec.l1R).escape -/
def V166 (b1 : Nat) (o2 : Nat) (a3 : Option Addr) (l3 : Nat) (c3 : Nat) (R : Ending → World → Prop) : World → Prop := fun w =>
  Cl Try.prog 78 ([.pointer (some ⟨b1, o2, none⟩)]) w (retG (fun (r6 : Value) (w5 : World) => ∃ (t4 : Bool), r6 = .bool t4 ∧ (((!t4) = true → Cl Try.prog 79 ([.pointer (some ⟨b1, o2, none⟩)]) w5 (retG (fun (r8 : Value) (w7 : World) => r8 = .tuple #[] ∧ R (.returned (.tuple #[.int .i64 0, .bool false])) w7) (fun c w => R (.panicked c) w))) ∧ ((!t4) = false → drw (fun (w9 : World) => ∃ (s10 : ByteArray), cellH w9.heap b1 o2 = some (.string s10) ∧ ∃ (n11 : Int), cellH w9.heap b1 (o2 + 1) = some (.int .i64 n11) ∧ (0 ≤ (n11 : Int) ∧ (n11 : Int) < ((ByteArray.size s10 : Nat) : Int)) ∧ ((((byteAt s10 (Int.toNat n11) : Int) == 100) = true → Cl Try.prog 165 ([.slice a3 l3 c3, .int .i64 48, .int .i64 57]) w9 (retG (fun (r13 : Value) (w12 : World) => r13 = .tuple #[] ∧ ∃ (n14 : Int), cellH w12.heap b1 (o2 + 1) = some (.int .i64 n14) ∧ stW b1 (o2 + 1) [.int .i64 (IntKind.wrap .i64 (n14 + 1))] (fun (w15 : World) => R (.returned (.tuple #[.int .i64 0, .bool false])) w15) w12) (fun c w => R (.panicked c) w))) ∧ (((byteAt s10 (Int.toNat n11) : Int) == 100) = false → ((((byteAt s10 (Int.toNat n11) : Int) == 119) = true → Cl Try.prog 165 ([.slice a3 l3 c3, .int .i64 48, .int .i64 57]) w9 (retG (fun (r17 : Value) (w16 : World) => r17 = .tuple #[] ∧ Cl Try.prog 165 ([.slice a3 l3 c3, .int .i64 65, .int .i64 90]) w16 (retG (fun (r19 : Value) (w18 : World) => r19 = .tuple #[] ∧ Cl Try.prog 165 ([.slice a3 l3 c3, .int .i64 97, .int .i64 122]) w18 (retG (fun (r21 : Value) (w20 : World) => r21 = .tuple #[] ∧ Cl Try.prog 165 ([.slice a3 l3 c3, .int .i64 95, .int .i64 95]) w20 (retG (fun (r23 : Value) (w22 : World) => r23 = .tuple #[] ∧ ∃ (n24 : Int), cellH w22.heap b1 (o2 + 1) = some (.int .i64 n24) ∧ stW b1 (o2 + 1) [.int .i64 (IntKind.wrap .i64 (n24 + 1))] (fun (w25 : World) => R (.returned (.tuple #[.int .i64 0, .bool false])) w25) w22) (fun c w => R (.panicked c) w))) (fun c w => R (.panicked c) w))) (fun c w => R (.panicked c) w))) (fun c w => R (.panicked c) w))) ∧ (((byteAt s10 (Int.toNat n11) : Int) == 119) = false → ((((byteAt s10 (Int.toNat n11) : Int) == 115) = true → Cl Try.prog 165 ([.slice a3 l3 c3, .int .i64 9, .int .i64 10]) w9 (retG (fun (r27 : Value) (w26 : World) => r27 = .tuple #[] ∧ Cl Try.prog 165 ([.slice a3 l3 c3, .int .i64 13, .int .i64 13]) w26 (retG (fun (r29 : Value) (w28 : World) => r29 = .tuple #[] ∧ Cl Try.prog 165 ([.slice a3 l3 c3, .int .i64 32, .int .i64 32]) w28 (retG (fun (r31 : Value) (w30 : World) => r31 = .tuple #[] ∧ ∃ (n32 : Int), cellH w30.heap b1 (o2 + 1) = some (.int .i64 n32) ∧ stW b1 (o2 + 1) [.int .i64 (IntKind.wrap .i64 (n32 + 1))] (fun (w33 : World) => R (.returned (.tuple #[.int .i64 0, .bool false])) w33) w30) (fun c w => R (.panicked c) w))) (fun c w => R (.panicked c) w))) (fun c w => R (.panicked c) w))) ∧ (((byteAt s10 (Int.toNat n11) : Int) == 115) = false → ((((byteAt s10 (Int.toNat n11) : Int) == 110) = true → ((((byteAt s10 (Int.toNat n11) : Int) == 116) = true → ∃ (n34 : Int), cellH w9.heap b1 (o2 + 1) = some (.int .i64 n34) ∧ stW b1 (o2 + 1) [.int .i64 (IntKind.wrap .i64 (n34 + 1))] (fun (w35 : World) => ∃ (b36 : Nat) (o37 : Nat), ((a3 : Option Addr) = some ⟨b36, o37, none⟩ ∧ 0 ≤ (9 : Int) ∧ (9 : Int) < ((l3 : Nat) : Int)) ∧ stW b36 (o37 + 9) [.bool true] (fun (w38 : World) => R (.returned (.tuple #[.int .i64 9, .bool true])) w38) w35) w9) ∧ (((byteAt s10 (Int.toNat n11) : Int) == 116) = false → ((((byteAt s10 (Int.toNat n11) : Int) == 114) = true → ∃ (n39 : Int), cellH w9.heap b1 (o2 + 1) = some (.int .i64 n39) ∧ stW b1 (o2 + 1) [.int .i64 (IntKind.wrap .i64 (n39 + 1))] (fun (w40 : World) => ∃ (b41 : Nat) (o42 : Nat), ((a3 : Option Addr) = some ⟨b41, o42, none⟩ ∧ 0 ≤ (13 : Int) ∧ (13 : Int) < ((l3 : Nat) : Int)) ∧ stW b41 (o42 + 13) [.bool true] (fun (w43 : World) => R (.returned (.tuple #[.int .i64 13, .bool true])) w43) w40) w9) ∧ (((byteAt s10 (Int.toNat n11) : Int) == 114) = false → ∃ (n44 : Int), cellH w9.heap b1 (o2 + 1) = some (.int .i64 n44) ∧ stW b1 (o2 + 1) [.int .i64 (IntKind.wrap .i64 (n44 + 1))] (fun (w45 : World) => ∃ (b46 : Nat) (o47 : Nat), ((a3 : Option Addr) = some ⟨b46, o47, none⟩ ∧ 0 ≤ (10 : Int) ∧ (10 : Int) < ((l3 : Nat) : Int)) ∧ stW b46 (o47 + 10) [.bool true] (fun (w48 : World) => R (.returned (.tuple #[.int .i64 10, .bool true])) w48) w45) w9))))) ∧ (((byteAt s10 (Int.toNat n11) : Int) == 110) = false → ((((byteAt s10 (Int.toNat n11) : Int) == 116) = true → ((((byteAt s10 (Int.toNat n11) : Int) == 116) = true → ∃ (n49 : Int), cellH w9.heap b1 (o2 + 1) = some (.int .i64 n49) ∧ stW b1 (o2 + 1) [.int .i64 (IntKind.wrap .i64 (n49 + 1))] (fun (w50 : World) => ∃ (b51 : Nat) (o52 : Nat), ((a3 : Option Addr) = some ⟨b51, o52, none⟩ ∧ 0 ≤ (9 : Int) ∧ (9 : Int) < ((l3 : Nat) : Int)) ∧ stW b51 (o52 + 9) [.bool true] (fun (w53 : World) => R (.returned (.tuple #[.int .i64 9, .bool true])) w53) w50) w9) ∧ (((byteAt s10 (Int.toNat n11) : Int) == 116) = false → ((((byteAt s10 (Int.toNat n11) : Int) == 114) = true → ∃ (n54 : Int), cellH w9.heap b1 (o2 + 1) = some (.int .i64 n54) ∧ stW b1 (o2 + 1) [.int .i64 (IntKind.wrap .i64 (n54 + 1))] (fun (w55 : World) => ∃ (b56 : Nat) (o57 : Nat), ((a3 : Option Addr) = some ⟨b56, o57, none⟩ ∧ 0 ≤ (13 : Int) ∧ (13 : Int) < ((l3 : Nat) : Int)) ∧ stW b56 (o57 + 13) [.bool true] (fun (w58 : World) => R (.returned (.tuple #[.int .i64 13, .bool true])) w58) w55) w9) ∧ (((byteAt s10 (Int.toNat n11) : Int) == 114) = false → ∃ (n59 : Int), cellH w9.heap b1 (o2 + 1) = some (.int .i64 n59) ∧ stW b1 (o2 + 1) [.int .i64 (IntKind.wrap .i64 (n59 + 1))] (fun (w60 : World) => ∃ (b61 : Nat) (o62 : Nat), ((a3 : Option Addr) = some ⟨b61, o62, none⟩ ∧ 0 ≤ (10 : Int) ∧ (10 : Int) < ((l3 : Nat) : Int)) ∧ stW b61 (o62 + 10) [.bool true] (fun (w63 : World) => R (.returned (.tuple #[.int .i64 10, .bool true])) w63) w60) w9))))) ∧ (((byteAt s10 (Int.toNat n11) : Int) == 116) = false → ((((byteAt s10 (Int.toNat n11) : Int) == 114) = true → ((((byteAt s10 (Int.toNat n11) : Int) == 116) = true → ∃ (n64 : Int), cellH w9.heap b1 (o2 + 1) = some (.int .i64 n64) ∧ stW b1 (o2 + 1) [.int .i64 (IntKind.wrap .i64 (n64 + 1))] (fun (w65 : World) => ∃ (b66 : Nat) (o67 : Nat), ((a3 : Option Addr) = some ⟨b66, o67, none⟩ ∧ 0 ≤ (9 : Int) ∧ (9 : Int) < ((l3 : Nat) : Int)) ∧ stW b66 (o67 + 9) [.bool true] (fun (w68 : World) => R (.returned (.tuple #[.int .i64 9, .bool true])) w68) w65) w9) ∧ (((byteAt s10 (Int.toNat n11) : Int) == 116) = false → ((((byteAt s10 (Int.toNat n11) : Int) == 114) = true → ∃ (n69 : Int), cellH w9.heap b1 (o2 + 1) = some (.int .i64 n69) ∧ stW b1 (o2 + 1) [.int .i64 (IntKind.wrap .i64 (n69 + 1))] (fun (w70 : World) => ∃ (b71 : Nat) (o72 : Nat), ((a3 : Option Addr) = some ⟨b71, o72, none⟩ ∧ 0 ≤ (13 : Int) ∧ (13 : Int) < ((l3 : Nat) : Int)) ∧ stW b71 (o72 + 13) [.bool true] (fun (w73 : World) => R (.returned (.tuple #[.int .i64 13, .bool true])) w73) w70) w9) ∧ (((byteAt s10 (Int.toNat n11) : Int) == 114) = false → ∃ (n74 : Int), cellH w9.heap b1 (o2 + 1) = some (.int .i64 n74) ∧ stW b1 (o2 + 1) [.int .i64 (IntKind.wrap .i64 (n74 + 1))] (fun (w75 : World) => ∃ (b76 : Nat) (o77 : Nat), ((a3 : Option Addr) = some ⟨b76, o77, none⟩ ∧ 0 ≤ (10 : Int) ∧ (10 : Int) < ((l3 : Nat) : Int)) ∧ stW b76 (o77 + 10) [.bool true] (fun (w78 : World) => R (.returned (.tuple #[.int .i64 10, .bool true])) w78) w75) w9))))) ∧ (((byteAt s10 (Int.toNat n11) : Int) == 114) = false → ((((byteAt s10 (Int.toNat n11) : Int) == 120) = true → ∃ (n79 : Int), cellH w9.heap b1 (o2 + 1) = some (.int .i64 n79) ∧ stW b1 (o2 + 1) [.int .i64 (IntKind.wrap .i64 (n79 + 1))] (fun (w80 : World) => ∃ (I81 : Nat → Int → Int → World → Prop), (∃ (k83 : Nat), I81 k83 0 0 w80) ∧ ∀ (k82 : Nat) (d85 : Nat → Value) (n86 : Int) (n87 : Int) (w84 : World), I81 k82 n86 n87 w84 → (((decide ((n87 : Int) < 2)) = true → drw (fun (w88 : World) => Cl Try.prog 78 ([.pointer (some ⟨b1, o2, none⟩)]) w88 (retG (fun (r91 : Value) (w90 : World) => ∃ (t89 : Bool), r91 = .bool t89 ∧ (((!t89) = true → Cl Try.prog 79 ([.pointer (some ⟨b1, o2, none⟩)]) w90 (retG (fun (r93 : Value) (w92 : World) => r93 = .tuple #[] ∧ R (.returned (.tuple #[.int .i64 0, .bool false])) w92) (fun c w => R (.panicked c) w))) ∧ ((!t89) = false → ∃ (s94 : ByteArray), cellH w90.heap b1 o2 = some (.string s94) ∧ ∃ (n95 : Int), cellH w90.heap b1 (o2 + 1) = some (.int .i64 n95) ∧ (0 ≤ (n95 : Int) ∧ (n95 : Int) < ((ByteArray.size s94 : Nat) : Int)) ∧ Cl Try.prog 169 ([.int .u8 (byteAt s94 (Int.toNat n95))]) w90 (retG (fun (r98 : Value) (w97 : World) => ∃ (n96 : Int), r98 = .int .i64 n96 ∧ (((decide ((n96 : Int) < 0)) = true → Cl Try.prog 79 ([.pointer (some ⟨b1, o2, none⟩)]) w97 (retG (fun (r100 : Value) (w99 : World) => r100 = .tuple #[] ∧ R (.returned (.tuple #[.int .i64 0, .bool false])) w99) (fun c w => R (.panicked c) w))) ∧ ((decide ((n96 : Int) < 0)) = false → drw (fun (w101 : World) => ∃ (s102 : ByteArray), cellH w101.heap b1 o2 = some (.string s102) ∧ ∃ (n103 : Int), cellH w101.heap b1 (o2 + 1) = some (.int .i64 n103) ∧ (0 ≤ (n103 : Int) ∧ (n103 : Int) < ((ByteArray.size s102 : Nat) : Int)) ∧ Cl Try.prog 169 ([.int .u8 (byteAt s102 (Int.toNat n103))]) w101 (retG (fun (r106 : Value) (w105 : World) => ∃ (n104 : Int), r106 = .int .i64 n104 ∧ ∃ (n107 : Int), cellH w105.heap b1 (o2 + 1) = some (.int .i64 n107) ∧ stW b1 (o2 + 1) [.int .i64 (IntKind.wrap .i64 (n107 + 1))] (fun (w108 : World) => (∃ (m109 : Nat), m109 < k82 ∧ I81 m109 (IntKind.wrap .i64 ((IntKind.wrap .i64 (n86 * 16)) + n104)) (IntKind.wrap .i64 (n87 + 1)) w108)) w105) (fun c w => R (.panicked c) w))) w97))) (fun c w => R (.panicked c) w))))) (fun c w => R (.panicked c) w))) w84) ∧ ((decide ((n87 : Int) < 2)) = false → ∃ (b110 : Nat) (o111 : Nat), ((a3 : Option Addr) = some ⟨b110, o111, none⟩ ∧ 0 ≤ (n86 : Int) ∧ (n86 : Int) < ((l3 : Nat) : Int)) ∧ stW b110 (o111 + (Int.toNat n86) * 1) [.bool true] (fun (w112 : World) => R (.returned (.tuple #[.int .i64 n86, .bool true])) w112) w84))) w9) ∧ (((byteAt s10 (Int.toNat n11) : Int) == 120) = false → ∃ (J113 : Bool → World → Prop), ((((decide ((byteAt s10 (Int.toNat n11) : Int) ≥ 97)) = true → (((decide ((byteAt s10 (Int.toNat n11) : Int) ≤ 122)) = true → J113 true w9) ∧ ((decide ((byteAt s10 (Int.toNat n11) : Int) ≤ 122)) = false → (((decide ((byteAt s10 (Int.toNat n11) : Int) ≥ 65)) = true → (((decide ((byteAt s10 (Int.toNat n11) : Int) ≤ 90)) = true → J113 true w9) ∧ ((decide ((byteAt s10 (Int.toNat n11) : Int) ≤ 90)) = false → (((decide ((byteAt s10 (Int.toNat n11) : Int) ≥ 48)) = true → J113 (decide ((byteAt s10 (Int.toNat n11) : Int) ≤ 57)) w9) ∧ ((decide ((byteAt s10 (Int.toNat n11) : Int) ≥ 48)) = false → J113 false w9))))) ∧ ((decide ((byteAt s10 (Int.toNat n11) : Int) ≥ 65)) = false → (((decide ((byteAt s10 (Int.toNat n11) : Int) ≥ 48)) = true → J113 (decide ((byteAt s10 (Int.toNat n11) : Int) ≤ 57)) w9) ∧ ((decide ((byteAt s10 (Int.toNat n11) : Int) ≥ 48)) = false → J113 false w9))))))) ∧ ((decide ((byteAt s10 (Int.toNat n11) : Int) ≥ 97)) = false → (((decide ((byteAt s10 (Int.toNat n11) : Int) ≥ 65)) = true → (((decide ((byteAt s10 (Int.toNat n11) : Int) ≤ 90)) = true → J113 true w9) ∧ ((decide ((byteAt s10 (Int.toNat n11) : Int) ≤ 90)) = false → (((decide ((byteAt s10 (Int.toNat n11) : Int) ≥ 48)) = true → J113 (decide ((byteAt s10 (Int.toNat n11) : Int) ≤ 57)) w9) ∧ ((decide ((byteAt s10 (Int.toNat n11) : Int) ≥ 48)) = false → J113 false w9))))) ∧ ((decide ((byteAt s10 (Int.toNat n11) : Int) ≥ 65)) = false → (((decide ((byteAt s10 (Int.toNat n11) : Int) ≥ 48)) = true → J113 (decide ((byteAt s10 (Int.toNat n11) : Int) ≤ 57)) w9) ∧ ((decide ((byteAt s10 (Int.toNat n11) : Int) ≥ 48)) = false → J113 false w9))))))) ∧ ∀ (d114 : Nat → Value) (t115 : Bool) (w116 : World), J113 t115 w116 → ((t115 = true → Cl Try.prog 79 ([.pointer (some ⟨b1, o2, none⟩)]) w116 (retG (fun (r118 : Value) (w117 : World) => r118 = .tuple #[] ∧ R (.returned (.tuple #[.int .i64 0, .bool false])) w117) (fun c w => R (.panicked c) w))) ∧ (t115 = false → (((decide ((byteAt s10 (Int.toNat n11) : Int) < 33)) = true → Cl Try.prog 79 ([.pointer (some ⟨b1, o2, none⟩)]) w116 (retG (fun (r120 : Value) (w119 : World) => r120 = .tuple #[] ∧ R (.returned (.tuple #[.int .i64 0, .bool false])) w119) (fun c w => R (.panicked c) w))) ∧ ((decide ((byteAt s10 (Int.toNat n11) : Int) < 33)) = false → (((decide ((byteAt s10 (Int.toNat n11) : Int) > 126)) = true → Cl Try.prog 79 ([.pointer (some ⟨b1, o2, none⟩)]) w116 (retG (fun (r122 : Value) (w121 : World) => r122 = .tuple #[] ∧ R (.returned (.tuple #[.int .i64 0, .bool false])) w121) (fun c w => R (.panicked c) w))) ∧ ((decide ((byteAt s10 (Int.toNat n11) : Int) > 126)) = false → ∃ (n123 : Int), cellH w116.heap b1 (o2 + 1) = some (.int .i64 n123) ∧ stW b1 (o2 + 1) [.int .i64 (IntKind.wrap .i64 (n123 + 1))] (fun (w124 : World) => ∃ (b125 : Nat) (o126 : Nat), ((a3 : Option Addr) = some ⟨b125, o126, none⟩ ∧ 0 ≤ (IntKind.wrap .i64 (byteAt s10 (Int.toNat n11)) : Int) ∧ (IntKind.wrap .i64 (byteAt s10 (Int.toNat n11)) : Int) < ((l3 : Nat) : Int)) ∧ stW b125 (o126 + (Int.toNat (IntKind.wrap .i64 (byteAt s10 (Int.toNat n11)))) * 1) [.bool true] (fun (w127 : World) => R (.returned (.tuple #[.int .i64 (IntKind.wrap .i64 (byteAt s10 (Int.toNat n11))), .bool true])) w127) w124) w116))))))))))))))))))))) w5))) (fun c w => R (.panicked c) w))
def scr166 : Scr := (.run [0, 1] (.close (.run [0, 1, 2] (.close (.cond (.run [0, 1] (.close (.run [0, 1] (.close .nil)))) (.run [0, 1, 2, 3, 4, 5, 6, 7, 8, 9] (.close (.run [0] (.close (.run [0, 1] (.close (.cond (.run [0, 1] (.close (.run [0, 1, 2, 3, 4, 5, 6, 7] (.close (.run [0, 1] (.close .nil)))))) (.run [0, 1] (.close (.cond (.run [0, 1] (.close (.run [0, 1] (.close (.run [0, 1] (.close (.run [0, 1] (.close (.run [0, 1, 2, 3, 4, 5, 6, 7] (.close (.run [0, 1] (.close .nil)))))))))))) (.run [0, 1] (.close (.cond (.run [0, 1] (.close (.run [0, 1] (.close (.run [0, 1] (.close (.run [0, 1, 2, 3, 4, 5, 6, 7] (.close (.run [0, 1] (.close .nil)))))))))) (.run [0, 1] (.close (.cond (.lit (.run [0] (.close (.run [0, 1] (.close (.cond (.run [0] (.close (.run [0, 1, 2, 3, 4, 5, 6, 7] (.close (.run [0, 1, 2, 3] (.close (.run [0, 1, 2] (.close .nil)))))))) (.run [0, 1] (.close (.cond (.run [0] (.close (.run [0, 1, 2, 3, 4, 5, 6, 7] (.close (.run [0, 1, 2, 3] (.close (.run [0, 1, 2] (.close .nil)))))))) (.run [0, 1, 2, 3, 4, 5, 6, 7] (.close (.run [0, 1, 2, 3] (.close (.run [0, 1, 2] (.close .nil))))))))))))))) (.run [0, 1] (.close (.cond (.lit (.run [0] (.close (.run [0, 1] (.close (.cond (.run [0] (.close (.run [0, 1, 2, 3, 4, 5, 6, 7] (.close (.run [0, 1, 2, 3] (.close (.run [0, 1, 2] (.close .nil)))))))) (.run [0, 1] (.close (.cond (.run [0] (.close (.run [0, 1, 2, 3, 4, 5, 6, 7] (.close (.run [0, 1, 2, 3] (.close (.run [0, 1, 2] (.close .nil)))))))) (.run [0, 1, 2, 3, 4, 5, 6, 7] (.close (.run [0, 1, 2, 3] (.close (.run [0, 1, 2] (.close .nil))))))))))))))) (.run [0, 1] (.close (.cond (.run [0] (.close (.run [0, 1] (.close (.cond (.run [0] (.close (.run [0, 1, 2, 3, 4, 5, 6, 7] (.close (.run [0, 1, 2, 3] (.close (.run [0, 1, 2] (.close .nil)))))))) (.run [0, 1] (.close (.cond (.run [0] (.close (.run [0, 1, 2, 3, 4, 5, 6, 7] (.close (.run [0, 1, 2, 3] (.close (.run [0, 1, 2] (.close .nil)))))))) (.run [0, 1, 2, 3, 4, 5, 6, 7] (.close (.run [0, 1, 2, 3] (.close (.run [0, 1, 2] (.close .nil)))))))))))))) (.run [0, 1] (.close (.cond (.run [0, 1, 2, 3, 4, 5, 6, 7] (.close (.run [0] (.close (.run [0] (.close (.loop [(8, some (.int .i64)), (9, some (.int .i64)), (4, none), (5, none), (122, none), (123, none), (124, none), (125, none), (126, none), (127, none), (128, none), (129, none), (130, none), (131, none), (132, none), (133, none), (134, none), (135, none), (136, none), (137, none), (138, none), (139, none), (140, none), (141, none), (142, none), (143, none), (144, none), (145, none), (146, none), (147, none), (148, none), (149, none), (150, none), (151, none), (152, none), (153, none), (154, none), (155, none), (156, none), (157, none), (158, none), (159, none), (160, none), (161, none), (162, none), (163, none)] (.run [0, 1] (.close (.cond (.run [0, 1, 2, 3] (.split 129 (.run [4, 5, 6, 7, 8, 9, 10, 11, 12, 13, 14, 15] (.close (.lit (.run [0, 1] (.close (.run [0, 1] (.close .nil))))))) (.run [4, 5, 6, 7, 8, 9, 10, 11, 12, 13, 14, 15] (.close (.cond (.run [0, 1] (.close (.run [0, 1] (.close .nil)))) (.run [0, 1, 2, 3, 4, 5, 6, 7, 8, 9, 10, 11, 12, 13] (.close (.run [0, 1, 2, 3, 4, 5, 6, 7] (.close (.run [0, 1, 2] (.close .nil))))))))))) (.run [0, 1, 2, 3] (.close (.run [0, 1, 2] (.close .nil)))))))))))))) (.cutS [(10, some .bool), (26, none), (27, none), (28, none), (29, none), (30, none), (31, none), (32, none), (33, none), (34, none), (35, none), (36, none), (37, none), (38, none), (39, none), (40, none), (41, none), (42, none), (43, none), (44, none), (45, none), (46, none), (47, none)] (.run [0, 1, 2] (.split 28 (.run [3, 4, 5, 6] (.split 32 (.run [7, 8, 9, 10, 11, 12, 13, 14, 15, 16, 17, 18, 19, 20, 21, 22] (.close .nil)) (.run [7, 8, 9] (.split 35 (.run [10, 11, 12, 13, 14] (.split 40 (.run [15, 16, 17, 18, 19, 20, 21, 22] (.close .nil)) (.run [15, 16, 17] (.split 43 (.run [18, 19, 20, 21, 22] (.close .nil)) (.run [18, 19, 20, 21, 22] (.close .nil)))))) (.run [10, 11, 12, 13, 14, 15, 16, 17] (.split 43 (.run [18, 19, 20, 21, 22] (.close .nil)) (.run [18, 19, 20, 21, 22] (.close .nil)))))))) (.run [3, 4, 5, 6, 7, 8, 9] (.split 35 (.run [10, 11, 12, 13, 14] (.split 40 (.run [15, 16, 17, 18, 19, 20, 21, 22] (.close .nil)) (.run [15, 16, 17] (.split 43 (.run [18, 19, 20, 21, 22] (.close .nil)) (.run [18, 19, 20, 21, 22] (.close .nil)))))) (.run [10, 11, 12, 13, 14, 15, 16, 17] (.split 43 (.run [18, 19, 20, 21, 22] (.close .nil)) (.run [18, 19, 20, 21, 22] (.close .nil)))))))) (.run [0, 1] (.split 49 (.run [2, 3, 4, 5, 6, 7, 8] (.close (.lit (.run [0, 1] (.close (.run [0, 1] (.close .nil))))))) (.run [2, 3, 4, 5] (.split 53 (.run [6, 7, 8] (.close (.lit (.run [0, 1] (.close (.run [0, 1] (.close .nil))))))) (.run [6, 7, 8] (.close (.cond (.run [0, 1] (.close (.run [0, 1] (.close .nil)))) (.run [0, 1, 2, 3, 4, 5, 6, 7] (.close (.run [0, 1, 2, 3, 4] (.close (.run [0, 1, 2, 3] (.close .nil))))))))))))))))))))))))))))))))))))))))))))
theorem vc166 {b1 : Nat} {o2 : Nat} {a3 : Option Addr} {l3 : Nat} {c3 : Nat} {R : Ending → World → Prop} {w : World} (h : V166 b1 o2 a3 l3 c3 R w) : Cl Try.prog 166 [.pointer (some ⟨b1, o2, none⟩), .slice a3 l3 c3] w R :=
  cl_of scr166 Try.func166 (by kernel_rfl) [.pointer (some ⟨b1, o2, none⟩), .slice a3 l3 c3] (V166 b1 o2 a3 l3 c3 R) (by kernel_rfl) h
end Go.Proofs.Ytngbiaeliphdjaa.V
/- The reference's reader: its small functions. No statement of the seat is proved here. -/
namespace Go.Vc
open Go.RowKit
set_option linter.unusedVariables false
set_option linter.unusedSimpArgs false
theorem madeCells_one (z : Value) (n : Nat) : madeCells #[z] n = ⟨List.replicate n z⟩ := by
  apply Array.ext
  · simp [madeCells]
  · intro i h1 h2
    simp [madeCells, Nat.mod_one]
/-- A slice that is made: its cells are one value, again and again. -/
theorem make_in {P : Program} {t e : TypeId} {i : TypeInfo} {z : Value} (ht : P.underlying t = some (.slice e)) (hi : P.info? e = some i) (hz : i.zero = some z) {z1 : Value} (hz1 : z.cells = #[z1]) (hs : i.size = 1) {by_ : Nat} (hby : i.bytes = by_) (hb8 : by_ ≤ 100) (n : Nat) (hn : n ≤ 1000000000) (w : World) :
    ∃ w', (Instr.makeSlice t (.int .i64 n) (.int .i64 n)).run P w = .ok (.slice (some ⟨w.heap.size, 0, none⟩) n n) w' ∧ w'.heap.size = w.heap.size + 1 ∧ Blk w'.heap w.heap.size e (List.replicate n z1) ∧ Ext (fun _ => False) w w' := by
  have hbb : (i.bytes : Int) * (n : Int) ≤ 281474976710656 := by
    have h : i.bytes * n ≤ 281474976710656 := by
      have := Nat.mul_le_mul (show i.bytes ≤ 100 by omega) hn
      omega
    have h2 : ((i.bytes * n : Nat) : Int) ≤ 281474976710656 := by omega
    rwa [Int.natCast_mul] at h2
  have hr := run_make (P := P) w t e i z ht hi hz .i64 .i64 n n (by omega) (Int.le_refl _) hbb (by omega)
  refine ⟨_, hr, ?_, ?_, ?_⟩
  · exact size_newW w _
  · rw [hz1, hs, madeCells_one, Int.toNat_natCast, Nat.mul_one]
    exact Blk.new w e _
  · exact (Ext.refl _ w).vnew _
end Go.Vc
namespace Go.Proofs.Ytngbiaeliphdjaa.V
open Go.Vc Go.Proofs Go.RowKit
set_option linter.unusedVariables false
set_option linter.unusedSimpArgs false

theorem make256 (w : World) : ∃ w', (Instr.makeSlice 59 (.int .i64 256) (.int .i64 256)).run Try.prog w = .ok (.slice (some ⟨w.heap.size, 0, none⟩) 256 256) w' ∧ w'.heap.size = w.heap.size + 1 ∧ Blk w'.heap w.heap.size 4 (b256 fun _ => false) ∧ Ext (fun _ => False) w w' := by
  rw [b256_false]
  exact make_in (P := Try.prog) (t := 59) (e := 4) (i := Try.t4) (z := .bool false) (by kernel_rfl) (by kernel_rfl) (by kernel_rfl) (z1 := .bool false) rfl (by kernel_rfl) (by_ := 1) (by kernel_rfl) (by decide) 256 (by decide) w

/-- The reference's reader. -/
def Sd (w : World) (b : Nat) (s : ByteArray) (i : Nat) (bd : Int) (g : Nat) (a : Option Addr) (ln c : Nat) : Prop := Blk w.heap b 97 [.string s, .int .i64 i, .int .i64 bd, .int .i64 g, .slice a ln c]
theorem Sd.below {w w' : World} {b : Nat} {s : ByteArray} {i g : Nat} {bd : Int} {a : Option Addr} {ln c : Nat} (h : Sd w b s i bd g a ln c) (k : Below w.heap.size w w') : Sd w' b s i bd g a ln c := Blk.below h k
theorem Sd.mv {w : World} {b : Nat} {s : ByteArray} {i g : Nat} {bd : Int} {a : Option Addr} {ln c : Nat} (h : Sd w b s i bd g a ln c) {n : Int} {j : Nat} (hn : n = j) {K : World → Prop} (hK : ∀ w1, w1.heap.size = w.heap.size → Sd w1 b s j bd g a ln c → Ext (fun k => k = b) w w1 → K w1) :
    stW b (0 + 1) [.int .i64 n] K w := by
  subst hn
  exact stW_in h (by show 0 + 1 + 1 ≤ 5; decide) fun w1 s1 k1 e1 => hK w1 s1 k1 e1
section
variable {w : World} {b : Nat} {s : ByteArray} {i g : Nat} {a : Option Addr} {ln c : Nat}
theorem more_ok (h : Sd w b s i (-1) g a ln c) : Cl Try.prog 78 [.pointer (some ⟨b, 0, none⟩)] w (RetB (.bool (decide (i < s.size))) w) := by
  apply vc78
  unfold V78
  refine drw_in fun w1 q1 e1 => ?_
  have h1 := Blk.keep h e1 fun h => h
  have E := Ext.to (Below.refl _ _) e1 fun _ h => h.elim
  refine ⟨-1, h1.cell 2, fun _ => ⟨i, h1.cell 1, s, h1.cell 0, ?_, E⟩, fun g => ?_⟩
  · simp only [Int.ofNat_lt]
  · exact absurd (of_decide_eq_false g) (by decide)
theorem more_bad {n : Nat} (h : Sd w b s i n g a ln c) : Cl Try.prog 78 [.pointer (some ⟨b, 0, none⟩)] w (RetB (.bool false) w) := by
  apply vc78
  unfold V78
  refine drw_in fun w1 q1 e1 => ?_
  have h1 := Blk.keep h e1 fun h => h
  have E := Ext.to (Below.refl _ _) e1 fun _ h => h.elim
  refine ⟨n, h1.cell 2, fun g => ?_, fun _ => ⟨rfl, E⟩⟩
  have := of_decide_eq_true g; omega
theorem sfail_ok (h : Sd w b s i (-1) g a ln c) : Cl Try.prog 79 [.pointer (some ⟨b, 0, none⟩)] w (fun e w' => e = .returned (.tuple #[]) ∧ Sd w' b s i i g a ln c ∧ Ext (fun k => k = b) w w') := by
  apply vc79
  unfold V79
  refine ⟨-1, h.cell 2, fun _ => ⟨i, h.cell 1, stW_in h (by show 0 + 2 + 1 ≤ 5; decide) fun w1 s1 k1 e1 => ⟨rfl, k1, e1⟩⟩, fun g => ?_⟩
  exact absurd (of_decide_eq_false g) (by decide)
theorem sfail_bad {n : Nat} (h : Sd w b s i n g a ln c) : Cl Try.prog 79 [.pointer (some ⟨b, 0, none⟩)] w (RetB (.tuple #[]) w) := by
  apply vc79
  unfold V79
  refine ⟨n, h.cell 2, fun g => ?_, fun _ => ⟨rfl, Below.refl _ _⟩⟩
  have := of_decide_eq_true g; omega
theorem is_yes (h : Sd w b s i (-1) g a ln c) {ch : Nat} (hi : i < s.size) (hl : s.size ≤ 100000) (hc : at_ (L s) i = ch) {ch' : Int} (hch : ch' = ch) : Cl Try.prog 112 [.pointer (some ⟨b, 0, none⟩), .int .u8 ch'] w (fun e w' => e = .returned (.bool true) ∧ Sd w' b s (i + 1) (-1) g a ln c ∧ Ext (fun k => k = b) w w') := by
  subst hch
  apply vc112
  unfold V112
  refine drw_in fun w1 q1 e1 => ?_
  have h1 : Sd w1 b s i (-1) g a ln c := Blk.keep h e1 fun h => h
  refine (more_ok h1).ret fun w2 b2 => ⟨_, rfl, fun _ => ?_, fun g => ?_⟩
  · have h2 := h1.below b2
    refine ⟨s, h2.cell 0, i, h2.cell 1, ⟨by omega, by omega⟩, ?_⟩
    rw [byteI s (j := i) rfl, hc]
    refine ⟨fun _ => ⟨i, h2.cell 1, h2.mv (j := i + 1) (by rw [w64 (by omega)]; omega) fun w3 s3 h3 e3 => ⟨rfl, h3, ?_⟩⟩, fun g => ?_⟩
    · exact ((Ext.mono e1 fun _ _ h => h.elim).trans (Ext.of_below b2)).trans e3
    · simp at g
  · have := of_decide_eq_false g; omega
theorem is_no (h : Sd w b s i (-1) g a ln c) {ch : Nat} (hc : ¬ (i < s.size ∧ at_ (L s) i = ch)) {ch' : Int} (hch : ch' = ch) : Cl Try.prog 112 [.pointer (some ⟨b, 0, none⟩), .int .u8 ch'] w (RetB (.bool false) w) := by
  subst hch
  apply vc112
  unfold V112
  refine drw_in fun w1 q1 e1 => ?_
  have h1 : Sd w1 b s i (-1) g a ln c := Blk.keep h e1 fun h => h
  have E1 := Ext.to (Below.refl _ _) e1 fun _ h => h.elim
  refine (more_ok h1).ret fun w2 b2 => ⟨_, rfl, fun g => ?_, fun g => ⟨rfl, E1.vstep b2⟩⟩
  have g' := of_decide_eq_true g
  have h2 := h1.below b2
  refine ⟨s, h2.cell 0, i, h2.cell 1, ⟨by omega, by omega⟩, ?_⟩
  rw [byteI s (j := i) rfl]
  refine ⟨fun g => ?_, fun g => ⟨rfl, E1.vstep b2⟩⟩
  simp only [beq_iff_eq] at g
  omega
theorem is_bad {n : Nat} (h : Sd w b s i n g a ln c) (ch' : Int) : Cl Try.prog 112 [.pointer (some ⟨b, 0, none⟩), .int .u8 ch'] w (RetB (.bool false) w) := by
  apply vc112
  unfold V112
  refine drw_in fun w1 q1 e1 => ?_
  have h1 : Sd w1 b s i n g a ln c := Blk.keep h e1 fun h => h
  have E1 := Ext.to (Below.refl _ _) e1 fun _ h => h.elim
  refine (more_bad h1).ret fun w2 b2 => ⟨_, rfl, fun g => (by cases g), fun g => ⟨rfl, E1.vstep b2⟩⟩
end
/-- One digit. -/
theorem shex_ok (n : Nat) (hn : n < 256) {n' : Int} (h : n' = n) (w : World) : Cl Try.prog 169 [.int .u8 n'] w (RetB (.int .i64 (match hexv n with | some v => (v : Int) | none => -1)) w) := by
  subst h
  apply vc169
  unfold V169
  have B := Below.refl w.heap.size w
  have w1 : IntKind.wrap .i64 (IntKind.wrap .u8 ((n : Int) - 48)) = ((n : Int) - 48) % 256 := by rw [w8, w64 (by omega)]
  have w2 : IntKind.wrap .i64 (IntKind.wrap .i64 (IntKind.wrap .u8 ((n : Int) - 97)) + 10) = ((n : Int) - 97) % 256 + 10 := by rw [w8, w64 (n := ((n : Int) - 97) % 256) (by omega), w64 (by omega)]
  have r1 : 48 ≤ n → n ≤ 57 → RetB (.int .i64 (match hexv n with | some v => (v : Int) | none => -1)) w (.returned (.int .i64 (IntKind.wrap .i64 (IntKind.wrap .u8 ((n : Int) - 48))))) w := by
    intro h1 h2
    rw [show hexv n = some (n - 48) from by unfold hexv; rw [if_pos ⟨h1, h2⟩], w1]
    refine ⟨?_, B⟩
    show Ending.returned (.int .i64 _) = .returned (.int .i64 ((n - 48 : Nat) : Int))
    rw [show ((n : Int) - 48) % 256 = ((n - 48 : Nat) : Int) from by omega]
  have r2 : 97 ≤ n → n ≤ 102 → RetB (.int .i64 (match hexv n with | some v => (v : Int) | none => -1)) w (.returned (.int .i64 (IntKind.wrap .i64 (IntKind.wrap .i64 (IntKind.wrap .u8 ((n : Int) - 97)) + 10)))) w := by
    intro h1 h2
    rw [show hexv n = some (n - 87) from by unfold hexv; rw [if_neg (by omega), if_pos ⟨h1, h2⟩], w2]
    refine ⟨?_, B⟩
    show Ending.returned (.int .i64 _) = .returned (.int .i64 ((n - 87 : Nat) : Int))
    rw [show ((n : Int) - 97) % 256 + 10 = ((n - 87 : Nat) : Int) from by omega]
  have r3 : ¬ (48 ≤ n ∧ n ≤ 57) → ¬ (97 ≤ n ∧ n ≤ 102) → RetB (.int .i64 (match hexv n with | some v => (v : Int) | none => -1)) w (.returned (.int .i64 (-1))) w := by
    intro h1 h2
    rw [show hexv n = none from by unfold hexv; rw [if_neg h1, if_neg h2]]
    exact ⟨rfl, B⟩
  refine ⟨fun g1 => ⟨fun g2 => ?_, fun g2 => ⟨fun g3 => ⟨fun g4 => ?_, fun g4 => ?_⟩, fun g3 => ?_⟩⟩, fun g1 => ⟨fun g3 => ⟨fun g4 => ?_, fun g4 => ?_⟩, fun g3 => ?_⟩⟩
  all_goals try simp only [decide_eq_true_eq, decide_eq_false_iff_not] at g1
  all_goals try simp only [decide_eq_true_eq, decide_eq_false_iff_not] at g2
  all_goals try simp only [decide_eq_true_eq, decide_eq_false_iff_not] at g3
  all_goals try simp only [decide_eq_true_eq, decide_eq_false_iff_not] at g4
  · exact r1 (by omega) (by omega)
  · exact r2 (by omega) (by omega)
  all_goals first
    | exact r3 (by omega) (by omega)
    | exact r2 (by omega) (by omega)
/-- A row of bytes is put into a set. -/
theorem srange_ok {w : World} {k : Nat} {f : Nat → Bool} (h : Blk w.heap k 4 (b256 f)) (lo hi : Nat) (hh : hi < 256) {lo' hi' : Int} (e1 : lo' = lo) (e2 : hi' = hi) :
    Cl Try.prog 165 [.slice (some ⟨k, 0, none⟩) 256 256, .int .i64 lo', .int .i64 hi'] w (fun e w' => e = .returned (.tuple #[]) ∧ Blk w'.heap k 4 (b256 fun n => f n || inR [(lo, hi)] n) ∧ Ext (fun x => x = k) w w') := by
  subst e1 e2
  apply vc165
  unfold V165
  refine ⟨fun m j w' => ∃ i : Nat, j = i ∧ lo ≤ i ∧ (i ≤ hi + 1 ∨ i = lo) ∧ m = hi + 1 - i ∧ Blk w'.heap k 4 (b256 fun n => f n || decide (lo ≤ n ∧ n < i)) ∧ Ext (fun x => x = k) w w', ⟨_, lo, rfl, Nat.le_refl _, .inr rfl, rfl, ?_, Ext.refl _ _⟩, ?_⟩
  · rw [b256_ext (g := f) fun n _ => by rw [decide_eq_false (by omega), Bool.or_false]]; exact h
  rintro m d j w1 ⟨i, rfl, hl, hi2, rfl, hB, hE⟩
  refine ⟨fun g => ?_, fun g => ?_⟩
  · have g' : i ≤ hi := by have := of_decide_eq_true g; omega
    refine ⟨k, 0, ⟨rfl, by omega, by show (i : Int) < 256; omega⟩, ?_⟩
    rw [show 0 + Int.toNat (i : Int) * 1 = i from by omega]
    refine stW_in hB (by rw [b256_length]; show i + 1 ≤ 256; omega) fun w2 s2 k2 e2 => ?_
    refine ⟨hi + 1 - (i + 1), by omega, i + 1, by rw [w64 (by omega)]; omega, by omega, .inl (by omega), rfl, ?_, hE.trans e2⟩
    have : segSet (b256 fun n => f n || decide (lo ≤ n ∧ n < i)) i [.bool true] = b256 fun n => f n || decide (lo ≤ n ∧ n < i + 1) := by
      show (b256 _).set i _ = _
      rw [b256_set]
      apply b256_ext
      intro n hn
      by_cases hni : n = i
      · subst hni; simp [hl]
      · rw [if_neg hni]; congr 1; apply decide_eq_decide.2; omega
    rw [this] at k2; exact k2
  · have g' : ¬ i ≤ hi := by have := of_decide_eq_false g; omega
    refine ⟨rfl, ?_, hE⟩
    rw [b256_ext (g := fun n => f n || decide (lo ≤ n ∧ n < i)) fun n _ => ?_]
    · exact hB
    · rw [inR_one]; congr 1; apply decide_eq_decide.2; omega
/-- One byte is put into a set. -/
theorem set_one (f : Nat → Bool) (v : Nat) : segSet (b256 f) v [.bool true] = b256 fun n => f n || inR [(v, v)] n := by
  show (b256 f).set v _ = _
  rw [b256_set]
  apply b256_ext
  intro n hn
  rw [inR_one]
  by_cases hni : n = v
  · subst hni; simp
  · rw [if_neg hni, decide_eq_false (by omega), Bool.or_false]
theorem st_one {w : World} {k v : Nat} {f : Nat → Bool} (h : Blk w.heap k 4 (b256 f)) (hv : v < 256) {o : Nat} (ho : o = v) {K : World → Prop} (hK : ∀ w', w'.heap.size = w.heap.size → Blk w'.heap k 4 (b256 fun n => f n || inR [(v, v)] n) → Ext (fun x => x = k) w w' → K w') : stW k o [.bool true] K w := by
  subst ho
  refine stW_in h (by rw [b256_length]; show o + 1 ≤ 256; omega) fun w2 s2 k2 e2 => hK w2 s2 ?_ e2
  rw [set_one] at k2; exact k2
/-- A set's rows. -/
theorem sset_ok {w : World} {k : Nat} {f : Nat → Bool} (h : Blk w.heap k 4 (b256 f)) :
    Cl Try.prog 167 [.slice (some ⟨k, 0, none⟩) 256 256] w (fun e w' => ∃ a c, e = .returned (.slice a (runs f).length c) ∧ Row w.heap.size w' 134 2 a (runs f).length c (rngC (runs f)) ∧ Below w.heap.size w w') := by
  apply vc167
  unfold V167
  have hbl := h.lt
  refine ⟨fun m a l c n w' => ∃ (i : Nat) (xs : List (Int × Int)), n = i ∧ m = 256 - i ∧ l = xs.length ∧ SetInv f i xs ∧ xs.length ≤ i ∧ i ≤ 256 ∧ Row w.heap.size w' 134 2 a l c (rngC xs) ∧ Below w.heap.size w w',
    ⟨_, 0, [], rfl, rfl, rfl, SetInv.init f, Nat.le_refl _, by omega, Row.nil _ _ (Nat.le_refl _), Below.refl _ _⟩, ?_⟩
  rintro m d a l c n w1 ⟨i, xs, rfl, rfl, rfl, hI, hx, hi, hR, hb⟩
  refine ⟨fun g => ?_, fun g => ?_⟩
  · have g' : i < 256 := by have := of_decide_eq_true g; omega
    have e1 : IntKind.wrap .i64 ((i : Int) + 1) = ((i + 1 : Nat) : Int) := by rw [w64 (by omega)]; omega
    refine ⟨k, 0, ⟨rfl, by omega, by show (i : Int) < 256; omega⟩, f i, ?_, fun g1 => ?_, fun g1 => ?_⟩
    · rw [(h.below hb).cell, show 0 + Int.toNat (i : Int) * 1 = i from by omega]; exact b256_get f i g'
    · have hf : f i = false := by simpa using g1
      exact ⟨256 - (i + 1), by omega, i + 1, xs, e1, rfl, rfl, hI.no g' hf, by omega, by omega, hR, hb⟩
    · have hf : f i = true := by simpa using g1
      have hnew : (∀ ys lo hi, xs = ys ++ [(lo, hi)] → hi ≠ (i : Int) - 1) → newC [.int .i64 (i : Int), .int .i64 (i : Int)] 134 (fun (b20 : Nat) (w21 : World) => ∃ (a22 : Option Addr), ∃ (l22 : Nat), ∃ (c22 : Nat), ∃ (w23 : World), (Builtin.append_ #[108, 108] 108 #[.slice a xs.length c, .slice (some ⟨b20, 0, none⟩) 1 1]).run Try.prog w21 = .ok (.slice a22 l22 c22) w23 ∧ (∃ (m24 : Nat), m24 < 256 - i ∧
          (fun (m : Nat) (a : Option Addr) (l c : Nat) (n : Int) (w' : World) => ∃ (i : Nat) (xs : List (Int × Int)), n = i ∧ m = 256 - i ∧ l = xs.length ∧ SetInv f i xs ∧ xs.length ≤ i ∧ i ≤ 256 ∧ Row w.heap.size w' 134 2 a l c (rngC xs) ∧ Below w.heap.size w w') m24 a22 l22 c22 (IntKind.wrap .i64 ((i : Int) + 1)) w23)) w1 := by
        intro hn
        obtain ⟨a3, c3, w3, r1, r2, r3⟩ := hR.app1 elemRng (ys := [.int .i64 (i : Int), .int .i64 (i : Int)]) (n := 1) rfl rfl (by omega) (by omega)
        refine ⟨a3, _, c3, w3, r1, 256 - (i + 1), by omega, i + 1, xs ++ [((i : Int), (i : Int))], e1, rfl, by simp, hI.new g' hf hn, by simp; omega, by omega, ?_, r3.step hb (Nat.le_refl _)⟩
        rw [rngC_append]; exact r2
      refine ⟨fun g2 => ?_, fun g2 => ?_⟩
      · have g2' : 0 < xs.length := by have := of_decide_eq_true g2; omega
        obtain ⟨ys, p, hxs⟩ : ∃ ys p, xs = ys ++ [p] := ⟨xs.dropLast, xs.getLast (by intro h; subst h; simp at g2'), (List.dropLast_concat_getLast _).symm⟩
        obtain ⟨lo, hi0⟩ := p
        subst hxs
        have hlen : (ys ++ [(lo, hi0)]).length = ys.length + 1 := by simp
        have ew : IntKind.wrap .i64 ((((ys ++ [(lo, hi0)]).length : Nat) : Int) - 1) = (ys.length : Int) := by rw [w64 (by omega)]; omega
        have ew2 : IntKind.wrap .i64 ((i : Int) - 1) = (i : Int) - 1 := w64 (by omega)
        rw [ew, ew2]
        obtain ⟨b9, cs, rfl, hB9, hc9, hN9, hat⟩ := hR.at (by omega)
        have hget : cellH w1.heap b9 (ys.length * 2 + 1) = some (.int .i64 hi0) := by
          rw [hat _ (by omega), rngC_append, List.getElem?_append_right (by rw [rngC_length]; omega), rngC_length]
          rw [show ys.length * 2 + 1 - ys.length * 2 = 1 from by omega]
          rfl
        refine ⟨b9, 0, ⟨rfl, by omega, by omega⟩, hi0, ?_, fun g3 => ?_, fun g3 => ?_⟩
        · rw [show 0 + Int.toNat (ys.length : Int) * 2 + 1 = ys.length * 2 + 1 from by omega]; exact hget
        · have g3' : hi0 = (i : Int) - 1 := by simpa using g3
          refine ⟨b9, 0, ⟨rfl, by omega, by omega⟩, ?_⟩
          rw [show 0 + Int.toNat (ys.length : Int) * 2 + 1 = ys.length * 2 + 1 from by omega]
          refine hR.st (by omega) fun w2 hR2 e2 => ?_
          refine ⟨256 - (i + 1), by omega, i + 1, ys ++ [(lo, (i : Int))], e1, rfl, by simp, hI.on g' hf g3', by simp; omega, by omega, ?_, Ext.to hb e2 fun x hx => by omega⟩
          have hset : (rngC (ys ++ [(lo, hi0)])).set (ys.length * 2 + 1) (.int .i64 (i : Int)) = rngC (ys ++ [(lo, (i : Int))]) := by
            rw [rngC_append, rngC_append, List.set_append_right _ _ (by rw [rngC_length]; omega), rngC_length, show ys.length * 2 + 1 - ys.length * 2 = 1 from by omega]
            rfl
          rw [hset] at hR2; exact hR2
        · have g3' : hi0 ≠ (i : Int) - 1 := by simpa using g3
          refine hnew fun ys' lo' hi' e => ?_
          have e2 := List.append_inj_right' e rfl
          simp only [List.cons.injEq, Prod.mk.injEq, and_true] at e2
          omega
      · have g2' : xs = [] := by
          have := of_decide_eq_false g2
          cases xs with
          | nil => rfl
          | cons x r => simp only [List.length_cons] at this; omega
        subst g2'
        refine hnew fun ys lo hi e => ?_
        simp at e
  · have g' : i = 256 := by have := of_decide_eq_false g; omega
    subst g'
    have := hI.done
    subst this
    exact ⟨a, c, rfl, hR, hb⟩
end Go.Proofs.Ytngbiaeliphdjaa.V
/- Printed by vcgen.py, a program of this session: formulas of Go functions, each with the proof that it gives the function's contract. No statement of the seat is proved here. -/
namespace Go.Proofs.Ytngbiaeliphdjaa.V
open Go.Vc Go.Proofs
set_option linter.unusedVariables false
set_option maxRecDepth 100000
/-- (*spec.l2M).empty -/
def V153 (b1 : Nat) (o2 : Nat) (R : Ending → World → Prop) : World → Prop := fun w =>
  ∃ (s3 : ByteArray), cellH w.heap b1 (o2 + 4) = some (.string s3) ∧ ∃ (a4 : Option Addr), ∃ (l4 : Nat), ∃ (c4 : Nat), ∃ (w5 : World), (Instr.makeSlice 59 (.int .i64 (IntKind.wrap .i64 (((ByteArray.size s3 : Nat) : Int) + 1))) (.int .i64 (IntKind.wrap .i64 (((ByteArray.size s3 : Nat) : Int) + 1)))).run Try.prog w = .ok (.slice a4 l4 c4) w5 ∧ newC [.slice a4 l4 c4, .slice none 0 0] 195 (fun (b6 : Nat) (w7 : World) => R (.returned (.pointer (some ⟨b6, 0, none⟩))) w7) w5
def scr153 : Scr := (.run [0] (.close (.run [0, 1, 2, 3, 4, 5, 6, 7, 8, 9] (.close .nil))))
theorem vc153 {b1 : Nat} {o2 : Nat} {R : Ending → World → Prop} {w : World} (h : V153 b1 o2 R w) : Cl Try.prog 153 [.pointer (some ⟨b1, o2, none⟩)] w R :=
  cl_of scr153 Try.func153 (by kernel_rfl) [.pointer (some ⟨b1, o2, none⟩)] (V153 b1 o2 R) (by kernel_rfl) h
/-- spec.l2in -/
def V154 (a1 : Option Addr) (l1 : Nat) (c1 : Nat) (n2 : Int) (R : Ending → World → Prop) : World → Prop := fun w =>
  ∃ (I3 : Nat → Int → World → Prop), (∃ (k5 : Nat), I3 k5 0 w) ∧ ∀ (k4 : Nat) (d7 : Nat → Value) (n8 : Int) (w6 : World), I3 k4 n8 w6 → (((decide ((n8 : Int) < ((l1 : Nat) : Int))) = true → ∃ (b9 : Nat) (o10 : Nat), ((a1 : Option Addr) = some ⟨b9, o10, none⟩ ∧ 0 ≤ (n8 : Int) ∧ (n8 : Int) < ((l1 : Nat) : Int)) ∧ ∃ (n11 : Int), cellH w6.heap b9 (o10 + (Int.toNat n8) * 2) = some (.int .i64 n11) ∧ ∃ (n12 : Int), cellH w6.heap b9 (o10 + (Int.toNat n8) * 2 + 1) = some (.int .i64 n12) ∧ newC [.int .i64 0, .int .i64 0] 134 (fun (b13 : Nat) (w14 : World) => stW b13 0 [.int .i64 n11, .int .i64 n12] (fun (w15 : World) => ∃ (n16 : Int), cellH w15.heap b13 0 = some (.int .i64 n16) ∧ (((decide ((IntKind.wrap .i64 n2 : Int) ≥ n16)) = true → ∃ (n17 : Int), cellH w15.heap b13 1 = some (.int .i64 n17) ∧ (((decide ((IntKind.wrap .i64 n2 : Int) ≤ n17)) = true → R (.returned (.bool true)) w15) ∧ ((decide ((IntKind.wrap .i64 n2 : Int) ≤ n17)) = false → (∃ (m18 : Nat), m18 < k4 ∧ I3 m18 (IntKind.wrap .i64 (n8 + 1)) w15)))) ∧ ((decide ((IntKind.wrap .i64 n2 : Int) ≥ n16)) = false → (∃ (m19 : Nat), m19 < k4 ∧ I3 m19 (IntKind.wrap .i64 (n8 + 1)) w15)))) w14) w6) ∧ ((decide ((n8 : Int) < ((l1 : Nat) : Int))) = false → R (.returned (.bool false)) w6))
def scr154 : Scr := (.run [0] (.close (.run [0, 1, 2] (.close (.loop [(9, some (.int .i64)), (4, none), (6, none), (10, none), (11, none), (12, none), (13, none), (14, none), (15, none), (16, none), (17, none), (18, none), (19, none), (20, none), (21, none), (22, none), (23, none), (24, none), (25, none)] (.run [0] (.close (.cond (.run [0, 1, 2, 3] (.close (.run [0, 1, 2, 3, 4, 5] (.split 18 (.run [6, 7, 8, 9, 10, 11] (.close (.cond (.run [0] (.close .nil)) (.run [0, 1] (.close .nil))))) (.run [6, 7, 8, 9, 10, 11] (.close (.lit (.run [0, 1] (.close .nil))))))))) (.run [0] (.close .nil))))))))))
theorem vc154 {a1 : Option Addr} {l1 : Nat} {c1 : Nat} {n2 : Int} {R : Ending → World → Prop} {w : World} (h : V154 a1 l1 c1 n2 R w) : Cl Try.prog 154 [.slice a1 l1 c1, .int .u8 n2] w R :=
  cl_of scr154 Try.func154 (by kernel_rfl) [.slice a1 l1 c1, .int .u8 n2] (V154 a1 l1 c1 n2 R) (by kernel_rfl) h
/-- (*spec.l2L).add -/
def V155 (b1 : Nat) (o2 : Nat) (n3 : Int) (a4 : Option Addr) (l4 : Nat) (c4 : Nat) (R : Ending → World → Prop) : World → Prop := fun w =>
  ∃ (a5 : Option Addr), ∃ (l5 : Nat), ∃ (c5 : Nat), cellH w.heap b1 o2 = some (.slice a5 l5 c5) ∧ ∃ (b6 : Nat) (o7 : Nat), ((a5 : Option Addr) = some ⟨b6, o7, none⟩ ∧ 0 ≤ (n3 : Int) ∧ (n3 : Int) < ((l5 : Nat) : Int)) ∧ ∃ (t8 : Bool), cellH w.heap b6 (o7 + (Int.toNat n3) * 1) = some (.bool t8) ∧ (((!t8) = true → ∃ (a9 : Option Addr), ∃ (l9 : Nat), ∃ (c9 : Nat), cellH w.heap b1 o2 = some (.slice a9 l9 c9) ∧ ∃ (b10 : Nat) (o11 : Nat), ((a9 : Option Addr) = some ⟨b10, o11, none⟩ ∧ 0 ≤ (n3 : Int) ∧ (n3 : Int) < ((l9 : Nat) : Int)) ∧ stW b10 (o11 + (Int.toNat n3) * 1) [.bool true] (fun (w12 : World) => ∃ (a13 : Option Addr), ∃ (l13 : Nat), ∃ (c13 : Nat), cellH w12.heap b1 (o2 + 1) = some (.slice a13 l13 c13) ∧ newC [.int .i64 n3, .slice a4 l4 c4] 150 (fun (b14 : Nat) (w15 : World) => ∃ (a16 : Option Addr), ∃ (l16 : Nat), ∃ (c16 : Nat), ∃ (w17 : World), (Builtin.append_ #[147, 147] 147 #[.slice a13 l13 c13, .slice (some ⟨b14, 0, none⟩) 1 1]).run Try.prog w15 = .ok (.slice a16 l16 c16) w17 ∧ stW b1 (o2 + 1) [.slice a16 l16 c16] (fun (w18 : World) => R (.returned (.tuple #[])) w18) w17) w12) w) ∧ ((!t8) = false → R (.returned (.tuple #[])) w))
def scr155 : Scr := (.run [0, 1, 2, 3, 4, 5, 6, 7] (.close (.cond (.run [0, 1, 2, 3, 4, 5, 6] (.close (.run [0, 1, 2, 3, 4, 5, 6, 7, 8, 9, 10, 11, 12] (.close .nil)))) .nil)))
theorem vc155 {b1 : Nat} {o2 : Nat} {n3 : Int} {a4 : Option Addr} {l4 : Nat} {c4 : Nat} {R : Ending → World → Prop} {w : World} (h : V155 b1 o2 n3 a4 l4 c4 R w) : Cl Try.prog 155 [.pointer (some ⟨b1, o2, none⟩), .int .i64 n3, .slice a4 l4 c4] w R :=
  cl_of scr155 Try.func155 (by kernel_rfl) [.pointer (some ⟨b1, o2, none⟩), .int .i64 n3, .slice a4 l4 c4] (V155 b1 o2 n3 a4 l4 c4 R) (by kernel_rfl) h
/-- (*spec.l2M).none -/
def V156 (b1 : Nat) (o2 : Nat) (R : Ending → World → Prop) : World → Prop := fun w =>
  ∃ (n3 : Int), cellH w.heap b1 (o2 + 2) = some (.int .i64 n3) ∧ ∃ (a4 : Option Addr), ∃ (l4 : Nat), ∃ (c4 : Nat), ∃ (w5 : World), (Instr.makeSlice 27 (.int .i64 n3) (.int .i64 n3)).run Try.prog w = .ok (.slice a4 l4 c4) w5 ∧ ∃ (I6 : Nat → Int → World → Prop), (∃ (k8 : Nat), I6 k8 0 w5) ∧ ∀ (k7 : Nat) (d10 : Nat → Value) (n11 : Int) (w9 : World), I6 k7 n11 w9 → (((decide ((n11 : Int) < ((l4 : Nat) : Int))) = true → ∃ (b12 : Nat) (o13 : Nat), ((a4 : Option Addr) = some ⟨b12, o13, none⟩ ∧ 0 ≤ (n11 : Int) ∧ (n11 : Int) < ((l4 : Nat) : Int)) ∧ stW b12 (o13 + (Int.toNat n11) * 2) [.int .i64 (-2)] (fun (w14 : World) => (∃ (m15 : Nat), m15 < k7 ∧ I6 m15 (IntKind.wrap .i64 (n11 + 1)) w14)) w9) ∧ ((decide ((n11 : Int) < ((l4 : Nat) : Int))) = false → R (.returned (.slice a4 l4 c4)) w9))
def scr156 : Scr := (.run [0] (.close (.run [0, 1, 2, 3, 4, 5, 6] (.close (.run [0, 1, 2] (.close (.loop [(13, some (.int .i64)), (4, none), (14, none), (15, none), (16, none), (17, none), (18, none), (19, none), (20, none)] (.run [0] (.close (.cond (.run [0, 1] (.close (.run [0, 1, 2, 3, 4] (.close (.run [0, 1] (.close .nil)))))) (.run [0, 1] (.close .nil))))))))))))
theorem vc156 {b1 : Nat} {o2 : Nat} {R : Ending → World → Prop} {w : World} (h : V156 b1 o2 R w) : Cl Try.prog 156 [.pointer (some ⟨b1, o2, none⟩)] w R :=
  cl_of scr156 Try.func156 (by kernel_rfl) [.pointer (some ⟨b1, o2, none⟩)] (V156 b1 o2 R) (by kernel_rfl) h
/-- spec.l2over -/
def V157 (a1 : Option Addr) (l1 : Nat) (c1 : Nat) (a2 : Option Addr) (l2 : Nat) (c2 : Nat) (R : Ending → World → Prop) : World → Prop := fun w =>
  ∃ (a3 : Option Addr), ∃ (l3 : Nat), ∃ (c3 : Nat), ∃ (w4 : World), (Instr.makeSlice 27 (.int .i64 ((l1 : Nat) : Int)) (.int .i64 ((l1 : Nat) : Int))).run Try.prog w = .ok (.slice a3 l3 c3) w4 ∧ ∃ (I5 : Nat → Int → World → Prop), (∃ (k7 : Nat), I5 k7 0 w4) ∧ ∀ (k6 : Nat) (d9 : Nat → Value) (n10 : Int) (w8 : World), I5 k6 n10 w8 → (((decide ((n10 : Int) < ((l1 : Nat) : Int))) = true → ∃ (b11 : Nat) (o12 : Nat), ((a1 : Option Addr) = some ⟨b11, o12, none⟩ ∧ 0 ≤ (n10 : Int) ∧ (n10 : Int) < ((l1 : Nat) : Int)) ∧ ∃ (n13 : Int), cellH w8.heap b11 (o12 + (Int.toNat n10) * 2) = some (.int .i64 n13) ∧ ∃ (n14 : Int), cellH w8.heap b11 (o12 + (Int.toNat n10) * 2 + 1) = some (.int .i64 n14) ∧ ∃ (b15 : Nat) (o16 : Nat), ((a3 : Option Addr) = some ⟨b15, o16, none⟩ ∧ 0 ≤ (n10 : Int) ∧ (n10 : Int) < ((l3 : Nat) : Int)) ∧ stW b15 (o16 + (Int.toNat n10) * 2) [.int .i64 n13, .int .i64 n14] (fun (w17 : World) => ∃ (b18 : Nat) (o19 : Nat), ((a2 : Option Addr) = some ⟨b18, o19, none⟩ ∧ 0 ≤ (n10 : Int) ∧ (n10 : Int) < ((l2 : Nat) : Int)) ∧ ∃ (n20 : Int), cellH w17.heap b18 (o19 + (Int.toNat n10) * 2) = some (.int .i64 n20) ∧ ((((n20 : Int) != (-2)) = true → ∃ (b21 : Nat) (o22 : Nat), ((a2 : Option Addr) = some ⟨b21, o22, none⟩ ∧ 0 ≤ (n10 : Int) ∧ (n10 : Int) < ((l2 : Nat) : Int)) ∧ ∃ (n23 : Int), cellH w17.heap b21 (o22 + (Int.toNat n10) * 2) = some (.int .i64 n23) ∧ ∃ (n24 : Int), cellH w17.heap b21 (o22 + (Int.toNat n10) * 2 + 1) = some (.int .i64 n24) ∧ ∃ (b25 : Nat) (o26 : Nat), ((a3 : Option Addr) = some ⟨b25, o26, none⟩ ∧ 0 ≤ (n10 : Int) ∧ (n10 : Int) < ((l3 : Nat) : Int)) ∧ stW b25 (o26 + (Int.toNat n10) * 2) [.int .i64 n23, .int .i64 n24] (fun (w27 : World) => (∃ (m28 : Nat), m28 < k6 ∧ I5 m28 (IntKind.wrap .i64 (n10 + 1)) w27)) w17) ∧ (((n20 : Int) != (-2)) = false → (∃ (m29 : Nat), m29 < k6 ∧ I5 m29 (IntKind.wrap .i64 (n10 + 1)) w17)))) w8) ∧ ((decide ((n10 : Int) < ((l1 : Nat) : Int))) = false → R (.returned (.slice a3 l3 c3)) w8))
def scr157 : Scr := (.run [0] (.close (.run [0, 1, 2, 3] (.close (.run [0, 1, 2] (.close (.loop [(12, some (.int .i64)), (6, none), (13, none), (14, none), (15, none), (16, none), (17, none), (18, none), (19, none), (20, none), (21, none), (22, none), (23, none), (24, none), (25, none), (26, none), (27, none), (28, none), (29, none), (30, none), (31, none), (32, none), (33, none), (34, none), (35, none)] (.run [0] (.close (.cond (.run [0, 1] (.close (.run [0, 1, 2, 3, 4, 5, 6, 7] (.close (.run [0, 1, 2, 3, 4, 5] (.close (.cond (.run [0, 1, 2, 3, 4, 5, 6, 7] (.close (.run [0, 1] (.close .nil)))) (.run [0, 1] (.close .nil))))))))) (.run [0, 1] (.close .nil))))))))))))
theorem vc157 {a1 : Option Addr} {l1 : Nat} {c1 : Nat} {a2 : Option Addr} {l2 : Nat} {c2 : Nat} {R : Ending → World → Prop} {w : World} (h : V157 a1 l1 c1 a2 l2 c2 R w) : Cl Try.prog 157 [.slice a1 l1 c1, .slice a2 l2 c2] w R :=
  cl_of scr157 Try.func157 (by kernel_rfl) [.slice a1 l1 c1, .slice a2 l2 c2] (V157 a1 l1 c1 a2 l2 c2 R) (by kernel_rfl) h
/-- (*spec.l2M).then -/
def V158 (b1 : Nat) (o2 : Nat) (a3 : Option Addr) (l3 : Nat) (c3 : Nat) (n4 : Int) (R : Ending → World → Prop) : World → Prop := fun w =>
  Cl Try.prog 153 ([.pointer (some ⟨b1, o2, none⟩)]) w (retG (fun (r8 : Value) (w7 : World) => ∃ (b5 : Nat), ∃ (o6 : Nat), r8 = .pointer (some ⟨b5, o6, none⟩) ∧ ∃ (I9 : Nat → Int → World → Prop), (∃ (k11 : Nat), I9 k11 0 w7) ∧ ∀ (k10 : Nat) (d13 : Nat → Value) (n14 : Int) (w12 : World), I9 k10 n14 w12 → (((decide ((n14 : Int) < ((l3 : Nat) : Int))) = true → ∃ (b15 : Nat) (o16 : Nat), ((a3 : Option Addr) = some ⟨b15, o16, none⟩ ∧ 0 ≤ (n14 : Int) ∧ (n14 : Int) < ((l3 : Nat) : Int)) ∧ ∃ (n17 : Int), cellH w12.heap b15 (o16 + (Int.toNat n14) * 2) = some (.int .i64 n17) ∧ ∃ (a18 : Option Addr), ∃ (l18 : Nat), ∃ (c18 : Nat), cellH w12.heap b15 (o16 + (Int.toNat n14) * 2 + 1) = some (.slice a18 l18 c18) ∧ newC [.int .i64 0, .slice none 0 0] 150 (fun (b19 : Nat) (w20 : World) => stW b19 0 [.int .i64 n17, .slice a18 l18 c18] (fun (w21 : World) => ∃ (n22 : Int), cellH w21.heap b19 0 = some (.int .i64 n22) ∧ Cl Try.prog 121 ([.pointer (some ⟨b1, o2, none⟩), .int .i64 n4, .int .i64 n22]) w21 (retG (fun (r25 : Value) (w24 : World) => ∃ (a23 : Option Addr), ∃ (l23 : Nat), ∃ (c23 : Nat), r25 = .slice a23 l23 c23 ∧ ∃ (I26 : Nat → Int → World → Prop), (∃ (k28 : Nat), I26 k28 0 w24) ∧ ∀ (k27 : Nat) (d30 : Nat → Value) (n31 : Int) (w29 : World), I26 k27 n31 w29 → (((decide ((n31 : Int) < ((l23 : Nat) : Int))) = true → ∃ (b32 : Nat) (o33 : Nat), ((a23 : Option Addr) = some ⟨b32, o33, none⟩ ∧ 0 ≤ (n31 : Int) ∧ (n31 : Int) < ((l23 : Nat) : Int)) ∧ ∃ (n34 : Int), cellH w29.heap b32 (o33 + (Int.toNat n31) * 2) = some (.int .i64 n34) ∧ ∃ (a35 : Option Addr), ∃ (l35 : Nat), ∃ (c35 : Nat), cellH w29.heap b32 (o33 + (Int.toNat n31) * 2 + 1) = some (.slice a35 l35 c35) ∧ newC [.int .i64 0, .slice none 0 0] 150 (fun (b36 : Nat) (w37 : World) => stW b36 0 [.int .i64 n34, .slice a35 l35 c35] (fun (w38 : World) => drw (fun (w39 : World) => ∃ (a40 : Option Addr), ∃ (l40 : Nat), ∃ (c40 : Nat), cellH w39.heap b5 o6 = some (.slice a40 l40 c40) ∧ ∃ (n41 : Int), cellH w39.heap b36 0 = some (.int .i64 n41) ∧ ∃ (b42 : Nat) (o43 : Nat), ((a40 : Option Addr) = some ⟨b42, o43, none⟩ ∧ 0 ≤ (n41 : Int) ∧ (n41 : Int) < ((l40 : Nat) : Int)) ∧ ∃ (t44 : Bool), cellH w39.heap b42 (o43 + (Int.toNat n41) * 1) = some (.bool t44) ∧ (((!t44) = true → drw (fun (w45 : World) => ∃ (n46 : Int), cellH w45.heap b36 0 = some (.int .i64 n46) ∧ ∃ (a47 : Option Addr), ∃ (l47 : Nat), ∃ (c47 : Nat), cellH w45.heap b19 1 = some (.slice a47 l47 c47) ∧ ∃ (a48 : Option Addr), ∃ (l48 : Nat), ∃ (c48 : Nat), cellH w45.heap b36 1 = some (.slice a48 l48 c48) ∧ Cl Try.prog 157 ([.slice a47 l47 c47, .slice a48 l48 c48]) w45 (retG (fun (r51 : Value) (w50 : World) => ∃ (a49 : Option Addr), ∃ (l49 : Nat), ∃ (c49 : Nat), r51 = .slice a49 l49 c49 ∧ cellH w50.heap b36 0 = some (.int .i64 n46) ∧ Cl Try.prog 155 ([.pointer (some ⟨b5, o6, none⟩), .int .i64 n46, .slice a49 l49 c49]) w50 (retG (fun (r53 : Value) (w52 : World) => r53 = .tuple #[] ∧ (∃ (m54 : Nat), m54 < k27 ∧ I26 m54 (IntKind.wrap .i64 (n31 + 1)) w52)) (fun c w => R (.panicked c) w))) (fun c w => R (.panicked c) w))) w39) ∧ ((!t44) = false → (∃ (m55 : Nat), m55 < k27 ∧ I26 m55 (IntKind.wrap .i64 (n31 + 1)) w39)))) w38) w37) w29) ∧ ((decide ((n31 : Int) < ((l23 : Nat) : Int))) = false → (∃ (m56 : Nat), m56 < k10 ∧ I9 m56 (IntKind.wrap .i64 (n14 + 1)) w29)))) (fun c w => R (.panicked c) w))) w20) w12) ∧ ((decide ((n14 : Int) < ((l3 : Nat) : Int))) = false → ∃ (a57 : Option Addr), ∃ (l57 : Nat), ∃ (c57 : Nat), cellH w12.heap b5 (o6 + 1) = some (.slice a57 l57 c57) ∧ R (.returned (.slice a57 l57 c57)) w12))) (fun c w => R (.panicked c) w))
def scr158 : Scr := (.run [0] (.close (.run [0, 1, 2] (.close (.run [0, 1, 2] (.close (.loop [(16, some (.int .i64)), (9, none), (11, none), (17, none), (18, none), (19, none), (20, none), (21, none), (22, none), (23, none), (24, none), (25, none), (26, none), (27, none), (28, none), (29, none), (30, none), (31, none), (32, none), (33, none), (34, none), (35, none), (36, none), (37, none), (38, none), (39, none), (40, none), (41, none), (42, none), (43, none), (44, none), (45, none), (46, none), (47, none), (48, none), (49, none)] (.run [0] (.close (.cond (.run [0, 1, 2, 3] (.close (.run [0, 1, 2, 3, 4, 5, 6] (.close (.loop [(26, some (.int .i64)), (11, none), (27, none), (28, none), (29, none), (30, none), (31, none), (32, none), (33, none), (34, none), (35, none), (36, none), (37, none), (38, none), (39, none), (40, none), (41, none), (42, none), (43, none), (44, none), (45, none), (46, none), (47, none), (48, none)] (.run [0] (.close (.cond (.run [0, 1, 2, 3] (.close (.run [0, 1, 2, 3, 4, 5, 6, 7, 8] (.close (.cond (.run [0, 1, 2, 3, 4, 5, 6, 7, 8] (.close (.run [0, 1] (.close .nil)))) (.run [0, 1] (.close .nil))))))) (.run [0, 1] (.close .nil)))))))))) (.run [0, 1, 2, 3, 4] (.close .nil))))))))))))
theorem vc158 {b1 : Nat} {o2 : Nat} {a3 : Option Addr} {l3 : Nat} {c3 : Nat} {n4 : Int} {R : Ending → World → Prop} {w : World} (h : V158 b1 o2 a3 l3 c3 n4 R w) : Cl Try.prog 158 [.pointer (some ⟨b1, o2, none⟩), .slice a3 l3 c3, .int .i64 n4] w R :=
  cl_of scr158 Try.func158 (by kernel_rfl) [.pointer (some ⟨b1, o2, none⟩), .slice a3 l3 c3, .int .i64 n4] (V158 b1 o2 a3 l3 c3 n4 R) (by kernel_rfl) h
/-- (*spec.l2M).further -/
def V159 (b1 : Nat) (o2 : Nat) (n3 : Int) (a4 : Option Addr) (l4 : Nat) (c4 : Nat) (n5 : Int) (n6 : Int) (t7 : Bool) (n8 : Int) (a9 : Option Addr) (l9 : Nat) (c9 : Nat) (n10 : Int) (a11 : Option Addr) (l11 : Nat) (c11 : Nat) (n12 : Int) (a13 : Option Addr) (l13 : Nat) (c13 : Nat) (b14 : Nat) (o15 : Nat) (R : Ending → World → Prop) : World → Prop := fun w =>
  newC [.int .i64 n3, .slice a4 l4 c4, .int .i64 n5, .int .i64 n6, .bool t7, .int .i64 n8, .slice a9 l9 c9] 111 (fun (b16 : Nat) (w17 : World) => newC [.int .i64 n10, .slice a11 l11 c11] 150 (fun (b18 : Nat) (w19 : World) => ∃ (n20 : Int), cellH w19.heap b18 0 = some (.int .i64 n20) ∧ ∃ (b21 : Nat) (o22 : Nat), ((a13 : Option Addr) = some ⟨b21, o22, none⟩ ∧ 0 ≤ (IntKind.wrap .i64 ((IntKind.wrap .i64 (n20 * 52)) + n12) : Int) ∧ (IntKind.wrap .i64 ((IntKind.wrap .i64 (n20 * 52)) + n12) : Int) < ((l13 : Nat) : Int)) ∧ ∃ (t23 : Bool), cellH w19.heap b21 (o22 + (Int.toNat (IntKind.wrap .i64 ((IntKind.wrap .i64 (n20 * 52)) + n12))) * 1) = some (.bool t23) ∧ ((t23 = true → R (.returned (.tuple #[])) w19) ∧ (t23 = false → ∃ (b24 : Nat) (o25 : Nat), ((a13 : Option Addr) = some ⟨b24, o25, none⟩ ∧ 0 ≤ (IntKind.wrap .i64 ((IntKind.wrap .i64 (n20 * 52)) + n12) : Int) ∧ (IntKind.wrap .i64 ((IntKind.wrap .i64 (n20 * 52)) + n12) : Int) < ((l13 : Nat) : Int)) ∧ stW b24 (o25 + (Int.toNat (IntKind.wrap .i64 ((IntKind.wrap .i64 (n20 * 52)) + n12))) * 1) [.bool true] (fun (w26 : World) => ∃ (t27 : Bool), cellH w26.heap b16 4 = some (.bool t27) ∧ ∃ (J28 : World → Prop), (((t27 = true → ∃ (n29 : Int), cellH w26.heap b18 0 = some (.int .i64 n29) ∧ ∃ (a30 : Option Addr), ∃ (l30 : Nat), ∃ (c30 : Nat), cellH w26.heap b18 1 = some (.slice a30 l30 c30) ∧ Cl Try.prog 155 ([.pointer (some ⟨b14, o15, none⟩), .int .i64 n29, .slice a30 l30 c30]) w26 (retG (fun (r32 : Value) (w31 : World) => r32 = .tuple #[] ∧ J28  w31) (fun c w => R (.panicked c) w))) ∧ (t27 = false → J28  w26))) ∧ ∀ (d33 : Nat → Value) (w34 : World), J28  w34 → (((decide ((n12 : Int) > 0)) = true → ∃ (J35 : Int → World → Prop), ((((decide ((n12 : Int) > 50)) = true → J35 n12 w34) ∧ ((decide ((n12 : Int) > 50)) = false → J35 (IntKind.wrap .i64 (n12 - 1)) w34))) ∧ ∀ (d36 : Nat → Value) (n37 : Int) (w38 : World), J35 n37 w38 → drw (fun (w39 : World) => ∃ (a40 : Option Addr), ∃ (l40 : Nat), ∃ (c40 : Nat), cellH w39.heap b16 6 = some (.slice a40 l40 c40) ∧ ∃ (b41 : Nat) (o42 : Nat), ((a40 : Option Addr) = some ⟨b41, o42, none⟩ ∧ 0 ≤ (0 : Int) ∧ (0 : Int) < ((l40 : Nat) : Int)) ∧ ∃ (n43 : Int), cellH w39.heap b41 o42 = some (.int .i64 n43) ∧ ∃ (n44 : Int), cellH w39.heap b18 0 = some (.int .i64 n44) ∧ Cl Try.prog 121 ([.pointer (some ⟨b1, o2, none⟩), .int .i64 n43, .int .i64 n44]) w39 (retG (fun (r47 : Value) (w46 : World) => ∃ (a45 : Option Addr), ∃ (l45 : Nat), ∃ (c45 : Nat), r47 = .slice a45 l45 c45 ∧ ∃ (I48 : Nat → Int → World → Prop), (∃ (k50 : Nat), I48 k50 0 w46) ∧ ∀ (k49 : Nat) (d52 : Nat → Value) (n53 : Int) (w51 : World), I48 k49 n53 w51 → (((decide ((n53 : Int) < ((l45 : Nat) : Int))) = true → ∃ (b54 : Nat) (o55 : Nat), ((a45 : Option Addr) = some ⟨b54, o55, none⟩ ∧ 0 ≤ (n53 : Int) ∧ (n53 : Int) < ((l45 : Nat) : Int)) ∧ ∃ (n56 : Int), cellH w51.heap b54 (o55 + (Int.toNat n53) * 2) = some (.int .i64 n56) ∧ ∃ (a57 : Option Addr), ∃ (l57 : Nat), ∃ (c57 : Nat), cellH w51.heap b54 (o55 + (Int.toNat n53) * 2 + 1) = some (.slice a57 l57 c57) ∧ newC [.int .i64 0, .slice none 0 0] 150 (fun (b58 : Nat) (w59 : World) => stW b58 0 [.int .i64 n56, .slice a57 l57 c57] (fun (w60 : World) => ∃ (n61 : Int), cellH w60.heap b58 0 = some (.int .i64 n61) ∧ ∃ (n62 : Int), cellH w60.heap b18 0 = some (.int .i64 n62) ∧ (((decide ((n61 : Int) > n62)) = true → drw (fun (w63 : World) => ∃ (n64 : Int), cellH w63.heap b16 0 = some (.int .i64 n64) ∧ ∃ (a65 : Option Addr), ∃ (l65 : Nat), ∃ (c65 : Nat), cellH w63.heap b16 1 = some (.slice a65 l65 c65) ∧ ∃ (n66 : Int), cellH w63.heap b16 2 = some (.int .i64 n66) ∧ ∃ (n67 : Int), cellH w63.heap b16 3 = some (.int .i64 n67) ∧ ∃ (t68 : Bool), cellH w63.heap b16 4 = some (.bool t68) ∧ ∃ (n69 : Int), cellH w63.heap b16 5 = some (.int .i64 n69) ∧ ∃ (a70 : Option Addr), ∃ (l70 : Nat), ∃ (c70 : Nat), cellH w63.heap b16 6 = some (.slice a70 l70 c70) ∧ ∃ (n71 : Int), cellH w63.heap b58 0 = some (.int .i64 n71) ∧ ∃ (a72 : Option Addr), ∃ (l72 : Nat), ∃ (c72 : Nat), cellH w63.heap b18 1 = some (.slice a72 l72 c72) ∧ ∃ (a73 : Option Addr), ∃ (l73 : Nat), ∃ (c73 : Nat), cellH w63.heap b58 1 = some (.slice a73 l73 c73) ∧ Cl Try.prog 157 ([.slice a72 l72 c72, .slice a73 l73 c73]) w63 (retG (fun (r76 : Value) (w75 : World) => ∃ (a74 : Option Addr), ∃ (l74 : Nat), ∃ (c74 : Nat), r76 = .slice a74 l74 c74 ∧ cellH w75.heap b58 0 = some (.int .i64 n71) ∧ cellsAt w75.heap b16 0 [.int .i64 n64, .slice a65 l65 c65, .int .i64 n66, .int .i64 n67, .bool t68, .int .i64 n69, .slice a70 l70 c70] ∧ Cl Try.prog 159 ([.pointer (some ⟨b1, o2, none⟩), .agg #[.int .i64 n64, .slice a65 l65 c65, .int .i64 n66, .int .i64 n67, .bool t68, .int .i64 n69, .slice a70 l70 c70], .agg #[.int .i64 n71, .slice a74 l74 c74], .int .i64 n37, .slice a13 l13 c13, .pointer (some ⟨b14, o15, none⟩)]) w75 (retG (fun (r78 : Value) (w77 : World) => r78 = .tuple #[] ∧ (∃ (m79 : Nat), m79 < k49 ∧ I48 m79 (IntKind.wrap .i64 (n53 + 1)) w77)) (fun c w => R (.panicked c) w))) (fun c w => R (.panicked c) w))) w60) ∧ ((decide ((n61 : Int) > n62)) = false → (∃ (m80 : Nat), m80 < k49 ∧ I48 m80 (IntKind.wrap .i64 (n53 + 1)) w60)))) w59) w51) ∧ ((decide ((n53 : Int) < ((l45 : Nat) : Int))) = false → ∃ (n81 : Int), cellH w51.heap b18 0 = some (.int .i64 n81) ∧ ∃ (a82 : Option Addr), ∃ (l82 : Nat), ∃ (c82 : Nat), cellH w51.heap b18 1 = some (.slice a82 l82 c82) ∧ Cl Try.prog 155 ([.pointer (some ⟨b14, o15, none⟩), .int .i64 n81, .slice a82 l82 c82]) w51 (retG (fun (r84 : Value) (w83 : World) => r84 = .tuple #[] ∧ R (.returned (.tuple #[])) w83) (fun c w => R (.panicked c) w))))) (fun c w => R (.panicked c) w))) w38) ∧ ((decide ((n12 : Int) > 0)) = false → ∃ (n85 : Int), cellH w34.heap b18 0 = some (.int .i64 n85) ∧ ∃ (a86 : Option Addr), ∃ (l86 : Nat), ∃ (c86 : Nat), cellH w34.heap b18 1 = some (.slice a86 l86 c86) ∧ Cl Try.prog 155 ([.pointer (some ⟨b14, o15, none⟩), .int .i64 n85, .slice a86 l86 c86]) w34 (retG (fun (r88 : Value) (w87 : World) => r88 = .tuple #[] ∧ R (.returned (.tuple #[])) w87) (fun c w => R (.panicked c) w))))) w19))) w17) w
def scr159 : Scr := (.run [0, 1] (.close (.run [0, 1, 2, 3, 4, 5] (.close (.run [0, 1, 2, 3] (.close (.cond .nil (.run [0, 1, 2, 3] (.close (.run [0, 1] (.close (.cut [(30, none), (31, none), (32, none), (33, none), (34, none), (35, none)] (.cond (.run [0, 1, 2, 3, 4, 5] (.close .nil)) .nil) (.run [0, 1] (.close (.cond (.run [0, 1, 2] (.close (.run [0, 1] (.close (.cut [(13, some (.int .i64)), (42, none)] (.cond (.run [0, 1] (.close .nil)) .nil) (.run [0, 1, 2, 3, 4, 5, 6, 9, 7, 8] (.close (.loop [(52, some (.int .i64)), (15, none), (53, none), (54, none), (55, none), (56, none), (57, none), (58, none), (59, none), (60, none), (61, none), (62, none), (63, none), (64, none), (65, none), (66, none), (67, none), (68, none), (69, none), (70, none), (71, none), (72, none), (73, none), (74, none), (75, none)] (.run [0] (.close (.cond (.run [0, 1, 2, 3] (.close (.run [0, 1, 2, 3, 4] (.close (.cond (.run [0, 1, 2, 3, 4, 5, 6, 7, 10, 11, 12, 8, 9, 13] (.close (.run [0, 1] (.close .nil)))) (.run [0, 1] (.close .nil))))))) (.run [0, 1, 2, 3, 4, 5] (.close .nil))))))))))))) (.run [0, 1, 2, 3, 4, 5] (.close .nil)))))))))))))))))
theorem vc159 {b1 : Nat} {o2 : Nat} {n3 : Int} {a4 : Option Addr} {l4 : Nat} {c4 : Nat} {n5 : Int} {n6 : Int} {t7 : Bool} {n8 : Int} {a9 : Option Addr} {l9 : Nat} {c9 : Nat} {n10 : Int} {a11 : Option Addr} {l11 : Nat} {c11 : Nat} {n12 : Int} {a13 : Option Addr} {l13 : Nat} {c13 : Nat} {b14 : Nat} {o15 : Nat} {R : Ending → World → Prop} {w : World} (h : V159 b1 o2 n3 a4 l4 c4 n5 n6 t7 n8 a9 l9 c9 n10 a11 l11 c11 n12 a13 l13 c13 b14 o15 R w) : Cl Try.prog 159 [.pointer (some ⟨b1, o2, none⟩), .agg #[.int .i64 n3, .slice a4 l4 c4, .int .i64 n5, .int .i64 n6, .bool t7, .int .i64 n8, .slice a9 l9 c9], .agg #[.int .i64 n10, .slice a11 l11 c11], .int .i64 n12, .slice a13 l13 c13, .pointer (some ⟨b14, o15, none⟩)] w R :=
  cl_of scr159 Try.func159 (by kernel_rfl) [.pointer (some ⟨b1, o2, none⟩), .agg #[.int .i64 n3, .slice a4 l4 c4, .int .i64 n5, .int .i64 n6, .bool t7, .int .i64 n8, .slice a9 l9 c9], .agg #[.int .i64 n10, .slice a11 l11 c11], .int .i64 n12, .slice a13 l13 c13, .pointer (some ⟨b14, o15, none⟩)] (V159 b1 o2 n3 a4 l4 c4 n5 n6 t7 n8 a9 l9 c9 n10 a11 l11 c11 n12 a13 l13 c13 b14 o15 R) (by kernel_rfl) h
/-- (*spec.l2M).work -/
def V138 (b1 : Nat) (o2 : Nat) (n3 : Int) (n4 : Int) (R : Ending → World → Prop) : World → Prop := fun w =>
  ∃ (a5 : Option Addr), ∃ (l5 : Nat), ∃ (c5 : Nat), cellH w.heap b1 (o2 + 3) = some (.slice a5 l5 c5) ∧ ∃ (b6 : Nat) (o7 : Nat), ((a5 : Option Addr) = some ⟨b6, o7, none⟩ ∧ 0 ≤ (n3 : Int) ∧ (n3 : Int) < ((l5 : Nat) : Int)) ∧ ∃ (n8 : Int), cellH w.heap b6 (o7 + (Int.toNat n3) * 7) = some (.int .i64 n8) ∧ ∃ (a9 : Option Addr), ∃ (l9 : Nat), ∃ (c9 : Nat), cellH w.heap b6 (o7 + (Int.toNat n3) * 7 + 1) = some (.slice a9 l9 c9) ∧ ∃ (n10 : Int), cellH w.heap b6 (o7 + (Int.toNat n3) * 7 + 2) = some (.int .i64 n10) ∧ ∃ (n11 : Int), cellH w.heap b6 (o7 + (Int.toNat n3) * 7 + 3) = some (.int .i64 n11) ∧ ∃ (t12 : Bool), cellH w.heap b6 (o7 + (Int.toNat n3) * 7 + 4) = some (.bool t12) ∧ ∃ (n13 : Int), cellH w.heap b6 (o7 + (Int.toNat n3) * 7 + 5) = some (.int .i64 n13) ∧ ∃ (a14 : Option Addr), ∃ (l14 : Nat), ∃ (c14 : Nat), cellH w.heap b6 (o7 + (Int.toNat n3) * 7 + 6) = some (.slice a14 l14 c14) ∧ newC [.int .i64 0, .slice none 0 0, .int .i64 0, .int .i64 0, .bool false, .int .i64 0, .slice none 0 0] 111 (fun (b15 : Nat) (w16 : World) => stW b15 0 [.int .i64 n8, .slice a9 l9 c9, .int .i64 n10, .int .i64 n11, .bool t12, .int .i64 n13, .slice a14 l14 c14] (fun (w17 : World) => Cl Try.prog 153 ([.pointer (some ⟨b1, o2, none⟩)]) w17 (retG (fun (r21 : Value) (w20 : World) => ∃ (b18 : Nat), ∃ (o19 : Nat), r21 = .pointer (some ⟨b18, o19, none⟩) ∧ ∃ (n22 : Int), cellH w20.heap b15 0 = some (.int .i64 n22) ∧ ((((n22 : Int) == 1) = true → drw (fun (w23 : World) => ∃ (s24 : ByteArray), cellH w23.heap b1 (o2 + 4) = some (.string s24) ∧ (((decide ((n4 : Int) < ((ByteArray.size s24 : Nat) : Int))) = true → ∃ (a25 : Option Addr), ∃ (l25 : Nat), ∃ (c25 : Nat), cellH w23.heap b15 1 = some (.slice a25 l25 c25) ∧ ∃ (s26 : ByteArray), cellH w23.heap b1 (o2 + 4) = some (.string s26) ∧ (0 ≤ (n4 : Int) ∧ (n4 : Int) < ((ByteArray.size s26 : Nat) : Int)) ∧ Cl Try.prog 154 ([.slice a25 l25 c25, .int .u8 (byteAt s26 (Int.toNat n4))]) w23 (retG (fun (r29 : Value) (w28 : World) => ∃ (t27 : Bool), r29 = .bool t27 ∧ ((t27 = true → Cl Try.prog 156 ([.pointer (some ⟨b1, o2, none⟩)]) w28 (retG (fun (r32 : Value) (w31 : World) => ∃ (a30 : Option Addr), ∃ (l30 : Nat), ∃ (c30 : Nat), r32 = .slice a30 l30 c30 ∧ Cl Try.prog 155 ([.pointer (some ⟨b18, o19, none⟩), .int .i64 (IntKind.wrap .i64 (n4 + 1)), .slice a30 l30 c30]) w31 (retG (fun (r34 : Value) (w33 : World) => r34 = .tuple #[] ∧ ∃ (a35 : Option Addr), ∃ (l35 : Nat), ∃ (c35 : Nat), cellH w33.heap b18 (o19 + 1) = some (.slice a35 l35 c35) ∧ R (.returned (.slice a35 l35 c35)) w33) (fun c w => R (.panicked c) w))) (fun c w => R (.panicked c) w))) ∧ (t27 = false → ∃ (a36 : Option Addr), ∃ (l36 : Nat), ∃ (c36 : Nat), cellH w28.heap b18 (o19 + 1) = some (.slice a36 l36 c36) ∧ R (.returned (.slice a36 l36 c36)) w28))) (fun c w => R (.panicked c) w))) ∧ ((decide ((n4 : Int) < ((ByteArray.size s24 : Nat) : Int))) = false → ∃ (a37 : Option Addr), ∃ (l37 : Nat), ∃ (c37 : Nat), cellH w23.heap b18 (o19 + 1) = some (.slice a37 l37 c37) ∧ R (.returned (.slice a37 l37 c37)) w23))) w20) ∧ (((n22 : Int) == 1) = false → ((((n22 : Int) == 6) = true → ((((n4 : Int) == 0) = true → Cl Try.prog 156 ([.pointer (some ⟨b1, o2, none⟩)]) w20 (retG (fun (r40 : Value) (w39 : World) => ∃ (a38 : Option Addr), ∃ (l38 : Nat), ∃ (c38 : Nat), r40 = .slice a38 l38 c38 ∧ Cl Try.prog 155 ([.pointer (some ⟨b18, o19, none⟩), .int .i64 n4, .slice a38 l38 c38]) w39 (retG (fun (r42 : Value) (w41 : World) => r42 = .tuple #[] ∧ ∃ (a43 : Option Addr), ∃ (l43 : Nat), ∃ (c43 : Nat), cellH w41.heap b18 (o19 + 1) = some (.slice a43 l43 c43) ∧ R (.returned (.slice a43 l43 c43)) w41) (fun c w => R (.panicked c) w))) (fun c w => R (.panicked c) w))) ∧ (((n4 : Int) == 0) = false → ∃ (a44 : Option Addr), ∃ (l44 : Nat), ∃ (c44 : Nat), cellH w20.heap b18 (o19 + 1) = some (.slice a44 l44 c44) ∧ R (.returned (.slice a44 l44 c44)) w20))) ∧ (((n22 : Int) == 6) = false → ((((n22 : Int) == 7) = true → ∃ (s45 : ByteArray), cellH w20.heap b1 (o2 + 4) = some (.string s45) ∧ ((((n4 : Int) == ((ByteArray.size s45 : Nat) : Int)) = true → Cl Try.prog 156 ([.pointer (some ⟨b1, o2, none⟩)]) w20 (retG (fun (r48 : Value) (w47 : World) => ∃ (a46 : Option Addr), ∃ (l46 : Nat), ∃ (c46 : Nat), r48 = .slice a46 l46 c46 ∧ Cl Try.prog 155 ([.pointer (some ⟨b18, o19, none⟩), .int .i64 n4, .slice a46 l46 c46]) w47 (retG (fun (r50 : Value) (w49 : World) => r50 = .tuple #[] ∧ ∃ (a51 : Option Addr), ∃ (l51 : Nat), ∃ (c51 : Nat), cellH w49.heap b18 (o19 + 1) = some (.slice a51 l51 c51) ∧ R (.returned (.slice a51 l51 c51)) w49) (fun c w => R (.panicked c) w))) (fun c w => R (.panicked c) w))) ∧ (((n4 : Int) == ((ByteArray.size s45 : Nat) : Int)) = false → ∃ (a52 : Option Addr), ∃ (l52 : Nat), ∃ (c52 : Nat), cellH w20.heap b18 (o19 + 1) = some (.slice a52 l52 c52) ∧ R (.returned (.slice a52 l52 c52)) w20))) ∧ (((n22 : Int) == 7) = false → ((((n22 : Int) == 5) = true → ∃ (a53 : Option Addr), ∃ (l53 : Nat), ∃ (c53 : Nat), cellH w20.heap b15 6 = some (.slice a53 l53 c53) ∧ ∃ (b54 : Nat) (o55 : Nat), ((a53 : Option Addr) = some ⟨b54, o55, none⟩ ∧ 0 ≤ (0 : Int) ∧ (0 : Int) < ((l53 : Nat) : Int)) ∧ ∃ (n56 : Int), cellH w20.heap b54 o55 = some (.int .i64 n56) ∧ Cl Try.prog 121 ([.pointer (some ⟨b1, o2, none⟩), .int .i64 n56, .int .i64 n4]) w20 (retG (fun (r59 : Value) (w58 : World) => ∃ (a57 : Option Addr), ∃ (l57 : Nat), ∃ (c57 : Nat), r59 = .slice a57 l57 c57 ∧ ∃ (I60 : Nat → Int → World → Prop), (∃ (k62 : Nat), I60 k62 0 w58) ∧ ∀ (k61 : Nat) (d64 : Nat → Value) (n65 : Int) (w63 : World), I60 k61 n65 w63 → (((decide ((n65 : Int) < ((l57 : Nat) : Int))) = true → ∃ (b66 : Nat) (o67 : Nat), ((a57 : Option Addr) = some ⟨b66, o67, none⟩ ∧ 0 ≤ (n65 : Int) ∧ (n65 : Int) < ((l57 : Nat) : Int)) ∧ ∃ (n68 : Int), cellH w63.heap b66 (o67 + (Int.toNat n65) * 2) = some (.int .i64 n68) ∧ ∃ (a69 : Option Addr), ∃ (l69 : Nat), ∃ (c69 : Nat), cellH w63.heap b66 (o67 + (Int.toNat n65) * 2 + 1) = some (.slice a69 l69 c69) ∧ newC [.int .i64 0, .slice none 0 0] 150 (fun (b70 : Nat) (w71 : World) => stW b70 0 [.int .i64 n68, .slice a69 l69 c69] (fun (w72 : World) => drw (fun (w73 : World) => ∃ (a74 : Option Addr), ∃ (l74 : Nat), ∃ (c74 : Nat), cellH w73.heap b70 1 = some (.slice a74 l74 c74) ∧ Cl Try.prog 156 ([.pointer (some ⟨b1, o2, none⟩)]) w73 (retG (fun (r77 : Value) (w76 : World) => ∃ (a75 : Option Addr), ∃ (l75 : Nat), ∃ (c75 : Nat), r77 = .slice a75 l75 c75 ∧ cellH w76.heap b70 1 = some (.slice a74 l74 c74) ∧ Cl Try.prog 157 ([.slice a74 l74 c74, .slice a75 l75 c75]) w76 (retG (fun (r80 : Value) (w79 : World) => ∃ (a78 : Option Addr), ∃ (l78 : Nat), ∃ (c78 : Nat), r80 = .slice a78 l78 c78 ∧ ∃ (n81 : Int), cellH w79.heap b15 5 = some (.int .i64 n81) ∧ ∃ (n82 : Int), cellH w79.heap b70 0 = some (.int .i64 n82) ∧ ∃ (b83 : Nat) (o84 : Nat), ((a78 : Option Addr) = some ⟨b83, o84, none⟩ ∧ 0 ≤ (IntKind.wrap .i64 (n81 - 1) : Int) ∧ (IntKind.wrap .i64 (n81 - 1) : Int) < ((l78 : Nat) : Int)) ∧ stW b83 (o84 + (Int.toNat (IntKind.wrap .i64 (n81 - 1))) * 2) [.int .i64 n4, .int .i64 n82] (fun (w85 : World) => ∃ (n86 : Int), cellH w85.heap b70 0 = some (.int .i64 n86) ∧ Cl Try.prog 155 ([.pointer (some ⟨b18, o19, none⟩), .int .i64 n86, .slice a78 l78 c78]) w85 (retG (fun (r88 : Value) (w87 : World) => r88 = .tuple #[] ∧ (∃ (m89 : Nat), m89 < k61 ∧ I60 m89 (IntKind.wrap .i64 (n65 + 1)) w87)) (fun c w => R (.panicked c) w))) w79) (fun c w => R (.panicked c) w))) (fun c w => R (.panicked c) w))) w72) w71) w63) ∧ ((decide ((n65 : Int) < ((l57 : Nat) : Int))) = false → ∃ (a90 : Option Addr), ∃ (l90 : Nat), ∃ (c90 : Nat), cellH w63.heap b18 (o19 + 1) = some (.slice a90 l90 c90) ∧ R (.returned (.slice a90 l90 c90)) w63))) (fun c w => R (.panicked c) w))) ∧ (((n22 : Int) == 5) = false → ((((n22 : Int) == 3) = true → ∃ (a91 : Option Addr), ∃ (l91 : Nat), ∃ (c91 : Nat), cellH w20.heap b15 6 = some (.slice a91 l91 c91) ∧ ∃ (I92 : Nat → Int → World → Prop), (∃ (k94 : Nat), I92 k94 0 w20) ∧ ∀ (k93 : Nat) (d96 : Nat → Value) (n97 : Int) (w95 : World), I92 k93 n97 w95 → (((decide ((n97 : Int) < ((l91 : Nat) : Int))) = true → ∃ (b98 : Nat) (o99 : Nat), ((a91 : Option Addr) = some ⟨b98, o99, none⟩ ∧ 0 ≤ (n97 : Int) ∧ (n97 : Int) < ((l91 : Nat) : Int)) ∧ ∃ (n100 : Int), cellH w95.heap b98 (o99 + (Int.toNat n97) * 1) = some (.int .i64 n100) ∧ Cl Try.prog 121 ([.pointer (some ⟨b1, o2, none⟩), .int .i64 n100, .int .i64 n4]) w95 (retG (fun (r103 : Value) (w102 : World) => ∃ (a101 : Option Addr), ∃ (l101 : Nat), ∃ (c101 : Nat), r103 = .slice a101 l101 c101 ∧ ∃ (I104 : Nat → Int → World → Prop), (∃ (k106 : Nat), I104 k106 0 w102) ∧ ∀ (k105 : Nat) (d108 : Nat → Value) (n109 : Int) (w107 : World), I104 k105 n109 w107 → (((decide ((n109 : Int) < ((l101 : Nat) : Int))) = true → ∃ (b110 : Nat) (o111 : Nat), ((a101 : Option Addr) = some ⟨b110, o111, none⟩ ∧ 0 ≤ (n109 : Int) ∧ (n109 : Int) < ((l101 : Nat) : Int)) ∧ ∃ (n112 : Int), cellH w107.heap b110 (o111 + (Int.toNat n109) * 2) = some (.int .i64 n112) ∧ ∃ (a113 : Option Addr), ∃ (l113 : Nat), ∃ (c113 : Nat), cellH w107.heap b110 (o111 + (Int.toNat n109) * 2 + 1) = some (.slice a113 l113 c113) ∧ newC [.int .i64 0, .slice none 0 0] 150 (fun (b114 : Nat) (w115 : World) => stW b114 0 [.int .i64 n112, .slice a113 l113 c113] (fun (w116 : World) => ∃ (n117 : Int), cellH w116.heap b114 0 = some (.int .i64 n117) ∧ ∃ (a118 : Option Addr), ∃ (l118 : Nat), ∃ (c118 : Nat), cellH w116.heap b114 1 = some (.slice a118 l118 c118) ∧ Cl Try.prog 155 ([.pointer (some ⟨b18, o19, none⟩), .int .i64 n117, .slice a118 l118 c118]) w116 (retG (fun (r120 : Value) (w119 : World) => r120 = .tuple #[] ∧ (∃ (m121 : Nat), m121 < k105 ∧ I104 m121 (IntKind.wrap .i64 (n109 + 1)) w119)) (fun c w => R (.panicked c) w))) w115) w107) ∧ ((decide ((n109 : Int) < ((l101 : Nat) : Int))) = false → (∃ (m122 : Nat), m122 < k93 ∧ I92 m122 (IntKind.wrap .i64 (n97 + 1)) w107)))) (fun c w => R (.panicked c) w))) ∧ ((decide ((n97 : Int) < ((l91 : Nat) : Int))) = false → ∃ (a123 : Option Addr), ∃ (l123 : Nat), ∃ (c123 : Nat), cellH w95.heap b18 (o19 + 1) = some (.slice a123 l123 c123) ∧ R (.returned (.slice a123 l123 c123)) w95))) ∧ (((n22 : Int) == 3) = false → ((((n22 : Int) == 4) = true → Cl Try.prog 156 ([.pointer (some ⟨b1, o2, none⟩)]) w20 (retG (fun (r126 : Value) (w125 : World) => ∃ (a124 : Option Addr), ∃ (l124 : Nat), ∃ (c124 : Nat), r126 = .slice a124 l124 c124 ∧ newC [.int .i64 n4, .slice a124 l124 c124] 150 (fun (b127 : Nat) (w128 : World) => ∃ (I129 : Nat → Option Addr → Nat → Nat → Int → World → Prop), (∃ (k131 : Nat), I129 k131 (some ⟨b127, 0, none⟩) 1 1 0 w128) ∧ ∀ (k130 : Nat) (d133 : Nat → Value) (a134 : Option Addr) (l134 : Nat) (c134 : Nat) (n135 : Int) (w132 : World), I129 k130 a134 l134 c134 n135 w132 → ∃ (n136 : Int), cellH w132.heap b15 2 = some (.int .i64 n136) ∧ (((decide ((n135 : Int) < n136)) = true → ∃ (a137 : Option Addr), ∃ (l137 : Nat), ∃ (c137 : Nat), cellH w132.heap b15 6 = some (.slice a137 l137 c137) ∧ ∃ (b138 : Nat) (o139 : Nat), ((a137 : Option Addr) = some ⟨b138, o139, none⟩ ∧ 0 ≤ (0 : Int) ∧ (0 : Int) < ((l137 : Nat) : Int)) ∧ ∃ (n140 : Int), cellH w132.heap b138 o139 = some (.int .i64 n140) ∧ Cl Try.prog 158 ([.pointer (some ⟨b1, o2, none⟩), .slice a134 l134 c134, .int .i64 n140]) w132 (retG (fun (r143 : Value) (w142 : World) => ∃ (a141 : Option Addr), ∃ (l141 : Nat), ∃ (c141 : Nat), r143 = .slice a141 l141 c141 ∧ (∃ (m144 : Nat), m144 < k130 ∧ I129 m144 a141 l141 c141 (IntKind.wrap .i64 (n135 + 1)) w142)) (fun c w => R (.panicked c) w))) ∧ ((decide ((n135 : Int) < n136)) = false → ∃ (s145 : ByteArray), cellH w132.heap b1 (o2 + 4) = some (.string s145) ∧ ∃ (a146 : Option Addr), ∃ (l146 : Nat), ∃ (c146 : Nat), ∃ (w147 : World), (Instr.makeSlice 59 (.int .i64 (IntKind.wrap .i64 ((IntKind.wrap .i64 (((ByteArray.size s145 : Nat) : Int) + 1)) * 52))) (.int .i64 (IntKind.wrap .i64 ((IntKind.wrap .i64 (((ByteArray.size s145 : Nat) : Int) + 1)) * 52)))).run Try.prog w132 = .ok (.slice a146 l146 c146) w147 ∧ ∃ (n148 : Int), cellH w147.heap b15 3 = some (.int .i64 n148) ∧ (((decide ((n148 : Int) ≥ 0)) = true → ∃ (n149 : Int), cellH w147.heap b15 3 = some (.int .i64 n149) ∧ ∃ (n150 : Int), cellH w147.heap b15 2 = some (.int .i64 n150) ∧ ∃ (I151 : Nat → Int → World → Prop), (∃ (k153 : Nat), I151 k153 0 w147) ∧ ∀ (k152 : Nat) (d155 : Nat → Value) (n156 : Int) (w154 : World), I151 k152 n156 w154 → (((decide ((n156 : Int) < ((l134 : Nat) : Int))) = true → ∃ (b157 : Nat) (o158 : Nat), ((a134 : Option Addr) = some ⟨b157, o158, none⟩ ∧ 0 ≤ (n156 : Int) ∧ (n156 : Int) < ((l134 : Nat) : Int)) ∧ ∃ (n159 : Int), cellH w154.heap b157 (o158 + (Int.toNat n156) * 2) = some (.int .i64 n159) ∧ ∃ (a160 : Option Addr), ∃ (l160 : Nat), ∃ (c160 : Nat), cellH w154.heap b157 (o158 + (Int.toNat n156) * 2 + 1) = some (.slice a160 l160 c160) ∧ newC [.int .i64 0, .slice none 0 0] 150 (fun (b161 : Nat) (w162 : World) => stW b161 0 [.int .i64 n159, .slice a160 l160 c160] (fun (w163 : World) => ∃ (n164 : Int), cellH w163.heap b15 0 = some (.int .i64 n164) ∧ ∃ (a165 : Option Addr), ∃ (l165 : Nat), ∃ (c165 : Nat), cellH w163.heap b15 1 = some (.slice a165 l165 c165) ∧ ∃ (n166 : Int), cellH w163.heap b15 2 = some (.int .i64 n166) ∧ ∃ (n167 : Int), cellH w163.heap b15 3 = some (.int .i64 n167) ∧ ∃ (t168 : Bool), cellH w163.heap b15 4 = some (.bool t168) ∧ ∃ (n169 : Int), cellH w163.heap b15 5 = some (.int .i64 n169) ∧ ∃ (a170 : Option Addr), ∃ (l170 : Nat), ∃ (c170 : Nat), cellH w163.heap b15 6 = some (.slice a170 l170 c170) ∧ ∃ (n171 : Int), cellH w163.heap b161 0 = some (.int .i64 n171) ∧ ∃ (a172 : Option Addr), ∃ (l172 : Nat), ∃ (c172 : Nat), cellH w163.heap b161 1 = some (.slice a172 l172 c172) ∧ Cl Try.prog 159 ([.pointer (some ⟨b1, o2, none⟩), .agg #[.int .i64 n164, .slice a165 l165 c165, .int .i64 n166, .int .i64 n167, .bool t168, .int .i64 n169, .slice a170 l170 c170], .agg #[.int .i64 n171, .slice a172 l172 c172], .int .i64 (IntKind.wrap .i64 (n149 - n150)), .slice a146 l146 c146, .pointer (some ⟨b18, o19, none⟩)]) w163 (retG (fun (r174 : Value) (w173 : World) => r174 = .tuple #[] ∧ (∃ (m175 : Nat), m175 < k152 ∧ I151 m175 (IntKind.wrap .i64 (n156 + 1)) w173)) (fun c w => R (.panicked c) w))) w162) w154) ∧ ((decide ((n156 : Int) < ((l134 : Nat) : Int))) = false → ∃ (a176 : Option Addr), ∃ (l176 : Nat), ∃ (c176 : Nat), cellH w154.heap b18 (o19 + 1) = some (.slice a176 l176 c176) ∧ R (.returned (.slice a176 l176 c176)) w154))) ∧ ((decide ((n148 : Int) ≥ 0)) = false → ∃ (I177 : Nat → Int → World → Prop), (∃ (k179 : Nat), I177 k179 0 w147) ∧ ∀ (k178 : Nat) (d181 : Nat → Value) (n182 : Int) (w180 : World), I177 k178 n182 w180 → (((decide ((n182 : Int) < ((l134 : Nat) : Int))) = true → ∃ (b183 : Nat) (o184 : Nat), ((a134 : Option Addr) = some ⟨b183, o184, none⟩ ∧ 0 ≤ (n182 : Int) ∧ (n182 : Int) < ((l134 : Nat) : Int)) ∧ ∃ (n185 : Int), cellH w180.heap b183 (o184 + (Int.toNat n182) * 2) = some (.int .i64 n185) ∧ ∃ (a186 : Option Addr), ∃ (l186 : Nat), ∃ (c186 : Nat), cellH w180.heap b183 (o184 + (Int.toNat n182) * 2 + 1) = some (.slice a186 l186 c186) ∧ newC [.int .i64 0, .slice none 0 0] 150 (fun (b187 : Nat) (w188 : World) => stW b187 0 [.int .i64 n185, .slice a186 l186 c186] (fun (w189 : World) => ∃ (n190 : Int), cellH w189.heap b15 0 = some (.int .i64 n190) ∧ ∃ (a191 : Option Addr), ∃ (l191 : Nat), ∃ (c191 : Nat), cellH w189.heap b15 1 = some (.slice a191 l191 c191) ∧ ∃ (n192 : Int), cellH w189.heap b15 2 = some (.int .i64 n192) ∧ ∃ (n193 : Int), cellH w189.heap b15 3 = some (.int .i64 n193) ∧ ∃ (t194 : Bool), cellH w189.heap b15 4 = some (.bool t194) ∧ ∃ (n195 : Int), cellH w189.heap b15 5 = some (.int .i64 n195) ∧ ∃ (a196 : Option Addr), ∃ (l196 : Nat), ∃ (c196 : Nat), cellH w189.heap b15 6 = some (.slice a196 l196 c196) ∧ ∃ (n197 : Int), cellH w189.heap b187 0 = some (.int .i64 n197) ∧ ∃ (a198 : Option Addr), ∃ (l198 : Nat), ∃ (c198 : Nat), cellH w189.heap b187 1 = some (.slice a198 l198 c198) ∧ Cl Try.prog 159 ([.pointer (some ⟨b1, o2, none⟩), .agg #[.int .i64 n190, .slice a191 l191 c191, .int .i64 n192, .int .i64 n193, .bool t194, .int .i64 n195, .slice a196 l196 c196], .agg #[.int .i64 n197, .slice a198 l198 c198], .int .i64 51, .slice a146 l146 c146, .pointer (some ⟨b18, o19, none⟩)]) w189 (retG (fun (r200 : Value) (w199 : World) => r200 = .tuple #[] ∧ (∃ (m201 : Nat), m201 < k178 ∧ I177 m201 (IntKind.wrap .i64 (n182 + 1)) w199)) (fun c w => R (.panicked c) w))) w188) w180) ∧ ((decide ((n182 : Int) < ((l134 : Nat) : Int))) = false → ∃ (a202 : Option Addr), ∃ (l202 : Nat), ∃ (c202 : Nat), cellH w180.heap b18 (o19 + 1) = some (.slice a202 l202 c202) ∧ R (.returned (.slice a202 l202 c202)) w180))))))) w125) (fun c w => R (.panicked c) w))) ∧ (((n22 : Int) == 4) = false → Cl Try.prog 156 ([.pointer (some ⟨b1, o2, none⟩)]) w20 (retG (fun (r205 : Value) (w204 : World) => ∃ (a203 : Option Addr), ∃ (l203 : Nat), ∃ (c203 : Nat), r205 = .slice a203 l203 c203 ∧ newC [.int .i64 n4, .slice a203 l203 c203] 150 (fun (b206 : Nat) (w207 : World) => ∃ (a208 : Option Addr), ∃ (l208 : Nat), ∃ (c208 : Nat), cellH w207.heap b15 6 = some (.slice a208 l208 c208) ∧ ∃ (I209 : Nat → Option Addr → Nat → Nat → Int → World → Prop), (∃ (k211 : Nat), I209 k211 (some ⟨b206, 0, none⟩) 1 1 0 w207) ∧ ∀ (k210 : Nat) (d213 : Nat → Value) (a214 : Option Addr) (l214 : Nat) (c214 : Nat) (n215 : Int) (w212 : World), I209 k210 a214 l214 c214 n215 w212 → (((decide ((n215 : Int) < ((l208 : Nat) : Int))) = true → ∃ (b216 : Nat) (o217 : Nat), ((a208 : Option Addr) = some ⟨b216, o217, none⟩ ∧ 0 ≤ (n215 : Int) ∧ (n215 : Int) < ((l208 : Nat) : Int)) ∧ ∃ (n218 : Int), cellH w212.heap b216 (o217 + (Int.toNat n215) * 1) = some (.int .i64 n218) ∧ Cl Try.prog 158 ([.pointer (some ⟨b1, o2, none⟩), .slice a214 l214 c214, .int .i64 n218]) w212 (retG (fun (r221 : Value) (w220 : World) => ∃ (a219 : Option Addr), ∃ (l219 : Nat), ∃ (c219 : Nat), r221 = .slice a219 l219 c219 ∧ (∃ (m222 : Nat), m222 < k210 ∧ I209 m222 a219 l219 c219 (IntKind.wrap .i64 (n215 + 1)) w220)) (fun c w => R (.panicked c) w))) ∧ ((decide ((n215 : Int) < ((l208 : Nat) : Int))) = false → R (.returned (.slice a214 l214 c214)) w212))) w204) (fun c w => R (.panicked c) w))))))))))))))) (fun c w => R (.panicked c) w))) w16) w
def scr138 : Scr := (.run [0] (.close (.run [0, 1, 2, 3, 4, 5, 6, 7, 8, 9] (.close (.run [0, 1, 2] (.close (.run [0, 1] (.close (.run [0, 1] (.close (.cond (.run [0, 1, 2, 3, 4, 5, 6, 7] (.split 64 (.run [8, 9, 10, 11, 12, 13, 14, 15, 16, 17] (.close (.cond (.run [0, 1, 2, 3, 4, 5] (.close (.run [0, 1, 2, 3, 4] (.close .nil)))) (.run [0, 1, 2, 3, 4] (.close .nil))))) (.run [8, 9, 10, 11, 12, 13, 14, 15, 16, 17] (.close (.lit (.run [0, 1, 2, 3, 4] (.close .nil))))))) (.run [0, 1] (.close (.cond (.run [0, 1] (.close (.cond (.run [0, 1, 2, 3, 4] (.close (.run [0, 1, 2, 3, 4] (.close .nil)))) (.run [0, 1, 2, 3, 4] (.close .nil))))) (.run [0, 1] (.close (.cond (.run [0, 1, 2, 3, 4, 5, 6] (.close (.cond (.run [0, 1, 2, 3, 4] (.close (.run [0, 1, 2, 3, 4] (.close .nil)))) (.run [0, 1, 2, 3, 4] (.close .nil))))) (.run [0, 1] (.close (.cond (.run [0, 1, 2, 3, 4, 5, 6, 7, 8] (.close (.loop [(114, some (.int .i64)), (10, none), (11, none), (115, none), (116, none), (117, none), (118, none), (119, none), (120, none), (121, none), (122, none), (123, none), (124, none), (125, none), (126, none), (127, none), (128, none), (129, none), (130, none), (131, none), (132, none), (133, none), (134, none), (135, none), (136, none), (137, none)] (.run [0] (.close (.cond (.run [0, 1, 2, 3] (.close (.run [0, 1, 2, 3, 4, 5] (.close (.run [0, 1, 2, 3, 4, 5, 6, 7, 8, 9] (.close (.run [0, 1, 2, 3, 4] (.close (.run [0, 1] (.close .nil)))))))))) (.run [0, 1, 2, 3, 4] (.close .nil)))))))) (.run [0, 1] (.close (.cond (.run [0, 1, 2, 3] (.close (.loop [(143, some (.int .i64)), (13, none), (15, none), (144, none), (145, none), (146, none), (147, none), (148, none), (149, none), (150, none), (151, none), (152, none), (153, none), (154, none), (155, none), (156, none), (157, none), (158, none), (159, none), (160, none), (161, none), (162, none), (163, none)] (.run [0] (.close (.cond (.run [0, 1, 2] (.close (.run [0, 1, 2, 3, 4, 5] (.close (.loop [(152, some (.int .i64)), (15, none), (153, none), (154, none), (155, none), (156, none), (157, none), (158, none), (159, none), (160, none), (161, none), (162, none)] (.run [0] (.close (.cond (.run [0, 1, 2, 3] (.close (.run [0, 1, 2, 3, 4, 5] (.close (.run [0, 1] (.close .nil)))))) (.run [0, 1] (.close .nil)))))))))) (.run [0, 1, 2, 3, 4] (.close .nil)))))))) (.run [0, 1] (.close (.cond (.run [0, 1, 2, 3, 4, 5] (.close (.run [0] (.close (.loop [(16, some .slice), (17, some (.int .i64)), (171, none), (172, none), (173, none), (174, none), (175, none), (176, none), (177, none), (178, none), (179, none), (180, none), (181, none), (182, none), (183, none)] (.run [0, 1, 2, 3] (.close (.cond (.run [0, 1, 2, 3, 4, 5, 6, 7] (.close (.run [0, 1, 2] (.close .nil)))) (.run [0, 1, 2, 3, 4, 5, 6, 7, 8] (.close (.run [0] (.close (.run [0, 1, 2] (.close (.cond (.run [0, 1, 2, 3, 4, 5] (.close (.run [0, 1, 2] (.close (.loop [(202, some (.int .i64)), (21, none), (203, none), (204, none), (205, none), (206, none), (207, none), (208, none), (209, none), (210, none), (211, none), (212, none), (213, none)] (.run [0] (.close (.cond (.run [0, 1, 2, 3] (.close (.run [0, 1, 2, 3, 4, 5, 6] (.close (.run [0, 1] (.close .nil)))))) (.run [0, 1, 2, 3, 4] (.close .nil)))))))))) (.run [0, 1, 2] (.close (.loop [(202, some (.int .i64)), (21, none), (203, none), (204, none), (205, none), (206, none), (207, none), (208, none), (209, none), (210, none), (211, none), (212, none), (213, none)] (.run [0] (.close (.cond (.run [0, 1, 2, 3] (.close (.run [0, 1, 2, 3, 4, 5, 6] (.close (.run [0, 1] (.close .nil)))))) (.run [0, 1, 2, 3, 4] (.close .nil))))))))))))))))))))))) (.run [0, 1, 2, 3, 4, 5] (.close (.run [0, 1, 2, 3] (.close (.loop [(22, some .slice), (45, some (.int .i64)), (24, none), (46, none), (47, none), (48, none), (49, none), (50, none), (51, none), (52, none), (53, none)] (.run [0] (.close (.cond (.run [0, 1, 2] (.close (.run [0, 1, 2, 3, 4] (.close (.run [0, 1] (.close .nil)))))) (.run [0, 1] (.close .nil))))))))))))))))))))))))))))))))))))
theorem vc138 {b1 : Nat} {o2 : Nat} {n3 : Int} {n4 : Int} {R : Ending → World → Prop} {w : World} (h : V138 b1 o2 n3 n4 R w) : Cl Try.prog 138 [.pointer (some ⟨b1, o2, none⟩), .int .i64 n3, .int .i64 n4] w R :=
  cl_of scr138 Try.func138 (by kernel_rfl) [.pointer (some ⟨b1, o2, none⟩), .int .i64 n3, .int .i64 n4] (V138 b1 o2 n3 n4 R) (by kernel_rfl) h
/-- (*spec.l2M).ends -/
def V121 (b1 : Nat) (o2 : Nat) (n3 : Int) (n4 : Int) (R : Ending → World → Prop) : World → Prop := fun w =>
  ∃ (s5 : ByteArray), cellH w.heap b1 (o2 + 4) = some (.string s5) ∧ ∃ (a6 : Option Addr), ∃ (l6 : Nat), ∃ (c6 : Nat), cellH w.heap b1 (o2 + 5) = some (.slice a6 l6 c6) ∧ ∃ (b7 : Nat) (o8 : Nat), ((a6 : Option Addr) = some ⟨b7, o8, none⟩ ∧ 0 ≤ (IntKind.wrap .i64 ((IntKind.wrap .i64 (n3 * (IntKind.wrap .i64 (((ByteArray.size s5 : Nat) : Int) + 1)))) + n4) : Int) ∧ (IntKind.wrap .i64 ((IntKind.wrap .i64 (n3 * (IntKind.wrap .i64 (((ByteArray.size s5 : Nat) : Int) + 1)))) + n4) : Int) < ((l6 : Nat) : Int)) ∧ ∃ (t9 : Bool), cellH w.heap b7 (o8 + (Int.toNat (IntKind.wrap .i64 ((IntKind.wrap .i64 (n3 * (IntKind.wrap .i64 (((ByteArray.size s5 : Nat) : Int) + 1)))) + n4))) * 1) = some (.bool t9) ∧ (((!t9) = true → ∃ (a10 : Option Addr), ∃ (l10 : Nat), ∃ (c10 : Nat), cellH w.heap b1 (o2 + 5) = some (.slice a10 l10 c10) ∧ ∃ (b11 : Nat) (o12 : Nat), ((a10 : Option Addr) = some ⟨b11, o12, none⟩ ∧ 0 ≤ (IntKind.wrap .i64 ((IntKind.wrap .i64 (n3 * (IntKind.wrap .i64 (((ByteArray.size s5 : Nat) : Int) + 1)))) + n4) : Int) ∧ (IntKind.wrap .i64 ((IntKind.wrap .i64 (n3 * (IntKind.wrap .i64 (((ByteArray.size s5 : Nat) : Int) + 1)))) + n4) : Int) < ((l10 : Nat) : Int)) ∧ stW b11 (o12 + (Int.toNat (IntKind.wrap .i64 ((IntKind.wrap .i64 (n3 * (IntKind.wrap .i64 (((ByteArray.size s5 : Nat) : Int) + 1)))) + n4))) * 1) [.bool true] (fun (w13 : World) => drw (fun (w14 : World) => ∃ (a15 : Option Addr), ∃ (l15 : Nat), ∃ (c15 : Nat), cellH w14.heap b1 (o2 + 6) = some (.slice a15 l15 c15) ∧ Cl Try.prog 138 ([.pointer (some ⟨b1, o2, none⟩), .int .i64 n3, .int .i64 n4]) w14 (retG (fun (r18 : Value) (w17 : World) => ∃ (a16 : Option Addr), ∃ (l16 : Nat), ∃ (c16 : Nat), r18 = .slice a16 l16 c16 ∧ cellH w17.heap b1 (o2 + 6) = some (.slice a15 l15 c15) ∧ ∃ (b19 : Nat) (o20 : Nat), ((a15 : Option Addr) = some ⟨b19, o20, none⟩ ∧ 0 ≤ (IntKind.wrap .i64 ((IntKind.wrap .i64 (n3 * (IntKind.wrap .i64 (((ByteArray.size s5 : Nat) : Int) + 1)))) + n4) : Int) ∧ (IntKind.wrap .i64 ((IntKind.wrap .i64 (n3 * (IntKind.wrap .i64 (((ByteArray.size s5 : Nat) : Int) + 1)))) + n4) : Int) < ((l15 : Nat) : Int)) ∧ stW b19 (o20 + (Int.toNat (IntKind.wrap .i64 ((IntKind.wrap .i64 (n3 * (IntKind.wrap .i64 (((ByteArray.size s5 : Nat) : Int) + 1)))) + n4))) * 1) [.slice a16 l16 c16] (fun (w21 : World) => ∃ (a22 : Option Addr), ∃ (l22 : Nat), ∃ (c22 : Nat), cellH w21.heap b1 (o2 + 6) = some (.slice a22 l22 c22) ∧ ∃ (b23 : Nat) (o24 : Nat), ((a22 : Option Addr) = some ⟨b23, o24, none⟩ ∧ 0 ≤ (IntKind.wrap .i64 ((IntKind.wrap .i64 (n3 * (IntKind.wrap .i64 (((ByteArray.size s5 : Nat) : Int) + 1)))) + n4) : Int) ∧ (IntKind.wrap .i64 ((IntKind.wrap .i64 (n3 * (IntKind.wrap .i64 (((ByteArray.size s5 : Nat) : Int) + 1)))) + n4) : Int) < ((l22 : Nat) : Int)) ∧ ∃ (a25 : Option Addr), ∃ (l25 : Nat), ∃ (c25 : Nat), cellH w21.heap b23 (o24 + (Int.toNat (IntKind.wrap .i64 ((IntKind.wrap .i64 (n3 * (IntKind.wrap .i64 (((ByteArray.size s5 : Nat) : Int) + 1)))) + n4))) * 1) = some (.slice a25 l25 c25) ∧ R (.returned (.slice a25 l25 c25)) w21) w17) (fun c w => R (.panicked c) w))) w13) w) ∧ ((!t9) = false → ∃ (a26 : Option Addr), ∃ (l26 : Nat), ∃ (c26 : Nat), cellH w.heap b1 (o2 + 6) = some (.slice a26 l26 c26) ∧ ∃ (b27 : Nat) (o28 : Nat), ((a26 : Option Addr) = some ⟨b27, o28, none⟩ ∧ 0 ≤ (IntKind.wrap .i64 ((IntKind.wrap .i64 (n3 * (IntKind.wrap .i64 (((ByteArray.size s5 : Nat) : Int) + 1)))) + n4) : Int) ∧ (IntKind.wrap .i64 ((IntKind.wrap .i64 (n3 * (IntKind.wrap .i64 (((ByteArray.size s5 : Nat) : Int) + 1)))) + n4) : Int) < ((l26 : Nat) : Int)) ∧ ∃ (a29 : Option Addr), ∃ (l29 : Nat), ∃ (c29 : Nat), cellH w.heap b27 (o28 + (Int.toNat (IntKind.wrap .i64 ((IntKind.wrap .i64 (n3 * (IntKind.wrap .i64 (((ByteArray.size s5 : Nat) : Int) + 1)))) + n4))) * 1) = some (.slice a29 l29 c29) ∧ R (.returned (.slice a29 l29 c29)) w))
def scr121 : Scr := (.run [0] (.close (.run [0, 1, 2, 3, 4, 5, 6, 7, 8, 9, 10] (.close (.run [0, 1, 2, 3, 4, 5, 6, 7] (.close (.cond (.run [0, 1, 2, 3, 4, 5, 6] (.close (.run [0, 1, 2, 3, 4, 5, 6, 7, 8, 9, 10] (.close (.run [0, 1, 2, 3, 4, 5, 6, 7] (.close .nil)))))) (.run [0, 1, 2, 3, 4, 5, 6, 7] (.close .nil)))))))))
theorem vc121 {b1 : Nat} {o2 : Nat} {n3 : Int} {n4 : Int} {R : Ending → World → Prop} {w : World} (h : V121 b1 o2 n3 n4 R w) : Cl Try.prog 121 [.pointer (some ⟨b1, o2, none⟩), .int .i64 n3, .int .i64 n4] w R :=
  cl_of scr121 Try.func121 (by kernel_rfl) [.pointer (some ⟨b1, o2, none⟩), .int .i64 n3, .int .i64 n4] (V121 b1 o2 n3 n4 R) (by kernel_rfl) h
end Go.Proofs.Ytngbiaeliphdjaa.V
/- The reference's ends in memory; its small functions on them. No statement of the seat is proved here. -/
namespace Go.Vc
open Go.RowKit
set_option linter.unusedVariables false
set_option linter.unusedSimpArgs false
/-- A row of n cells, told by a function. -/
def rowN (n : Nat) (f : Nat → Value) : List Value := (List.range n).map f
theorem rowN_length (n : Nat) (f : Nat → Value) : (rowN n f).length = n := by simp [rowN]
theorem rowN_get {n : Nat} (f : Nat → Value) {i : Nat} (h : i < n) : (rowN n f)[i]? = some (f i) := by simp [rowN, h]
theorem rowN_ext {n : Nat} {f g : Nat → Value} (h : ∀ i, i < n → f i = g i) : rowN n f = rowN n g := by
  unfold rowN
  apply List.map_congr_left
  intro i hi
  exact h i (by simpa using hi)
theorem rowN_set (n : Nat) (f : Nat → Value) (i : Nat) (v : Value) : (rowN n f).set i v = rowN n (fun j => if j = i then v else f j) := by
  apply List.ext_getElem?
  intro k
  rw [List.getElem?_set, rowN_length]
  by_cases hk : k < n
  · rw [rowN_get _ hk, rowN_get _ hk]
    by_cases hik : i = k
    · subst hik; simp [hk]
    · rw [if_neg hik, if_neg (Ne.symm hik)]
  · rw [List.getElem?_eq_none (l := rowN n f) (by rw [rowN_length]; omega), List.getElem?_eq_none (l := rowN n _) (by rw [rowN_length]; omega)]
    split
    · rw [if_neg (by omega)]
    · rfl
theorem rowN_rep (n : Nat) (v : Value) : List.replicate n v = rowN n fun _ => v := by simp [rowN, List.map_const']
/-- A group's span as the reference keeps it: -2 for one that was left as it was. -/
def spS (g : Gr) (j : Nat) : Int := match g (j / 2 + 1) with
  | some p => if j % 2 = 0 then (p.1 : Int) else (p.2 : Int)
  | none => if j % 2 = 0 then -2 else 0
def sgC (G : Nat) (g : Gr) : List Value := rowN (2 * G) fun j => .int .i64 (spS g j)
theorem sgC_length (G : Nat) (g : Gr) : (sgC G g).length = G * 2 := by unfold sgC; rw [rowN_length]; omega
theorem madeCells_two (z : Value) (n : Nat) : madeCells #[z, z] (n * 2) = ⟨List.replicate (n * 2) z⟩ := by
  apply Array.ext
  · simp [madeCells]
  · intro i h1 h2
    have : i % 2 = 0 ∨ i % 2 = 1 := by omega
    rcases this with h | h <;> simp [madeCells, h]
theorem make_in2 {P : Program} {t e : TypeId} {i : TypeInfo} {z : Value} (ht : P.underlying t = some (.slice e)) (hi : P.info? e = some i) (hz : i.zero = some z) {z1 : Value} (hz1 : z.cells = #[z1, z1]) (hs : i.size = 2) {by_ : Nat} (hby : i.bytes = by_) (hb8 : by_ ≤ 100) (n : Nat) (hn : n ≤ 1000000000) (w : World) :
    ∃ w', (Instr.makeSlice t (.int .i64 n) (.int .i64 n)).run P w = .ok (.slice (some ⟨w.heap.size, 0, none⟩) n n) w' ∧ w'.heap.size = w.heap.size + 1 ∧ Blk w'.heap w.heap.size e (List.replicate (n * 2) z1) ∧ Ext (fun _ => False) w w' := by
  have hbb : (i.bytes : Int) * (n : Int) ≤ 281474976710656 := by
    have h : i.bytes * n ≤ 281474976710656 := by
      have := Nat.mul_le_mul (show i.bytes ≤ 100 by omega) hn
      omega
    have h2 : ((i.bytes * n : Nat) : Int) ≤ 281474976710656 := by omega
    rwa [Int.natCast_mul] at h2
  have hr := run_make (P := P) w t e i z ht hi hz .i64 .i64 n n (by omega) (Int.le_refl _) hbb (by omega)
  refine ⟨_, hr, size_newW w _, ?_, (Ext.refl _ w).vnew _⟩
  rw [hz1, hs, Int.toNat_natCast, madeCells_two]
  exact Blk.new w e _
abbrev G3 := Option Addr × Nat × Nat
def endC (e : Wy × G3) : List Value := [.int .i64 (e.1.1 : Int), .slice e.2.1 e.2.2.1 e.2.2.2]
def endsC (es : List (Wy × G3)) : List Value := es.flatMap endC
theorem endsC_append (l m : List (Wy × G3)) : endsC (l ++ m) = endsC l ++ endsC m := by simp [endsC]
theorem endsC_one (e : Wy × G3) : endsC [e] = endC e := by simp [endsC]
theorem endsC_length (l : List (Wy × G3)) : (endsC l).length = l.length * 2 := by
  induction l with
  | nil => rfl
  | cons b r ih => rw [show b :: r = [b] ++ r from rfl, endsC_append, List.length_append, ih, endsC_one]; simp [endC]; omega
theorem endsC_at : ∀ (l : List (Wy × G3)) (i : Nat) (h : i < l.length), (endsC l)[i * 2]? = some (.int .i64 (l[i].1.1 : Int)) ∧ (endsC l)[i * 2 + 1]? = some (.slice l[i].2.1 l[i].2.2.1 l[i].2.2.2)
  | x :: r, 0, h => ⟨rfl, rfl⟩
  | x :: r, i + 1, h => by
    have := endsC_at r i (by simpa using h)
    rw [show (i + 1) * 2 = i * 2 + 2 from by omega, show i * 2 + 2 + 1 = (i * 2 + 1) + 2 from by omega]
    exact this
end Go.Vc
namespace Go.Proofs.Ytngbiaeliphdjaa.V
open Go.Vc Go.Proofs Go.RowKit
set_option linter.unusedVariables false
set_option linter.unusedSimpArgs false
theorem elemEnd : Elem Try.prog 147 150 2 32 := ⟨by kernel_rfl, by kernel_rfl, by kernel_rfl, ⟨[.int .i64 0, .slice none 0 0], by kernel_rfl, rfl⟩⟩
theorem makeSpans (G : Nat) (hG : G ≤ 1000) (w : World) : ∃ w', (Instr.makeSlice 27 (.int .i64 G) (.int .i64 G)).run Try.prog w = .ok (.slice (some ⟨w.heap.size, 0, none⟩) G G) w' ∧ w'.heap.size = w.heap.size + 1 ∧ Blk w'.heap w.heap.size 31 (rowN (2 * G) fun _ => .int .i64 0) ∧ Ext (fun _ => False) w w' := by
  rw [show 2 * G = G * 2 from by omega, ← rowN_rep]
  exact make_in2 (P := Try.prog) (t := 27) (e := 31) (i := Try.t31) (z := .agg #[.int .i64 0, .int .i64 0]) (by kernel_rfl) (by kernel_rfl) (by kernel_rfl) (z1 := .int .i64 0) rfl (by kernel_rfl) (by_ := 16) (by kernel_rfl) (by decide) G (by omega) w
theorem makeBools (n : Nat) (hn : n ≤ 1000000) (w : World) : ∃ w', (Instr.makeSlice 59 (.int .i64 n) (.int .i64 n)).run Try.prog w = .ok (.slice (some ⟨w.heap.size, 0, none⟩) n n) w' ∧ w'.heap.size = w.heap.size + 1 ∧ Blk w'.heap w.heap.size 4 (rowN n fun _ => .bool false) ∧ Ext (fun _ => False) w w' := by
  rw [← rowN_rep]
  exact make_in (P := Try.prog) (t := 59) (e := 4) (i := Try.t4) (z := .bool false) (by kernel_rfl) (by kernel_rfl) (by kernel_rfl) (z1 := .bool false) rfl (by kernel_rfl) (by_ := 1) (by kernel_rfl) (by decide) n (by omega) w
theorem makeLists (n : Nat) (hn : n ≤ 1000000) (w : World) : ∃ w', (Instr.makeSlice 122 (.int .i64 n) (.int .i64 n)).run Try.prog w = .ok (.slice (some ⟨w.heap.size, 0, none⟩) n n) w' ∧ w'.heap.size = w.heap.size + 1 ∧ Blk w'.heap w.heap.size 147 (rowN n fun _ => .slice none 0 0) ∧ Ext (fun _ => False) w w' := by
  rw [← rowN_rep]
  exact make_in (P := Try.prog) (t := 122) (e := 147) (i := Try.t147) (z := .slice none 0 0) (by kernel_rfl) (by kernel_rfl) (by kernel_rfl) (z1 := .slice none 0 0) rfl (by kernel_rfl) (by_ := 24) (by kernel_rfl) (by decide) n (by omega) w
/-- The groups, none of them set. -/
theorem snone_ok {w : World} {b : Nat} {G : Nat} (hG : G ≤ 1000) (h2 : cellH w.heap b 2 = some (.int .i64 (G : Int))) :
    Cl Try.prog 156 [.pointer (some ⟨b, 0, none⟩)] w (fun e w' => ∃ k, e = .returned (.slice (some ⟨k, 0, none⟩) G G) ∧ w.heap.size ≤ k ∧ Vec w'.heap 31 2 (some ⟨k, 0, none⟩) G G (sgC G gNone) ∧ Below w.heap.size w w') := by
  apply vc156
  unfold V156
  obtain ⟨w5, hr, s5, k5, e5⟩ := makeSpans G hG w
  have B5 : Below w.heap.size w w5 := Ext.to (Below.refl _ _) e5 fun _ h => h.elim
  generalize hk : w.heap.size = k at *
  refine ⟨(G : Int), by rw [Nat.zero_add]; exact h2, _, _, _, w5, hr, fun m n w' => ∃ i : Nat, n = i ∧ i ≤ G ∧ m = G - i ∧ Blk w'.heap k 31 (rowN (2 * G) fun j => .int .i64 (if j < 2 * i ∧ j % 2 = 0 then -2 else 0)) ∧ Below w.heap.size w w', ⟨_, 0, rfl, by omega, rfl, ?_, by rw [hk]; exact B5⟩, ?_⟩
  · rw [rowN_ext (g := fun _ => .int .i64 0) fun j _ => by rw [if_neg (by omega)]]; exact k5
  rintro m d n w1 ⟨i, rfl, hi, rfl, k1, B1⟩
  refine ⟨fun g => ?_, fun g => ?_⟩
  · have g' : i < G := by have := of_decide_eq_true g; omega
    refine ⟨k, 0, ⟨rfl, by omega, by omega⟩, ?_⟩
    rw [show 0 + Int.toNat (i : Int) * 2 = 2 * i from by omega]
    refine stW_in k1 (by rw [rowN_length]; show 2 * i + 1 ≤ 2 * G; omega) fun w2 s2 k2 e2 => ⟨G - (i + 1), by omega, i + 1, by rw [w64 (by omega)]; omega, by omega, rfl, ?_, Ext.to B1 e2 fun x hx => by omega⟩
    have : segSet (rowN (2 * G) fun j => .int .i64 (if j < 2 * i ∧ j % 2 = 0 then -2 else 0)) (2 * i) [.int .i64 (-2)] = rowN (2 * G) fun j => .int .i64 (if j < 2 * (i + 1) ∧ j % 2 = 0 then -2 else 0) := by
      show (rowN _ _).set (2 * i) _ = _
      rw [rowN_set]
      apply rowN_ext
      intro j hj
      by_cases h1 : j = 2 * i
      · rw [if_pos h1, if_pos (by omega)]
      · rw [if_neg h1]
        by_cases h2 : j < 2 * i ∧ j % 2 = 0
        · rw [if_pos h2, if_pos (by omega)]
        · rw [if_neg h2, if_neg (by omega)]
    rw [this] at k2; exact k2
  · have g' : i = G := by have := of_decide_eq_false g; omega
    subst g'
    have hc : (rowN (2 * i) fun j => .int .i64 (if j < 2 * i ∧ j % 2 = 0 then -2 else 0)) = sgC i gNone := by
      apply rowN_ext
      intro j hj
      unfold spS gNone
      by_cases h : j % 2 = 0
      · rw [if_pos ⟨hj, h⟩]; simp only [h, if_true]
      · rw [if_neg (fun h' => h h'.2)]; simp only [h, if_false]
    rw [hc] at k1
    exact ⟨k, rfl, by omega, ⟨sgC_length _ _, Nat.le_refl _, .inr ⟨k, _, rfl, k1, sgC_length _ _, List.take_of_length_le (by rw [sgC_length]; exact Nat.le_refl _)⟩⟩, hk ▸ B1⟩
/-- Groups as another way left them. -/
theorem sover_ok {w : World} {a1 a2 : Option Addr} {l1 l2 c1 c2 : Nat} {x y : Gr} {G : Nat} (hG : G ≤ 1000) (h1 : Vec w.heap 31 2 a1 l1 c1 (sgC G x)) (h2 : Vec w.heap 31 2 a2 l2 c2 (sgC G y)) :
    Cl Try.prog 157 [.slice a1 l1 c1, .slice a2 l2 c2] w (fun e w' => ∃ k, e = .returned (.slice (some ⟨k, 0, none⟩) G G) ∧ w.heap.size ≤ k ∧ Vec w'.heap 31 2 (some ⟨k, 0, none⟩) G G (sgC G (gOver x y)) ∧ Below w.heap.size w w') := by
  have hl1 : l1 = G := by have := h1.1; rw [sgC_length] at this; omega
  have hl2 : l2 = G := by have := h2.1; rw [sgC_length] at this; omega
  subst hl1
  subst hl2
  apply vc157
  unfold V157
  obtain ⟨w4, hr, s4, k4, e4⟩ := makeSpans l2 hG w
  have B4 : Below w.heap.size w w4 := Ext.to (Below.refl _ _) e4 fun _ h => h.elim
  generalize hk : w.heap.size = k at *
  refine ⟨_, _, _, w4, hr, fun m n w' => ∃ i : Nat, n = i ∧ i ≤ l2 ∧ m = l2 - i ∧ Blk w'.heap k 31 (rowN (2 * l2) fun j => .int .i64 (if j < 2 * i then spS (gOver x y) j else 0)) ∧ Below w.heap.size w w', ⟨_, 0, rfl, by omega, rfl, ?_, by rw [hk]; exact B4⟩, ?_⟩
  · rw [rowN_ext (g := fun _ => .int .i64 0) fun j _ => by rw [if_neg (by omega)]]; exact k4
  rintro m d n w8 ⟨i, rfl, hi, rfl, k8, B8⟩
  refine ⟨fun g => ?_, fun g => ?_⟩
  · have g' : i < l2 := by have := of_decide_eq_true g; omega
    have e0 : Int.toNat (i : Int) = i := by omega
    have e1 : IntKind.wrap .i64 ((i : Int) + 1) = ((i + 1 : Nat) : Int) := by rw [w64 (by omega)]; omega
    rw [e0, e1]
    have v1 := h1.keep (S := fun _ => False) (Ext.of_below B8) fun _ _ h => h
    have v2 := h2.keep (S := fun _ => False) (Ext.of_below B8) fun _ _ h => h
    obtain ⟨b1, rfl, hc1⟩ := v1.open (by omega)
    obtain ⟨b2, rfl, hc2⟩ := v2.open (by omega)
    have hb1 := h1.lt b1 rfl
    have hb2 := h2.lt b2 rfl
    have hx : ∀ o, o < 2 → cellH w8.heap b1 (0 + i * 2 + o) = some (.int .i64 (spS x (2 * i + o))) := fun o ho => by
      rw [Nat.zero_add, hc1 _ (by omega), show i * 2 + o = 2 * i + o from by omega]; exact rowN_get _ (by omega)
    have hy : ∀ {w' : World} o, o < 2 → (∀ q, cellH w'.heap b2 q = cellH w8.heap b2 q) → cellH w'.heap b2 (0 + i * 2 + o) = some (.int .i64 (spS y (2 * i + o))) := fun o ho hq => by
      rw [hq, Nat.zero_add, hc2 _ (by omega), show i * 2 + o = 2 * i + o from by omega]; exact rowN_get _ (by omega)
    have ev : (2 * i) / 2 = i ∧ (2 * i + 1) / 2 = i ∧ (2 * i) % 2 = 0 ∧ (2 * i + 1) % 2 ≠ 0 := by omega
    refine ⟨b1, 0, ⟨rfl, by omega, by omega⟩, _, hx 0 (by decide), _, hx 1 (by decide), k, 0, ⟨rfl, by omega, by omega⟩, ?_⟩
    refine stW_in k8 (by rw [rowN_length]; show 0 + i * 2 + 2 ≤ 2 * l2; omega) fun w17 s17 k17 e17 => ?_
    have hq17 : ∀ q, cellH w17.heap b2 q = cellH w8.heap b2 q := fun q => Ext.cellH e17 (by have := B8.size; omega) (by omega) q
    have B17 : Below w.heap.size w w17 := Ext.to B8 e17 fun z hz => by omega
    -- what two numbers become
    have hstep : ∀ (f : Nat → Value), (∀ j, j < 2 * i → f j = .int .i64 (spS (gOver x y) j)) → f (2 * i) = .int .i64 (spS (gOver x y) (2 * i)) → f (2 * i + 1) = .int .i64 (spS (gOver x y) (2 * i + 1)) → (∀ j, 2 * i + 1 < j → f j = .int .i64 0) → rowN (2 * l2) f = rowN (2 * l2) fun j => .int .i64 (if j < 2 * (i + 1) then spS (gOver x y) j else 0) := by
      intro f f1 f2 f3 f4
      apply rowN_ext
      intro j hj
      by_cases hj1 : j < 2 * (i + 1)
      · rw [if_pos hj1]
        by_cases hj2 : j < 2 * i
        · exact f1 j hj2
        · by_cases hj3 : j = 2 * i
          · subst hj3; exact f2
          · obtain rfl : j = 2 * i + 1 := by omega
            exact f3
      · rw [if_neg hj1]; exact f4 j (by omega)
    have hk17 : Blk w17.heap k 31 (rowN (2 * l2) fun j => if j = 2 * i + 1 then .int .i64 (spS x (2 * i + 1)) else if j = 2 * i then .int .i64 (spS x (2 * i)) else .int .i64 (if j < 2 * i then spS (gOver x y) j else 0)) := by
      have : segSet (rowN (2 * l2) fun j => .int .i64 (if j < 2 * i then spS (gOver x y) j else 0)) (0 + i * 2) [.int .i64 (spS x (2 * i + 0)), .int .i64 (spS x (2 * i + 1))] = rowN (2 * l2) fun j => if j = 2 * i + 1 then .int .i64 (spS x (2 * i + 1)) else if j = 2 * i then .int .i64 (spS x (2 * i)) else .int .i64 (if j < 2 * i then spS (gOver x y) j else 0) := by
        show ((rowN _ _).set (0 + i * 2) _).set (0 + i * 2 + 1) _ = _
        rw [rowN_set, rowN_set, show 0 + i * 2 = 2 * i from by omega]
        rfl
      rw [this] at k17; exact k17
    refine ⟨b2, 0, ⟨rfl, by omega, by omega⟩, _, hy 0 (by decide) hq17, fun g2 => ?_, fun g2 => ?_⟩
    · obtain ⟨p, hp⟩ : ∃ p, y (i + 1) = some p := by
        cases hyi : y (i + 1) with
        | some p => exact ⟨p, rfl⟩
        | none =>
          have h0 : spS y (2 * i + 0) = -2 := by unfold spS; simp only [Nat.add_zero, ev.1, hyi, ev.2.2.1, if_true]
          rw [h0] at g2; simp at g2
      refine ⟨b2, 0, ⟨rfl, by omega, by omega⟩, _, hy 0 (by decide) hq17, _, hy 1 (by decide) hq17, k, 0, ⟨rfl, by omega, by omega⟩, ?_⟩
      refine stW_in hk17 (by rw [rowN_length]; show 0 + i * 2 + 2 ≤ 2 * l2; omega) fun w27 s27 k27 e27 => ⟨l2 - (i + 1), by omega, i + 1, rfl, by omega, rfl, ?_, Ext.to B17 e27 fun z hz => by omega⟩
      have hs : ∀ f : Nat → Value, segSet (rowN (2 * l2) f) (0 + i * 2) [.int .i64 (spS y (2 * i + 0)), .int .i64 (spS y (2 * i + 1))] = rowN (2 * l2) fun j => if j = 2 * i + 1 then .int .i64 (spS y (2 * i + 1)) else if j = 2 * i then .int .i64 (spS y (2 * i)) else f j := by
        intro f
        show ((rowN _ _).set (0 + i * 2) _).set (0 + i * 2 + 1) _ = _
        rw [rowN_set, rowN_set, show 0 + i * 2 = 2 * i from by omega]
        rfl
      rw [hs, hstep] at k27
      · exact k27
      · intro j hj; rw [if_neg (by omega), if_neg (by omega), if_neg (by omega), if_neg (by omega), if_pos hj]
      · rw [if_neg (by omega), if_pos rfl]; unfold spS gOver; rw [ev.1, hp]; rfl
      · rw [if_pos rfl]; unfold spS gOver; rw [ev.2.1, hp]; rfl
      · intro j hj; rw [if_neg (by omega), if_neg (by omega), if_neg (by omega), if_neg (by omega), if_neg (by omega)]
    · have hp : y (i + 1) = none := by
        cases hyi : y (i + 1) with
        | none => rfl
        | some p =>
          have h0 : spS y (2 * i + 0) = (p.1 : Int) := by unfold spS; simp only [Nat.add_zero, ev.1, hyi, ev.2.2.1, if_true]
          rw [h0] at g2
          simp at g2
      refine ⟨l2 - (i + 1), by omega, i + 1, rfl, by omega, rfl, ?_, B17⟩
      rw [hstep] at hk17
      · exact hk17
      · intro j hj; rw [if_neg (by omega), if_neg (by omega), if_pos hj]
      · rw [if_neg (by omega), if_pos rfl]; unfold spS gOver; rw [ev.1, hp]; rfl
      · rw [if_pos rfl]; unfold spS gOver; rw [ev.2.1, hp]; rfl
      · intro j hj; rw [if_neg (by omega), if_neg (by omega), if_neg (by omega)]
  · have g' : i = l2 := by have := of_decide_eq_false g; omega
    subst g'
    rw [rowN_ext (g := fun j => .int .i64 (spS (gOver x y) j)) fun j hj => by rw [if_pos hj]] at k8
    exact ⟨k, rfl, by omega, ⟨sgC_length _ _, Nat.le_refl _, .inr ⟨k, _, rfl, k8, sgC_length _ _, List.take_of_length_le (by rw [rowN_length]; omega)⟩⟩, hk ▸ B8⟩
/-- Is the byte in the set? -/
theorem sin_ok {w : World} {a : Option Addr} {l c : Nat} {s : List (Int × Int)} (h : Vec w.heap 134 2 a l c (rngC s)) (hl : s.length ≤ 1000) (ch : Nat) (hc : ch < 256) {ch' : Int} (e : ch' = ch) :
    Cl Try.prog 154 [.slice a l c, .int .u8 ch'] w (RetB (.bool (inSet s ch)) w) := by
  subst e
  apply vc154
  unfold V154
  have hls : l = s.length := by have := h.1; rw [rngC_length] at this; omega
  subst hls
  rw [w64 (n := (ch : Int)) (by omega)]
  refine ⟨fun m n w' => ∃ (A B : List (Int × Int)), s = A ++ B ∧ n = A.length ∧ m = B.length ∧ inSet A ch = false ∧ Below w.heap.size w w', ⟨_, [], s, rfl, rfl, rfl, rfl, Below.refl _ _⟩, ?_⟩
  rintro m d n w1 ⟨A, B, hs, rfl, rfl, hA, hb⟩
  have hsl : s.length = A.length + B.length := by rw [hs]; simp
  have e0 : Int.toNat (A.length : Int) = A.length := by omega
  have e1 : IntKind.wrap .i64 ((A.length : Int) + 1) = ((A.length + 1 : Nat) : Int) := by rw [w64 (by omega)]; omega
  rw [e0, e1]
  refine ⟨fun g => ?_, fun g => ?_⟩
  · have g' : A.length < s.length := by have := of_decide_eq_true g; omega
    obtain ⟨x, B', rfl⟩ : ∃ x B', B = x :: B' := by
      cases B with
      | nil => simp only [List.length_nil] at hsl; omega
      | cons x B' => exact ⟨x, B', rfl⟩
    have hv := h.keep (S := fun _ => False) (Ext.of_below hb) fun _ _ h => h
    obtain ⟨b, rfl, hcell⟩ := hv.open (by omega)
    have hrg := rngC_at s A.length g'
    have hx : s[A.length] = x := by rw [List.getElem_of_eq hs]; simp
    rw [hx] at hrg
    refine ⟨b, 0, ⟨rfl, by omega, by omega⟩, x.1, by rw [Nat.zero_add, hcell _ (by omega)]; exact hrg.1, x.2, by rw [Nat.zero_add, hcell _ (by omega)]; exact hrg.2, ?_⟩
    refine newC_in fun w2 s2 k2 e2 => ?_
    refine stW_in k2 (by show 0 + 2 ≤ 2; decide) fun w3 s3 k3 e3 => ?_
    have B3 : Below w.heap.size w w3 := Ext.to (Ext.to hb e2 fun _ h => h.elim) e3 fun i hi => by have := hb.size; omega
    have hin : inSet (A ++ [x]) ch = (inSet A ch || (decide (x.1 ≤ (ch : Int)) && decide ((ch : Int) ≤ x.2))) := by simp [inSet]
    have hno : (decide (x.1 ≤ (ch : Int)) && decide ((ch : Int) ≤ x.2)) = false → ∃ m, m < B'.length + 1 ∧ ∃ (A' B'' : List (Int × Int)), s = A' ++ B'' ∧ ((A.length + 1 : Nat) : Int) = A'.length ∧ m = B''.length ∧ inSet A' ch = false ∧ Below w.heap.size w w3 := fun h =>
      ⟨B'.length, by omega, A ++ [x], B', by rw [hs]; simp, by simp, rfl, by rw [hin, hA, h]; rfl, B3⟩
    refine ⟨_, k3.cell 0, fun g9 => ⟨_, k3.cell 1, fun g10 => ?_, fun g10 => hno (by rw [g10, Bool.and_false])⟩, fun g9 => hno (by rw [show decide (x.1 ≤ (ch : Int)) = false from g9, Bool.false_and])⟩
    have : inSet s ch = true := by
      rw [hs]
      unfold inSet
      rw [List.any_append, List.any_cons, show decide (x.1 ≤ (ch : Int)) = true from g9, g10]
      simp
    rw [this]
    exact ⟨rfl, B3⟩
  · have g' : ¬ A.length < s.length := by have := of_decide_eq_false g; omega
    have : B = [] := by
      cases B with
      | nil => rfl
      | cons x r => simp only [List.length_cons] at hsl; omega
    subst this
    rw [List.append_nil] at hs
    subst hs
    rw [hA]
    exact ⟨rfl, hb⟩
end Go.Proofs.Ytngbiaeliphdjaa.V
/- The reference's machine in memory; its lists. No statement of the seat is proved here. -/
namespace Go.Proofs.Ytngbiaeliphdjaa.V
open Go.Vc Go.Proofs Go.RowKit
set_option linter.unusedVariables false
set_option linter.unusedSimpArgs false
/-- A machine: its block, its tables, its pattern's pieces, its text. -/
structure Sx where
  bm : Nat
  bd : Nat
  bl : Nat
  N : Nat
  P : Pat
  t : ByteArray
  pa : Option Addr
  pl : Nat
  pc : Nat
  rs : List Raw
def Sx.n (s : Sx) : Nat := (L s.t).length
def Sx.idx (s : Sx) (k i : Nat) : Nat := k * (s.n + 1) + i
def Sx.tot (s : Sx) : Nat := s.P.pieces.length * (s.n + 1)
def Sx.ends (s : Sx) (k i : Nat) : List Wy := endsP s.P.pieces (L s.t) k i
def Sx.sub (s : Sx) (k : Nat) : Nat → List Wy := s.ends ((s.P.pieces.getD k pSta).kids.getD 0 0).toNat
def Sx.more (s : Sx) (k : Nat) (left : Option Nat) (i : Nat) : List Wy := moreP (s.sub k) s.n (s.P.pieces.getD k pSta).lazy left i
theorem Sx.idx_lt (s : Sx) {k i : Nat} (hk : k < s.P.pieces.length) (hi : i ≤ s.n) : s.idx k i < s.tot := by
  unfold Sx.idx Sx.tot
  have : (k + 1) * (s.n + 1) ≤ s.P.pieces.length * (s.n + 1) := Nat.mul_le_mul_right _ hk
  rw [Nat.add_mul] at this
  omega
theorem Sx.idx_ge (s : Sx) {k i K : Nat} (hk : K ≤ k) : K * (s.n + 1) ≤ s.idx k i := by
  unfold Sx.idx
  have : K * (s.n + 1) ≤ k * (s.n + 1) := Nat.mul_le_mul_right _ hk
  omega
theorem Sx.idx_below (s : Sx) {k i K : Nat} (hk : k < K) (hi : i ≤ s.n) : s.idx k i < K * (s.n + 1) := by
  unfold Sx.idx
  have : (k + 1) * (s.n + 1) ≤ K * (s.n + 1) := Nat.mul_le_mul_right _ hk
  rw [Nat.add_mul] at this
  omega
theorem Sx.idx_inj (s : Sx) {k i k' i' : Nat} (hi : i ≤ s.n) (hi' : i' ≤ s.n) (h : s.idx k i = s.idx k' i') : k = k' ∧ i = i' := by
  rcases Nat.lt_trichotomy k k' with hk | hk | hk
  · have h1 := s.idx_below hk hi; have h2 := s.idx_ge (i := i') (Nat.le_refl k'); omega
  · subst hk; unfold Sx.idx at h; exact ⟨rfl, by omega⟩
  · have h1 := s.idx_below hk hi'; have h2 := s.idx_ge (i := i) (Nat.le_refl k); omega
/-- Groups in memory. -/
def GrAt (s : Sx) (X : Nat → Prop) (w : World) (g : G3) (x : Gr) : Prop := Vec w.heap 31 2 g.1 g.2.1 g.2.2 (sgC s.P.groups x) ∧ ∀ k, blkOf g.1 = some k → ¬ X k ∧ k ≠ s.bd ∧ k ≠ s.bl
/-- Ends in memory. -/
def EndsAt (s : Sx) (X : Nat → Prop) (w : World) (a : Option Addr) (l cp : Nat) (ws : List Wy) : Prop := ∃ es : List (Wy × G3), es.map (·.1) = ws ∧ Vec w.heap 150 2 a l cp (endsC es) ∧ (∀ e ∈ es, GrAt s X w e.2 e.1.2) ∧ ∀ k, blkOf a = some k → ¬ X k ∧ k ≠ s.bd ∧ k ≠ s.bl
theorem GrAt.grow {s : Sx} {X Y S : Nat → Prop} {w w' : World} {g : G3} {x : Gr} (h : GrAt s X w g x) (e : Ext S w w') (hS : ∀ x, S x → X x ∨ x = s.bd ∨ x = s.bl) (hY : ∀ x, Y x → X x ∨ w.heap.size ≤ x) : GrAt s Y w' g x :=
  ⟨h.1.keep e fun b hb hs => by
    have := h.2 b hb
    rcases hS b hs with h1 | h1 | h1
    · exact this.1 h1
    · exact this.2.1 h1
    · exact this.2.2 h1, fun k hk => ⟨fun hy => by
    rcases hY k hy with h1 | h1
    · exact (h.2 k hk).1 h1
    · have := h.1.lt k hk; omega, (h.2 k hk).2⟩⟩
theorem EndsAt.grow {s : Sx} {X Y S : Nat → Prop} {w w' : World} {a : Option Addr} {l cp : Nat} {ws : List Wy} (h : EndsAt s X w a l cp ws) (e : Ext S w w') (hS : ∀ x, S x → X x ∨ x = s.bd ∨ x = s.bl) (hY : ∀ x, Y x → X x ∨ w.heap.size ≤ x) : EndsAt s Y w' a l cp ws := by
  obtain ⟨es, h1, h2, h3, h4⟩ := h
  refine ⟨es, h1, h2.keep e fun b hb hs => ?_, fun x hx => (h3 x hx).grow e hS hY, fun k hk => ⟨fun hy => ?_, (h4 k hk).2⟩⟩
  · have := h4 b hb
    rcases hS b hs with h1 | h1 | h1
    · exact this.1 h1
    · exact this.2.1 h1
    · exact this.2.2 h1
  · rcases hY k hy with h1 | h1
    · exact (h4 k hk).1 h1
    · have := h2.lt k hk; omega
theorem GrAt.below {s : Sx} {X : Nat → Prop} {w w' : World} {g : G3} {x : Gr} (h : GrAt s X w g x) (e : Below w.heap.size w w') : GrAt s X w' g x := h.grow (S := fun _ => False) (Ext.of_below e) (fun _ h => h.elim) fun _ h => .inl h
theorem EndsAt.below {s : Sx} {X : Nat → Prop} {w w' : World} {a : Option Addr} {l cp : Nat} {ws : List Wy} (h : EndsAt s X w a l cp ws) (e : Below w.heap.size w w') : EndsAt s X w' a l cp ws := h.grow (S := fun _ => False) (Ext.of_below e) (fun _ h => h.elim) fun _ h => .inl h
theorem EndsAt.len {s : Sx} {X : Nat → Prop} {w : World} {a : Option Addr} {l cp : Nat} {ws : List Wy} (h : EndsAt s X w a l cp ws) : ws.length = l := by
  obtain ⟨es, h1, h2, _⟩ := h
  have := h2.1; rw [endsC_length] at this
  rw [← h1, List.length_map]; omega
/-- One end of a row. -/
theorem EndsAt.elem {s : Sx} {X : Nat → Prop} {w : World} {a : Option Addr} {l cp : Nat} {A B : List Wy} {x : Wy} (h : EndsAt s X w a l cp (A ++ x :: B)) :
    ∃ b g, a = some ⟨b, 0, none⟩ ∧ A.length < l ∧ cellH w.heap b (0 + A.length * 2) = some (.int .i64 (x.1 : Int)) ∧ cellH w.heap b (0 + A.length * 2 + 1) = some (.slice g.1 g.2.1 g.2.2) ∧ GrAt s X w g x.2 := by
  have hl := h.len
  have hl' : A.length < l := by rw [← hl]; simp
  obtain ⟨es, h1, h2, h3, h4⟩ := h
  have hel : es.length = l := by rw [← hl, ← h1, List.length_map]
  obtain ⟨b, rfl, hc⟩ := h2.open (by omega)
  have hi : A.length < es.length := by omega
  have hat := endsC_at es A.length hi
  have hx : es[A.length].1 = x := by
    have : (es.map (·.1))[A.length]'(by rw [List.length_map]; exact hi) = x := by rw [List.getElem_of_eq h1]; simp
    rw [List.getElem_map] at this
    exact this
  refine ⟨b, es[A.length].2, rfl, hl', by rw [Nat.zero_add, hc _ (by omega), hat.1, hx], by rw [Nat.zero_add, hc _ (by omega)]; exact hat.2, ?_⟩
  have := h3 _ (List.getElem_mem hi)
  rw [hx] at this
  exact this
def sltV (x : G3) : Value := .slice x.1 x.2.1 x.2.2
/-- The machine stands; what it holds of the pieces below K is right, and apart from X. -/
structure STab (s : Sx) (K : Nat) (X : Nat → Prop) (w : World) (d : Nat → Bool) (sl : Nat → G3) : Prop where
  mb : Blk w.heap s.bm 124 [.bool s.P.ok, .int .i64 (s.P.at_ : Int), .int .i64 (s.P.groups : Int), .slice s.pa s.pl s.pc, .string s.t, .slice (some ⟨s.bd, 0, none⟩) s.tot s.tot, .slice (some ⟨s.bl, 0, none⟩) s.tot s.tot]
  db : Blk w.heap s.bd 4 (rowN s.tot fun j => .bool (d j))
  lb : Blk w.heap s.bl 147 (rowN s.tot fun j => sltV (sl j))
  pcs : Pcs s.N w s.pa s.pl s.pc s.rs s.P.pieces
  ok : ∀ k i, k < K → k < s.P.pieces.length → i ≤ s.n → d (s.idx k i) = true → EndsAt s X w (sl (s.idx k i)).1 (sl (s.idx k i)).2.1 (sl (s.idx k i)).2.2 (s.ends k i)
  ne : s.bm ≠ s.bd ∧ s.bm ≠ s.bl ∧ s.bd ≠ s.bl ∧ s.bd ∉ blks s.pa s.rs ∧ s.bl ∉ blks s.pa s.rs
  priv : ∀ x, X x → x ≠ s.bm ∧ x ≠ s.bd ∧ x ≠ s.bl ∧ x ∉ blks s.pa s.rs ∧ x < w.heap.size
theorem STab.grow {s : Sx} {K : Nat} {X Y S : Nat → Prop} {w w' : World} {d : Nat → Bool} {sl : Nat → G3} (h : STab s K X w d sl) (e : Ext S w w') (hS : ∀ x, S x → X x) (hY : ∀ x, Y x → X x ∨ w.heap.size ≤ x) (hYl : ∀ x, Y x → x < w'.heap.size) : STab s K Y w' d sl := by
  have hp := h.priv
  have h1 := h.mb.lt
  have h2 := h.db.lt
  have h3 := h.lb.lt
  have hB := h.pcs.lt
  refine ⟨h.mb.keep e fun hs => (hp _ (hS _ hs)).1 rfl, h.db.keep e fun hs => (hp _ (hS _ hs)).2.1 rfl, h.lb.keep e fun hs => (hp _ (hS _ hs)).2.2.1 rfl, h.pcs.keep e fun k hk hs => (hp _ (hS _ hs)).2.2.2.1 hk, fun k i a1 a2 a3 a4 => (h.ok k i a1 a2 a3 a4).grow e (fun x hx => .inl (hS x hx)) hY, h.ne, fun x hx => ?_⟩
  rcases hY x hx with h4 | h4
  · have := hp x h4
    exact ⟨this.1, this.2.1, this.2.2.1, this.2.2.2.1, hYl x hx⟩
  · exact ⟨by omega, by omega, by omega, fun hk => by have := hB x hk; omega, hYl x hx⟩
theorem STab.below {s : Sx} {K : Nat} {X : Nat → Prop} {w w' : World} {d : Nat → Bool} {sl : Nat → G3} (h : STab s K X w d sl) (e : Below w.heap.size w w') : STab s K X w' d sl :=
  h.grow (S := fun _ => False) (Ext.of_below e) (fun _ h => h.elim) (fun _ h => .inl h) fun x hx => Nat.lt_of_lt_of_le (h.priv x hx).2.2.2.2 e.size
theorem STab.drop {s : Sx} {K : Nat} {X Y : Nat → Prop} {w : World} {d : Nat → Bool} {sl : Nat → G3} (h : STab s K X w d sl) (hY : ∀ x, Y x → X x) : STab s K Y w d sl :=
  h.grow (S := fun _ => False) (Ext.refl _ _) (fun _ h => h.elim) (fun x hx => .inl (hY x hx)) fun x hx => (h.priv x (hY x hx)).2.2.2.2
def Agr (s : Sx) (K : Nat) (d d' : Nat → Bool) (sl sl' : Nat → G3) : Prop := ∀ j, K * (s.n + 1) ≤ j → d' j = d j ∧ sl' j = sl j
theorem Agr.refl (s : Sx) (K : Nat) (d : Nat → Bool) (sl : Nat → G3) : Agr s K d d sl sl := fun _ _ => ⟨rfl, rfl⟩
theorem Agr.trans {s : Sx} {K : Nat} {d1 d2 d3 : Nat → Bool} {s1 s2 s3 : Nat → G3} (h : Agr s K d1 d2 s1 s2) (k : Agr s K d2 d3 s2 s3) : Agr s K d1 d3 s1 s3 := fun j hj => ⟨(k j hj).1.trans (h j hj).1, (k j hj).2.trans (h j hj).2⟩
/-- Ends, as a call gives them. -/
def ResE (s : Sx) (K : Nat) (X : Nat → Prop) (w : World) (d : Nat → Bool) (sl : Nat → G3) (ws : List Wy) : Ending → World → Prop := fun e w' => ∃ a l cp d' sl', e = .returned (.slice a l cp) ∧ EndsAt s X w' a l cp ws ∧ STab s K X w' d' sl' ∧ Agr s K d d' sl sl' ∧ Ext (fun x => x = s.bd ∨ x = s.bl) w w'
def EndsC (s : Sx) (k : Nat) : Prop := ∀ (K : Nat) (X : Nat → Prop) (w : World) (d : Nat → Bool) (sl : Nat → G3) (i : Nat), k < K → STab s K X w d sl → i ≤ s.n → Cl Try.prog 121 [.pointer (some ⟨s.bm, 0, none⟩), .int .i64 k, .int .i64 i] w (ResE s K X w d sl (s.ends k i))
/-! ### Lists -/
def seenS (n : Nat) (ws : List Wy) : List Value := rowN (n + 1) fun p => .bool (has ws p)
theorem seenS_set (n : Nat) (ws : List Wy) (x : Wy) : (seenS n ws).set x.1 (.bool true) = seenS n (ws ++ [x]) := by
  unfold seenS
  rw [rowN_set]
  apply rowN_ext
  intro p hp
  rw [has_append]
  by_cases h : p = x.1
  · subst h; simp [has]
  · rw [if_neg h]; simp [has, Ne.symm h]
/-- A list of ends that is gathered while the machine stands. -/
structure SL (s : Sx) (K : Nat) (X0 : Nat → Prop) (w0 : World) (b bs : Nat) (X : Nat → Prop) (w : World) (d : Nat → Bool) (sl : Nat → G3) (ws : List Wy) : Prop where
  sub : ∀ x, X0 x → X x
  mem : X b
  memS : X bs
  new : w0.heap.size ≤ b ∧ w0.heap.size ≤ bs ∧ b ≠ bs
  row : ∃ a l cp es, Blk w.heap b 195 [.slice (some ⟨bs, 0, none⟩) (s.n + 1) (s.n + 1), .slice a l cp] ∧ Blk w.heap bs 4 (seenS s.n ws) ∧ Vec w.heap 150 2 a l cp (endsC es) ∧ es.map (·.1) = ws ∧ (∀ k, blkOf a = some k → X k ∧ w0.heap.size ≤ k ∧ k ≠ b ∧ k ≠ bs) ∧ ∀ e ∈ es, GrAt s X w e.2 e.1.2
  fin : STab s K X w d sl
  ext : Ext (fun x => x = s.bd ∨ x = s.bl) w0 w
section
variable {s : Sx} {K : Nat} {X0 X : Nat → Prop} {w0 w w' : World} {b bs : Nat} {d d' : Nat → Bool} {sl sl' : Nat → G3} {ws : List Wy}
theorem SL.below (h : SL s K X0 w0 b bs X w d sl ws) (e : Below w.heap.size w w') : SL s K X0 w0 b bs X w' d sl ws := by
  obtain ⟨a, l, cp, es, h1, h2, h3, h4, h5, h6⟩ := h.row
  exact ⟨h.sub, h.mem, h.memS, h.new, ⟨a, l, cp, es, h1.below e, h2.below e, h3.keep (S := fun _ => False) (Ext.of_below e) (fun _ _ h => h), h4, h5, fun x hx => (h6 x hx).below e⟩, h.fin.below e, h.ext.trans (Ext.of_below e)⟩
theorem SL.call (h : SL s K X0 w0 b bs X w d sl ws) (hf : STab s K X w' d' sl') (e : Ext (fun x => x = s.bd ∨ x = s.bl) w w') : SL s K X0 w0 b bs X w' d' sl' ws := by
  obtain ⟨a, l, cp, es, h1, h2, h3, h4, h5, h6⟩ := h.row
  have hx : ∀ x, X x → ¬ (x = s.bd ∨ x = s.bl) := fun x hx h' => by
    have := h.fin.priv x hx
    rcases h' with h' | h'
    · exact this.2.1 h'
    · exact this.2.2.1 h'
  exact ⟨h.sub, h.mem, h.memS, h.new, ⟨a, l, cp, es, h1.keep e (hx _ h.mem), h2.keep e (hx _ h.memS), h3.keep e (fun k hk => hx k (h5 k hk).1), h4, h5, fun x hx => (h6 x hx).grow e (fun _ h => .inr h) fun _ h => .inl h⟩, hf, h.ext.trans e⟩
/-- Other private blocks change. -/
theorem SL.other {S : Nat → Prop} (h : SL s K X0 w0 b bs X w d sl ws) (e : Ext S w w') (hS : ∀ x, S x → X x ∧ w0.heap.size ≤ x ∧ x ≠ b ∧ x ≠ bs) (hr : ∀ a l cp, Blk w.heap b 195 [.slice (some ⟨bs, 0, none⟩) (s.n + 1) (s.n + 1), .slice a l cp] → ∀ k, blkOf a = some k → ¬ S k) : SL s K X0 w0 b bs X w' d sl ws := by
  obtain ⟨a, l, cp, es, h1, h2, h3, h4, h5, h6⟩ := h.row
  refine ⟨h.sub, h.mem, h.memS, h.new, ⟨a, l, cp, es, h1.keep e (fun h => (hS _ h).2.2.1 rfl), h2.keep e (fun h => (hS _ h).2.2.2 rfl), h3.keep e (hr a l cp h1), h4, h5, fun x hx => (h6 x hx).grow e (fun x hx => .inl (hS x hx).1) fun _ h => .inl h⟩, h.fin.grow e (fun x hx => (hS x hx).1) (fun _ h => .inl h) (fun x hx => Nat.lt_of_lt_of_le (h.fin.priv x hx).2.2.2.2 e.size), h.ext.step e fun i hi hs => by have := (hS i hs).2.1; omega⟩
/-- The list's row does not lie in a block. -/
def NotRow (w : World) (b q : Nat) : Prop := ∀ a l cp, cellH w.heap b 1 = some (.slice a l cp) → blkOf a ≠ some q
theorem SL.add (h : SL s K X0 w0 b bs X w d sl ws) {to : Nat} {x : Gr} {g : G3} (hg : GrAt s X w g x) (hto : to ≤ s.n) (hl : ws.length ≤ 1000) :
    Cl Try.prog 155 [.pointer (some ⟨b, 0, none⟩), .int .i64 to, .slice g.1 g.2.1 g.2.2] w (fun e w' => e = .returned (.tuple #[]) ∧ ∃ X', SL s K X0 w0 b bs X' w' d sl (addW ws (to, x)) ∧ Ext X w w' ∧ (∀ y, X' y → X y ∨ w.heap.size ≤ y) ∧ ∀ q, q < w.heap.size → q ≠ b → q ≠ bs → NotRow w b q → NotRow w' b q ∧ Ext (fun k => k ≠ q) w w' ∧ (X q → X' q)) := by
  obtain ⟨a, l, cp, es, h1, h2, h3, h4, h5, h6⟩ := h.row
  apply vc155
  unfold V155
  have hbl := h1.lt
  have hbsl := h2.lt
  have hsl := (h.ext).size
  have hesl : es.length = l := by have := h3.1; rw [endsC_length] at this; omega
  have hwl : ws.length = l := by rw [← h4, List.length_map, hesl]
  refine ⟨_, _, _, h1.cell 0, bs, 0, ⟨rfl, by omega, by omega⟩, has ws to, ?_, fun g1 => ?_, fun g1 => ?_⟩
  · rw [h2.cell, show 0 + Int.toNat (to : Int) * 1 = to from by omega]
    exact rowN_get _ (by omega)
  · have g1' : has ws to = false := by simpa using g1
    refine ⟨_, _, _, h1.cell 0, bs, 0, ⟨rfl, by omega, by omega⟩, ?_⟩
    rw [show 0 + Int.toNat (to : Int) * 1 = to from by omega]
    refine stW_in h2 (by unfold seenS; rw [rowN_length]; show to + 1 ≤ s.n + 1; omega) fun w12 s12 k12 e12 => ?_
    have hset : segSet (seenS s.n ws) to [.bool true] = seenS s.n (ws ++ [(to, x)]) := seenS_set s.n ws (to, x)
    rw [hset] at k12
    have hb12 : Blk w12.heap b 195 _ := h1.keep e12 h.new.2.2
    have v12 : Vec w12.heap 150 2 a l cp (endsC es) := h3.keep e12 fun k hk hkb => (h5 k hk).2.2.2 hkb
    refine ⟨_, _, _, hb12.cell 1, newC_in fun w15 s15 k15 e15 => ?_⟩
    have k15' : Blk w15.heap w12.heap.size 150 (endC ((to, x), g)) := k15
    have v15 := v12.keep e15 fun _ _ h => h
    obtain ⟨a2, c2, w17, r1, r2, r3, r4⟩ := append_run (P := Try.prog) (T := 147) (T' := 147) (T'' := 147) elemEnd.und elemEnd.und elemEnd.size elemEnd.bytes (by rw [show zeroL Try.prog 150 = some _ from elemEnd.zero.choose_spec.1]; simp)
      (by rw [show zeroL Try.prog 150 = some _ from elemEnd.zero.choose_spec.1]; intro y hy; cases hy; exact elemEnd.zero.choose_spec.2) v15 (a' := some ⟨w12.heap.size, 0, none⟩) (n := 1) (c' := 1) (ys := endC ((to, x), g)) rfl rfl (.inr ⟨_, _, rfl, k15'.cellsAt (n := 2) rfl rfl⟩) (fun h => by cases h) (by omega) (by omega)
    refine ⟨a2, l + 1, c2, w17, r1, ?_⟩
    have E15 : Ext (fun k => k = bs) w w15 := e12.trans (Ext.mono e15 fun _ _ h => h.elim)
    have hb17 : Blk w17.heap b 195 _ := (hb12.keep e15 fun h => h).keep r3 fun hk => (h5 b hk).2.2.1 rfl
    have k17 := (k12.keep e15 fun h => h).keep r3 fun hk => (h5 bs hk).2.2.2 rfl
    refine stW_in hb17 (by show 0 + 1 + 1 ≤ 2; decide) fun w18 s18 k18 e18 => ?_
    have hE : Ext X w w18 := ((Ext.mono E15 fun k _ hk => by subst hk; exact h.memS).trans (Ext.mono r3 fun k _ hk => (h5 k hk).1)).trans (Ext.mono e18 fun k _ hk => by subst hk; exact h.mem)
    have hz15 := E15.size
    have hz12 := e12.size
    have hz17 := r3.size
    have ha2 : ∀ k, blkOf a2 = some k → (blkOf a = some k ∨ w.heap.size ≤ k) ∧ k ≠ b ∧ k ≠ bs ∧ w0.heap.size ≤ k := by
      intro k hk
      rcases r4 with rfl | rfl
      · exact ⟨.inl hk, (h5 k hk).2.2.1, (h5 k hk).2.2.2, (h5 k hk).2.1⟩
      · simp only [blkOf, Option.some.injEq] at hk; exact ⟨.inr (by omega), by omega, by omega, by omega⟩
    have hgr : ∀ {g : G3} {x : Gr}, GrAt s X w g x → GrAt s (fun y => X y ∨ (blkOf a2 = some y ∧ w.heap.size ≤ y)) w18 g x := fun hg => hg.grow hE (fun _ h => .inl h) fun y hy => by
      rcases hy with hy | hy
      · exact .inl hy
      · exact .inr hy.2
    have v18 := r2.keep e18 fun k hk hkb => (ha2 k hk).2.1 hkb
    refine ⟨rfl, fun y => X y ∨ (blkOf a2 = some y ∧ w.heap.size ≤ y), ⟨fun y hy => .inl (h.sub y hy), .inl h.mem, .inl h.memS, h.new, ⟨a2, l + 1, c2, es ++ [((to, x), g)], k18, ?_, ?_, ?_, fun k hk => ?_, fun e he => ?_⟩, h.fin.grow hE (fun _ h => h) (fun y hy => ?_) (fun y hy => ?_), ?_⟩, hE, fun y hy => ?_, fun q hq hqb hqs hnr => ⟨fun a' l' c' h' h'' => ?_, ?_, .inl⟩⟩
    · rw [show addW ws (to, x) = ws ++ [(to, x)] from by simp [addW, g1']]
      exact k17.keep e18 h.new.2.2.symm
    · rw [endsC_append, endsC_one]; exact v18
    · rw [show addW ws (to, x) = ws ++ [(to, x)] from by simp [addW, g1'], List.map_append, h4]; rfl
    · have := ha2 k hk
      refine ⟨?_, this.2.2.2, this.2.1, this.2.2.1⟩
      rcases this.1 with h7 | h7
      · exact .inl (h5 k h7).1
      · exact .inr ⟨hk, h7⟩
    · rcases List.mem_append.1 he with he | he
      · exact hgr (h6 e he)
      · rw [List.mem_singleton.1 he]; exact hgr hg
    · rcases hy with hy | hy
      · exact .inl hy
      · exact .inr hy.2
    · rcases hy with hy | hy
      · exact Nat.lt_of_lt_of_le (h.fin.priv y hy).2.2.2.2 hE.size
      · exact v18.lt y hy.1
    · refine h.ext.step (S := fun x => x = s.bd ∨ x = s.bl) (T := fun k => k = bs ∨ blkOf a = some k ∨ k = b) (((Ext.mono E15 fun k _ hk => .inl hk).trans (Ext.mono r3 fun k _ hk => .inr (.inl hk))).trans (Ext.mono e18 fun k _ hk => .inr (.inr hk))) fun i hi hk => ?_
      have hn := h.new
      rcases hk with rfl | hk | rfl
      · omega
      · have := (h5 i hk).2.1; omega
      · omega
    · rcases hy with hy | hy
      · exact .inl hy
      · exact .inr hy.2
    · have hc : cellH w18.heap b 1 = some (.slice a2 (l + 1) c2) := k18.cell 1
      rw [hc] at h'
      cases h'
      rcases (ha2 q h'').1 with h7 | h7
      · exact hnr _ _ _ (h1.cell 1) h7
      · omega
    · have hnq := hnr _ _ _ (h1.cell 1)
      exact ((Ext.mono E15 fun k _ hk => by subst hk; exact fun h => hqs h.symm).trans (Ext.mono r3 fun k _ hk => fun h => by subst h; exact hnq hk)).trans (Ext.mono e18 fun k _ hk => by subst hk; exact fun h => hqb h.symm)
  · refine ⟨rfl, X, ?_, Ext.refl _ _, fun y hy => .inl hy, fun q _ _ _ hnr => ⟨hnr, Ext.refl _ _, fun h => h⟩⟩
    have g1' : has ws to = true := by simpa using g1
    rw [addW_has (w := (to, x)) g1']
    exact h
/-- What was gathered is handed back. -/
theorem SL.res (h : SL s K X0 w0 b bs X w d sl ws) (hX0 : ∀ x, X0 x → x < w0.heap.size) (hm : s.bd < w0.heap.size ∧ s.bl < w0.heap.size) : ∃ a l cp, cellH w.heap b 1 = some (.slice a l cp) ∧ EndsAt s X0 w a l cp ws ∧ STab s K X0 w d sl := by
  obtain ⟨a, l, cp, es, h1, h2, h3, h4, h5, h6⟩ := h.row
  refine ⟨a, l, cp, h1.cell 1, ⟨es, h4, h3, fun e he => ?_, fun k hk => ⟨fun hx => ?_, ?_, ?_⟩⟩, h.fin.drop h.sub⟩
  · have := h6 e he
    exact ⟨this.1, fun k hk => ⟨fun hx => (this.2 k hk).1 (h.sub k hx), (this.2 k hk).2⟩⟩
  · have := hX0 k hx; have := (h5 k hk).2.1; omega
  · have := (h5 k hk).2.1; omega
  · have := (h5 k hk).2.1; omega
end
/-- A new list. -/
theorem sempty_ok {s : Sx} {K : Nat} {X0 : Nat → Prop} {w0 w : World} {d : Nat → Bool} {sl : Nat → G3} (h : STab s K X0 w d sl) (e0 : Ext (fun x => x = s.bd ∨ x = s.bl) w0 w) (hn : s.n ≤ 200) :
    Cl Try.prog 153 [.pointer (some ⟨s.bm, 0, none⟩)] w (fun e w' => ∃ b bs X, e = .returned (.pointer (some ⟨b, 0, none⟩)) ∧ SL s K X0 w0 b bs X w' d sl [] ∧ (∀ y, X y → X0 y ∨ w.heap.size ≤ y) ∧ Below w.heap.size w w') := by
  apply vc153
  unfold V153
  have hsz := size_L s.t
  have hnt : s.n = (L s.t).length := rfl
  have ew : IntKind.wrap .i64 ((s.t.size : Int) + 1) = ((s.n + 1 : Nat) : Int) := by rw [w64 (by omega)]; omega
  obtain ⟨w5, hr, s5, k5, e5⟩ := makeBools (s.n + 1) (by omega) w
  refine ⟨s.t, h.mb.cell 4, ?_⟩
  rw [ew]
  refine ⟨_, _, _, w5, hr, newC_in fun w7 s7 k7 e7 => ?_⟩
  have B7 : Below w.heap.size w w7 := Ext.to (Ext.to (Below.refl _ _) e5 fun _ h => h.elim) e7 fun _ h => h.elim
  have k5' := k5.keep e7 fun h => h
  have hz := e0.size
  have hl1 := k5.lt
  have hl7 := k7.lt
  refine ⟨_, w.heap.size, fun y => X0 y ∨ y = w.heap.size ∨ y = w5.heap.size, rfl, ⟨fun _ h => .inl h, .inr (.inr rfl), .inr (.inl rfl), ⟨by omega, by omega, by omega⟩, ⟨none, 0, 0, [], k7, ?_, Vec.nil _ _ _, rfl, by simp [blkOf], by simp⟩, h.grow (S := fun _ => False) (Ext.of_below B7) (fun _ h => h.elim) (fun y hy => ?_) (fun y hy => ?_), e0.trans (Ext.of_below B7)⟩, fun y hy => ?_, B7⟩
  · unfold seenS
    rw [rowN_ext (g := fun _ => .bool false) fun p _ => by simp [has]]
    exact k5'
  · rcases hy with hy | rfl | rfl
    · exact .inl hy
    · exact .inr (Nat.le_refl _)
    · exact .inr (by omega)
  · rcases hy with hy | rfl | rfl
    · exact Nat.lt_of_lt_of_le (h.priv y hy).2.2.2.2 B7.size
    · omega
    · omega
  · rcases hy with hy | rfl | rfl
    · exact .inl hy
    · exact .inr (Nat.le_refl _)
    · exact .inr (by omega)
end Go.Proofs.Ytngbiaeliphdjaa.V
/- What then does in the reference's machine. No statement of the seat is proved here. -/
namespace Go.Proofs.Ytngbiaeliphdjaa.V
open Go.Vc Go.Proofs Go.RowKit
set_option linter.unusedVariables false
set_option linter.unusedSimpArgs false
theorem SL.seen {s : Sx} {K : Nat} {X0 X : Nat → Prop} {w0 w : World} {b bs : Nat} {d : Nat → Bool} {sl : Nat → G3} {ws : List Wy} (h : SL s K X0 w0 b bs X w d sl ws) {to : Nat} (hto : to ≤ s.n) : cellH w.heap b 0 = some (.slice (some ⟨bs, 0, none⟩) (s.n + 1) (s.n + 1)) ∧ cellH w.heap bs to = some (.bool (has ws to)) := by
  obtain ⟨a, l, cp, es, h1, h2, _⟩ := h.row
  refine ⟨h1.cell 0, ?_⟩
  rw [h2.cell]
  exact rowN_get _ (by omega)
theorem sthen_ok {s : Sx} {K k : Nat} {X : Nat → Prop} {w : World} {d : Nat → Bool} {sl : Nat → G3} {cur : List Wy} {a : Option Addr} {l cp : Nat} (hk : k < K) (hE : EndsC s k) (hF : STab s K X w d sl) (hcur : EndsAt s X w a l cp cur) (hcl : cur.length ≤ 1000) (hcb : ∀ x ∈ cur, x.1 ≤ s.n) (hn : s.n ≤ 200) (hG : s.P.groups ≤ 1000) (hnb : ∀ p, p ≤ s.n → ∀ x ∈ s.ends k p, x.1 ≤ s.n) (hnl : ∀ p, p ≤ s.n → (s.ends k p).length ≤ 1000) :
    Cl Try.prog 158 [.pointer (some ⟨s.bm, 0, none⟩), .slice a l cp, .int .i64 k] w (ResE s K X w d sl (thenP cur (s.ends k))) := by
  apply vc158
  unfold V158
  have hX0 : ∀ x, X x → x < w.heap.size := fun x hx => (hF.priv x hx).2.2.2.2
  have hbd := hF.db.lt
  have hbl := hF.lb.lt
  have hlen := hcur.len
  refine (sempty_ok hF (Ext.refl _ w) hn).use fun e w7 he => ?_
  obtain ⟨b5, bs, X7, rfl, S7, hX7, B7⟩ := he
  refine ⟨b5, 0, rfl, ?_⟩
  have c7 : EndsAt s X7 w7 a l cp cur := hcur.grow (S := fun _ => False) (Ext.of_below B7) (fun _ h => h.elim) hX7
  refine ⟨fun kk n w' => ∃ (A B : List Wy) (X' : Nat → Prop) (d' : Nat → Bool) (sl' : Nat → G3), cur = A ++ B ∧ n = A.length ∧ kk = B.length ∧ SL s K X w b5 bs X' w' d' sl' (addA [] (A.flatMap (ovL (s.ends k)))) ∧ EndsAt s X' w' a l cp cur ∧ Agr s K d d' sl sl', ⟨_, [], cur, _, _, _, rfl, rfl, rfl, S7, c7, Agr.refl _ _ _ _⟩, ?_⟩
  clear c7 S7 hX7 B7
  rintro kk dd n w10 ⟨A, B, X1, d1, sl1, hAB, rfl, rfl, S10, c10, G10⟩
  have hABl : cur.length = A.length + B.length := by rw [hAB]; simp
  have e0 : Int.toNat (A.length : Int) = A.length := by omega
  have e1 : IntKind.wrap .i64 ((A.length : Int) + 1) = ((A.length + 1 : Nat) : Int) := by rw [w64 (by omega)]; omega
  rw [e0, e1]
  have hbnd : ∀ (A' : List Wy), (∀ z ∈ A', z ∈ cur) → ∀ z ∈ A'.flatMap (ovL (s.ends k)), z.1 ≤ 200 := by
    intro A' hA' z hz
    simp only [List.mem_flatMap, ovL, List.mem_map] at hz
    obtain ⟨x, hx, b, hb, rfl⟩ := hz
    exact Nat.le_trans (hnb x.1 (hcb x (hA' x hx)) b hb) hn
  refine ⟨fun g => ?_, fun g => ?_⟩
  · have g' : A.length < l := by have := of_decide_eq_true g; omega
    obtain ⟨x, B', rfl⟩ : ∃ x B', B = x :: B' := by
      cases B with
      | nil => simp only [List.length_nil] at hABl; omega
      | cons x B' => exact ⟨x, B', rfl⟩
    have hxm : x ∈ cur := by rw [hAB]; simp
    have hxb := hcb x hxm
    have c10' := c10
    rw [hAB] at c10'
    obtain ⟨ba, gx, hba, _, hx1, hx2, gr10⟩ := c10'.elem
    refine ⟨ba, 0, ⟨hba, by omega, by omega⟩, _, hx1, _, _, _, hx2, ?_⟩
    refine newC_in fun w18 s18 k18 e18 => ?_
    generalize hb17 : w10.heap.size = b17 at *
    refine stW_in k18 (by show 0 + 2 ≤ 2; decide) fun w19 s19 k19 e19 => ?_
    have k19' : Blk w19.heap b17 150 [.int .i64 (x.1 : Int), .slice gx.1 gx.2.1 gx.2.2] := k19
    have B19 : Below w10.heap.size w10 w19 := Ext.to (Ext.to (Below.refl _ _) e18 fun _ h => h.elim) e19 fun i hi => by omega
    have S19 := S10.below B19
    have c19 := c10.below B19
    have gr19 := gr10.below B19
    have hz10 := S10.ext.size
    have hX17 : ¬ X1 b17 := fun h => by have := (S10.fin.priv b17 h).2.2.2.2; omega
    have hd17 : ¬ (b17 = s.bd ∨ b17 = s.bl) := by omega
    refine ⟨_, k19'.cell 0, ?_⟩
    refine (hE K X1 w19 d1 sl1 x.1 hk S19.fin hxb).use fun e w22 he => ?_
    obtain ⟨a21, l21, c21, d2, sl2, rfl, r22, f22, G22, e22⟩ := he
    refine ⟨a21, l21, c21, rfl, ?_⟩
    have S22 := S19.call f22 e22
    have c22 : EndsAt s X1 w22 a l cp cur := c19.grow e22 (fun _ h => .inr h) fun _ h => .inl h
    have gr22 : GrAt s X1 w22 gx x.2 := gr19.grow e22 (fun _ h => .inr h) fun _ h => .inl h
    have k22 := k19'.keep e22 hd17
    have hl21 := r22.len
    have hnl' := hnl x.1 hxb
    refine ⟨fun kk n w' => ∃ (C D : List Wy) (X2 : Nat → Prop), s.ends k x.1 = C ++ D ∧ n = C.length ∧ kk = D.length ∧ SL s K X w b5 bs X2 w' d2 sl2 (addA (addA [] (A.flatMap (ovL (s.ends k)))) (C.map (ovW x.2))) ∧ EndsAt s X2 w' a l cp cur ∧ EndsAt s X2 w' a21 l21 c21 (s.ends k x.1) ∧ GrAt s X2 w' gx x.2 ∧ Blk w'.heap b17 150 [.int .i64 (x.1 : Int), .slice gx.1 gx.2.1 gx.2.2] ∧ ¬ X2 b17, ⟨_, [], s.ends k x.1, X1, rfl, rfl, rfl, S22, c22, r22, gr22, k22, hX17⟩, ?_⟩
    have G2 := G10.trans G22
    clear k22 c22 S22 r22 f22 e22 hX17 c19 S19 B19 k19 k19' e19 s19 k18 e18 s18 hx1 hx2 c10' c10 S10 gr22 gr19 gr10 G22 G10
    rintro kk dd2 n w27 ⟨C, D, X2, hCD, rfl, rfl, S27, c27, r27, gr27, k27, hX27⟩
    have hCDl : (s.ends k x.1).length = C.length + D.length := by rw [hCD]; simp
    have e0' : Int.toNat (C.length : Int) = C.length := by omega
    have e1' : IntKind.wrap .i64 ((C.length : Int) + 1) = ((C.length + 1 : Nat) : Int) := by rw [w64 (by omega)]; omega
    rw [e0', e1']
    refine ⟨fun g2 => ?_, fun g2 => ?_⟩
    · have g2' : C.length < l21 := by have := of_decide_eq_true g2; omega
      obtain ⟨y, D', rfl⟩ : ∃ x B', D = x :: B' := by
        cases D with
        | nil => simp only [List.length_nil] at hCDl; omega
        | cons x B' => exact ⟨x, B', rfl⟩
      have hym : y ∈ s.ends k x.1 := by rw [hCD]; simp
      have hyb := hnb x.1 hxb y hym
      have r27' := r27
      rw [hCD] at r27'
      obtain ⟨br, gy, hbr, _, hy1, hy2, gry⟩ := r27'.elem
      refine ⟨br, 0, ⟨hbr, by omega, by omega⟩, _, hy1, _, _, _, hy2, ?_⟩
      refine newC_in fun w35 s35 k35 e35 => ?_
      generalize hb34 : w27.heap.size = b34 at *
      refine stW_in k35 (by show 0 + 2 ≤ 2; decide) fun w36 s36 k36 e36 => ?_
      have k36' : Blk w36.heap b34 150 [.int .i64 (y.1 : Int), .slice gy.1 gy.2.1 gy.2.2] := k36
      refine drw_in fun w37 q37 e37 => ?_
      have B37 : Below w27.heap.size w27 w37 := Ext.to (Ext.to (Ext.to (Below.refl _ _) e35 fun _ h => h.elim) e36 fun i hi => by omega) e37 fun _ h => h.elim
      have k37 := k36'.keep e37 fun h => h
      have S37 := S27.below B37
      have hbx : ∀ z ∈ addA (addA [] (A.flatMap (ovL (s.ends k)))) (C.map (ovW x.2)), z.1 ≤ 200 := by
        intro z hz
        rcases mem_addA hz with hz | hz
        · rcases mem_addA hz with hz | hz
          · cases hz
          · exact hbnd A (fun z hz => by rw [hAB]; exact List.mem_append_left _ hz) z hz
        · obtain ⟨b, hb, rfl⟩ := List.mem_map.1 hz
          exact Nat.le_trans (hnb x.1 hxb b (by rw [hCD]; exact List.mem_append_left _ hb)) hn
      have hsn := S37.seen hyb
      refine ⟨_, _, _, hsn.1, _, k37.cell 0, bs, 0, ⟨rfl, by omega, by omega⟩, _, by rw [show 0 + Int.toNat (y.1 : Int) * 1 = y.1 from by omega]; exact hsn.2, fun g3 => ?_, fun g3 => ?_⟩
      · refine drw_in fun w45 q45 e45 => ?_
        have B45 : Below w27.heap.size w27 w45 := Ext.to B37 e45 fun _ h => h.elim
        have k45 := k37.keep e45 fun h => h
        have kx45 := k27.below B45
        refine ⟨_, k45.cell 0, _, _, _, kx45.cell 1, _, _, _, k45.cell 1, ?_⟩
        refine (sover_ok hG (gr27.below B45).1 (gry.below B45).1).use fun e w50 he => ?_
        obtain ⟨q, rfl, hq, v50, b50⟩ := he
        refine ⟨_, _, _, rfl, (k45.below b50).cell 0, ?_⟩
        have B50 := B45.vstep b50
        have S50 := S27.below B50
        have hz45 := B45.size
        have gq : GrAt s X2 w50 (some ⟨q, 0, none⟩, s.P.groups, s.P.groups) (gOver x.2 y.2) := ⟨v50, fun j hj => by
          obtain rfl : q = j := by simpa [blkOf] using hj
          have h1 := S27.fin.db.lt
          have h2 := S27.fin.lb.lt
          exact ⟨fun h => by have := (S27.fin.priv q h).2.2.2.2; omega, by omega, by omega⟩⟩
        refine (S50.add (to := y.1) (x := gOver x.2 y.2) gq hyb ?_).use fun e w52 he => ?_
        · rw [← addA_append]
          refine Nat.le_trans (addA_short (n := 200) fun z hz => ?_) (by decide)
          rcases List.mem_append.1 hz with hz | hz
          · exact hbnd A (fun z hz => by rw [hAB]; exact List.mem_append_left _ hz) z hz
          · obtain ⟨b, hb, rfl⟩ := List.mem_map.1 hz
            exact Nat.le_trans (hnb x.1 hxb b (by rw [hCD]; exact List.mem_append_left _ hb)) hn
        obtain ⟨rfl, X3, S52, e52, hX3, _⟩ := he
        have hz50 := B50.size
        refine ⟨rfl, D'.length, by simp, C ++ [y], D', X3, by rw [hCD]; simp, by simp, rfl, ?_, (c27.below B50).grow e52 (fun _ h => .inl h) hX3, (r27.below B50).grow e52 (fun _ h => .inl h) hX3, (gr27.below B50).grow e52 (fun _ h => .inl h) hX3, (k27.below B50).keep e52 hX27, fun h => ?_⟩
        · rw [List.map_append, addA_append]; exact S52
        · rcases hX3 b17 h with h | h
          · exact hX27 h
          · have := k27.lt; omega
      · have g3' : has (addA (addA [] (A.flatMap (ovL (s.ends k)))) (C.map (ovW x.2))) y.1 = true := by simpa using g3
        refine ⟨D'.length, by simp, C ++ [y], D', X2, by rw [hCD]; simp, by simp, rfl, ?_, c27.below B37, r27.below B37, gr27.below B37, k27.below B37, hX27⟩
        rw [List.map_append, addA_append, List.map_cons, List.map_nil, addA_cons, addA_nil, addW_has (w := ovW x.2 y) g3']
        exact S37
    · have g2' : ¬ C.length < l21 := by have := of_decide_eq_false g2; omega
      have : D = [] := by
        cases D with
        | nil => rfl
        | cons x r => have := r27.len; simp only [List.length_cons] at hCDl; omega
      subst this
      rw [List.append_nil] at hCD
      refine ⟨B'.length, by simp, A ++ [x], B', X2, d2, sl2, by rw [hAB]; simp, by simp, rfl, ?_, c27, G2⟩
      rw [List.flatMap_append, addA_append, List.flatMap_cons, List.flatMap_nil, List.append_nil]
      unfold ovL at *
      rw [hCD]
      exact S27
  · have g' : ¬ A.length < l := by have := of_decide_eq_false g; omega
    have : B = [] := by
      cases B with
      | nil => rfl
      | cons x r => simp only [List.length_cons] at hABl; omega
    subst this
    rw [List.append_nil] at hAB
    subst hAB
    obtain ⟨a4, l4, c4, h1, h2, h3⟩ := S10.res (fun x hx => by have := hX0 x hx; omega) (by omega)
    exact ⟨a4, l4, c4, by rw [Nat.zero_add]; exact h1, a4, l4, c4, d1, sl1, rfl, h2, h3, G10, S10.ext⟩
end Go.Proofs.Ytngbiaeliphdjaa.V
/- Gathering, and the closures of the program's finder. No statement of the seat is proved here. -/
namespace Go.Proofs.Ytngbiaeliphdjaa.V
open Go.Vc Go.Proofs Go.RowKit
set_option linter.unusedVariables false
set_option linter.unusedSimpArgs false
/-- Blocks of a call's own that stay. -/
def Loc (c : Cx) (bs : List (Nat × TypeId × List Value)) (X : Nat → Prop) (w : World) : Prop := ∀ p ∈ bs, Blk w.heap p.1 p.2.1 p.2.2 ∧ ¬ X p.1 ∧ p.1 ≠ c.m
theorem Loc.below {c : Cx} {bs : List (Nat × TypeId × List Value)} {X : Nat → Prop} {w w' : World} (h : Loc c bs X w) (e : Below w.heap.size w w') : Loc c bs X w' := fun p hp => ⟨(h p hp).1.below e, (h p hp).2⟩
theorem Loc.call {c : Cx} {bs : List (Nat × TypeId × List Value)} {X : Nat → Prop} {w w' : World} (h : Loc c bs X w) (e : Ext (fun x => x = c.m) w w') : Loc c bs X w' := fun p hp => ⟨(h p hp).1.keep e (h p hp).2.2, (h p hp).2⟩
theorem Loc.grow {c : Cx} {bs : List (Nat × TypeId × List Value)} {X Y : Nat → Prop} {w w' : World} (h : Loc c bs X w) (e : Ext X w w') (hY : ∀ y, Y y → X y ∨ w.heap.size ≤ y) : Loc c bs Y w' := fun p hp => by
  have h1 := h p hp
  refine ⟨h1.1.keep e h1.2.1, fun hy => ?_, h1.2.2⟩
  rcases hY _ hy with h2 | h2
  · exact h1.2.1 h2
  · have := h1.1.lt; omega
theorem Loc.cons {c : Cx} {bs : List (Nat × TypeId × List Value)} {X : Nat → Prop} {w : World} {b : Nat} {e : TypeId} {cs : List Value} (h : Loc c bs X w) (k : Blk w.heap b e cs) (hx : ¬ X b) (hm : b ≠ c.m) : Loc c ((b, e, cs) :: bs) X w := fun p hp => by
  rcases List.mem_cons.1 hp with rfl | hp
  · exact ⟨k, hx, hm⟩
  · exact h p hp
theorem Loc.get {c : Cx} {bs : List (Nat × TypeId × List Value)} {X : Nat → Prop} {w : World} {b : Nat} {e : TypeId} {cs : List Value} (h : Loc c bs X w) (hm : (b, e, cs) ∈ bs) : Blk w.heap b e cs := (h _ hm).1
/-- All ways of a row are added. -/
theorem addall {c : Cx} {X X1 : Nat → Prop} {w0 w : World} {b : Nat} {ws S : List Wy} {a : Option Addr} {l cp : Nat} {bs : List (Nat × TypeId × List Value)} {K : World → Prop} {QQ : List PanicEntry → World → Prop} (SL : LSt c X w0 b X1 w ws) (r : WaysAt c X1 w a l cp S) (hS : S.length ≤ 1000) (hL : Loc c bs X1 w) {us : List Wy} (hws : ws = addA [] us) (hb : ∀ z ∈ us ++ S, z.1 ≤ 200)
    (hK : ∀ (X2 : Nat → Prop) (w' : World), LSt c X w0 b X2 w' (addA ws S) → Loc c bs X2 w' → K w') :
    ∃ (I111 : Nat → Int → World → Prop), (∃ (k113 : Nat), I111 k113 0 w) ∧ ∀ (k112 : Nat) (d115 : Nat → Value) (n116 : Int) (w114 : World), I111 k112 n116 w114 → (((decide ((n116 : Int) < ((l : Nat) : Int))) = true → ∃ (b117 : Nat) (o118 : Nat), ((a : Option Addr) = some ⟨b117, o118, none⟩ ∧ 0 ≤ (n116 : Int) ∧ (n116 : Int) < ((l : Nat) : Int)) ∧ ∃ (n119 : Int), cellH w114.heap b117 (o118 + (Int.toNat n116) * 21) = some (.int .i64 n119) ∧ ∃ (g120 : Nat → Int), intsAt w114.heap b117 (o118 + (Int.toNat n116) * 21 + 1) 20 g120 ∧ newC [.int .i64 0, .int .i64 0, .int .i64 0, .int .i64 0, .int .i64 0, .int .i64 0, .int .i64 0, .int .i64 0, .int .i64 0, .int .i64 0, .int .i64 0, .int .i64 0, .int .i64 0, .int .i64 0, .int .i64 0, .int .i64 0, .int .i64 0, .int .i64 0, .int .i64 0, .int .i64 0, .int .i64 0] 142 (fun (b121 : Nat) (w122 : World) => stW b121 0 [.int .i64 n119, .int .i64 (g120 0), .int .i64 (g120 1), .int .i64 (g120 2), .int .i64 (g120 3), .int .i64 (g120 4), .int .i64 (g120 5), .int .i64 (g120 6), .int .i64 (g120 7), .int .i64 (g120 8), .int .i64 (g120 9), .int .i64 (g120 10), .int .i64 (g120 11), .int .i64 (g120 12), .int .i64 (g120 13), .int .i64 (g120 14), .int .i64 (g120 15), .int .i64 (g120 16), .int .i64 (g120 17), .int .i64 (g120 18), .int .i64 (g120 19)] (fun (w123 : World) => ∃ (n124 : Int), cellH w123.heap b121 0 = some (.int .i64 n124) ∧ ∃ (g125 : Nat → Int), intsAt w123.heap b121 1 20 g125 ∧ Cl Try.prog 129 ([.pointer (some ⟨b, 0, none⟩), .agg #[.int .i64 n124, .int .i64 (g125 0), .int .i64 (g125 1), .int .i64 (g125 2), .int .i64 (g125 3), .int .i64 (g125 4), .int .i64 (g125 5), .int .i64 (g125 6), .int .i64 (g125 7), .int .i64 (g125 8), .int .i64 (g125 9), .int .i64 (g125 10), .int .i64 (g125 11), .int .i64 (g125 12), .int .i64 (g125 13), .int .i64 (g125 14), .int .i64 (g125 15), .int .i64 (g125 16), .int .i64 (g125 17), .int .i64 (g125 18), .int .i64 (g125 19)]]) w123 (retG (fun (r127 : Value) (w126 : World) => r127 = .tuple #[] ∧ (∃ (m128 : Nat), m128 < k112 ∧ I111 m128 (IntKind.wrap .i64 (n116 + 1)) w126)) QQ)) w122) w114) ∧ ((decide ((n116 : Int) < ((l : Nat) : Int))) = false → K  w114)) := by
  have hl := r.len
  refine ⟨fun k n w' => ∃ (A B : List Wy) (X2 : Nat → Prop), S = A ++ B ∧ n = A.length ∧ k = B.length ∧ LSt c X w0 b X2 w' (addA ws A) ∧ WaysAt c X2 w' a l cp S ∧ Loc c bs X2 w', ⟨_, [], S, X1, rfl, rfl, rfl, SL, r, hL⟩, ?_⟩
  clear SL r hL
  rintro k d n w1 ⟨A, B, X2, hAB, rfl, rfl, S1, r1, L1⟩
  have hABl : S.length = A.length + B.length := by rw [hAB]; simp
  have e0 : Int.toNat (A.length : Int) = A.length := by omega
  have e1 : IntKind.wrap .i64 ((A.length : Int) + 1) = ((A.length + 1 : Nat) : Int) := by rw [w64 (by omega)]; omega
  rw [e0, e1]
  refine ⟨fun g => ?_, fun g => ?_⟩
  · have g' : A.length < l := by have := of_decide_eq_true g; omega
    obtain ⟨x, B', rfl⟩ : ∃ x B', B = x :: B' := by
      cases B with
      | nil => simp at hABl; omega
      | cons x B' => exact ⟨x, B', rfl⟩
    have hxb : x.1 ≤ 200 := hb x (by rw [hAB]; simp)
    have r1' := r1
    rw [hAB] at r1'
    obtain ⟨ba, hba, _, hx1, hx2⟩ := r1'.elem
    refine ⟨ba, 0, ⟨hba, by omega, by omega⟩, _, hx1, _, hx2, ?_⟩
    refine newC_in fun w2 s2 k2 e2 => ?_
    refine copy_way k2 rfl x fun w3 s3 k3 e3 => ?_
    have B3 : Below w1.heap.size w1 w3 := Ext.to (Ext.to (Below.refl _ _) e2 fun _ h => h.elim) e3 fun i hi => by omega
    refine ⟨_, k3.way.1, _, k3.way.2, ?_⟩
    refine ((S1.below B3).add x hxb ?_).use fun e w4 he => ?_
    · rw [hws, ← addA_append]
      refine Nat.le_trans (addA_short (n := 200) fun z hz => hb z ?_) (by decide)
      rw [hAB]
      rcases List.mem_append.1 hz with hz | hz <;> simp [hz]
    obtain ⟨rfl, X3, S4, e4, hX3⟩ := he
    have hz3 := B3.size
    refine ⟨rfl, B'.length, by simp, A ++ [x], B', X3, by rw [hAB]; simp, by simp, rfl, ?_, (r1.below B3).grow e4 (fun _ h => .inl h) hX3, (L1.below B3).grow e4 hX3⟩
    rw [addA_append]; exact S4
  · have g' : ¬ A.length < l := by have := of_decide_eq_false g; omega
    have : B = [] := by
      cases B with
      | nil => rfl
      | cons x r => simp at hABl; omega
    subst this
    rw [List.append_nil] at hAB
    subst hAB
    exact hK X2 w1 S1 L1
/-! ### The closures -/
theorem clos132 {c : Cx} {X : Nat → Prop} {w : World} {k i b5 b102 : Nat} {kid : Int} (hk : kid = k) (h : WaysC c k) (hF : FInv c X w) (hi : i ≤ c.n) (h5 : cellH w.heap b5 0 = some (.pointer (some ⟨c.bf, 0, none⟩))) (h102 : cellH w.heap b102 0 = some (.int .i64 kid)) :
    Cl Try.prog 132 [.int .i64 i, .pointer (some ⟨b5, 0, none⟩), .pointer (some ⟨b102, 0, none⟩)] w (ResW c X w (c.ends k i)) := by
  subst hk
  apply vc132
  unfold V132
  refine ⟨_, _, h5, _, h102, (h X w i hF hi).use fun e w' he => ?_⟩
  obtain ⟨a, l, cp, rfl, h1, h2, h3⟩ := he
  exact ⟨a, l, cp, rfl, a, l, cp, rfl, h1, h2, h3⟩
theorem clos133 {c : Cx} {X : Nat → Prop} {w : World} {k i b5 b36 bk kl kc : Nat} {ka : Option Addr} {kid : Int} (hk : kid = k) (h : WaysC c k) (hF : FInv c X w) (hi : i ≤ c.n) (h5 : cellH w.heap b5 0 = some (.pointer (some ⟨c.bf, 0, none⟩))) (h36 : cellH w.heap b36 (0 + 6) = some (.slice ka kl kc)) (hka : ka = some ⟨bk, 0, none⟩) (hkl : kl = 1) (hb : cellH w.heap bk 0 = some (.int .i64 kid)) :
    Cl Try.prog 133 [.int .i64 i, .pointer (some ⟨b5, 0, none⟩), .pointer (some ⟨b36, 0, none⟩)] w (ResW c X w (c.ends k i)) := by
  subst hk
  apply vc133
  unfold V133
  refine drw_in fun w1 q1 e1 => ?_
  have B1 : Below w.heap.size w w1 := Ext.to (Below.refl _ _) e1 fun _ h => h.elim
  refine ⟨_, _, by rw [q1]; exact h5, _, _, _, by rw [q1]; exact h36, bk, 0, ⟨hka, by omega, by omega⟩, _, by rw [q1]; exact hb, (h X w1 i (hF.below B1) hi).use fun e w' he => ?_⟩
  obtain ⟨a, l, cp, rfl, h1, h2, h3⟩ := he
  exact ⟨a, l, cp, rfl, a, l, cp, rfl, h1, h2, (Ext.of_below B1).trans h3⟩
theorem clos134 {c : Cx} {X : Nat → Prop} {w : World} {k i b5 b7 b213 : Nat} {left : Option Nat} (h : MoreC c k) (hF : FInv c X w) (hi : i ≤ c.n) (hl : ∀ q, left = some q → q ≤ 50) (h5 : cellH w.heap b5 0 = some (.pointer (some ⟨c.bf, 0, none⟩))) (h7 : cellH w.heap b7 0 = some (.int .i64 k)) (h213 : cellH w.heap b213 0 = some (.int .i64 (leftI left))) :
    Cl Try.prog 134 [.int .i64 i, .pointer (some ⟨b5, 0, none⟩), .pointer (some ⟨b7, 0, none⟩), .pointer (some ⟨b213, 0, none⟩)] w (ResW c X w (c.more k left i)) := by
  apply vc134
  unfold V134
  refine ⟨_, _, h5, _, h7, _, h213, (h X w i left hF hi hl).use fun e w' he => ?_⟩
  obtain ⟨a, l, cp, rfl, h1, h2, h3⟩ := he
  exact ⟨a, l, cp, rfl, a, l, cp, rfl, h1, h2, h3⟩
/-! ### What the ends are -/
theorem ends_work (c : Cx) (k i : Nat) : c.ends k i = workP (fun k' p => if h : k' < k then c.ends k' p else []) (L c.t) (c.P.pieces.getD k pSta) i := by
  show endsP _ _ _ _ = _
  rw [endsP]
  rfl
theorem ends_set {c : Cx} {k i : Nat} (h : (c.P.pieces.getD k pSta).kind = 1) : c.ends k i = if i < (L c.t).length ∧ inSet (c.P.pieces.getD k pSta).set (at_ (L c.t) i) = true then [(i + 1, gNone)] else [] := by
  rw [ends_work]; unfold workP; rw [if_pos h]
theorem ends_start {c : Cx} {k i : Nat} (h : (c.P.pieces.getD k pSta).kind = 6) : c.ends k i = if i = 0 then [(i, gNone)] else [] := by
  rw [ends_work]; unfold workP; rw [if_neg (by omega), if_neg (by omega), if_neg (by omega), if_neg (by omega), if_neg (by omega), if_pos h]
theorem ends_end {c : Cx} {k i : Nat} (h : (c.P.pieces.getD k pSta).kind = 7) : c.ends k i = if i = (L c.t).length then [(i, gNone)] else [] := by
  rw [ends_work]; unfold workP; rw [if_neg (by omega), if_neg (by omega), if_neg (by omega), if_neg (by omega), if_neg (by omega), if_neg (by omega), if_pos h]
theorem ends_seq {c : Cx} {k i : Nat} (h : (c.P.pieces.getD k pSta).kind = 2) (hk : ∀ d ∈ (c.P.pieces.getD k pSta).kids, d.toNat < k) : c.ends k i = (c.P.pieces.getD k pSta).kids.foldl (fun cur d => thenP cur (c.ends d.toNat)) [(i, gNone)] := by
  rw [ends_work]; unfold workP; rw [if_neg (by omega), if_pos h]
  generalize (c.P.pieces.getD k pSta).kids = ks at hk
  generalize ([(i, gNone)] : List Wy) = cur
  induction ks generalizing cur with
  | nil => rfl
  | cons d r ih =>
    simp only [List.foldl_cons]
    rw [ih (fun d hd => hk d (List.mem_cons_of_mem _ hd))]
    have := hk d (List.mem_cons_self ..)
    congr 2
    funext p
    rw [dif_pos this]
theorem ends_alt {c : Cx} {k i : Nat} (h : (c.P.pieces.getD k pSta).kind = 3) (hk : ∀ d ∈ (c.P.pieces.getD k pSta).kids, d.toNat < k) : c.ends k i = addA [] ((c.P.pieces.getD k pSta).kids.flatMap fun d => c.ends d.toNat i) := by
  rw [ends_work]; unfold workP; rw [if_neg (by omega), if_neg (by omega), if_pos h]
  congr 1
  generalize (c.P.pieces.getD k pSta).kids = ks at hk
  induction ks with
  | nil => rfl
  | cons d r ih =>
    simp only [List.flatMap_cons]
    rw [ih (fun d hd => hk d (List.mem_cons_of_mem _ hd)), dif_pos (hk d (List.mem_cons_self ..))]
theorem sub_dif {c : Cx} {k d : Nat} (hd : d < k) : (fun p => if h : d < k then c.ends d p else []) = c.ends d := by funext p; rw [dif_pos hd]
theorem ends_group {c : Cx} {k i : Nat} {d : Int} (h : (c.P.pieces.getD k pSta).kind = 5) (hkd : (c.P.pieces.getD k pSta).kids = [d]) (hd : d.toNat < k) : c.ends k i = addA [] ((c.ends d.toNat i).map fun w => (w.1, gSet w.2 (c.P.pieces.getD k pSta).num.toNat (i, w.1))) := by
  rw [ends_work]; unfold workP; rw [if_neg (by omega), if_neg (by omega), if_neg (by omega), if_neg (by omega), if_pos h, hkd]
  simp only [List.getD_cons_zero]
  rw [dif_pos hd]
theorem ends_rep {c : Cx} {k i : Nat} {d : Int} (h : (c.P.pieces.getD k pSta).kind = 4) (hkd : (c.P.pieces.getD k pSta).kids = [d]) (hd : d.toNat < k) : c.ends k i = thenP (repP (c.ends d.toNat) (c.P.pieces.getD k pSta).min.toNat [(i, gNone)]) (c.more k (leftP (c.P.pieces.getD k pSta))) := by
  rw [ends_work]; unfold workP; rw [if_neg (by omega), if_neg (by omega), if_neg (by omega), if_pos h, hkd]
  simp only [List.getD_cons_zero]
  rw [sub_dif hd]
  have : c.sub k = c.ends d.toNat := by funext p; unfold Cx.sub; rw [hkd]; rfl
  unfold Cx.more
  rw [this]
  rfl
end Go.Proofs.Ytngbiaeliphdjaa.V
/- What further does in the reference's machine. No statement of the seat is proved here. -/
namespace Go.Proofs.Ytngbiaeliphdjaa.V
open Go.Vc Go.Proofs Go.RowKit
set_option linter.unusedVariables false
set_option linter.unusedSimpArgs false
/-- The same pattern and text, as the program's finder has them. -/
def Sx.cx (s : Sx) : Cx := ⟨s.bm, s.bd, s.N, s.P, s.t, s.pa, s.pl, s.pc, s.rs⟩
def Sx.ok (s : Sx) : Prop := CxOk s.cx
/-! ### The law -/
def decL (lf : Nat) : Option Nat := if lf = 51 then none else some lf
def lessL (lf : Nat) : Nat := if lf > 50 then lf else lf - 1
theorem decL_less {lf : Nat} (h0 : 0 < lf) (h : lf ≤ 51) : decL (lessL lf) = (decL lf).map (· - 1) := by
  unfold decL lessL
  by_cases h1 : lf = 51
  · subst h1; rfl
  · rw [if_neg (show ¬ lf > 50 from by omega), if_neg h1, if_neg (by omega)]; rfl
theorem decL_zero {lf : Nat} : decL lf = some 0 ↔ lf = 0 := by
  unfold decL
  split
  · constructor
    · intro h; cases h
    · omega
  · constructor
    · intro h; cases h; rfl
    · intro h; subst h; rfl
/-- What going on from one end gives, when a way led here. -/
def stepF (s : Sx) (k lf : Nat) (g : Gr) (i : Nat) (a : Wy) : List Wy := if i < a.1 then (s.more k (decL (lessL lf)) a.1).map (ovW (gOver g a.2)) else []
theorem ovW_ovW (g h : Gr) (x : Wy) : ovW g (ovW h x) = ovW (gOver g h) x := by
  unfold ovW
  simp only []
  rw [gOver_assoc]
theorem more_add {s : Sx} (ok : s.ok) (k lf i : Nat) (hl : lf ≤ 51) (hi : i ≤ s.n) (g : Gr) (ws : List Wy) : addA ws ((s.more k (decL lf) i).map (ovW g)) = addA ws ((if (s.P.pieces.getD k pSta).lazy then [(i, g)] else []) ++ (if lf = 0 then [] else (s.sub k i).flatMap (stepF s k lf g i)) ++ [(i, g)]) := by
  have h1 : s.more k (decL lf) i = addA [] ((if (s.P.pieces.getD k pSta).lazy then [(i, gNone)] else []) ++ (if decL lf = some 0 then [] else (s.sub k i).flatMap (stepM s.cx k (decL lf) i)) ++ [(i, gNone)]) := more_eq s.cx k (decL lf) i
  rw [h1, addA_dd (f := ovW g) fun _ => rfl]
  congr 1
  have hone : ovW g (i, gNone) = (i, g) := by unfold ovW; simp only []; rw [gOver_none]
  rw [List.map_append, List.map_append, List.map_cons, List.map_nil, hone]
  congr 2
  · split
    · rw [List.map_cons, List.map_nil, hone]
    · rfl
  · by_cases h0 : lf = 0
    · rw [if_pos h0, if_pos (decL_zero.2 h0)]; rfl
    · rw [if_neg h0, if_neg (fun h => h0 (decL_zero.1 h)), List.map_flatMap]
      have hs : ∀ a ∈ s.sub k i, (stepM s.cx k (decL lf) i a).map (ovW g) = stepF s k lf g i a := by
        intro a ha
        have hh : a.1 ≤ s.n := (CxOk.wok ok _ i hi a ha).hi
        unfold stepM stepF
        by_cases h2 : i < a.1
        · rw [if_pos ⟨h2, hh⟩, if_pos h2, List.map_map, decL_less (by omega) hl]
          apply List.map_congr_left
          intro x _
          exact ovW_ovW g a.2 x
        · rw [if_neg (fun h => h2 h.1), if_neg h2]; rfl
      generalize s.sub k i = l at hs
      induction l with
      | nil => rfl
      | cons x r ih =>
        simp only [List.flatMap_cons]
        rw [hs x (List.mem_cons_self ..), ih fun a ha => hs a (List.mem_cons_of_mem _ ha)]
/-- What was gone on from is gathered. -/
def Cmp (s : Sx) (k : Nat) (ws : List Wy) (sn : Nat → Bool) (i : Nat) : Prop := ∀ p lf, i ≤ p → p ≤ s.n → lf ≤ 51 → sn (p * 52 + lf) = true → ∀ x ∈ s.more k (decL lf) p, has ws x.1 = true
theorem has_mono {ws xs : List Wy} {p : Nat} (h : has ws p = true) : has (addA ws xs) p = true := by rw [has_addA, h, Bool.true_or]
/-! ### The memory -/
theorem NotRow.keep {S : Nat → Prop} {w w' : World} {b q : Nat} (h : NotRow w b q) (e : Ext S w w') (hb : ¬ S b) (hl : b < w.heap.size) : NotRow w' b q := fun a l cp hc => h a l cp (by rw [← Ext.cellH e hl hb]; exact hc)
def snC (s : Sx) (sn : Nat → Bool) : List Value := rowN ((s.n + 1) * 52) fun j => .bool (sn j)
/-- A list that is gathered, and where was gone on from. -/
structure SQ (s : Sx) (K : Nat) (X0 : Nat → Prop) (w0 : World) (b bs bq : Nat) (X : Nat → Prop) (w : World) (d : Nat → Bool) (sl : Nat → G3) (ws : List Wy) (sn : Nat → Bool) : Prop where
  l : SL s K X0 w0 b bs X w d sl ws
  mem : X bq
  new : w0.heap.size ≤ bq ∧ bq ≠ b ∧ bq ≠ bs
  blk : Blk w.heap bq 4 (snC s sn)
  nr : NotRow w b bq
section
variable {s : Sx} {K : Nat} {X0 X : Nat → Prop} {w0 w w' : World} {b bs bq : Nat} {d d' : Nat → Bool} {sl sl' : Nat → G3} {ws : List Wy} {sn : Nat → Bool}
theorem SQ.ltb (h : SQ s K X0 w0 b bs bq X w d sl ws sn) : b < w.heap.size := (h.l.fin.priv b h.l.mem).2.2.2.2
theorem SQ.below (h : SQ s K X0 w0 b bs bq X w d sl ws sn) (e : Below w.heap.size w w') : SQ s K X0 w0 b bs bq X w' d sl ws sn :=
  ⟨h.l.below e, h.mem, h.new, h.blk.below e, h.nr.keep (S := fun _ => False) (Ext.of_below e) (fun h => h) h.ltb⟩
theorem SQ.call (h : SQ s K X0 w0 b bs bq X w d sl ws sn) (hf : STab s K X w' d' sl') (e : Ext (fun x => x = s.bd ∨ x = s.bl) w w') : SQ s K X0 w0 b bs bq X w' d' sl' ws sn := by
  have hx : ∀ x, X x → ¬ (x = s.bd ∨ x = s.bl) := fun x hx h' => by
    have := h.l.fin.priv x hx
    rcases h' with h' | h'
    · exact this.2.1 h'
    · exact this.2.2.1 h'
  exact ⟨h.l.call hf e, h.mem, h.new, h.blk.keep e (hx _ h.mem), h.nr.keep e (hx _ h.l.mem) h.ltb⟩
theorem SQ.add (h : SQ s K X0 w0 b bs bq X w d sl ws sn) {to : Nat} {x : Gr} {g : G3} (hg : GrAt s X w g x) (hto : to ≤ s.n) (hl : ws.length ≤ 1000) :
    Cl Try.prog 155 [.pointer (some ⟨b, 0, none⟩), .int .i64 to, .slice g.1 g.2.1 g.2.2] w (fun e w' => e = .returned (.tuple #[]) ∧ ∃ X', SQ s K X0 w0 b bs bq X' w' d sl (addW ws (to, x)) sn ∧ Ext X w w' ∧ ∀ y, X' y → X y ∨ w.heap.size ≤ y) := by
  refine (h.l.add hg hto hl).use fun e w' he => ?_
  obtain ⟨rfl, X', S', e', hX', hq⟩ := he
  obtain ⟨n', eq', hm⟩ := hq bq h.blk.lt h.new.2.1 h.new.2.2 h.nr
  exact ⟨rfl, X', ⟨S', hm h.mem, h.new, h.blk.keep eq' fun h => h rfl, n'⟩, e', hX'⟩
theorem SQ.mark (h : SQ s K X0 w0 b bs bq X w d sl ws sn) {j : Nat} (hj : j < (s.n + 1) * 52) {K' : World → Prop} (hK : ∀ w', w'.heap.size = w.heap.size → Ext (fun k => k = bq) w w' → SQ s K X0 w0 b bs bq X w' d sl ws (fun i => if i = j then true else sn i) → K' w') : stW bq j [.bool true] K' w := by
  refine stW_in h.blk (by unfold snC; rw [rowN_length]; exact hj) fun w2 s2 k2 e2 => hK w2 s2 e2 ?_
  have hset : segSet (snC s sn) j [.bool true] = snC s fun i => if i = j then true else sn i := by
    show (snC s sn).set j _ = _
    unfold snC
    rw [rowN_set]
    apply rowN_ext
    intro i _
    by_cases hij : i = j
    · simp only [hij, if_true]
    · simp only [hij, if_false]
  rw [hset] at k2
  have hn := h.new
  refine ⟨h.l.other e2 (fun x hx => by subst hx; exact ⟨h.mem, hn.1, hn.2.1, hn.2.2⟩) (fun a l cp hb k hk hkq => ?_), h.mem, h.new, k2, h.nr.keep e2 (fun hb => hn.2.1 hb.symm) h.ltb⟩
  subst hkq
  exact h.nr a l cp (hb.cell 1) hk
end
end Go.Proofs.Ytngbiaeliphdjaa.V
/- What further does in the reference's machine: the walk. No statement of the seat is proved here. -/
namespace Go.Proofs.Ytngbiaeliphdjaa.V
open Go.Vc Go.Proofs Go.RowKit
set_option linter.unusedVariables false
set_option linter.unusedSimpArgs false
/-- Blocks of a call's own that stay. -/
def LocS (s : Sx) (bs : List (Nat × TypeId × List Value)) (X : Nat → Prop) (w : World) : Prop := ∀ p ∈ bs, Blk w.heap p.1 p.2.1 p.2.2 ∧ ¬ X p.1 ∧ p.1 ≠ s.bd ∧ p.1 ≠ s.bl
theorem LocS.grow {s : Sx} {bs : List (Nat × TypeId × List Value)} {X Y S : Nat → Prop} {w w' : World} (h : LocS s bs X w) (e : Ext S w w') (hS : ∀ x, S x → X x ∨ x = s.bd ∨ x = s.bl) (hY : ∀ y, Y y → X y ∨ w.heap.size ≤ y) : LocS s bs Y w' := fun p hp => by
  have h1 := h p hp
  refine ⟨h1.1.keep e fun hs => ?_, fun hy => ?_, h1.2.2⟩
  · rcases hS _ hs with h2 | h2 | h2
    · exact h1.2.1 h2
    · exact h1.2.2.1 h2
    · exact h1.2.2.2 h2
  · rcases hY _ hy with h2 | h2
    · exact h1.2.1 h2
    · have := h1.1.lt; omega
theorem LocS.below {s : Sx} {bs : List (Nat × TypeId × List Value)} {X : Nat → Prop} {w w' : World} (h : LocS s bs X w) (e : Below w.heap.size w w') : LocS s bs X w' := h.grow (S := fun _ => False) (Ext.of_below e) (fun _ h => h.elim) fun _ h => .inl h
theorem LocS.cons {s : Sx} {bs : List (Nat × TypeId × List Value)} {X : Nat → Prop} {w : World} {b : Nat} {e : TypeId} {cs : List Value} (h : LocS s bs X w) (k : Blk w.heap b e cs) (hx : ¬ X b) (hm : b ≠ s.bd ∧ b ≠ s.bl) : LocS s ((b, e, cs) :: bs) X w := fun p hp => by
  rcases List.mem_cons.1 hp with rfl | hp
  · exact ⟨k, hx, hm⟩
  · exact h p hp
theorem LocS.nil (s : Sx) (X : Nat → Prop) (w : World) : LocS s [] X w := fun p hp => by cases hp
theorem LocS.get {s : Sx} {bs : List (Nat × TypeId × List Value)} {X : Nat → Prop} {w : World} {b : Nat} {e : TypeId} {cs : List Value} (h : LocS s bs X w) (hm : (b, e, cs) ∈ bs) : Blk w.heap b e cs := (h _ hm).1
theorem STab.raw {s : Sx} {K : Nat} {X : Nat → Prop} {w : World} {d : Nat → Bool} {sl : Nat → G3} (h : STab s K X w d sl) {k : Nat} {r : Raw} (hr : s.rs[k]? = some r) : RawOk w r (s.P.pieces.getD k pSta) := by
  have h1 := h.pcs.len
  have h2 := h.pcs.len'
  have hk : k < s.P.pieces.length := by
    have := (List.getElem?_eq_some_iff.1 hr).1
    omega
  refine h.pcs.all k _ _ hr ?_
  rw [List.getD_eq_getElem?_getD, List.getElem?_eq_getElem hk]; rfl
/-- Ends that may be gathered. -/
def Gd (s : Sx) (ws : List Wy) : Prop := DD ws ∧ ∀ z ∈ ws, z.1 ≤ s.n
theorem Gd.nil (s : Sx) : Gd s [] := ⟨DD.nil, by simp⟩
theorem Gd.addA {s : Sx} {ws xs : List Wy} (h : Gd s ws) (hx : ∀ z ∈ xs, z.1 ≤ s.n) : Gd s (Go.Vc.addA ws xs) := ⟨DD.addA h.1, fun z hz => by
  rcases mem_addA hz with hz | hz
  · exact h.2 z hz
  · exact hx z hz⟩
theorem Gd.len {s : Sx} (ok : s.ok) {ws : List Wy} (h : Gd s ws) : ws.length ≤ 1000 := by
  have := h.1.short h.2
  have := CxOk.n200 ok
  have : s.cx.n = s.n := rfl
  omega
theorem Sx.ok.wok {s : Sx} (h : s.ok) (k i : Nat) (hi : i ≤ s.n) : ∀ w ∈ s.ends k i, WOk s.P.groups s.n i w := CxOk.wok h k i hi
theorem Sx.ok.mok {s : Sx} (h : s.ok) (k i : Nat) (left : Option Nat) (hi : i ≤ s.n) : ∀ w ∈ s.more k left i, WOk s.P.groups s.n i w := CxOk.mok h k i left hi
def FurR (s : Sx) (K k : Nat) (X0 : Nat → Prop) (w0 : World) (b bs bq : Nat) (X : Nat → Prop) (w : World) (d : Nat → Bool) (sl : Nat → G3) (ws : List Wy) (sn : Nat → Bool) (i lf : Nat) (g : Gr) : Ending → World → Prop := fun e w' => e = .returned (.tuple #[]) ∧ ∃ (X' : Nat → Prop) (d' : Nat → Bool) (sl' : Nat → G3) (sn' : Nat → Bool), SQ s K X0 w0 b bs bq X' w' d' sl' (addA ws ((s.more k (decL lf) i).map (ovW g))) sn' ∧ Cmp s k (addA ws ((s.more k (decL lf) i).map (ovW g))) sn' i ∧ (∀ j, j < i * 52 → sn' j = sn j) ∧ Ext (fun x => X x ∨ x = s.bd ∨ x = s.bl) w w' ∧ (∀ y, X' y → X y ∨ w.heap.size ≤ y) ∧ Agr s K d d' sl sl'
theorem further_ok {s : Sx} (ok : s.ok) {K k : Nat} {X0 : Nat → Prop} {w0 : World} {b bs bq : Nat} {kid : Int} {r : Raw} (hkid : (s.P.pieces.getD k pSta).kids = [kid]) (hk0 : (kid.toNat : Int) = kid) (hkK : kid.toNat < K) (hr : s.rs[k]? = some r) (hE : EndsC s kid.toNat) : ∀ (m : Nat) (X : Nat → Prop) (w : World) (d : Nat → Bool) (sl : Nat → G3) (ws : List Wy) (sn : Nat → Bool) (i lf : Nat) (g : Gr) (gx : G3), s.n - i = m → i ≤ s.n → lf ≤ 51 → SQ s K X0 w0 b bs bq X w d sl ws sn → GrAt s X w gx g → Cmp s k ws sn i → Gd s ws →
    Cl Try.prog 159 [.pointer (some ⟨s.bm, 0, none⟩), .agg #[.int .i64 r.kind, .slice r.sa r.sl r.sc, .int .i64 r.min, .int .i64 r.max, .bool r.lazy, .int .i64 r.num, .slice r.ka r.kl r.kc], .agg #[.int .i64 (i : Int), .slice gx.1 gx.2.1 gx.2.2], .int .i64 lf, .slice (some ⟨bq, 0, none⟩) ((s.n + 1) * 52) ((s.n + 1) * 52), .pointer (some ⟨b, 0, none⟩)] w (FurR s K k X0 w0 b bs bq X w d sl ws sn i lf g) := by
  intro m
  induction m using Nat.strongRecOn with
  | _ m ih =>
  intro X w d sl ws sn i lf g gx hm hi hlf hQ hg hC hws
  have hn200 : s.n ≤ 200 := CxOk.n200 ok
  have hg9 : s.P.groups ≤ 9 := CxOk.g9 ok
  apply vc159
  unfold V159
  have hbd := hQ.l.fin.db.lt
  have hbl := hQ.l.fin.lb.lt
  have hXl : ∀ x, X x → x < w.heap.size := fun x hx => (hQ.l.fin.priv x hx).2.2.2.2
  refine newC_in fun w17 s17 k17 e17 => ?_
  generalize hb16 : w.heap.size = b16 at *
  refine newC_in fun w19 s19 k19 e19 => ?_
  generalize hb18 : w17.heap.size = b18 at *
  have B19 : Below w.heap.size w w19 := Ext.to (Ext.to (Below.refl _ _) e17 fun _ h => h.elim) e19 fun _ h => h.elim
  have Q19 := hQ.below B19
  have g19 := hg.below B19
  have L19 : LocS s [(b16, 111, r.cells), (b18, 150, [.int .i64 (i : Int), .slice gx.1 gx.2.1 gx.2.2])] X w19 := by
    refine LocS.cons (LocS.cons (LocS.nil _ _ _) k19 (fun h => ?_) ⟨by omega, by omega⟩) (k17.keep e19 fun h => h) (fun h => ?_) ⟨by omega, by omega⟩
    · have := hXl _ h; omega
    · have := hXl _ h; omega
  generalize hbs : [(b16, 111, r.cells), (b18, 150, [Value.int .i64 (i : Int), .slice gx.1 gx.2.1 gx.2.2])] = lb at L19
  have m16 : (b16, 111, r.cells) ∈ lb := by rw [← hbs]; simp
  have m18 : (b18, 150, [.int .i64 (i : Int), .slice gx.1 gx.2.1 gx.2.2]) ∈ lb := by rw [← hbs]; simp
  have ej : IntKind.wrap .i64 (IntKind.wrap .i64 ((i : Int) * 52) + (lf : Int)) = ((i * 52 + lf : Nat) : Int) := by
    rw [w64 (n := (i : Int) * 52) (by omega), w64 (by omega)]; omega
  have hj : i * 52 + lf < (s.n + 1) * 52 := by omega
  have et : 0 + Int.toNat ((i * 52 + lf : Nat) : Int) * 1 = i * 52 + lf := by omega
  refine ⟨_, (L19.get m18).cell 0, ?_⟩
  rw [ej]
  refine ⟨bq, 0, ⟨rfl, by omega, by omega⟩, sn (i * 52 + lf), ?_, fun g1 => ?_, fun g1 => ?_⟩
  · rw [et, Q19.blk.cell]
    exact rowN_get _ hj
  · refine ⟨rfl, X, d, sl, sn, ?_⟩
    have hsame : addA ws ((s.more k (decL lf) i).map (ovW g)) = ws := addA_has fun x hx => by
      obtain ⟨y, hy, rfl⟩ := List.mem_map.1 hx
      exact hC i lf (Nat.le_refl _) hi hlf g1 y hy
    rw [hsame]
    exact ⟨Q19, hC, fun _ _ => rfl, Ext.of_below B19, fun y hy => .inl hy, Agr.refl _ _ _ _⟩
  refine ⟨bq, 0, ⟨rfl, by omega, by omega⟩, ?_⟩
  rw [et]
  refine Q19.mark hj fun w26 s26 e26 Q26 => ?_
  have L26 := L19.grow (Y := X) e26 (fun x hx => by subst hx; exact .inl hQ.mem) fun y hy => .inl hy
  have g26 : GrAt s X w26 gx g := g19.grow e26 (fun x hx => by subst hx; exact .inl hQ.mem) fun y hy => .inl hy
  have E26 : Ext (fun x => X x ∨ x = s.bd ∨ x = s.bl) w w26 := (Ext.of_below B19).trans (Ext.mono e26 fun x _ hx => by subst hx; exact .inl hQ.mem)
  generalize hsn1 : (fun j => if j = i * 52 + lf then true else sn j) = sn1 at Q26
  have C26 : Cmp s k ws sn1 (i + 1) := fun p q hp1 hp2 hq ht x hx => by
    refine hC p q (by omega) hp2 hq ?_ x hx
    rw [← hsn1] at ht
    simp only [] at ht
    rwa [if_neg (by omega)] at ht
  have hz26 : w.heap.size ≤ w26.heap.size := E26.size
  generalize hlz : (if (s.P.pieces.getD k pSta).lazy then [((i : Nat), g)] else [] : List Wy) = lz
  have hlzb : ∀ z ∈ lz, z.1 ≤ s.n := by
    intro z hz
    rw [← hlz] at hz
    split at hz
    · simp only [List.mem_singleton] at hz; subst hz; exact hi
    · cases hz
  have hone : ∀ z ∈ ([(i, g)] : List Wy), z.1 ≤ s.n := by
    intro z hz; simp only [List.mem_singleton] at hz; subst hz; exact hi
  have hmore := more_add ok k lf i hlf hi g ws
  rw [hlz] at hmore
  have hlr : r.lazy = (s.P.pieces.getD k pSta).lazy := (Q26.l.fin.raw hr).lazy
  refine ⟨_, (L26.get m16).cell 4, fun w' => ∃ X', SQ s K X0 w0 b bs bq X' w' d sl (addA ws lz) sn1 ∧ LocS s lb X' w' ∧ GrAt s X' w' gx g ∧ Ext (fun x => X x ∨ x = s.bd ∨ x = s.bl) w w' ∧ (∀ y, X' y → X y ∨ w.heap.size ≤ y), ⟨fun g2 => ?_, fun g2 => ?_⟩, ?_⟩
  · refine ⟨_, (L26.get m18).cell 0, _, _, _, (L26.get m18).cell 1, ?_⟩
    refine (Q26.add g26 hi (hws.len ok)).use fun e w31 he => ?_
    obtain ⟨rfl, X3, Q31, e31, hX3⟩ := he
    refine ⟨rfl, X3, ?_, L26.grow e31 (fun _ h => .inl h) hX3, g26.grow e31 (fun _ h => .inl h) hX3, E26.trans (Ext.mono e31 fun x _ hx => .inl hx), fun y hy => ?_⟩
    · rw [← hlz, if_pos (by rw [← hlr]; exact g2)]; exact Q31
    · rcases hX3 y hy with h | h
      · exact .inl h
      · exact .inr (by omega)
  · refine ⟨X, ?_, L26, g26, E26, fun y hy => .inl hy⟩
    rw [← hlz, if_neg (by rw [← hlr, g2]; decide)]; exact Q26
  clear L26 g26 E26 hz26 Q26 e26 s26 L19 g19 Q19 B19 e19 k19 s19 e17 k17 s17
  rintro d33 w34 ⟨X1, Q34, L34, g34, E34, hX1⟩
  have G34 : Gd s (addA ws lz) := hws.addA hlzb
  have hfin : ∀ {X' : Nat → Prop} {w' : World} {ws' : List Wy} {sn' : Nat → Bool} {d' : Nat → Bool} {sl' : Nat → G3}, SQ s K X0 w0 b bs bq X' w' d' sl' ws' sn' → LocS s lb X' w' → GrAt s X' w' gx g → Ext (fun x => X x ∨ x = s.bd ∨ x = s.bl) w w' → (∀ y, X' y → X y ∨ w.heap.size ≤ y) → Gd s ws' → addA ws' [(i, g)] = addA ws ((s.more k (decL lf) i).map (ovW g)) → (∀ p, has ws p = true → has ws' p = true) → Cmp s k ws' sn' (i + 1) → (∀ j, j < (i + 1) * 52 → sn' j = sn1 j) → Agr s K d d' sl sl' →
      ∃ (n81 : Int), cellH w'.heap b18 0 = some (.int .i64 n81) ∧ ∃ (a82 : Option Addr), ∃ (l82 : Nat), ∃ (c82 : Nat), cellH w'.heap b18 1 = some (.slice a82 l82 c82) ∧ Cl Try.prog 155 ([.pointer (some ⟨b, 0, none⟩), .int .i64 n81, .slice a82 l82 c82]) w' (retG (fun (r84 : Value) (w83 : World) => r84 = .tuple #[] ∧ FurR s K k X0 w0 b bs bq X w d sl ws sn i lf g (.returned (.tuple #[])) w83) (fun c1 w1' => FurR s K k X0 w0 b bs bq X w d sl ws sn i lf g (.panicked c1) w1')) := by
    intro X' w' ws' sn' d' sl' Q' L' g' E' hX' G' he' hmo C' hs' A'
    refine ⟨_, (L'.get m18).cell 0, _, _, _, (L'.get m18).cell 1, ?_⟩
    refine (Q'.add g' hi (G'.len ok)).use fun e w5 he => ?_
    obtain ⟨rfl, X5, Q5, e5, hX5⟩ := he
    rw [show addW ws' (i, g) = addA ws' [(i, g)] from rfl, he'] at Q5
    refine ⟨rfl, rfl, X5, d', sl', sn', Q5, fun p q hp1 hp2 hq ht x hx => ?_, fun j hj2 => ?_, E'.step (T := X') e5 fun y hy hX => ?_, fun y hy => ?_, A'⟩
    · by_cases hpi : p = i
      · subst hpi
        rw [hs' _ (by omega), ← hsn1] at ht
        simp only [] at ht
        by_cases hql : q = lf
        · subst hql
          rw [has_addA, has_map (f := ovW g) (fun _ => rfl), has_iff.2 ⟨x, hx, rfl⟩, Bool.or_true]
        · rw [if_neg (by omega)] at ht
          exact has_mono (hC p q hp1 hp2 hq ht x hx)
      · rw [← he']
        exact has_mono (C' p q (by omega) hp2 hq ht x hx)
    · rw [hs' j (by omega), ← hsn1]
      simp only []
      rw [if_neg (by omega)]
    · rcases hX' y hX with h | h
      · exact .inl h
      · omega
    · rcases hX5 y hy with h | h
      · exact hX' y h
      · exact .inr (Nat.le_trans E'.size h)
  refine ⟨fun g3 => ?_, fun g3 => ?_⟩
  rotate_left
  · have g3' : lf = 0 := by have := of_decide_eq_false g3; omega
    refine hfin Q34 L34 g34 E34 hX1 G34 ?_ (fun p hp => has_mono hp) (fun p q a1 a2 a3 a4 x hx => has_mono (C26 p q a1 a2 a3 a4 x hx)) (fun _ _ => rfl) (Agr.refl _ _ _ _)
    rw [hmore, if_pos g3', List.append_nil, addA_append]
  have g3' : 0 < lf := by have := of_decide_eq_true g3; omega
  refine ⟨fun n' w' => n' = (lessL lf : Nat) ∧ w' = w34, ⟨fun g4 => ⟨?_, rfl⟩, fun g4 => ⟨?_, rfl⟩⟩, ?_⟩
  · have : lf > 50 := by have := of_decide_eq_true g4; omega
    unfold lessL; rw [if_pos this]
  · have : ¬ lf > 50 := by have := of_decide_eq_false g4; omega
    unfold lessL; rw [if_neg this, w64 (by omega)]; omega
  rintro d36 n37 w38 ⟨rfl, rfl⟩
  refine drw_in fun w39 q39 e39 => ?_
  have B39 : Below w38.heap.size w38 w39 := Ext.to (Below.refl _ _) e39 fun _ h => h.elim
  have Q39 := Q34.below B39
  have L39 := L34.below B39
  have g39 := g34.below B39
  have E39 := E34.trans (Ext.of_below B39)
  have hlen1 : (s.P.pieces.getD k pSta).kids.length = 1 := by rw [hkid]; rfl
  have hkv := (Q39.l.fin.raw hr).kids
  rw [hkid] at hkv
  have hkl : r.kl = 1 := by have := hkv.1; rw [intC_length] at this; simp at this; omega
  obtain ⟨bk, hbk, hkc⟩ := hkv.open (by omega)
  refine ⟨_, _, _, (L39.get m16).cell 6, bk, 0, ⟨hbk, by omega, by omega⟩, kid, by rw [hkc 0 (by omega)]; rfl, _, (L39.get m18).cell 0, ?_⟩
  have hcall := hE K X1 w39 d sl i hkK Q39.l.fin hi
  rw [hk0] at hcall
  refine hcall.use fun e w46 he => ?_
  obtain ⟨a45, l45, c45, d1, sl1, rfl, r46, f46, A46, e46⟩ := he
  have hsub : s.sub k = s.ends kid.toNat := by funext p; unfold Sx.sub; rw [hkid]; rfl
  have Q46 := Q39.call f46 e46
  have L46 := L39.grow (Y := X1) e46 (fun _ h => .inr h) fun _ h => .inl h
  have g46 : GrAt s X1 w46 gx g := g39.grow e46 (fun _ h => .inr h) fun _ h => .inl h
  have E46 := E39.trans (Ext.mono e46 fun x _ hx => (.inr hx : X x ∨ x = s.bd ∨ x = s.bl))
  have hstepb : ∀ (A : List Wy), (∀ a ∈ A, a.1 ≤ s.n) → ∀ z ∈ A.flatMap (stepF s k lf g i), z.1 ≤ s.n := by
    intro A hA z hz
    obtain ⟨x, hx, hz⟩ := List.mem_flatMap.1 hz
    unfold stepF at hz
    split at hz
    · obtain ⟨y, hy, rfl⟩ := List.mem_map.1 hz
      exact (ok.mok k x.1 _ (hA x hx) y hy).hi
    · cases hz
  have hwk := ok.wok kid.toNat i hi
  refine ⟨a45, l45, c45, rfl, fun m' n' w' => ∃ (A B : List Wy) (X2 : Nat → Prop) (d2 : Nat → Bool) (sl2 : Nat → G3) (sn2 : Nat → Bool), s.ends kid.toNat i = A ++ B ∧ n' = A.length ∧ m' = B.length ∧ SQ s K X0 w0 b bs bq X2 w' d2 sl2 (addA (addA ws lz) (A.flatMap (stepF s k lf g i))) sn2 ∧ LocS s lb X2 w' ∧ GrAt s X2 w' gx g ∧ EndsAt s X2 w' a45 l45 c45 (s.ends kid.toNat i) ∧ Ext (fun x => X x ∨ x = s.bd ∨ x = s.bl) w w' ∧ (∀ y, X2 y → X y ∨ w.heap.size ≤ y) ∧ Cmp s k (addA (addA ws lz) (A.flatMap (stepF s k lf g i))) sn2 (i + 1) ∧ (∀ j, j < (i + 1) * 52 → sn2 j = sn1 j) ∧ Agr s K d d2 sl sl2, ⟨_, [], _, X1, d1, sl1, sn1, rfl, rfl, rfl, Q46, L46, g46, r46, E46, hX1, fun p q a1 a2 a3 a4 x hx => has_mono (has_mono (C26 p q a1 a2 a3 a4 x hx)), fun _ _ => rfl, A46⟩, ?_⟩
  have hl45 := r46.len
  clear Q46 L46 g46 r46 E46 hcall f46 e46 A46 hkc hkv L39 g39 E39 Q39 B39 e39 q39 Q34 L34 g34 E34 hX1
  rintro m' dd n' w51 ⟨A, B, X2, d2, sl2, sn2, hAB, rfl, rfl, Q51, L51, g51, r51, E51, hX2, C51, hs51, A51⟩
  have hABl : (s.ends kid.toNat i).length = A.length + B.length := by rw [hAB]; simp
  have hAb : ∀ a ∈ A, a.1 ≤ s.n := fun a ha => (hwk a (by rw [hAB]; exact List.mem_append_left _ ha)).hi
  have e0 : Int.toNat (A.length : Int) = A.length := by omega
  have hshort : (s.ends kid.toNat i).length ≤ 201 := CxOk.short ok kid.toNat i hi
  have e1 : IntKind.wrap .i64 ((A.length : Int) + 1) = ((A.length + 1 : Nat) : Int) := by rw [w64 (by omega)]; omega
  rw [e0, e1]
  refine ⟨fun g5 => ?_, fun g5 => ?_⟩
  · have g5' : A.length < l45 := by have := of_decide_eq_true g5; omega
    obtain ⟨x, B', rfl⟩ : ∃ x B', B = x :: B' := by
      cases B with
      | nil => simp only [List.length_nil] at hABl; omega
      | cons x B' => exact ⟨x, B', rfl⟩
    have hxm : x ∈ s.ends kid.toNat i := by rw [hAB]; simp
    have hxb := hwk x hxm
    have r51' := r51
    rw [hAB] at r51'
    obtain ⟨ba, ge, hba, _, hx1, hx2, ge51⟩ := r51'.elem
    refine ⟨ba, 0, ⟨hba, by omega, by omega⟩, _, hx1, _, _, _, hx2, ?_⟩
    have hz51 := E51.size
    refine newC_in fun w59 s59 k59 e59 => ?_
    generalize hb58 : w51.heap.size = b58 at *
    refine stW_in k59 (by show 0 + 2 ≤ 2; decide) fun w60 s60 k60 e60 => ?_
    have k60' : Blk w60.heap b58 150 [.int .i64 (x.1 : Int), .slice ge.1 ge.2.1 ge.2.2] := k60
    have B60 : Below w51.heap.size w51 w60 := Ext.to (Ext.to (Below.refl _ _) e59 fun _ h => h.elim) e60 fun i hi => by omega
    have L60 := L51.below B60
    have hX58 : ¬ X2 b58 := fun h => by have := (Q51.l.fin.priv b58 h).2.2.2.2; omega
    refine ⟨_, k60'.cell 0, _, (L60.get m18).cell 0, fun g6 => ?_, fun g6 => ?_⟩
    · have g6' : i < x.1 := by have := of_decide_eq_true g6; omega
      refine drw_in fun w63 q63 e63 => ?_
      have B63 : Below w51.heap.size w51 w63 := Ext.to B60 e63 fun _ h => h.elim
      have L63 := L51.below B63
      have k63 := k60'.keep e63 fun h => h
      have l16 := L63.get m16
      have l18 := L63.get m18
      refine ⟨_, l16.cell 0, _, _, _, l16.cell 1, _, l16.cell 2, _, l16.cell 3, _, l16.cell 4, _, l16.cell 5, _, _, _, l16.cell 6, _, k63.cell 0, _, _, _, l18.cell 1, _, _, _, k63.cell 1, ?_⟩
      refine (sover_ok (by omega) (g51.below B63).1 (ge51.below B63).1).use fun e w75 he => ?_
      obtain ⟨q, rfl, hq, v75, b75⟩ := he
      have B75 := B63.vstep b75
      have L75 := L51.below B75
      have k16 := L75.get m16
      have hz63 := B63.size
      have gq : GrAt s X2 w75 (some ⟨q, 0, none⟩, s.P.groups, s.P.groups) (gOver g x.2) := ⟨v75, fun j hj => by
        obtain rfl : q = j := by simpa [blkOf] using hj
        have h1 := Q51.l.fin.db.lt
        have h2 := Q51.l.fin.lb.lt
        exact ⟨fun h => by have := (Q51.l.fin.priv q h).2.2.2.2; omega, by omega, by omega⟩⟩
      refine ⟨_, _, _, rfl, (k63.below b75).cell 0, ⟨k16.cell 0, k16.cell 1, k16.cell 2, k16.cell 3, k16.cell 4, k16.cell 5, k16.cell 6, trivial⟩, ?_⟩
      have Q75 := Q51.below B75
      have G75 : Gd s (addA (addA ws lz) (A.flatMap (stepF s k lf g i))) := G34.addA (hstepb A hAb)
      have hless : lessL lf ≤ 51 := by unfold lessL; split <;> omega
      refine (ih (s.n - x.1) (by have := hxb.hi; omega) X2 w75 d2 sl2 _ sn2 x.1 (lessL lf) (gOver g x.2) _ rfl hxb.hi hless Q75 gq (fun p q a1 a2 a3 a4 y hy => C51 p q (by omega) a2 a3 a4 y hy) G75).use fun e w77 he => ?_
      obtain ⟨rfl, X3, d3, sl3, sn3, Q77, C77, hs77, E77, hX3, A77⟩ := he
      have hz75 := B75.size
      have hsnoc : addA (addA ws lz) ((A ++ [x]).flatMap (stepF s k lf g i)) = addA (addA (addA ws lz) (A.flatMap (stepF s k lf g i))) ((s.more k (decL (lessL lf)) x.1).map (ovW (gOver g x.2))) := by
        rw [List.flatMap_append, addA_append, List.flatMap_cons, List.flatMap_nil, List.append_nil]
        rw [show stepF s k lf g i x = (s.more k (decL (lessL lf)) x.1).map (ovW (gOver g x.2)) from by unfold stepF; rw [if_pos g6']]
      refine ⟨rfl, B'.length, by simp, A ++ [x], B', X3, d3, sl3, sn3, by rw [hAB]; simp, by simp, rfl, by rw [hsnoc]; exact Q77, L75.grow E77 (fun _ h => h) hX3, ((g51.below B75).grow E77 (fun _ h => h) hX3), ((r51.below B75).grow E77 (fun _ h => h) hX3), ?_, fun y hy => ?_, ?_, fun j hj2 => ?_, A51.trans A77⟩
      · refine (E51.trans (Ext.of_below B75)).step (T := fun x => X2 x ∨ x = s.bd ∨ x = s.bl) E77 fun y hy hX => ?_
        rcases hX with h | h
        · rcases hX2 y h with h | h
          · exact .inl h
          · omega
        · exact .inr h
      · rcases hX3 y hy with h | h
        · exact hX2 y h
        · exact .inr (by omega)
      · rw [hsnoc]
        intro p q a1 a2 a3 a4 y hy
        by_cases hpx : x.1 ≤ p
        · exact C77 p q hpx a2 a3 a4 y hy
        · rw [hs77 _ (by omega)] at a4
          exact has_mono (C51 p q a1 a2 a3 a4 y hy)
      · rw [hs77 j (by omega)]; exact hs51 j hj2
    · have g6' : ¬ i < x.1 := by have := of_decide_eq_false g6; omega
      have hsnoc : addA (addA ws lz) ((A ++ [x]).flatMap (stepF s k lf g i)) = addA (addA ws lz) (A.flatMap (stepF s k lf g i)) := by
        rw [List.flatMap_append, addA_append, List.flatMap_cons, List.flatMap_nil, List.append_nil]
        rw [show stepF s k lf g i x = [] from by unfold stepF; rw [if_neg g6']]
        rfl
      refine ⟨B'.length, by simp, A ++ [x], B', X2, d2, sl2, sn2, by rw [hAB]; simp, by simp, rfl, by rw [hsnoc]; exact Q51.below B60, L60, g51.below B60, r51.below B60, E51.trans (Ext.of_below B60), hX2, by rw [hsnoc]; exact C51, hs51, A51⟩
  · have g5' : ¬ A.length < l45 := by have := of_decide_eq_false g5; omega
    have : B = [] := by
      cases B with
      | nil => rfl
      | cons x r => simp only [List.length_cons] at hABl; omega
    subst this
    rw [List.append_nil] at hAB
    subst hAB
    refine hfin Q51 L51 g51 E51 hX2 (G34.addA (hstepb _ hAb)) ?_ (fun p hp => has_mono (has_mono hp)) C51 hs51 A51
    rw [hmore, if_neg (by omega), addA_append, addA_append, hsub]
end Go.Proofs.Ytngbiaeliphdjaa.V
/- What ways does in the program's finder. No statement of the seat is proved here. -/
namespace Go.Vc
set_option linter.unusedVariables false
theorem repP_snoc (sub : Nat → List Wy) : ∀ (q : Nat) (cur : List Wy), repP sub (q + 1) cur = thenP (repP sub q cur) sub
  | 0, cur => rfl
  | q + 1, cur => by
    show repP sub (q + 1) (thenP cur sub) = thenP (repP sub q (thenP cur sub)) sub
    exact repP_snoc sub q (thenP cur sub)
theorem repP_dd (sub : Nat → List Wy) : ∀ (q : Nat) (cur : List Wy), DD cur → DD (repP sub q cur)
  | 0, _, h => h
  | q + 1, _, _ => repP_dd sub q _ (thenP_dd _ _)
/-- A group is set in a way. -/
theorem way_set (x : Wy) (n i : Nat) (h : n < 10) : segSet (wayC x) (1 + n * 2) [.int .i64 (i : Int), .int .i64 (x.1 : Int)] = wayC (x.1, gSet x.2 n (i, x.1)) := by
  show ((wayC x).set (1 + n * 2) _).set (1 + n * 2 + 1) _ = _
  unfold wayC
  rw [show 1 + n * 2 = (n * 2) + 1 from by omega, show n * 2 + 1 + 1 = (n * 2 + 1) + 1 from rfl]
  rw [List.set_cons_succ, List.set_cons_succ, grC_set, grC_set]
  congr 1
  apply grC_ext
  intro j hj
  unfold spI gSet
  by_cases h1 : j = n * 2 + 1
  · rw [if_pos h1, show j / 2 = n from by omega]
    simp only [if_true]
    rw [if_neg (by omega)]
  · rw [if_neg h1]
    by_cases h2 : j = n * 2
    · rw [if_pos h2, show j / 2 = n from by omega]
      simp only [if_true]
      rw [if_pos (by omega)]
    · rw [if_neg h2]
      simp only [show ¬ j / 2 = n from by omega, if_false]
end Go.Vc
namespace Go.Proofs.Ytngbiaeliphdjaa.V
open Go.Vc Go.Proofs Go.RowKit
set_option linter.unusedVariables false
set_option linter.unusedSimpArgs false
theorem cur_lit {c : Cx} {X : Nat → Prop} {w w' : World} (hX : ∀ x, X x → x < w.heap.size) (hm : c.m < w.heap.size) {x : Wy} (k : Blk w'.heap w.heap.size 142 (wayC x)) : WaysAt c X w' (some ⟨w.heap.size, 0, none⟩) 1 1 [x] := by
  refine ⟨⟨by rw [waysC_length]; rfl, Nat.le_refl _, .inr ⟨_, _, rfl, k, by rw [wayC_length], ?_⟩⟩, fun q hq => ?_⟩
  · rw [waysC_one, List.take_of_length_le (by rw [wayC_length]; decide)]
  · simp only [blkOf, Option.some.injEq] at hq
    subst hq
    exact ⟨fun h => by have := hX _ h; omega, by omega⟩
theorem FInv.raw {c : Cx} {X : Nat → Prop} {w : World} (h : FInv c X w) {k : Nat} {r : Raw} (hr : c.rs[k]? = some r) : RawOk w r (c.P.pieces.getD k pSta) := by
  have h1 := h.pcs.len
  have h2 := h.pcs.len'
  have hk : k < c.P.pieces.length := by
    have := (List.getElem?_eq_some_iff.1 hr).1
    omega
  refine h.pcs.all k _ _ hr ?_
  rw [List.getD_eq_getElem?_getD, List.getElem?_eq_getElem hk]; rfl
theorem FInv.pieceAt {c : Cx} {X : Nat → Prop} {w : World} (h : FInv c X w) {k : Nat} (hk : k < c.P.pieces.length) :
    ∃ bp r, c.pa = some ⟨bp, 0, none⟩ ∧ k < c.pl ∧ c.rs[k]? = some r ∧ ∀ (Y : Nat → Prop) (w' : World), FInv c Y w' → ∀ o, o < 7 → cellH w'.heap bp (0 + k * 7 + o) = r.cells[o]? := by
  have h1 := h.pcs.len
  have h2 := h.pcs.len'
  obtain ⟨b, hb, hc⟩ := h.pcs.row.open (by omega)
  refine ⟨b, c.rs[k]'(by omega), hb, by omega, List.getElem?_eq_getElem (by omega), fun Y w' h' => ?_⟩
  obtain ⟨b', hb', hc'⟩ := h'.pcs.row.open (by omega)
  rw [hb] at hb'
  cases hb'
  exact raw_at hc' h1 (i := k) (by omega)
theorem seqf_ok {c : Cx} (ok : CxOk c) {i : Nat} : ∀ (ks : List Int) (cur : List Wy), (∀ w ∈ cur, WOk c.P.groups c.n i w) → ∀ w ∈ ks.foldl (fun cur d => thenP cur (c.ends d.toNat)) cur, WOk c.P.groups c.n i w
  | [], _, h => h
  | d :: r, cur, h => seqf_ok ok r _ (thenP_ok h fun p hp => ok.wok d.toNat p hp)
theorem seqf_dd {c : Cx} : ∀ (ks : List Int) (cur : List Wy), DD cur → DD (ks.foldl (fun cur d => thenP cur (c.ends d.toNat)) cur)
  | [], _, h => h
  | d :: r, cur, h => seqf_dd r _ (thenP_dd _ _)
theorem wok_le {G n i : Nat} {ws : List Wy} (h : ∀ w ∈ ws, WOk G n i w) : ∀ x ∈ ws, x.1 ≤ n := fun x hx => (h x hx).hi
theorem dd_len {n : Nat} {ws : List Wy} (hd : DD ws) (h : ∀ x ∈ ws, x.1 ≤ n) (hn : n ≤ 200) : ws.length ≤ 1000 := by have := hd.short h; omega
theorem dd_id {ws : List Wy} (h : DD ws) : addA [] ws = ws := by have := addA_DD (l := []) (xs := ws) (by simpa using h); simpa using this
theorem ways_ok {c : Cx} (ok : CxOk c) : ∀ k, k < c.P.pieces.length → WaysC c k := by
  intro k
  induction k using Nat.strongRecOn with
  | _ k ih =>
  intro hk X w i hF hi
  have hpk : c.P.pieces[k]? = some (c.P.pieces.getD k pSta) := by rw [List.getD_eq_getElem?_getD, List.getElem?_eq_getElem hk]; rfl
  have hpo := ok.wf k _ hpk
  have hsm := ok.small (c.P.pieces.getD k pSta) (List.mem_of_getElem? hpk)
  have hkidb : ∀ d ∈ (c.P.pieces.getD k pSta).kids, d.toNat < k ∧ (d.toNat : Int) = d := fun d hd => by have := hpo.kids d hd; omega
  have hsub : ∀ d ∈ (c.P.pieces.getD k pSta).kids, WaysC c d.toNat := fun d hd => ih d.toNat (hkidb d hd).1 (by have := (hkidb d hd).1; omega)
  apply vc114
  unfold V114
  have hX0 : ∀ x, X x → x < w.heap.size := fun x hx => (hF.priv x hx).2.2.2
  have hml := hF.memo.lt
  have hn200 := ok.n200
  have hlen482 := ok.len
  have hnt : c.n = (L c.t).length := rfl
  have hsz := size_L c.t
  refine newC_in fun w6 s6 k6 e6 => ?_
  generalize hb5 : w.heap.size = b5 at *
  refine newC_in fun w8 s8 k8 e8 => ?_
  generalize hb7 : w6.heap.size = b7 at *
  refine ⟨_, k8.cell 0, newC_in fun w11 s11 k11 e11 => ?_⟩
  generalize hb10 : w8.heap.size = b10 at *
  refine stW_in k11 (by show 0 + 3 ≤ 3; decide) fun w12 s12 k12 e12 => ?_
  have k12' : Blk w12.heap b10 159 [.int .i64 k, .int .i64 i, .int .i64 (-2)] := k12
  refine drw_in fun w13 q13 e13 => ?_
  have B13 : Below w.heap.size w w13 := Ext.to (Ext.to (Ext.to (Ext.to (Ext.to (Below.refl _ _) e6 fun _ h => h.elim) e8 fun _ h => h.elim) e11 fun _ h => h.elim) e12 fun i hi => by omega) e13 fun _ h => h.elim
  have kk13 := k12'.keep e13 fun h => h
  have k5 : Blk w13.heap b5 82 [.pointer (some ⟨c.bf, 0, none⟩)] := (((k6.keep e8 fun h => h).keep e11 fun h => h).keep e12 (by omega)).keep e13 fun h => h
  have k7 : Blk w13.heap b7 3 [.int .i64 k] := ((k8.keep e11 fun h => h).keep e12 (by omega)).keep e13 fun h => h
  have F13 := hF.below B13
  obtain ⟨a0, l0, c0, t0, hl1, hl2⟩ := memo_get F13 (Ext.refl _ _) (k : Int) (i : Int) (-2)
  refine ⟨_, _, k5.cell 0, some c.m, F13.fb.cell 5, _, kk13.cell 0, _, kk13.cell 1, _, kk13.cell 2, a0, l0, c0, t0, hl1, fun ht => ?_, fun ht => ?_⟩
  · exact ⟨a0, l0, c0, rfl, (hl2 ht).1 k i rfl rfl rfl, F13, Ext.of_below B13⟩
  clear hl1 hl2
  refine drw_in fun w22 q22 e22 => ?_
  have B22 : Below w13.heap.size w13 w22 := Ext.to (Below.refl _ _) e22 fun _ h => h.elim
  have F22 := F13.below B22
  obtain ⟨bp, r, hpa, hkpl, hrk, hcell⟩ := F22.pieceAt hk
  have e0 : Int.toNat (k : Int) = k := by omega
  have k5b := k5.below B22
  have k7b := k7.below B22
  refine ⟨_, _, k5b.cell 0, _, _, _, F22.fb.cell 3, _, k7b.cell 0, ?_⟩
  rw [e0]
  refine ⟨bp, 0, ⟨hpa, by omega, by omega⟩, _, hcell X w22 F22 0 (by decide), _, _, _, hcell X w22 F22 1 (by decide), _, hcell X w22 F22 2 (by decide), _, hcell X w22 F22 3 (by decide), _, hcell X w22 F22 4 (by decide), _, hcell X w22 F22 5 (by decide), _, _, _, hcell X w22 F22 6 (by decide), ?_⟩
  refine newC_in fun w37 s37 k37 e37 => ?_
  generalize hb36 : w22.heap.size = b36 at *
  have B37 : Below w22.heap.size w22 w37 := Ext.to (Below.refl _ _) e37 fun _ h => h.elim
  have F37 := F22.below B37
  have k5c := k5b.below B37
  have k7c := k7b.below B37
  refine ⟨⟨hcell X w37 F37 0 (by decide), hcell X w37 F37 1 (by decide), hcell X w37 F37 2 (by decide), hcell X w37 F37 3 (by decide), hcell X w37 F37 4 (by decide), hcell X w37 F37 5 (by decide), hcell X w37 F37 6 (by decide), trivial⟩, k7c.cell 0, F37.fb.cell 3, k5c.cell 0, ?_⟩
  refine stW_in k37 (by show 0 + 7 ≤ 7; decide) fun w38 s38 k38 e38 => ?_
  have k38' : Blk w38.heap b36 111 r.cells := k38
  have B38 : Below w22.heap.size w22 w38 := Ext.to B37 e38 fun i hi => by omega
  have F38 := F22.below B38
  have hz13 := B13.size
  have hz22 := B22.size
  have E38 : Ext (fun x => x = c.m) w w38 := ((Ext.of_below B13).trans (Ext.of_below B22)).trans (Ext.of_below B38)
  have kk38 := (kk13.below B22).below B38
  have k5d := k5b.below B38
  have k7d := k7b.below B38
  refine newC_in fun w40 s40 k40 e40 => ?_
  have S40 := LSt.start F38 E38 k40 e40
  have L40 : Loc c [(b5, 82, [.pointer (some ⟨c.bf, 0, none⟩)]), (b7, 3, [.int .i64 k]), (b10, 159, [.int .i64 k, .int .i64 i, .int .i64 (-2)]), (b36, 111, r.cells)] (fun y => X y ∨ y = w38.heap.size) w40 := by
    have hx : ∀ y, w.heap.size ≤ y → y < w38.heap.size → ¬ (X y ∨ y = w38.heap.size) := fun y h1 h2 h => by
      rcases h with h | h
      · have := hX0 y h; omega
      · omega
    have l1 := k5d.lt
    have l2 := k7d.lt
    have l3 := kk38.lt
    have l4 := k38'.lt
    refine Loc.cons (Loc.cons (Loc.cons (Loc.cons (fun p hp => by cases hp) (k38'.keep e40 fun h => h) (hx _ (by omega) l4) (by omega)) (kk38.keep e40 fun h => h) (hx _ (by omega) l3) (by omega)) (k7d.keep e40 fun h => h) (hx _ (by omega) l2) (by omega)) (k5d.keep e40 fun h => h) (hx _ (by omega) l1) (by omega)
  generalize hb39 : w38.heap.size = b39 at *
  generalize hbs : [(b5, 82, [Value.pointer (some ⟨c.bf, 0, none⟩)]), (b7, 3, [.int .i64 k]), (b10, 159, [.int .i64 k, .int .i64 i, .int .i64 (-2)]), (b36, 111, r.cells)] = bs at L40
  have m5 : (b5, 82, [.pointer (some ⟨c.bf, 0, none⟩)]) ∈ bs := by rw [← hbs]; simp
  have m7 : (b7, 3, [.int .i64 k]) ∈ bs := by rw [← hbs]; simp
  have m10 : (b10, 159, [.int .i64 k, .int .i64 i, .int .i64 (-2)]) ∈ bs := by rw [← hbs]; simp
  have m36 : (b36, 111, r.cells) ∈ bs := by rw [← hbs]; simp
  clear k5d k7d kk38 e40 k40 s40 E38 F38 B38 k38' k38 e38 s38 k5c k7c F37 B37 e37 k37 s37 k5b k7b hcell F22 B22 e22 q22 k5 k7 kk13 B13 F13 e13 q13 k12' k12 e12 s12 k11 e11 s11 k8 e8 s8 k6 e6 s6
  have hrw : ∀ {Y : Nat → Prop} {w' : World}, FInv c Y w' → RawOk w' r (c.P.pieces.getD k pSta) := fun h => h.raw hrk
  have hr40 := hrw S40.fin
  have c36 := L40.get m36
  have c5 := L40.get m5
  refine ⟨_, c36.cell 0, fun w' => ∃ X', LSt c X w b39 X' w' (c.ends k i) ∧ Loc c bs X' w', ?_, ?_⟩
  rotate_left
  -- the end
  · rintro d w267 ⟨X', S', L'⟩
    refine drw_in fun w268 q268 e268 => ?_
    have B268 : Below w267.heap.size w267 w268 := Ext.to (Below.refl _ _) e268 fun _ h => h.elim
    have S'' := S'.below B268
    have L'' := L'.below B268
    obtain ⟨a1, l1, c1, w105, p1, p2, p3, p4⟩ := memo_put S'' (fun x hx => by have := hX0 x hx; omega) (by omega) (k : Int) (i : Int) (-2) fun _ _ _ _ h => good_ways h
    have d5 := L''.get m5
    have d10 := L''.get m10
    exact ⟨_, _, d5.cell 0, some c.m, S''.fin.fb.cell 5, _, d10.cell 0, _, d10.cell 1, _, d10.cell 2, a1, l1, c1, p1, w105, p2, a1, l1, c1, p3, p4⟩
  have hkind := hr40.kind
  have hJ1 : ∀ {X' : Nat → Prop} {w' : World} {ws : List Wy}, LSt c X w b39 X' w' ws → Loc c bs X' w' → ws = c.ends k i → ∃ X', LSt c X w b39 X' w' (c.ends k i) ∧ Loc c bs X' w' := fun h1 h2 h3 => ⟨_, h3 ▸ h1, h2⟩
  -- one way is added
  have hone : ∀ {X' : Nat → Prop} {w' : World} {ws : List Wy} {to : Nat} {to' : Int} {K : World → Prop} {QQ : List PanicEntry → World → Prop}, LSt c X w b39 X' w' ws → Loc c bs X' w' → ws.length ≤ 1000 → to ≤ 200 → to' = to → (∀ X2 w2, LSt c X w b39 X2 w2 (addW ws (to, gNone)) → Loc c bs X2 w2 → K w2) → Cl Try.prog 130 ([]) w' (retG (fun (r75 : Value) (w74 : World) => ∃ (g73 : Nat → Int), r75 = .agg #[.int .i64 (g73 0), .int .i64 (g73 1), .int .i64 (g73 2), .int .i64 (g73 3), .int .i64 (g73 4), .int .i64 (g73 5), .int .i64 (g73 6), .int .i64 (g73 7), .int .i64 (g73 8), .int .i64 (g73 9), .int .i64 (g73 10), .int .i64 (g73 11), .int .i64 (g73 12), .int .i64 (g73 13), .int .i64 (g73 14), .int .i64 (g73 15), .int .i64 (g73 16), .int .i64 (g73 17), .int .i64 (g73 18), .int .i64 (g73 19)] ∧ Cl Try.prog 129 ([.pointer (some ⟨b39, 0, none⟩), .agg #[.int .i64 to', .int .i64 (g73 0), .int .i64 (g73 1), .int .i64 (g73 2), .int .i64 (g73 3), .int .i64 (g73 4), .int .i64 (g73 5), .int .i64 (g73 6), .int .i64 (g73 7), .int .i64 (g73 8), .int .i64 (g73 9), .int .i64 (g73 10), .int .i64 (g73 11), .int .i64 (g73 12), .int .i64 (g73 13), .int .i64 (g73 14), .int .i64 (g73 15), .int .i64 (g73 16), .int .i64 (g73 17), .int .i64 (g73 18), .int .i64 (g73 19)]]) w74 (retG (fun (r77 : Value) (w76 : World) => r77 = .tuple #[] ∧ K  w76) QQ)) QQ) := by
    intro X' w' ws to to' K QQ S' L' hl' hto he hK
    subst he
    refine (none_ok w').ret fun w66 b66 => ⟨spI gNone, rfl, ?_⟩
    refine ((S'.below b66).add (to, gNone) hto hl').use fun e w68 he => ?_
    obtain ⟨rfl, X2, S68, e68, hX2⟩ := he
    exact ⟨rfl, hK X2 w68 S68 ((L'.below b66).grow e68 hX2)⟩
  refine ⟨fun g1 => ?_, fun g1 => ⟨fun g2 => ?_, fun g2 => ⟨fun g3 => ?_, fun g3 => ⟨fun g4 => ?_, fun g4 => ⟨fun g5 => ?_, fun g5 => ⟨fun g6 => ?_, fun g6 => ⟨fun g7 => ?_, fun g7 => ?_⟩⟩⟩⟩⟩⟩⟩
  all_goals try simp only [beq_iff_eq, beq_eq_false_iff_ne, ne_eq] at g1
  all_goals try simp only [beq_iff_eq, beq_eq_false_iff_ne, ne_eq] at g2
  all_goals try simp only [beq_iff_eq, beq_eq_false_iff_ne, ne_eq] at g3
  all_goals try simp only [beq_iff_eq, beq_eq_false_iff_ne, ne_eq] at g4
  all_goals try simp only [beq_iff_eq, beq_eq_false_iff_ne, ne_eq] at g5
  all_goals try simp only [beq_iff_eq, beq_eq_false_iff_ne, ne_eq] at g6
  all_goals try simp only [beq_iff_eq, beq_eq_false_iff_ne, ne_eq] at g7
  · -- a set
    have hk1 : (c.P.pieces.getD k pSta).kind = 1 := by omega
    have he := ends_set (i := i) hk1
    refine ⟨_, _, c5.cell 0, c.t, S40.fin.fb.cell 4, fun g => ?_, fun g => ?_⟩
    · have g' : i < c.t.size := by have := of_decide_eq_true g; omega
      have hat := at_lt (L c.t) i
      refine ⟨_, _, c5.cell 0, c.t, S40.fin.fb.cell 4, ⟨by omega, by omega⟩, _, _, _, c36.cell 1, ?_⟩
      rw [byteI c.t (j := i) rfl, w64 (n := (at_ (L c.t) i : Int)) (by omega)]
      have hsl : r.sl = (c.P.pieces.getD k pSta).set.length := by have := hr40.set.1; rw [rngC_length] at this; omega
      have hs256 := hsm.set
      refine ⟨fun m n w' => ∃ (A B : List (Int × Int)) (X' : Nat → Prop), (c.P.pieces.getD k pSta).set = A ++ B ∧ n = A.length ∧ m = B.length ∧ LSt c X w b39 X' w' (if inSet A (at_ (L c.t) i) = true then [(i + 1, gNone)] else []) ∧ Loc c bs X' w', ⟨_, [], _, _, rfl, rfl, rfl, S40, L40⟩, ?_⟩
      rintro m d n w53 ⟨A, B, X1, hAB, rfl, rfl, S53, L53⟩
      have hABl : (c.P.pieces.getD k pSta).set.length = A.length + B.length := by rw [hAB]; simp
      have e1 : Int.toNat (A.length : Int) = A.length := by omega
      have e2 : IntKind.wrap .i64 ((A.length : Int) + 1) = ((A.length + 1 : Nat) : Int) := by rw [w64 (by omega)]; omega
      rw [e1, e2]
      refine ⟨fun g8 => ?_, fun g8 => ?_⟩
      · have g8' : A.length < r.sl := by have := of_decide_eq_true g8; omega
        obtain ⟨x, B', rfl⟩ : ∃ x B', B = x :: B' := by
          cases B with
          | nil => simp only [List.length_nil] at hABl; omega
          | cons x B' => exact ⟨x, B', rfl⟩
        have hset := (hrw S53.fin).set
        obtain ⟨bs', hbs', hsc⟩ := hset.open (by omega)
        have hrg := rngC_at (c.P.pieces.getD k pSta).set A.length (by omega)
        have hx : (c.P.pieces.getD k pSta).set[A.length]'(by omega) = x := by rw [List.getElem_of_eq hAB]; simp
        rw [hx] at hrg
        refine ⟨bs', 0, ⟨hbs', by omega, by omega⟩, x.1, by rw [Nat.zero_add, hsc _ (by omega)]; exact hrg.1, x.2, by rw [Nat.zero_add, hsc _ (by omega)]; exact hrg.2, ?_⟩
        refine newC_in fun w61 s61 k61 e61 => ?_
        refine stW_in k61 (by show 0 + 2 ≤ 2; decide) fun w62 s62 k62 e62 => ?_
        have B62 : Below w53.heap.size w53 w62 := Ext.to (Ext.to (Below.refl _ _) e61 fun _ h => h.elim) e62 fun i hi => by omega
        have S62 := S53.below B62
        have L62 := L53.below B62
        have hin : inSet (A ++ [x]) (at_ (L c.t) i) = (inSet A (at_ (L c.t) i) || (decide (x.1 ≤ (at_ (L c.t) i : Int)) && decide ((at_ (L c.t) i : Int) ≤ x.2))) := by simp [inSet]
        have hlen1 : (if inSet A (at_ (L c.t) i) = true then [((i + 1 : Nat), gNone)] else [] : List Wy).length ≤ 1000 := by split <;> simp
        have hno : (decide (x.1 ≤ (at_ (L c.t) i : Int)) && decide ((at_ (L c.t) i : Int) ≤ x.2)) = false → ∃ m, m < B'.length + 1 ∧ ∃ (A' B'' : List (Int × Int)) (X' : Nat → Prop), (c.P.pieces.getD k pSta).set = A' ++ B'' ∧ ((A.length + 1 : Nat) : Int) = A'.length ∧ m = B''.length ∧ LSt c X w b39 X' w62 (if inSet A' (at_ (L c.t) i) = true then [(i + 1, gNone)] else []) ∧ Loc c bs X' w62 := fun h => by
          refine ⟨B'.length, by omega, A ++ [x], B', X1, by rw [hAB]; simp, by simp, rfl, ?_, L62⟩
          rw [hin, h, Bool.or_false]; exact S62
        refine ⟨_, k62.cell 0, fun g9 => ⟨_, k62.cell 1, fun g10 => ?_, fun g10 => hno (by rw [g10, Bool.and_false])⟩, fun g9 => hno (by rw [g9, Bool.false_and])⟩
        refine hone S62 L62 hlen1 (to := i + 1) (by omega) (by rw [w64 (by omega)]; omega) fun X2 w2 S2 L2 => ⟨B'.length, by simp, A ++ [x], B', X2, by rw [hAB]; simp, by simp, rfl, ?_, L2⟩
        rw [hin, g9, g10, Bool.and_true, Bool.or_true, if_pos rfl]
        have : addW (if inSet A (at_ (L c.t) i) = true then [((i + 1 : Nat), gNone)] else [] : List Wy) (i + 1, gNone) = [(i + 1, gNone)] := by
          split
          · simp [addW, has]
          · rfl
        rw [this] at S2
        exact S2
      · have g8' : ¬ A.length < r.sl := by have := of_decide_eq_false g8; omega
        have : B = [] := by
          cases B with
          | nil => rfl
          | cons x r => simp only [List.length_cons] at hABl; omega
        subst this
        rw [List.append_nil] at hAB
        refine hJ1 S53 L53 ?_
        rw [he, hAB]
        by_cases hc : inSet A (at_ (L c.t) i) = true
        · rw [if_pos hc, if_pos ⟨by omega, hc⟩]
        · rw [if_neg hc, if_neg fun h => hc h.2]
    · have g' : ¬ i < c.t.size := by have := of_decide_eq_false g; omega
      exact hJ1 S40 L40 (by rw [he, if_neg (by omega)])
  · -- the text's start
    have hk6 : (c.P.pieces.getD k pSta).kind = 6 := by omega
    have he := ends_start (i := i) hk6
    refine ⟨fun g => ?_, fun g => ?_⟩
    · have g' : i = 0 := by have : (i : Int) = 0 := by simpa using g
                            omega
      exact hone S40 L40 (by simp) (to := i) (by omega) rfl fun X2 w2 S2 L2 => hJ1 S2 L2 (by rw [he, if_pos g']; rfl)
    · have g' : i ≠ 0 := by have : ¬ (i : Int) = 0 := by simpa using g
                            omega
      exact hJ1 S40 L40 (by rw [he, if_neg g'])
  · -- the text's end
    have hk7 : (c.P.pieces.getD k pSta).kind = 7 := by omega
    have he := ends_end (i := i) hk7
    refine ⟨_, _, c5.cell 0, c.t, S40.fin.fb.cell 4, fun g => ?_, fun g => ?_⟩
    · have g' : i = c.t.size := by have : (i : Int) = c.t.size := by simpa using g
                                   omega
      exact hone S40 L40 (by simp) (to := i) (by omega) rfl fun X2 w2 S2 L2 => hJ1 S2 L2 (by rw [he, if_pos (by omega)]; rfl)
    · have g' : i ≠ c.t.size := by have : ¬ (i : Int) = c.t.size := by simpa using g
                                   omega
      exact hJ1 S40 L40 (by rw [he, if_neg (by omega)])
  · -- a sequence
    have hk2 : (c.P.pieces.getD k pSta).kind = 2 := by omega
    have he := ends_seq (i := i) hk2 fun d hd => (hkidb d hd).1
    have hkl121 := hsm.kids
    have hkl : r.kl = (c.P.pieces.getD k pSta).kids.length := by have := hr40.kids.1; rw [intC_length] at this; omega
    refine (none_ok w40).ret fun w87 b87 => ⟨spI gNone, rfl, newC_in fun w90 s90 k90 e90 => ?_⟩
    have k90' : Blk w90.heap w87.heap.size 142 (wayC (i, gNone)) := k90
    have S87 := S40.below b87
    have B90 : Below w87.heap.size w87 w90 := Ext.to (Below.refl _ _) e90 fun _ h => h.elim
    have S90 := S87.below B90
    have L90 := (L40.below b87).below B90
    have cu := cur_lit (c := c) (fun x hx => (S87.fin.priv x hx).2.2.2) S87.fin.memo.lt k90'
    generalize w87.heap.size = b89 at *
    refine ⟨r.ka, r.kl, r.kc, (L90.get m36).cell 6, fun m a l cp n w' => ∃ (A B : List Int) (X' : Nat → Prop), (c.P.pieces.getD k pSta).kids = A ++ B ∧ n = A.length ∧ m = B.length ∧ LSt c X w b39 X' w' [] ∧ Loc c bs X' w' ∧ WaysAt c X' w' a l cp (A.foldl (fun cur d => thenP cur (c.ends d.toNat)) [(i, gNone)]), ⟨_, [], _, _, rfl, rfl, rfl, S90, L90, cu⟩, ?_⟩
    clear cu L90 S90 B90 S87 k90' e90 k90 s90
    rintro m d a l cp n w95 ⟨A, B, X1, hAB, rfl, rfl, S95, L95, c95⟩
    have hABl : (c.P.pieces.getD k pSta).kids.length = A.length + B.length := by rw [hAB]; simp
    have e1 : Int.toNat (A.length : Int) = A.length := by omega
    have e2 : IntKind.wrap .i64 ((A.length : Int) + 1) = ((A.length + 1 : Nat) : Int) := by rw [w64 (by omega)]; omega
    rw [e1, e2]
    have hwk : ∀ w ∈ ([(i, gNone)] : List Wy), WOk c.P.groups c.n i w := fun w hw => by simp only [List.mem_singleton] at hw; subst hw; exact .one (Nat.le_refl _) hi
    have hcok := wok_le (seqf_ok ok (i := i) A [(i, gNone)] hwk)
    have hclen := dd_len (seqf_dd (c := c) A [(i, gNone)] (.one _)) hcok hn200
    refine ⟨fun g => ?_, fun g => ?_⟩
    · have g' : A.length < r.kl := by have := of_decide_eq_true g; omega
      obtain ⟨x, B', rfl⟩ : ∃ x B', B = x :: B' := by
        cases B with
        | nil => simp only [List.length_nil] at hABl; omega
        | cons x B' => exact ⟨x, B', rfl⟩
      have hxm : x ∈ (c.P.pieces.getD k pSta).kids := by rw [hAB]; simp
      have hkv := (hrw S95.fin).kids
      obtain ⟨bk, hbk, hkc⟩ := hkv.open (by omega)
      have hia := intC_at (c.P.pieces.getD k pSta).kids A.length (by omega)
      have hx : (c.P.pieces.getD k pSta).kids[A.length]'(by omega) = x := by rw [List.getElem_of_eq hAB]; simp
      rw [hx] at hia
      refine ⟨bk, 0, ⟨hbk, by omega, by omega⟩, x, by rw [Nat.zero_add, Nat.mul_one, hkc _ (by omega)]; exact hia, ?_⟩
      refine newC_in fun w103 s103 k103 e103 => ?_
      generalize hb102 : w95.heap.size = b102 at *
      refine stW_in k103 (by show 0 + 1 ≤ 1; decide) fun w104 s104 k104 e104 => ?_
      have k104' : Blk w104.heap b102 3 [.int .i64 x] := k104
      have B104 : Below w95.heap.size w95 w104 := Ext.to (Ext.to (Below.refl _ _) e103 fun _ h => h.elim) e104 fun i hi => by omega
      have S104 := S95.below B104
      have L104 := L95.below B104
      have c104 := c95.below B104
      have hm102 : b102 ≠ c.m := by have := S95.fin.memo.lt; omega
      refine ⟨_, _, (L104.get m5).cell 0, ?_⟩
      refine (then_ok (next := c.ends x.toNat) S104.fin c104 hclen hcok hn200 (fun p hp => wok_le (ok.wok x.toNat p hp)) (fun p hp => Nat.le_trans (ok.short x.toNat p hp) (by decide)) fun X' w' p hp hF' E' => ?_).use fun e w108 he => ?_
      · exact clos132 (hkidb x hxm).2.symm (hsub x hxm) hF' hp ((L104.call E').get m5 |>.cell 0) ((k104'.keep E' hm102).cell 0)
      · obtain ⟨a7, l7, c7, rfl, r7, f7, e7⟩ := he
        refine ⟨a7, l7, c7, rfl, B'.length, by simp, A ++ [x], B', X1, by rw [hAB]; simp, by simp, rfl, S104.call f7 e7, L104.call e7, ?_⟩
        rw [List.foldl_append]; exact r7
    · have g' : ¬ A.length < r.kl := by have := of_decide_eq_false g; omega
      have : B = [] := by
        cases B with
        | nil => rfl
        | cons x r => simp only [List.length_cons] at hABl; omega
      subst this
      rw [List.append_nil] at hAB
      rw [← hAB, ← he] at c95 hcok hclen
      refine addall S95 c95 hclen L95 (us := []) rfl (fun z hz => Nat.le_trans (hcok z (by simpa using hz)) hn200) fun X2 w2 S2 L2 => hJ1 S2 L2 ?_
      exact dd_id (endsP_dd _ _ _ _)
  · -- alternatives
    have hk3 : (c.P.pieces.getD k pSta).kind = 3 := by omega
    have he := ends_alt (i := i) hk3 fun d hd => (hkidb d hd).1
    have hkl121 := hsm.kids
    have hkl : r.kl = (c.P.pieces.getD k pSta).kids.length := by have := hr40.kids.1; rw [intC_length] at this; omega
    refine ⟨r.ka, r.kl, r.kc, c36.cell 6, fun m n w' => ∃ (A B : List Int) (X' : Nat → Prop), (c.P.pieces.getD k pSta).kids = A ++ B ∧ n = A.length ∧ m = B.length ∧ LSt c X w b39 X' w' (addA [] (A.flatMap fun d => c.ends d.toNat i)) ∧ Loc c bs X' w', ⟨_, [], _, _, rfl, rfl, rfl, S40, L40⟩, ?_⟩
    rintro m d n w133 ⟨A, B, X1, hAB, rfl, rfl, S133, L133⟩
    have hABl : (c.P.pieces.getD k pSta).kids.length = A.length + B.length := by rw [hAB]; simp
    have e1 : Int.toNat (A.length : Int) = A.length := by omega
    have e2 : IntKind.wrap .i64 ((A.length : Int) + 1) = ((A.length + 1 : Nat) : Int) := by rw [w64 (by omega)]; omega
    rw [e1, e2]
    refine ⟨fun g => ?_, fun g => ?_⟩
    · have g' : A.length < r.kl := by have := of_decide_eq_true g; omega
      obtain ⟨x, B', rfl⟩ : ∃ x B', B = x :: B' := by
        cases B with
        | nil => simp only [List.length_nil] at hABl; omega
        | cons x B' => exact ⟨x, B', rfl⟩
      have hxm : x ∈ (c.P.pieces.getD k pSta).kids := by rw [hAB]; simp
      have hkv := (hrw S133.fin).kids
      obtain ⟨bk, hbk, hkc⟩ := hkv.open (by omega)
      have hia := intC_at (c.P.pieces.getD k pSta).kids A.length (by omega)
      have hx : (c.P.pieces.getD k pSta).kids[A.length]'(by omega) = x := by rw [List.getElem_of_eq hAB]; simp
      rw [hx] at hia
      refine ⟨bk, 0, ⟨hbk, by omega, by omega⟩, x, by rw [Nat.zero_add, Nat.mul_one, hkc _ (by omega)]; exact hia, ?_⟩
      refine ⟨_, _, (L133.get m5).cell 0, ?_⟩
      have hcall := hsub x hxm X1 w133 i S133.fin hi
      rw [(hkidb x hxm).2] at hcall
      refine hcall.use fun e w142 he => ?_
      obtain ⟨a1, l1, c1, rfl, r1, f1, e1⟩ := he
      refine ⟨a1, l1, c1, rfl, ?_⟩
      refine addall (S133.call f1 e1) r1 (Nat.le_trans (ok.short x.toNat i hi) (by decide)) (L133.call e1) rfl (fun z hz => ?_) fun X2 w2 S2 L2 => ⟨B'.length, by simp, A ++ [x], B', X2, by rw [hAB]; simp, by simp, rfl, ?_, L2⟩
      · refine Nat.le_trans ?_ hn200
        rcases List.mem_append.1 hz with hz | hz
        · simp only [List.mem_flatMap] at hz
          obtain ⟨y, _, hz⟩ := hz
          exact (ok.wok y.toNat i hi z hz).hi
        · exact (ok.wok x.toNat i hi z hz).hi
      · rw [List.flatMap_append, addA_append, List.flatMap_cons, List.flatMap_nil, List.append_nil]; exact S2
    · have g' : ¬ A.length < r.kl := by have := of_decide_eq_false g; omega
      have : B = [] := by
        cases B with
        | nil => rfl
        | cons x r => simp only [List.length_cons] at hABl; omega
      subst this
      rw [List.append_nil] at hAB
      exact hJ1 S133 L133 (by rw [he, hAB])
  · -- a group
    have hk5 : (c.P.pieces.getD k pSta).kind = 5 := by omega
    obtain ⟨kid, hkid⟩ := hpo.one (.inr hk5)
    have hxm : kid ∈ (c.P.pieces.getD k pSta).kids := by rw [hkid]; simp
    have he := ends_group (i := i) hk5 hkid (hkidb kid hxm).1
    have hnum := hpo.num hk5
    have hg9 := ok.g9
    have hkl : r.kl = 1 := by have := hr40.kids.1; rw [intC_length, hkid] at this; simp at this; omega
    refine drw_in fun w163 q163 e163 => ?_
    have B163 : Below w40.heap.size w40 w163 := Ext.to (Below.refl _ _) e163 fun _ h => h.elim
    have S163 := S40.below B163
    have L163 := L40.below B163
    have hkv := (hrw S163.fin).kids
    rw [hkid] at hkv
    obtain ⟨bk, hbk, hkc⟩ := hkv.open (by omega)
    refine ⟨_, _, (L163.get m5).cell 0, _, _, _, (L163.get m36).cell 6, bk, 0, ⟨hbk, by omega, by omega⟩, kid, by rw [hkc 0 (by omega)]; rfl, ?_⟩
    have hcall := hsub kid hxm _ w163 i S163.fin hi
    rw [(hkidb kid hxm).2] at hcall
    refine hcall.use fun e w171 he' => ?_
    obtain ⟨a1, l1, c1, rfl, r1, f1, e1⟩ := he'
    refine ⟨a1, l1, c1, rfl, ?_⟩
    have hl1 := r1.len
    have hsh := ok.short kid.toNat i hi
    have hnn : ((c.P.pieces.getD k pSta).num.toNat : Int) = (c.P.pieces.getD k pSta).num := by omega
    refine ⟨fun m n w' => ∃ (A B : List Wy) (X' : Nat → Prop), c.ends kid.toNat i = A ++ B ∧ n = A.length ∧ m = B.length ∧ LSt c X w b39 X' w' (addA [] (A.map fun w => (w.1, gSet w.2 (c.P.pieces.getD k pSta).num.toNat (i, w.1)))) ∧ Loc c bs X' w' ∧ WaysAt c X' w' a1 l1 c1 (c.ends kid.toNat i), ⟨_, [], _, _, rfl, rfl, rfl, S163.call f1 e1, L163.call e1, r1⟩, ?_⟩
    clear r1 f1 e1 hcall hkc hbk hkv L163 S163 B163 e163 q163
    rintro m d n w176 ⟨A, B, X1, hAB, rfl, rfl, S176, L176, r176⟩
    have hABl : (c.ends kid.toNat i).length = A.length + B.length := by rw [hAB]; simp
    have e1 : Int.toNat (A.length : Int) = A.length := by omega
    have e2 : IntKind.wrap .i64 ((A.length : Int) + 1) = ((A.length + 1 : Nat) : Int) := by rw [w64 (by omega)]; omega
    rw [e1, e2]
    refine ⟨fun g => ?_, fun g => ?_⟩
    · have g' : A.length < l1 := by have := of_decide_eq_true g; omega
      obtain ⟨x, B', rfl⟩ : ∃ x B', B = x :: B' := by
        cases B with
        | nil => simp only [List.length_nil] at hABl; omega
        | cons x B' => exact ⟨x, B', rfl⟩
      have hxb := ok.wok kid.toNat i hi x (by rw [hAB]; simp)
      have hxhi := hxb.hi
      have r176' := r176
      rw [hAB] at r176'
      obtain ⟨ba, hba, _, hx1, hx2⟩ := r176'.elem
      refine ⟨ba, 0, ⟨hba, by omega, by omega⟩, _, hx1, _, hx2, ?_⟩
      refine newC_in fun w184 s184 k184 e184 => ?_
      generalize hb183 : w176.heap.size = b183 at *
      refine copy_way k184 rfl x fun w185 s185 k185 e185 => ?_
      have B185 : Below w176.heap.size w176 w185 := Ext.to (Ext.to (Below.refl _ _) e184 fun _ h => h.elim) e185 fun i hi => by omega
      have L185 := L176.below B185
      have hrn : r.num = (c.P.pieces.getD k pSta).num := hr40.num
      refine ⟨_, (L185.get m36).cell 5, _, k185.way.1, ⟨by omega, by omega⟩, ?_⟩
      rw [hrn, ← hnn, Int.toNat_natCast]
      refine stW_in k185 (by rw [wayC_length]; show 1 + (c.P.pieces.getD k pSta).num.toNat * 2 + 2 ≤ 21; omega) fun w188 s188 k188 e188 => ?_
      rw [way_set x _ i (by omega)] at k188
      have B188 : Below w176.heap.size w176 w188 := Ext.to B185 e188 fun i hi => by omega
      refine ⟨_, k188.way.1, _, k188.way.2, ?_⟩
      have hz188 := B188.size
      refine ((S176.below B188).add (x.1, gSet x.2 (c.P.pieces.getD k pSta).num.toNat (i, x.1)) (by show x.1 ≤ 200; omega) ?_).use fun e w191 he' => ?_
      · refine Nat.le_trans (addA_short (n := 200) fun z hz => ?_) (by decide)
        obtain ⟨y, hy, rfl⟩ := List.mem_map.1 hz
        exact Nat.le_trans (ok.wok kid.toNat i hi y (by rw [hAB]; exact List.mem_append_left _ hy)).hi hn200
      obtain ⟨rfl, X2, S191, e191, hX2⟩ := he'
      refine ⟨rfl, B'.length, by simp, A ++ [x], B', X2, by rw [hAB]; simp, by simp, rfl, ?_, (L176.below B188).grow e191 hX2, (r176.below B188).grow e191 (fun _ h => .inl h) hX2⟩
      rw [List.map_append, addA_append]; exact S191
    · have g' : ¬ A.length < l1 := by have := of_decide_eq_false g; omega
      have : B = [] := by
        cases B with
        | nil => rfl
        | cons x r => simp only [List.length_cons] at hABl; omega
      subst this
      rw [List.append_nil] at hAB
      exact hJ1 S176 L176 (by rw [he, hAB])
  · -- a repetition
    have hk4 : (c.P.pieces.getD k pSta).kind = 4 := by omega
    obtain ⟨kid, hkid⟩ := hpo.one (.inl hk4)
    have hxm : kid ∈ (c.P.pieces.getD k pSta).kids := by rw [hkid]; simp
    have he := ends_rep (i := i) hk4 hkid (hkidb kid hxm).1
    have hrep := hpo.rep hk4
    have hmore := fmore_ok ok hk hk4 fun k' hk' => ih k' hk' (by omega)
    have hkl : r.kl = 1 := by have := hr40.kids.1; rw [intC_length, hkid] at this; simp at this; omega
    have hmin : r.min = (c.P.pieces.getD k pSta).min := hr40.min
    have hmax : r.max = (c.P.pieces.getD k pSta).max := hr40.max
    generalize hmn : (c.P.pieces.getD k pSta).min = mn at *
    generalize hmx : (c.P.pieces.getD k pSta).max = mx at *
    have hleft : leftP (c.P.pieces.getD k pSta) = if mx < 0 then none else some (mx - mn).toNat := by unfold leftP; rw [hmx, hmn]
    have hl50 : ∀ q, leftP (c.P.pieces.getD k pSta) = some q → q ≤ 50 := by
      intro q hq
      rw [hleft] at hq
      split at hq
      · cases hq
      · cases hq; omega
    have hwk : ∀ w ∈ ([(i, gNone)] : List Wy), WOk c.P.groups c.n i w := fun w hw => by simp only [List.mem_singleton] at hw; subst hw; exact .one (Nat.le_refl _) hi
    have hrok : ∀ q, ∀ x ∈ repP (c.ends kid.toNat) q [(i, gNone)], x.1 ≤ c.n := fun q => wok_le (repP_ok (fun p hp => ok.wok kid.toNat p hp) q hwk)
    have hrlen : ∀ q, (repP (c.ends kid.toNat) q [(i, gNone)]).length ≤ 1000 := fun q => dd_len (repP_dd _ q _ (.one _)) (hrok q) hn200
    -- the last part
    have hlast : ∀ {w' : World} {X' : Nat → Prop} {b213 : Nat} {a : Option Addr} {l cp : Nat} {K : World → Prop} {QQ : List PanicEntry → World → Prop}, LSt c X w b39 X' w' [] → Loc c bs X' w' → b213 ≠ c.m → Blk w'.heap b213 3 [.int .i64 (leftI (leftP (c.P.pieces.getD k pSta)))] → WaysAt c X' w' a l cp (repP (c.ends kid.toNat) mn.toNat [(i, gNone)]) → (∀ X2 w2, LSt c X w b39 X2 w2 (c.ends k i) → Loc c bs X2 w2 → K w2) → ∃ (b220 : Nat), ∃ (o221 : Nat), cellH w'.heap b5 0 = some (.pointer (some ⟨b220, o221, none⟩)) ∧ Cl Try.prog 131 ([.pointer (some ⟨b220, o221, none⟩), .slice a l cp, .func (.func 134) #[] #[.pointer (some ⟨b5, 0, none⟩), .pointer (some ⟨b7, 0, none⟩), .pointer (some ⟨b213, 0, none⟩)]]) w' (retG (fun (r224 : Value) (w223 : World) => ∃ (a222 : Option Addr), ∃ (l222 : Nat), ∃ (c222 : Nat), r224 = .slice a222 l222 c222 ∧ ∃ (I225 : Nat → Int → World → Prop), (∃ (k227 : Nat), I225 k227 0 w223) ∧ ∀ (k226 : Nat) (d229 : Nat → Value) (n230 : Int) (w228 : World), I225 k226 n230 w228 → (((decide ((n230 : Int) < ((l222 : Nat) : Int))) = true → ∃ (b231 : Nat) (o232 : Nat), ((a222 : Option Addr) = some ⟨b231, o232, none⟩ ∧ 0 ≤ (n230 : Int) ∧ (n230 : Int) < ((l222 : Nat) : Int)) ∧ ∃ (n233 : Int), cellH w228.heap b231 (o232 + (Int.toNat n230) * 21) = some (.int .i64 n233) ∧ ∃ (g234 : Nat → Int), intsAt w228.heap b231 (o232 + (Int.toNat n230) * 21 + 1) 20 g234 ∧ newC [.int .i64 0, .int .i64 0, .int .i64 0, .int .i64 0, .int .i64 0, .int .i64 0, .int .i64 0, .int .i64 0, .int .i64 0, .int .i64 0, .int .i64 0, .int .i64 0, .int .i64 0, .int .i64 0, .int .i64 0, .int .i64 0, .int .i64 0, .int .i64 0, .int .i64 0, .int .i64 0, .int .i64 0] 142 (fun (b235 : Nat) (w236 : World) => stW b235 0 [.int .i64 n233, .int .i64 (g234 0), .int .i64 (g234 1), .int .i64 (g234 2), .int .i64 (g234 3), .int .i64 (g234 4), .int .i64 (g234 5), .int .i64 (g234 6), .int .i64 (g234 7), .int .i64 (g234 8), .int .i64 (g234 9), .int .i64 (g234 10), .int .i64 (g234 11), .int .i64 (g234 12), .int .i64 (g234 13), .int .i64 (g234 14), .int .i64 (g234 15), .int .i64 (g234 16), .int .i64 (g234 17), .int .i64 (g234 18), .int .i64 (g234 19)] (fun (w237 : World) => ∃ (n238 : Int), cellH w237.heap b235 0 = some (.int .i64 n238) ∧ ∃ (g239 : Nat → Int), intsAt w237.heap b235 1 20 g239 ∧ Cl Try.prog 129 ([.pointer (some ⟨b39, 0, none⟩), .agg #[.int .i64 n238, .int .i64 (g239 0), .int .i64 (g239 1), .int .i64 (g239 2), .int .i64 (g239 3), .int .i64 (g239 4), .int .i64 (g239 5), .int .i64 (g239 6), .int .i64 (g239 7), .int .i64 (g239 8), .int .i64 (g239 9), .int .i64 (g239 10), .int .i64 (g239 11), .int .i64 (g239 12), .int .i64 (g239 13), .int .i64 (g239 14), .int .i64 (g239 15), .int .i64 (g239 16), .int .i64 (g239 17), .int .i64 (g239 18), .int .i64 (g239 19)]]) w237 (retG (fun (r241 : Value) (w240 : World) => r241 = .tuple #[] ∧ (∃ (m242 : Nat), m242 < k226 ∧ I225 m242 (IntKind.wrap .i64 (n230 + 1)) w240)) QQ)) w236) w228) ∧ ((decide ((n230 : Int) < ((l222 : Nat) : Int))) = false → K  w228))) QQ) := by
      intro w' X' b213 a l cp K QQ S' L' hm213 k213 r' hK
      refine ⟨_, _, (L'.get m5).cell 0, ?_⟩
      refine (then_ok (next := c.more k (leftP (c.P.pieces.getD k pSta))) S'.fin r' (hrlen _) (hrok _) hn200 (fun p hp => wok_le (ok.mok k p _ hp)) (fun p hp => Nat.le_trans (ok.mshort k p _ hp) (by decide)) fun X'' w'' p hp hF' E' => ?_).use fun e w2 he' => ?_
      · exact clos134 hmore hF' hp hl50 ((L'.call E').get m5 |>.cell 0) ((L'.call E').get m7 |>.cell 0) ((k213.keep E' hm213).cell 0)
      · obtain ⟨a7, l7, c7, rfl, r7, f7, e7⟩ := he'
        refine ⟨a7, l7, c7, rfl, ?_⟩
        rw [← he] at r7
        have hek : ∀ z ∈ c.ends k i, z.1 ≤ c.n := wok_le (ok.wok k i hi)
        refine addall (S'.call f7 e7) r7 (Nat.le_trans (ok.short k i hi) (by decide)) (L'.call e7) (us := []) rfl (fun z hz => Nat.le_trans (hek z (by simpa using hz)) hn200) fun X2 w3 S2 L2 => hK X2 w3 ?_ L2
        have hid : addA [] (c.ends k i) = c.ends k i := dd_id (endsP_dd _ _ _ _)
        rw [hid] at S2
        exact S2
    refine (none_ok w40).ret fun w195 b195 => ⟨spI gNone, rfl, newC_in fun w198 s198 k198 e198 => ?_⟩
    have k198' : Blk w198.heap w195.heap.size 142 (wayC (i, gNone)) := k198
    have S195 := S40.below b195
    have B198 : Below w195.heap.size w195 w198 := Ext.to (Below.refl _ _) e198 fun _ h => h.elim
    have S198 := S195.below B198
    have L198 := (L40.below b195).below B198
    have cu := cur_lit (c := c) (fun x hx => (S195.fin.priv x hx).2.2.2) S195.fin.memo.lt k198'
    generalize w195.heap.size = b197 at *
    refine ⟨r.min, (L198.get m36).cell 2, fun m a l cp n w' => ∃ (q : Nat) (X' : Nat → Prop), n = q ∧ q ≤ mn.toNat ∧ m = mn.toNat - q ∧ LSt c X w b39 X' w' [] ∧ Loc c bs X' w' ∧ WaysAt c X' w' a l cp (repP (c.ends kid.toNat) q [(i, gNone)]), ⟨_, 0, _, rfl, by omega, rfl, S198, L198, cu⟩, ?_⟩
    clear cu L198 S198 B198 S195 k198' e198 k198 s198
    rintro m d a l cp n w203 ⟨q, X1, rfl, hq, rfl, S203, L203, c203⟩
    rw [hmin]
    refine ⟨fun g => ?_, fun g => ?_⟩
    · have g' : (q : Int) < mn := of_decide_eq_true g
      have e2 : IntKind.wrap .i64 ((q : Int) + 1) = ((q + 1 : Nat) : Int) := by rw [w64 (by omega)]; omega
      rw [e2]
      refine ⟨_, _, (L203.get m5).cell 0, ?_⟩
      refine (then_ok (next := c.ends kid.toNat) S203.fin c203 (hrlen q) (hrok q) hn200 (fun p hp => wok_le (ok.wok kid.toNat p hp)) (fun p hp => Nat.le_trans (ok.short kid.toNat p hp) (by decide)) fun X' w' p hp hF' E' => ?_).use fun e w2 he' => ?_
      · have hkv := (hrw hF').kids
        rw [hkid] at hkv
        obtain ⟨bk, hbk, hkc⟩ := hkv.open (by omega)
        exact clos133 (hkidb kid hxm).2.symm (hsub kid hxm) hF' hp ((L203.call E').get m5 |>.cell 0) ((L203.call E').get m36 |>.cell 6) hbk hkl (by rw [hkc 0 (by omega)]; rfl)
      · obtain ⟨a7, l7, c7, rfl, r7, f7, e7⟩ := he'
        refine ⟨a7, l7, c7, rfl, mn.toNat - (q + 1), by omega, q + 1, X1, rfl, by omega, rfl, S203.call f7 e7, L203.call e7, ?_⟩
        rw [repP_snoc]; exact r7
    · have g' : ¬ (q : Int) < mn := of_decide_eq_false g
      obtain rfl : q = mn.toNat := by omega
      refine newC_in fun w214 s214 k214 e214 => ?_
      generalize hb213 : w203.heap.size = b213 at *
      refine stW_in k214 (by show 0 + 1 ≤ 1; decide) fun w215 s215 k215 e215 => ?_
      have k215' : Blk w215.heap b213 3 [.int .i64 (-1)] := k215
      have B215 : Below w203.heap.size w203 w215 := Ext.to (Ext.to (Below.refl _ _) e214 fun _ h => h.elim) e215 fun i hi => by omega
      have hm213 : b213 ≠ c.m := by have := S203.fin.memo.lt; omega
      refine ⟨r.max, ((L203.below B215).get m36).cell 3, ?_⟩
      rw [hmax]
      refine ⟨fun g2 => ?_, fun g2 => ?_⟩
      · have g2' := of_decide_eq_true g2
        refine ⟨r.max, ((L203.below B215).get m36).cell 3, r.min, ((L203.below B215).get m36).cell 2, ?_⟩
        rw [hmax, hmin, w64 (n := mx - mn) (by omega)]
        refine stW_in k215' (by show 0 + 1 ≤ 1; decide) fun w219 s219 k219 e219 => ?_
        have B219 : Below w203.heap.size w203 w219 := Ext.to B215 e219 fun i hi => by omega
        refine hlast (S203.below B219) (L203.below B219) hm213 ?_ (c203.below B219) fun X2 w2 S2 L2 => ⟨X2, S2, L2⟩
        rw [hleft, if_neg (by omega)]
        show Blk w219.heap b213 3 [.int .i64 (((mx - mn).toNat : Nat) : Int)]
        rw [show (((mx - mn).toNat : Nat) : Int) = mx - mn from by omega]
        exact k219
      · have g2' := of_decide_eq_false g2
        refine hlast (S203.below B215) (L203.below B215) hm213 ?_ (c203.below B215) fun X2 w2 S2 L2 => ⟨X2, S2, L2⟩
        rw [hleft, if_pos (by omega)]
        exact k215'
  · -- nothing else
    have := hpo.kind
    omega
end Go.Proofs.Ytngbiaeliphdjaa.V

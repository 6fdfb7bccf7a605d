/- Parts of a proof, put together: definitions, formulas of Go functions and lemmas. No statement of the seat is proved here. -/
import Derived.Test.YtngbiaeliphdjaaProg
import Derived.Test.YtngbiaeliphdjaaQcA
/- Printed by vcgen.py, a program of this session: formulas of Go functions, each with the proof that it gives the function's contract. No statement of the seat is proved here. -/
namespace Go.Proofs.Ytngbiaeliphdjaa.V
open Go.Vc Go.Proofs
set_option linter.unusedVariables false
set_option maxRecDepth 100000
/-- (*impl.reader).end -/
def V75 (b1 : Nat) (o2 : Nat) (R : Ending → World → Prop) : World → Prop := fun w =>
  drw (fun (w3 : World) => ∃ (n4 : Int), cellH w3.heap b1 (o2 + 1) = some (.int .i64 n4) ∧ ∃ (s5 : ByteArray), cellH w3.heap b1 o2 = some (.string s5) ∧ R (.returned (.bool (decide ((n4 : Int) ≥ ((ByteArray.size s5 : Nat) : Int))))) w3) w
def scr75 : Scr := (.run [0] (.close (.run [0, 1, 2, 3, 4, 5, 6, 7, 8, 9, 10] (.close .nil))))
theorem vc75 {b1 : Nat} {o2 : Nat} {R : Ending → World → Prop} {w : World} (h : V75 b1 o2 R w) : Cl Try.prog 75 [.pointer (some ⟨b1, o2, none⟩)] w R :=
  cl_of scr75 Try.func75 (by kernel_rfl) [.pointer (some ⟨b1, o2, none⟩)] (V75 b1 o2 R) (by kernel_rfl) h
/-- (*impl.reader).fail -/
def V76 (b1 : Nat) (o2 : Nat) (n3 : Int) (R : Ending → World → Prop) : World → Prop := fun w =>
  R (.panicked [{ v := .iface 90 (.int .i64 n3), recovered := false }]) w
def scr76 : Scr := (.run [0, 1, 2] .nil)
theorem vc76 {b1 : Nat} {o2 : Nat} {n3 : Int} {R : Ending → World → Prop} {w : World} (h : V76 b1 o2 n3 R w) : Cl Try.prog 76 [.pointer (some ⟨b1, o2, none⟩), .int .i64 n3] w R :=
  cl_of scr76 Try.func76 (by kernel_rfl) [.pointer (some ⟨b1, o2, none⟩), .int .i64 n3] (V76 b1 o2 n3 R) (by kernel_rfl) h
/-- (*impl.reader).need -/
def V143 (b1 : Nat) (o2 : Nat) (R : Ending → World → Prop) : World → Prop := fun w =>
  Cl Try.prog 75 ([.pointer (some ⟨b1, o2, none⟩)]) w (retG (fun (r5 : Value) (w4 : World) => ∃ (t3 : Bool), r5 = .bool t3 ∧ ((t3 = true → ∃ (s6 : ByteArray), cellH w4.heap b1 o2 = some (.string s6) ∧ Cl Try.prog 76 ([.pointer (some ⟨b1, o2, none⟩), .int .i64 ((ByteArray.size s6 : Nat) : Int)]) w4 (retG (fun (r8 : Value) (w7 : World) => r8 = .tuple #[] ∧ drw (fun (w9 : World) => ∃ (s10 : ByteArray), cellH w9.heap b1 o2 = some (.string s10) ∧ ∃ (n11 : Int), cellH w9.heap b1 (o2 + 1) = some (.int .i64 n11) ∧ (0 ≤ (n11 : Int) ∧ (n11 : Int) < ((ByteArray.size s10 : Nat) : Int)) ∧ R (.returned (.int .u8 (byteAt s10 (Int.toNat n11)))) w9) w7) (fun c w => R (.panicked c) w))) ∧ (t3 = false → drw (fun (w12 : World) => ∃ (s13 : ByteArray), cellH w12.heap b1 o2 = some (.string s13) ∧ ∃ (n14 : Int), cellH w12.heap b1 (o2 + 1) = some (.int .i64 n14) ∧ (0 ≤ (n14 : Int) ∧ (n14 : Int) < ((ByteArray.size s13 : Nat) : Int)) ∧ R (.returned (.int .u8 (byteAt s13 (Int.toNat n14)))) w12) w4))) (fun c w => R (.panicked c) w))
def scr143 : Scr := (.run [0] (.close (.run [0, 1] (.close (.cond (.run [0, 1, 2, 3, 4, 5, 6] (.close (.run [0, 1, 2, 3, 4, 5, 6, 7, 8, 9] (.close .nil)))) (.run [0, 1, 2, 3, 4, 5, 6, 7, 8, 9] (.close .nil)))))))
theorem vc143 {b1 : Nat} {o2 : Nat} {R : Ending → World → Prop} {w : World} (h : V143 b1 o2 R w) : Cl Try.prog 143 [.pointer (some ⟨b1, o2, none⟩)] w R :=
  cl_of scr143 Try.func143 (by kernel_rfl) [.pointer (some ⟨b1, o2, none⟩)] (V143 b1 o2 R) (by kernel_rfl) h
/-- (*impl.reader).put -/
def V110 (b1 : Nat) (o2 : Nat) (n3 : Int) (a4 : Option Addr) (l4 : Nat) (c4 : Nat) (n5 : Int) (n6 : Int) (t7 : Bool) (n8 : Int) (a9 : Option Addr) (l9 : Nat) (c9 : Nat) (R : Ending → World → Prop) : World → Prop := fun w =>
  newC [.int .i64 n3, .slice a4 l4 c4, .int .i64 n5, .int .i64 n6, .bool t7, .int .i64 n8, .slice a9 l9 c9] 111 (fun (b10 : Nat) (w11 : World) => drw (fun (w12 : World) => ∃ (a13 : Option Addr), ∃ (l13 : Nat), ∃ (c13 : Nat), cellH w12.heap b1 (o2 + 4) = some (.slice a13 l13 c13) ∧ ∃ (n14 : Int), cellH w12.heap b10 0 = some (.int .i64 n14) ∧ ∃ (a15 : Option Addr), ∃ (l15 : Nat), ∃ (c15 : Nat), cellH w12.heap b10 1 = some (.slice a15 l15 c15) ∧ ∃ (n16 : Int), cellH w12.heap b10 2 = some (.int .i64 n16) ∧ ∃ (n17 : Int), cellH w12.heap b10 3 = some (.int .i64 n17) ∧ ∃ (t18 : Bool), cellH w12.heap b10 4 = some (.bool t18) ∧ ∃ (n19 : Int), cellH w12.heap b10 5 = some (.int .i64 n19) ∧ ∃ (a20 : Option Addr), ∃ (l20 : Nat), ∃ (c20 : Nat), cellH w12.heap b10 6 = some (.slice a20 l20 c20) ∧ newC [.int .i64 n14, .slice a15 l15 c15, .int .i64 n16, .int .i64 n17, .bool t18, .int .i64 n19, .slice a20 l20 c20] 111 (fun (b21 : Nat) (w22 : World) => cellH w22.heap b1 (o2 + 4) = some (.slice a13 l13 c13) ∧ ∃ (a23 : Option Addr), ∃ (l23 : Nat), ∃ (c23 : Nat), ∃ (w24 : World), (Builtin.append_ #[35, 35] 35 #[.slice a13 l13 c13, .slice (some ⟨b21, 0, none⟩) 1 1]).run Try.prog w22 = .ok (.slice a23 l23 c23) w24 ∧ stW b1 (o2 + 4) [.slice a23 l23 c23] (fun (w25 : World) => ∃ (a26 : Option Addr), ∃ (l26 : Nat), ∃ (c26 : Nat), cellH w25.heap b1 (o2 + 4) = some (.slice a26 l26 c26) ∧ R (.returned (.int .i64 (IntKind.wrap .i64 (((l26 : Nat) : Int) - 1)))) w25) w24) w12) w11) w
def scr110 : Scr := (.run [0, 1] (.close (.run [0, 1, 2, 3, 4, 5, 6, 7, 8, 9, 10] (.close (.run [0, 1, 2, 3, 4, 5, 6] (.close .nil))))))
theorem vc110 {b1 : Nat} {o2 : Nat} {n3 : Int} {a4 : Option Addr} {l4 : Nat} {c4 : Nat} {n5 : Int} {n6 : Int} {t7 : Bool} {n8 : Int} {a9 : Option Addr} {l9 : Nat} {c9 : Nat} {R : Ending → World → Prop} {w : World} (h : V110 b1 o2 n3 a4 l4 c4 n5 n6 t7 n8 a9 l9 c9 R w) : Cl Try.prog 110 [.pointer (some ⟨b1, o2, none⟩), .agg #[.int .i64 n3, .slice a4 l4 c4, .int .i64 n5, .int .i64 n6, .bool t7, .int .i64 n8, .slice a9 l9 c9]] w R :=
  cl_of scr110 Try.func110 (by kernel_rfl) [.pointer (some ⟨b1, o2, none⟩), .agg #[.int .i64 n3, .slice a4 l4 c4, .int .i64 n5, .int .i64 n6, .bool t7, .int .i64 n8, .slice a9 l9 c9]] (V110 b1 o2 n3 a4 l4 c4 n5 n6 t7 n8 a9 l9 c9 R) (by kernel_rfl) h
/-- (*impl.bytes256).add -/
def V145 (b1 : Nat) (o2 : Nat) (n3 : Int) (n4 : Int) (R : Ending → World → Prop) : World → Prop := fun w =>
  ∃ (I5 : Nat → Int → World → Prop), (∃ (k7 : Nat), I5 k7 n3 w) ∧ ∀ (k6 : Nat) (d9 : Nat → Value) (n10 : Int) (w8 : World), I5 k6 n10 w8 → (((decide ((n10 : Int) ≤ n4)) = true → (0 ≤ (n10 : Int) ∧ (n10 : Int) < ((256 : Nat) : Int)) ∧ stW b1 (o2 + (Int.toNat n10) * 1) [.bool true] (fun (w11 : World) => (∃ (m12 : Nat), m12 < k6 ∧ I5 m12 (IntKind.wrap .i64 (n10 + 1)) w11)) w8) ∧ ((decide ((n10 : Int) ≤ n4)) = false → R (.returned (.tuple #[])) w8))
def scr145 : Scr := (.run [0, 1] (.close (.loop [(6, some (.int .i64)), (8, none), (9, none), (10, none), (11, none), (12, none), (13, none), (14, none), (15, none), (16, none)] (.run [0, 1, 2] (.close (.cond (.run [0, 1, 2, 3, 4] (.close (.run [0, 1, 2] (.close .nil)))) .nil))))))
theorem vc145 {b1 : Nat} {o2 : Nat} {n3 : Int} {n4 : Int} {R : Ending → World → Prop} {w : World} (h : V145 b1 o2 n3 n4 R w) : Cl Try.prog 145 [.pointer (some ⟨b1, o2, none⟩), .int .i64 n3, .int .i64 n4] w R :=
  cl_of scr145 Try.func145 (by kernel_rfl) [.pointer (some ⟨b1, o2, none⟩), .int .i64 n3, .int .i64 n4] (V145 b1 o2 n3 n4 R) (by kernel_rfl) h
/-- (*impl.bytes256).ranges -/
def V146 (b1 : Nat) (o2 : Nat) (R : Ending → World → Prop) : World → Prop := fun w =>
  ∃ (I3 : Nat → Option Addr → Nat → Nat → Int → World → Prop), (∃ (k5 : Nat), I3 k5 none 0 0 0 w) ∧ ∀ (k4 : Nat) (d7 : Nat → Value) (a8 : Option Addr) (l8 : Nat) (c8 : Nat) (n9 : Int) (w6 : World), I3 k4 a8 l8 c8 n9 w6 → (((decide ((n9 : Int) < 256)) = true → (0 ≤ (n9 : Int) ∧ (n9 : Int) < ((256 : Nat) : Int)) ∧ ∃ (t10 : Bool), cellH w6.heap b1 (o2 + (Int.toNat n9) * 1) = some (.bool t10) ∧ (((!t10) = true → (∃ (m11 : Nat), m11 < k4 ∧ I3 m11 a8 l8 c8 (IntKind.wrap .i64 (n9 + 1)) w6)) ∧ ((!t10) = false → ∃ (I12 : Nat → Int → World → Prop), (∃ (k14 : Nat), I12 k14 n9 w6) ∧ ∀ (k13 : Nat) (d16 : Nat → Value) (n17 : Int) (w15 : World), I12 k13 n17 w15 → (((decide ((n17 : Int) < 255)) = true → (0 ≤ (IntKind.wrap .i64 (n17 + 1) : Int) ∧ (IntKind.wrap .i64 (n17 + 1) : Int) < ((256 : Nat) : Int)) ∧ ∃ (t18 : Bool), cellH w15.heap b1 (o2 + (Int.toNat (IntKind.wrap .i64 (n17 + 1))) * 1) = some (.bool t18) ∧ ((t18 = true → (∃ (m19 : Nat), m19 < k13 ∧ I12 m19 (IntKind.wrap .i64 (n17 + 1)) w15)) ∧ (t18 = false → newC [.int .i64 n9, .int .i64 n17] 134 (fun (b20 : Nat) (w21 : World) => ∃ (a22 : Option Addr), ∃ (l22 : Nat), ∃ (c22 : Nat), ∃ (w23 : World), (Builtin.append_ #[108, 108] 108 #[.slice a8 l8 c8, .slice (some ⟨b20, 0, none⟩) 1 1]).run Try.prog w21 = .ok (.slice a22 l22 c22) w23 ∧ (∃ (m24 : Nat), m24 < k4 ∧ I3 m24 a22 l22 c22 (IntKind.wrap .i64 (n17 + 1)) w23)) w15))) ∧ ((decide ((n17 : Int) < 255)) = false → newC [.int .i64 n9, .int .i64 n17] 134 (fun (b25 : Nat) (w26 : World) => ∃ (a27 : Option Addr), ∃ (l27 : Nat), ∃ (c27 : Nat), ∃ (w28 : World), (Builtin.append_ #[108, 108] 108 #[.slice a8 l8 c8, .slice (some ⟨b25, 0, none⟩) 1 1]).run Try.prog w26 = .ok (.slice a27 l27 c27) w28 ∧ (∃ (m29 : Nat), m29 < k4 ∧ I3 m29 a27 l27 c27 (IntKind.wrap .i64 (n17 + 1)) w28)) w15))))) ∧ ((decide ((n9 : Int) < 256)) = false → R (.returned (.slice a8 l8 c8)) w6))
def scr146 : Scr := (.run [0] (.close (.run [0] (.close (.run [0] (.close (.loop [(3, some .slice), (4, some (.int .i64)), (5, none), (6, none), (7, none), (8, none), (9, none), (10, none), (11, none), (12, none), (13, none), (14, none), (15, none), (16, none), (17, none), (18, none), (19, none), (20, none), (21, none), (22, none), (23, none), (24, none), (25, none), (26, none), (27, none), (28, none), (29, none), (30, none), (31, none), (32, none), (33, none), (34, none), (35, none)] (.run [0, 1] (.close (.cond (.run [0, 1, 2, 3, 4, 5] (.close (.cond (.run [0, 1, 2] (.close .nil)) (.run [0, 1] (.close (.loop [(5, some (.int .i64)), (17, none), (18, none), (19, none), (20, none), (21, none), (22, none), (23, none), (24, none), (25, none), (26, none), (27, none), (28, none)] (.run [0, 1, 2] (.split 19 (.run [3, 4, 5, 6, 7, 8, 9] (.close (.cond (.run [0, 1, 2] (.close .nil)) (.run [0, 1, 2, 3, 4, 5, 6] (.close (.run [0, 1] (.close (.run [0, 1, 2] (.close .nil))))))))) (.run [3, 4, 5, 6, 7, 8, 9] (.close (.lit (.run [0, 1, 2, 3, 4, 5, 6] (.close (.run [0, 1] (.close (.run [0, 1, 2] (.close .nil))))))))))))))))) (.run [0, 1] (.close .nil))))))))))))
theorem vc146 {b1 : Nat} {o2 : Nat} {R : Ending → World → Prop} {w : World} (h : V146 b1 o2 R w) : Cl Try.prog 146 [.pointer (some ⟨b1, o2, none⟩)] w R :=
  cl_of scr146 Try.func146 (by kernel_rfl) [.pointer (some ⟨b1, o2, none⟩)] (V146 b1 o2 R) (by kernel_rfl) h
/-- (*impl.reader).hex -/
def V163 (b1 : Nat) (o2 : Nat) (R : Ending → World → Prop) : World → Prop := fun w =>
  Cl Try.prog 143 ([.pointer (some ⟨b1, o2, none⟩)]) w (retG (fun (r5 : Value) (w4 : World) => ∃ (n3 : Int), r5 = .int .u8 n3 ∧ ∃ (n6 : Int), cellH w4.heap b1 (o2 + 1) = some (.int .i64 n6) ∧ stW b1 (o2 + 1) [.int .i64 (IntKind.wrap .i64 (n6 + 1))] (fun (w7 : World) => (((decide ((n3 : Int) ≥ 48)) = true → (((decide ((n3 : Int) ≤ 57)) = true → R (.returned (.int .i64 (IntKind.wrap .i64 (IntKind.wrap .u8 (n3 - 48))))) w7) ∧ ((decide ((n3 : Int) ≤ 57)) = false → (((decide ((n3 : Int) ≥ 97)) = true → (((decide ((n3 : Int) ≤ 102)) = true → R (.returned (.int .i64 (IntKind.wrap .i64 ((IntKind.wrap .i64 (IntKind.wrap .u8 (n3 - 97))) + 10)))) w7) ∧ ((decide ((n3 : Int) ≤ 102)) = false → ∃ (n8 : Int), cellH w7.heap b1 (o2 + 1) = some (.int .i64 n8) ∧ Cl Try.prog 76 ([.pointer (some ⟨b1, o2, none⟩), .int .i64 (IntKind.wrap .i64 (n8 - 1))]) w7 (retG (fun (r10 : Value) (w9 : World) => r10 = .tuple #[] ∧ R (.returned (.int .i64 0)) w9) (fun c w => R (.panicked c) w))))) ∧ ((decide ((n3 : Int) ≥ 97)) = false → ∃ (n11 : Int), cellH w7.heap b1 (o2 + 1) = some (.int .i64 n11) ∧ Cl Try.prog 76 ([.pointer (some ⟨b1, o2, none⟩), .int .i64 (IntKind.wrap .i64 (n11 - 1))]) w7 (retG (fun (r13 : Value) (w12 : World) => r13 = .tuple #[] ∧ R (.returned (.int .i64 0)) w12) (fun c w => R (.panicked c) w))))))) ∧ ((decide ((n3 : Int) ≥ 48)) = false → (((decide ((n3 : Int) ≥ 97)) = true → (((decide ((n3 : Int) ≤ 102)) = true → R (.returned (.int .i64 (IntKind.wrap .i64 ((IntKind.wrap .i64 (IntKind.wrap .u8 (n3 - 97))) + 10)))) w7) ∧ ((decide ((n3 : Int) ≤ 102)) = false → ∃ (n14 : Int), cellH w7.heap b1 (o2 + 1) = some (.int .i64 n14) ∧ Cl Try.prog 76 ([.pointer (some ⟨b1, o2, none⟩), .int .i64 (IntKind.wrap .i64 (n14 - 1))]) w7 (retG (fun (r16 : Value) (w15 : World) => r16 = .tuple #[] ∧ R (.returned (.int .i64 0)) w15) (fun c w => R (.panicked c) w))))) ∧ ((decide ((n3 : Int) ≥ 97)) = false → ∃ (n17 : Int), cellH w7.heap b1 (o2 + 1) = some (.int .i64 n17) ∧ Cl Try.prog 76 ([.pointer (some ⟨b1, o2, none⟩), .int .i64 (IntKind.wrap .i64 (n17 - 1))]) w7 (retG (fun (r19 : Value) (w18 : World) => r19 = .tuple #[] ∧ R (.returned (.int .i64 0)) w18) (fun c w => R (.panicked c) w))))))) w4) (fun c w => R (.panicked c) w))
def scr163 : Scr := (.run [0] (.close (.run [0, 1, 2] (.close (.run [0, 1, 2, 3, 4, 5, 6, 7] (.close (.run [0, 1, 2] (.split 16 (.run [3, 4, 5, 6] (.close (.cond (.run [0, 1, 2, 3] (.close .nil)) (.run [0, 1, 2] (.split 26 (.run [3, 4, 5, 6] (.close (.cond (.run [0, 1, 2, 3, 4] (.close .nil)) (.run [0, 1, 2, 3, 4, 5, 6] (.close (.run [0] (.close .nil))))))) (.run [3, 4, 5, 6] (.close (.lit (.run [0, 1, 2, 3, 4, 5, 6] (.close (.run [0] (.close .nil)))))))))))) (.run [3, 4, 5, 6] (.close (.lit (.run [0, 1, 2] (.split 26 (.run [3, 4, 5, 6] (.close (.cond (.run [0, 1, 2, 3, 4] (.close .nil)) (.run [0, 1, 2, 3, 4, 5, 6] (.close (.run [0] (.close .nil))))))) (.run [3, 4, 5, 6] (.close (.lit (.run [0, 1, 2, 3, 4, 5, 6] (.close (.run [0] (.close .nil))))))))))))))))))))
theorem vc163 {b1 : Nat} {o2 : Nat} {R : Ending → World → Prop} {w : World} (h : V163 b1 o2 R w) : Cl Try.prog 163 [.pointer (some ⟨b1, o2, none⟩)] w R :=
  cl_of scr163 Try.func163 (by kernel_rfl) [.pointer (some ⟨b1, o2, none⟩)] (V163 b1 o2 R) (by kernel_rfl) h
/-- impl.low -/
def V162 (cs1 : Array Value) (R : Ending → World → Prop) : World → Prop := fun w =>
  newC cs1.toList 177 (fun (b2 : Nat) (w3 : World) => ∃ (cs4 : Array Value), cs4.size = 256 ∧ cellsAt w3.heap b2 0 cs4.toList ∧ ∃ (I5 : Nat → Int → World → Prop), (∃ (k7 : Nat), I5 k7 0 w3) ∧ ∀ (k6 : Nat) (d9 : Nat → Value) (n10 : Int) (w8 : World), I5 k6 n10 w8 → (((decide ((n10 : Int) < 256)) = true → ∃ (t11 : Bool), (Instr.index 177 (.agg cs4) (.int .i64 n10)).run Try.prog w8 = .ok (.bool t11) w8 ∧ ((t11 = true → R (.returned (.int .i64 n10)) w8) ∧ (t11 = false → (∃ (m12 : Nat), m12 < k6 ∧ I5 m12 (IntKind.wrap .i64 (n10 + 1)) w8)))) ∧ ((decide ((n10 : Int) < 256)) = false → R (.returned (.int .i64 (-1))) w8))) w
def scr162 : Scr := (.run [0, 1] (.close (.run [0, 1] (.close (.loop [(6, some (.int .i64)), (2, none), (3, none), (4, none), (7, none), (8, none), (9, none), (10, none), (11, none), (12, none)] (.run [0] (.close (.cond (.run [0, 1, 2, 3] (.close (.run [0] (.close (.cond (.run [0, 1] (.close .nil)) (.run [0, 1] (.close .nil))))))) (.run [0] (.close .nil))))))))))
theorem vc162 {cs1 : Array Value} {R : Ending → World → Prop} {w : World} (h : V162 cs1 R w) : Cl Try.prog 162 [.agg cs1] w R :=
  cl_of scr162 Try.func162 (by kernel_rfl) [.agg cs1] (V162 cs1 R) (by kernel_rfl) h
/-- (*impl.reader).escape -/
def V147 (b1 : Nat) (o2 : Nat) (R : Ending → World → Prop) : World → Prop := fun w =>
  newC (List.replicate 256 (.bool false)) 177 (fun (b3 : Nat) (w4 : World) => ∃ (n5 : Int), cellH w4.heap b1 (o2 + 1) = some (.int .i64 n5) ∧ stW b1 (o2 + 1) [.int .i64 (IntKind.wrap .i64 (n5 + 1))] (fun (w6 : World) => Cl Try.prog 143 ([.pointer (some ⟨b1, o2, none⟩)]) w6 (retG (fun (r9 : Value) (w8 : World) => ∃ (n7 : Int), r9 = .int .u8 n7 ∧ ∃ (J10 : Int → World → Prop), (((((n7 : Int) == 100) = true → Cl Try.prog 145 ([.pointer (some ⟨b3, 0, none⟩), .int .i64 48, .int .i64 57]) w8 (retG (fun (r12 : Value) (w11 : World) => r12 = .tuple #[] ∧ J10 (-1) w11) (fun c w => R (.panicked c) w))) ∧ (((n7 : Int) == 100) = false → ((((n7 : Int) == 119) = true → Cl Try.prog 145 ([.pointer (some ⟨b3, 0, none⟩), .int .i64 48, .int .i64 57]) w8 (retG (fun (r14 : Value) (w13 : World) => r14 = .tuple #[] ∧ Cl Try.prog 145 ([.pointer (some ⟨b3, 0, none⟩), .int .i64 65, .int .i64 90]) w13 (retG (fun (r16 : Value) (w15 : World) => r16 = .tuple #[] ∧ Cl Try.prog 145 ([.pointer (some ⟨b3, 0, none⟩), .int .i64 97, .int .i64 122]) w15 (retG (fun (r18 : Value) (w17 : World) => r18 = .tuple #[] ∧ Cl Try.prog 145 ([.pointer (some ⟨b3, 0, none⟩), .int .i64 95, .int .i64 95]) w17 (retG (fun (r20 : Value) (w19 : World) => r20 = .tuple #[] ∧ J10 (-1) w19) (fun c w => R (.panicked c) w))) (fun c w => R (.panicked c) w))) (fun c w => R (.panicked c) w))) (fun c w => R (.panicked c) w))) ∧ (((n7 : Int) == 119) = false → ((((n7 : Int) == 115) = true → Cl Try.prog 145 ([.pointer (some ⟨b3, 0, none⟩), .int .i64 9, .int .i64 10]) w8 (retG (fun (r22 : Value) (w21 : World) => r22 = .tuple #[] ∧ Cl Try.prog 145 ([.pointer (some ⟨b3, 0, none⟩), .int .i64 13, .int .i64 13]) w21 (retG (fun (r24 : Value) (w23 : World) => r24 = .tuple #[] ∧ Cl Try.prog 145 ([.pointer (some ⟨b3, 0, none⟩), .int .i64 32, .int .i64 32]) w23 (retG (fun (r26 : Value) (w25 : World) => r26 = .tuple #[] ∧ J10 (-1) w25) (fun c w => R (.panicked c) w))) (fun c w => R (.panicked c) w))) (fun c w => R (.panicked c) w))) ∧ (((n7 : Int) == 115) = false → ((((n7 : Int) == 110) = true → J10 10 w8) ∧ (((n7 : Int) == 110) = false → ((((n7 : Int) == 116) = true → J10 9 w8) ∧ (((n7 : Int) == 116) = false → ((((n7 : Int) == 114) = true → J10 13 w8) ∧ (((n7 : Int) == 114) = false → ((((n7 : Int) == 120) = true → ∃ (n27 : Int), cellH w8.heap b1 (o2 + 1) = some (.int .i64 n27) ∧ stW b1 (o2 + 1) [.int .i64 (IntKind.wrap .i64 (n27 + 1))] (fun (w28 : World) => Cl Try.prog 163 ([.pointer (some ⟨b1, o2, none⟩)]) w28 (retG (fun (r31 : Value) (w30 : World) => ∃ (n29 : Int), r31 = .int .i64 n29 ∧ Cl Try.prog 163 ([.pointer (some ⟨b1, o2, none⟩)]) w30 (retG (fun (r34 : Value) (w33 : World) => ∃ (n32 : Int), r34 = .int .i64 n32 ∧ Cl Try.prog 145 ([.pointer (some ⟨b3, 0, none⟩), .int .i64 (IntKind.wrap .i64 ((IntKind.wrap .i64 (16 * n29)) + n32)), .int .i64 (IntKind.wrap .i64 ((IntKind.wrap .i64 (16 * n29)) + n32))]) w33 (retG (fun (r36 : Value) (w35 : World) => r36 = .tuple #[] ∧ ∃ (cs37 : Array Value), cs37.size = 256 ∧ cellsAt w35.heap b3 0 cs37.toList ∧ stA b3 0 256 cs37 (fun (w38 : World) => ∃ (cs39 : Array Value), cs39.size = 256 ∧ cellsAt w38.heap b3 0 cs39.toList ∧ R (.returned (.tuple #[.agg cs39, .bool false])) w38) w35) (fun c w => R (.panicked c) w))) (fun c w => R (.panicked c) w))) (fun c w => R (.panicked c) w))) w8) ∧ (((n7 : Int) == 120) = false → (((decide ((n7 : Int) ≥ 33)) = true → (((decide ((n7 : Int) ≤ 126)) = true → (((decide ((n7 : Int) ≥ 48)) = true → (((decide ((n7 : Int) ≤ 57)) = true → ∃ (n40 : Int), cellH w8.heap b1 (o2 + 1) = some (.int .i64 n40) ∧ Cl Try.prog 76 ([.pointer (some ⟨b1, o2, none⟩), .int .i64 n40]) w8 (retG (fun (r42 : Value) (w41 : World) => r42 = .tuple #[] ∧ J10 (-1) w41) (fun c w => R (.panicked c) w))) ∧ ((decide ((n7 : Int) ≤ 57)) = false → (((decide ((n7 : Int) ≥ 97)) = true → (((decide ((n7 : Int) ≤ 122)) = true → ∃ (n43 : Int), cellH w8.heap b1 (o2 + 1) = some (.int .i64 n43) ∧ Cl Try.prog 76 ([.pointer (some ⟨b1, o2, none⟩), .int .i64 n43]) w8 (retG (fun (r45 : Value) (w44 : World) => r45 = .tuple #[] ∧ J10 (-1) w44) (fun c w => R (.panicked c) w))) ∧ ((decide ((n7 : Int) ≤ 122)) = false → (((decide ((n7 : Int) ≥ 65)) = true → (((!(decide ((n7 : Int) ≤ 90))) = true → J10 (IntKind.wrap .i64 n7) w8) ∧ ((!(decide ((n7 : Int) ≤ 90))) = false → ∃ (n46 : Int), cellH w8.heap b1 (o2 + 1) = some (.int .i64 n46) ∧ Cl Try.prog 76 ([.pointer (some ⟨b1, o2, none⟩), .int .i64 n46]) w8 (retG (fun (r48 : Value) (w47 : World) => r48 = .tuple #[] ∧ J10 (-1) w47) (fun c w => R (.panicked c) w))))) ∧ ((decide ((n7 : Int) ≥ 65)) = false → J10 (IntKind.wrap .i64 n7) w8))))) ∧ ((decide ((n7 : Int) ≥ 97)) = false → (((decide ((n7 : Int) ≥ 65)) = true → (((!(decide ((n7 : Int) ≤ 90))) = true → J10 (IntKind.wrap .i64 n7) w8) ∧ ((!(decide ((n7 : Int) ≤ 90))) = false → ∃ (n49 : Int), cellH w8.heap b1 (o2 + 1) = some (.int .i64 n49) ∧ Cl Try.prog 76 ([.pointer (some ⟨b1, o2, none⟩), .int .i64 n49]) w8 (retG (fun (r51 : Value) (w50 : World) => r51 = .tuple #[] ∧ J10 (-1) w50) (fun c w => R (.panicked c) w))))) ∧ ((decide ((n7 : Int) ≥ 65)) = false → J10 (IntKind.wrap .i64 n7) w8))))))) ∧ ((decide ((n7 : Int) ≥ 48)) = false → (((decide ((n7 : Int) ≥ 97)) = true → (((decide ((n7 : Int) ≤ 122)) = true → ∃ (n52 : Int), cellH w8.heap b1 (o2 + 1) = some (.int .i64 n52) ∧ Cl Try.prog 76 ([.pointer (some ⟨b1, o2, none⟩), .int .i64 n52]) w8 (retG (fun (r54 : Value) (w53 : World) => r54 = .tuple #[] ∧ J10 (-1) w53) (fun c w => R (.panicked c) w))) ∧ ((decide ((n7 : Int) ≤ 122)) = false → (((decide ((n7 : Int) ≥ 65)) = true → (((!(decide ((n7 : Int) ≤ 90))) = true → J10 (IntKind.wrap .i64 n7) w8) ∧ ((!(decide ((n7 : Int) ≤ 90))) = false → ∃ (n55 : Int), cellH w8.heap b1 (o2 + 1) = some (.int .i64 n55) ∧ Cl Try.prog 76 ([.pointer (some ⟨b1, o2, none⟩), .int .i64 n55]) w8 (retG (fun (r57 : Value) (w56 : World) => r57 = .tuple #[] ∧ J10 (-1) w56) (fun c w => R (.panicked c) w))))) ∧ ((decide ((n7 : Int) ≥ 65)) = false → J10 (IntKind.wrap .i64 n7) w8))))) ∧ ((decide ((n7 : Int) ≥ 97)) = false → (((decide ((n7 : Int) ≥ 65)) = true → (((!(decide ((n7 : Int) ≤ 90))) = true → J10 (IntKind.wrap .i64 n7) w8) ∧ ((!(decide ((n7 : Int) ≤ 90))) = false → ∃ (n58 : Int), cellH w8.heap b1 (o2 + 1) = some (.int .i64 n58) ∧ Cl Try.prog 76 ([.pointer (some ⟨b1, o2, none⟩), .int .i64 n58]) w8 (retG (fun (r60 : Value) (w59 : World) => r60 = .tuple #[] ∧ J10 (-1) w59) (fun c w => R (.panicked c) w))))) ∧ ((decide ((n7 : Int) ≥ 65)) = false → J10 (IntKind.wrap .i64 n7) w8))))))) ∧ ((decide ((n7 : Int) ≤ 126)) = false → ∃ (n61 : Int), cellH w8.heap b1 (o2 + 1) = some (.int .i64 n61) ∧ Cl Try.prog 76 ([.pointer (some ⟨b1, o2, none⟩), .int .i64 n61]) w8 (retG (fun (r63 : Value) (w62 : World) => r63 = .tuple #[] ∧ J10 (-1) w62) (fun c w => R (.panicked c) w))))) ∧ ((decide ((n7 : Int) ≥ 33)) = false → ∃ (n64 : Int), cellH w8.heap b1 (o2 + 1) = some (.int .i64 n64) ∧ Cl Try.prog 76 ([.pointer (some ⟨b1, o2, none⟩), .int .i64 n64]) w8 (retG (fun (r66 : Value) (w65 : World) => r66 = .tuple #[] ∧ J10 (-1) w65) (fun c w => R (.panicked c) w))))))))))))))))))) ∧ ∀ (d67 : Nat → Value) (n68 : Int) (w69 : World), J10 n68 w69 → ∃ (n70 : Int), cellH w69.heap b1 (o2 + 1) = some (.int .i64 n70) ∧ stW b1 (o2 + 1) [.int .i64 (IntKind.wrap .i64 (n70 + 1))] (fun (w71 : World) => (((decide ((n68 : Int) ≥ 0)) = true → Cl Try.prog 145 ([.pointer (some ⟨b3, 0, none⟩), .int .i64 n68, .int .i64 n68]) w71 (retG (fun (r73 : Value) (w72 : World) => r73 = .tuple #[] ∧ ∃ (cs74 : Array Value), cs74.size = 256 ∧ cellsAt w72.heap b3 0 cs74.toList ∧ stA b3 0 256 cs74 (fun (w75 : World) => ∃ (cs76 : Array Value), cs76.size = 256 ∧ cellsAt w75.heap b3 0 cs76.toList ∧ R (.returned (.tuple #[.agg cs76, .bool (decide ((n68 : Int) < 0))])) w75) w72) (fun c w => R (.panicked c) w))) ∧ ((decide ((n68 : Int) ≥ 0)) = false → ∃ (cs77 : Array Value), cs77.size = 256 ∧ cellsAt w71.heap b3 0 cs77.toList ∧ stA b3 0 256 cs77 (fun (w78 : World) => ∃ (cs79 : Array Value), cs79.size = 256 ∧ cellsAt w78.heap b3 0 cs79.toList ∧ R (.returned (.tuple #[.agg cs79, .bool (decide ((n68 : Int) < 0))])) w78) w71))) w69) (fun c w => R (.panicked c) w))) w4) w
def scr147 : Scr := (.run [0, 1] (.close (.run [0, 1, 2, 3, 4, 5, 6, 7] (.close (.run [0, 1, 2] (.close (.run [0] (.close (.run [0, 1, 2] (.close (.cut [(5, some (.int .i64)), (3, none), (15, none), (16, none), (17, none), (18, none), (19, none), (20, none), (24, none), (25, none), (26, none), (27, none), (28, none), (29, none), (30, none), (31, none), (32, none), (33, none), (34, none), (35, none), (36, none), (37, none), (38, none), (39, none), (40, none), (41, none), (42, none), (43, none), (44, none), (45, none), (46, none), (47, none), (48, none), (49, none), (50, none), (51, none), (52, none), (53, none), (54, none), (55, none), (56, none), (57, none), (58, none), (59, none), (60, none), (61, none), (62, none), (63, none), (64, none), (65, none), (66, none), (67, none), (68, none), (69, none), (70, none), (71, none), (72, none), (73, none), (74, none), (75, none), (76, none), (77, none), (78, none), (79, none), (80, none), (81, none), (82, none), (83, none), (84, none), (85, none), (86, none), (87, none), (88, none), (89, none), (90, none), (91, none), (92, none), (93, none), (94, none), (95, none), (96, none), (97, none), (98, none), (99, none), (100, none)] (.cond (.run [0] (.close .nil)) (.run [0, 1, 2] (.close (.cond (.run [0] (.close (.run [0] (.close (.run [0] (.close (.run [0] (.close .nil)))))))) (.run [0, 1, 2] (.close (.cond (.run [0] (.close (.run [0] (.close (.run [0] (.close .nil)))))) (.run [0, 1, 2] (.close (.cond (.run [0] (.close .nil)) (.run [0, 1, 2] (.close (.cond (.run [0] (.close .nil)) (.run [0, 1, 2] (.close (.cond (.run [0] (.close .nil)) (.run [0, 1, 2] (.close (.cond (.run [0, 1, 2, 3, 4, 5, 6, 7] (.close (.run [0, 1, 2, 3, 4, 5, 6] (.close (.run [0, 1, 2] (.close (.run [0, 1, 2] (.close .nil)))))))) (.run [0, 1, 2] (.split 70 (.run [3, 4, 5, 6] (.split 74 (.run [7, 8, 9] (.split 77 (.run [10, 11, 12, 13] (.split 81 (.run [14, 15, 16, 17, 18, 19, 20, 21, 22, 23, 24, 25, 26, 27, 28, 29, 30, 31] (.close (.lit (.run [0, 1, 2, 3, 4, 5] (.close .nil))))) (.run [14, 15, 16] (.split 84 (.run [17, 18, 19, 20, 21] (.split 89 (.run [22, 23, 24, 25, 26, 27, 28, 29, 30, 31] (.close (.lit (.run [0, 1, 2, 3, 4, 5] (.close .nil))))) (.run [22, 23, 24] (.split 92 (.run [25, 26, 27, 28, 29, 30, 31] (.close (.cond (.run [0, 1, 2] (.close .nil)) (.run [0, 1, 2, 3, 4, 5] (.close .nil))))) (.run [25, 26, 27, 28, 29, 30, 31] (.close (.lit (.run [0, 1, 2] (.close .nil))))))))) (.run [17, 18, 19, 20, 21, 22, 23, 24] (.split 92 (.run [25, 26, 27, 28, 29, 30, 31] (.close (.cond (.run [0, 1, 2] (.close .nil)) (.run [0, 1, 2, 3, 4, 5] (.close .nil))))) (.run [25, 26, 27, 28, 29, 30, 31] (.close (.lit (.run [0, 1, 2] (.close .nil))))))))))) (.run [10, 11, 12, 13, 14, 15, 16] (.split 84 (.run [17, 18, 19, 20, 21] (.split 89 (.run [22, 23, 24, 25, 26, 27, 28, 29, 30, 31] (.close (.lit (.run [0, 1, 2, 3, 4, 5] (.close .nil))))) (.run [22, 23, 24] (.split 92 (.run [25, 26, 27, 28, 29, 30, 31] (.close (.cond (.run [0, 1, 2] (.close .nil)) (.run [0, 1, 2, 3, 4, 5] (.close .nil))))) (.run [25, 26, 27, 28, 29, 30, 31] (.close (.lit (.run [0, 1, 2] (.close .nil))))))))) (.run [17, 18, 19, 20, 21, 22, 23, 24] (.split 92 (.run [25, 26, 27, 28, 29, 30, 31] (.close (.cond (.run [0, 1, 2] (.close .nil)) (.run [0, 1, 2, 3, 4, 5] (.close .nil))))) (.run [25, 26, 27, 28, 29, 30, 31] (.close (.lit (.run [0, 1, 2] (.close .nil))))))))))) (.run [7, 8, 9, 10, 11, 12, 13, 14, 15, 16, 17, 18, 19, 20, 21, 22, 23, 24, 25, 26, 27, 28, 29, 30, 31] (.close (.lit (.run [0, 1, 2, 3, 4, 5] (.close .nil))))))) (.run [3, 4, 5, 6, 7, 8, 9, 10, 11, 12, 13, 14, 15, 16, 17, 18, 19, 20, 21, 22, 23, 24, 25, 26, 27, 28, 29, 30, 31] (.close (.lit (.run [0, 1, 2, 3, 4, 5] (.close .nil)))))))))))))))))))))))))) (.run [0, 1, 2, 3, 4, 5, 6, 7] (.close (.run [0, 1] (.close (.cond (.run [0, 1, 2] (.close (.run [0, 1, 2, 3, 4] (.close .nil)))) (.run [0, 1, 2, 3, 4] (.close .nil))))))))))))))))))
theorem vc147 {b1 : Nat} {o2 : Nat} {R : Ending → World → Prop} {w : World} (h : V147 b1 o2 R w) : Cl Try.prog 147 [.pointer (some ⟨b1, o2, none⟩)] w R :=
  cl_of scr147 Try.func147 (by kernel_rfl) [.pointer (some ⟨b1, o2, none⟩)] (V147 b1 o2 R) (by kernel_rfl) h
/-- (*impl.reader).part -/
def V161 (b1 : Nat) (o2 : Nat) (t3 : Bool) (R : Ending → World → Prop) : World → Prop := fun w =>
  newC (List.replicate 256 (.bool false)) 177 (fun (b4 : Nat) (w5 : World) => Cl Try.prog 143 ([.pointer (some ⟨b1, o2, none⟩)]) w5 (retG (fun (r8 : Value) (w7 : World) => ∃ (n6 : Int), r8 = .int .u8 n6 ∧ ((((n6 : Int) == 92) = true → Cl Try.prog 147 ([.pointer (some ⟨b1, o2, none⟩)]) w7 (retG (fun (r12 : Value) (w11 : World) => ∃ (cs9 : Array Value), ∃ (t10 : Bool), r12 = .tuple #[.agg cs9, .bool t10] ∧ stA b4 0 256 cs9 (fun (w13 : World) => ∃ (cs14 : Array Value), cs14.size = 256 ∧ cellsAt w13.heap b4 0 cs14.toList ∧ R (.returned (.tuple #[.agg cs14, .bool t10])) w13) w11) (fun c w => R (.panicked c) w))) ∧ (((n6 : Int) == 92) = false → ((((n6 : Int) == 93) = true → (((!t3) = true → ∃ (n15 : Int), cellH w7.heap b1 (o2 + 1) = some (.int .i64 n15) ∧ Cl Try.prog 76 ([.pointer (some ⟨b1, o2, none⟩), .int .i64 n15]) w7 (retG (fun (r17 : Value) (w16 : World) => r17 = .tuple #[] ∧ ∃ (n18 : Int), cellH w16.heap b1 (o2 + 1) = some (.int .i64 n18) ∧ stW b1 (o2 + 1) [.int .i64 (IntKind.wrap .i64 (n18 + 1))] (fun (w19 : World) => Cl Try.prog 145 ([.pointer (some ⟨b4, 0, none⟩), .int .i64 (IntKind.wrap .i64 n6), .int .i64 (IntKind.wrap .i64 n6)]) w19 (retG (fun (r21 : Value) (w20 : World) => r21 = .tuple #[] ∧ ∃ (cs22 : Array Value), cs22.size = 256 ∧ cellsAt w20.heap b4 0 cs22.toList ∧ stA b4 0 256 cs22 (fun (w23 : World) => ∃ (cs24 : Array Value), cs24.size = 256 ∧ cellsAt w23.heap b4 0 cs24.toList ∧ R (.returned (.tuple #[.agg cs24, .bool false])) w23) w20) (fun c w => R (.panicked c) w))) w16) (fun c w => R (.panicked c) w))) ∧ ((!t3) = false → ∃ (n25 : Int), cellH w7.heap b1 (o2 + 1) = some (.int .i64 n25) ∧ stW b1 (o2 + 1) [.int .i64 (IntKind.wrap .i64 (n25 + 1))] (fun (w26 : World) => Cl Try.prog 145 ([.pointer (some ⟨b4, 0, none⟩), .int .i64 (IntKind.wrap .i64 n6), .int .i64 (IntKind.wrap .i64 n6)]) w26 (retG (fun (r28 : Value) (w27 : World) => r28 = .tuple #[] ∧ ∃ (cs29 : Array Value), cs29.size = 256 ∧ cellsAt w27.heap b4 0 cs29.toList ∧ stA b4 0 256 cs29 (fun (w30 : World) => ∃ (cs31 : Array Value), cs31.size = 256 ∧ cellsAt w30.heap b4 0 cs31.toList ∧ R (.returned (.tuple #[.agg cs31, .bool false])) w30) w27) (fun c w => R (.panicked c) w))) w7))) ∧ (((n6 : Int) == 93) = false → ∃ (n32 : Int), cellH w7.heap b1 (o2 + 1) = some (.int .i64 n32) ∧ stW b1 (o2 + 1) [.int .i64 (IntKind.wrap .i64 (n32 + 1))] (fun (w33 : World) => Cl Try.prog 145 ([.pointer (some ⟨b4, 0, none⟩), .int .i64 (IntKind.wrap .i64 n6), .int .i64 (IntKind.wrap .i64 n6)]) w33 (retG (fun (r35 : Value) (w34 : World) => r35 = .tuple #[] ∧ ∃ (cs36 : Array Value), cs36.size = 256 ∧ cellsAt w34.heap b4 0 cs36.toList ∧ stA b4 0 256 cs36 (fun (w37 : World) => ∃ (cs38 : Array Value), cs38.size = 256 ∧ cellsAt w37.heap b4 0 cs38.toList ∧ R (.returned (.tuple #[.agg cs38, .bool false])) w37) w34) (fun c w => R (.panicked c) w))) w7))))) (fun c w => R (.panicked c) w))) w
def scr161 : Scr := (.run [0, 1] (.close (.run [0, 1, 2] (.close (.run [0, 1] (.close (.cond (.run [0, 1, 2, 3, 4, 5] (.close .nil)) (.run [0, 1, 2] (.split 17 (.run [3, 4, 5] (.close (.cond (.run [0, 1, 2, 3, 4, 5] (.close (.run [0, 1, 2, 3, 4, 5, 6, 7] (.close (.run [0, 1, 2, 3, 4] (.close (.run [0, 1, 2] (.close .nil)))))))) (.run [0, 1, 2, 3, 4, 5, 6, 7] (.close (.run [0, 1, 2, 3, 4] (.close (.run [0, 1, 2] (.close .nil))))))))) (.run [3, 4, 5] (.close (.lit (.run [0, 1, 2, 3, 4, 5, 6, 7] (.close (.run [0, 1, 2, 3, 4] (.close (.run [0, 1, 2] (.close .nil))))))))))))))))))
theorem vc161 {b1 : Nat} {o2 : Nat} {t3 : Bool} {R : Ending → World → Prop} {w : World} (h : V161 b1 o2 t3 R w) : Cl Try.prog 161 [.pointer (some ⟨b1, o2, none⟩), .bool t3] w R :=
  cl_of scr161 Try.func161 (by kernel_rfl) [.pointer (some ⟨b1, o2, none⟩), .bool t3] (V161 b1 o2 t3 R) (by kernel_rfl) h
end Go.Proofs.Ytngbiaeliphdjaa.V
/- Sets of bytes in memory; the small functions of the program's reader. No statement of the seat is proved here. -/
namespace Go.Vc
open Go.RowKit
set_option linter.unusedVariables false
set_option linter.unusedSimpArgs false
/-- 256 bools. -/
def b256 (f : Nat → Bool) : List Value := (List.range 256).map fun n => .bool (f n)
theorem b256_length (f : Nat → Bool) : (b256 f).length = 256 := by simp [b256]
theorem b256_get (f : Nat → Bool) (i : Nat) (h : i < 256) : (b256 f)[i]? = some (.bool (f i)) := by simp [b256, h]
theorem b256_set (f : Nat → Bool) (i : Nat) (b : Bool) : (b256 f).set i (.bool b) = b256 (fun n => if n = i then b else f n) := by
  apply List.ext_getElem?
  intro n
  by_cases hn : n < 256
  · rw [b256_get _ _ hn, List.getElem?_set]
    by_cases h : i = n
    · subst h; simp [b256_length, hn]
    · rw [if_neg h, b256_get _ _ hn]; simp [Ne.symm h]
  · rw [List.getElem?_eq_none (by rw [List.length_set, b256_length]; omega), List.getElem?_eq_none (by rw [b256_length]; omega)]
theorem b256_false : b256 (fun _ => false) = List.replicate 256 (.bool false) := by simp [b256, List.map_const']
theorem b256_ext {f g : Nat → Bool} (h : ∀ n, n < 256 → f n = g n) : b256 f = b256 g := by
  unfold b256
  apply List.map_congr_left
  intro n hn
  rw [h n (List.mem_range.1 hn)]
theorem b256_inj {f g : Nat → Bool} (h : b256 f = b256 g) : ∀ n, n < 256 → f n = g n := by
  intro n hn
  have h1 := b256_get f n hn
  rw [h, b256_get g n hn] at h1
  simpa using h1.symm
theorem b256_scal (f : Nat → Bool) : (b256 f).all scal = true := by simp [b256, scal]
theorem stA_in {b n : Nat} {cs0 cs : List Value} {K : World → Prop} {w : World} {e : TypeId} (hb : Blk w.heap b e cs0) (hl : cs.length = n) (hl0 : cs0.length = n) (hs : cs.all scal = true)
    (h : ∀ w1, w1.heap.size = w.heap.size → Blk w1.heap b e cs → Ext (fun k => k = b) w w1 → K w1) : stA b 0 n ⟨cs⟩ K w := by
  refine ⟨hl, hs, hb.wrL (by rw [Nat.zero_add]; show cs.length ≤ _; omega), h _ setsW_size ?_ (Ext.vsets (S := fun k => k = b) (b := b) (.inl rfl) (Ext.refl _ _))⟩
  have := hb.sets (vs := cs) (o := 0)
  rw [segSet_eq _ _ _ (by omega)] at this
  simpa [hl, hl0, List.drop_of_length_le] using this
theorem Blk.all {h : Array Obj} {b : Nat} {e : TypeId} {cs : List Value} (hb : Blk h b e cs) : Vc.cellsAt h b 0 cs := hb.cellsAt (n := cs.length) (by simp) rfl
def rngC (l : List (Int × Int)) : List Value := l.flatMap fun r => [.int .i64 r.1, .int .i64 r.2]
theorem rngC_append (l m : List (Int × Int)) : rngC (l ++ m) = rngC l ++ rngC m := by simp [rngC]
theorem rngC_length (l : List (Int × Int)) : (rngC l).length = l.length * 2 := by
  induction l with
  | nil => rfl
  | cons b r ih => rw [show b :: r = [b] ++ r from rfl, rngC_append, List.length_append, ih]; simp [rngC]; omega
/-- The ending of a text that goes wrong. -/
def PanicB (n : Nat) : Ending := .panicked [{ v := .iface 90 (.int .i64 (n : Int)), recovered := false }]
end Go.Vc
namespace Go.Proofs.Ytngbiaeliphdjaa.V
open Go.Vc Go.Proofs Go.RowKit
set_option linter.unusedVariables false
set_option linter.unusedSimpArgs false

/-- The program's reader. -/
def Rd (w : World) (b : Nat) (s : ByteArray) (i g : Nat) (dp : Int) (a : Option Addr) (ln c : Nat) : Prop := Blk w.heap b 89 [.string s, .int .i64 i, .int .i64 g, .int .i64 dp, .slice a ln c]
theorem Rd.below {w w' : World} {b : Nat} {s : ByteArray} {i g : Nat} {dp : Int} {a : Option Addr} {ln c : Nat} (h : Rd w b s i g dp a ln c) (k : Below w.heap.size w w') : Rd w' b s i g dp a ln c := Blk.below h k
/-- The place is moved. -/
theorem Rd.mv {w : World} {b : Nat} {s : ByteArray} {i g : Nat} {dp : Int} {a : Option Addr} {ln c : Nat} (h : Rd w b s i g dp a ln c) {n : Int} {j : Nat} (hn : n = j) {K : World → Prop} (hK : ∀ w1, w1.heap.size = w.heap.size → Rd w1 b s j g dp a ln c → Ext (fun k => k = b) w w1 → K w1) :
    stW b (0 + 1) [.int .i64 n] K w := by
  subst hn
  exact stW_in h (by show 0 + 1 + 1 ≤ 5; decide) fun w1 s1 k1 e1 => hK w1 s1 k1 e1

theorem fail_ok (b : Nat) (n : Nat) {m : Int} (hm : m = n) (w : World) : Cl Try.prog 76 [.pointer (some ⟨b, 0, none⟩), .int .i64 m] w (fun e w' => e = PanicB n ∧ w' = w) := by
  subst hm
  apply vc76
  unfold V76
  exact ⟨rfl, rfl⟩
theorem end_ok {w : World} {b : Nat} {s : ByteArray} {i g : Nat} {dp : Int} {a : Option Addr} {ln c : Nat} (h : Rd w b s i g dp a ln c) : Cl Try.prog 75 [.pointer (some ⟨b, 0, none⟩)] w (RetB (.bool (decide (s.size ≤ i))) w) := by
  apply vc75
  unfold V75
  refine drw_in fun w1 q1 e1 => ?_
  have h1 := Blk.keep h e1 fun h => h
  refine ⟨i, h1.cell 1, s, h1.cell 0, ?_, Ext.to (Below.refl _ _) e1 fun _ h => h.elim⟩
  simp only [ge_iff_le, Int.ofNat_le]
theorem need_ret {w : World} {b : Nat} {s : ByteArray} {i g : Nat} {dp : Int} {a : Option Addr} {ln c : Nat} (h : Rd w b s i g dp a ln c) (hi : i < s.size) : Cl Try.prog 143 [.pointer (some ⟨b, 0, none⟩)] w (RetB (.int .u8 (at_ (L s) i)) w) := by
  apply vc143
  unfold V143
  refine (end_ok h).ret fun w1 b1 => ⟨_, rfl, fun g1 => ?_, fun g1 => ?_⟩
  · have := of_decide_eq_true g1; omega
  · refine drw_in fun w2 q2 e2 => ?_
    have h2 := Blk.keep (h.below b1) e2 fun h => h
    exact ⟨s, h2.cell 0, i, h2.cell 1, ⟨by omega, by omega⟩, rfl, Ext.to b1 e2 fun _ h => h.elim⟩
theorem need_bad {w : World} {b : Nat} {s : ByteArray} {i g : Nat} {dp : Int} {a : Option Addr} {ln c : Nat} (h : Rd w b s i g dp a ln c) (hi : ¬ i < s.size) : Cl Try.prog 143 [.pointer (some ⟨b, 0, none⟩)] w (fun e w' => e = PanicB s.size ∧ Below w.heap.size w w') := by
  apply vc143
  unfold V143
  refine (end_ok h).ret fun w1 b1 => ⟨_, rfl, fun g1 => ?_, fun g1 => ?_⟩
  · refine ⟨s, (h.below b1).cell 0, (fail_ok b s.size rfl w1).use fun e w2 he => ?_⟩
    obtain ⟨rfl, rfl⟩ := he
    exact ⟨rfl, b1⟩
  · have := of_decide_eq_false g1; omega
/-- One digit. -/
def hexP (l : Bytes) (i : Nat) : Pr Nat := if l.length ≤ i then .bad l.length else match hexv (at_ l i) with | none => .bad i | some v => .ok v
theorem hex_ok {w : World} {b : Nat} {s : ByteArray} {i g : Nat} {dp : Int} {a : Option Addr} {ln c : Nat} (h : Rd w b s i g dp a ln c) (hi : i < 100000) :
    Cl Try.prog 163 [.pointer (some ⟨b, 0, none⟩)] w (fun e w' => Ext (fun k => k = b) w w' ∧ match hexP (L s) i with | .bad n => e = PanicB n | .ok v => e = .returned (.int .i64 (v : Int)) ∧ Rd w' b s (i + 1) g dp a ln c) := by
  apply vc163
  unfold V163
  have hsz := size_L s
  by_cases hl : i < s.size
  · refine (need_ret h hl).ret fun w1 b1 => ⟨_, rfl, i, (h.below b1).cell 1, ?_⟩
    refine (h.below b1).mv (j := i + 1) (by rw [w64 (by omega)]; omega) fun w2 s2 k2 e2 => ?_
    have hE : Ext (fun k => k = b) w w2 := (Ext.of_below b1).trans e2
    have hlt := at_lt (L s) i
    have hP : hexP (L s) i = match hexv (at_ (L s) i) with | none => .bad i | some v => .ok v := by unfold hexP; rw [if_neg (by omega)]
    rw [hP]
    have hw : IntKind.wrap .i64 (((i + 1 : Nat) : Int) - 1) = (i : Int) := by rw [w64 (by omega)]; omega
    have hbad : ¬ (48 ≤ at_ (L s) i ∧ at_ (L s) i ≤ 57) → ¬ (97 ≤ at_ (L s) i ∧ at_ (L s) i ≤ 102) → ∀ F : Value → World → Prop, ∃ n8 : Int, cellH w2.heap b (0 + 1) = some (.int .i64 n8) ∧ Cl Try.prog 76 [.pointer (some ⟨b, 0, none⟩), .int .i64 (IntKind.wrap .i64 (n8 - 1))] w2 (retG F
        (fun c1 w' => Ext (fun k => k = b) w w' ∧ match (match hexv (at_ (L s) i) with | none => Pr.bad i | some v => Pr.ok v) with | .bad n => Ending.panicked c1 = PanicB n | .ok v => Ending.panicked c1 = Ending.returned (.int .i64 (v : Int)) ∧ Rd w' b s (i + 1) g dp a ln c)) := by
      intro n1 n2 F
      refine ⟨_, k2.cell 1, (fail_ok b i hw w2).use fun e w3 he => ?_⟩
      obtain ⟨rfl, rfl⟩ := he
      refine ⟨hE, ?_⟩
      rw [show hexv (at_ (L s) i) = none from by unfold hexv; rw [if_neg n1, if_neg n2]]
      rfl
    have ok1 : 48 ≤ at_ (L s) i → at_ (L s) i ≤ 57 → (Ext (fun k => k = b) w w2 ∧ match (match hexv (at_ (L s) i) with | none => Pr.bad i | some v => Pr.ok v) with | .bad n => Ending.returned (.int .i64 (IntKind.wrap .i64 (IntKind.wrap .u8 ((at_ (L s) i : Int) - 48)))) = PanicB n | .ok v => Ending.returned (.int .i64 (IntKind.wrap .i64 (IntKind.wrap .u8 ((at_ (L s) i : Int) - 48)))) = .returned (.int .i64 (v : Int)) ∧ Rd w2 b s (i + 1) g dp a ln c) := by
      intro h1 h2
      refine ⟨hE, ?_⟩
      rw [show hexv (at_ (L s) i) = some (at_ (L s) i - 48) from by unfold hexv; rw [if_pos (by omega)]]
      refine ⟨?_, k2⟩
      rw [w8, w64 (by omega)]; congr 2; omega
    have ok2 : 97 ≤ at_ (L s) i → at_ (L s) i ≤ 102 → (Ext (fun k => k = b) w w2 ∧ match (match hexv (at_ (L s) i) with | none => Pr.bad i | some v => Pr.ok v) with | .bad n => Ending.returned (.int .i64 (IntKind.wrap .i64 (IntKind.wrap .i64 (IntKind.wrap .u8 ((at_ (L s) i : Int) - 97)) + 10))) = PanicB n | .ok v => Ending.returned (.int .i64 (IntKind.wrap .i64 (IntKind.wrap .i64 (IntKind.wrap .u8 ((at_ (L s) i : Int) - 97)) + 10))) = .returned (.int .i64 (v : Int)) ∧ Rd w2 b s (i + 1) g dp a ln c) := by
      intro h1 h2
      refine ⟨hE, ?_⟩
      rw [show hexv (at_ (L s) i) = some (at_ (L s) i - 87) from by unfold hexv; rw [if_neg (by omega), if_pos (by omega)]]
      refine ⟨?_, k2⟩
      rw [w8, w64 (n := ((at_ (L s) i : Int) - 97) % 256) (by omega), w64 (by omega)]; congr 2; omega
    refine ⟨fun g1 => ⟨fun g2 => ?_, fun g2 => ⟨fun g3 => ⟨fun g4 => ?_, fun g4 => ?_⟩, fun g3 => ?_⟩⟩, fun g1 => ⟨fun g3 => ⟨fun g4 => ?_, fun g4 => ?_⟩, fun g3 => ?_⟩⟩ <;>
      simp only [decide_eq_true_eq, decide_eq_false_iff_not] at * <;>
      first
      | exact ok1 (by omega) (by omega)
      | exact ok2 (by omega) (by omega)
      | exact hbad (by omega) (by omega) _
  · refine (need_bad h hl).use fun e w1 he => ?_
    obtain ⟨rfl, b1⟩ := he
    refine ⟨Ext.of_below b1, ?_⟩
    unfold hexP
    rw [if_pos (by omega), ← hsz]
    rfl

/-! ### The bytes' sets -/
theorem add_ok {w : World} {b : Nat} {f : Nat → Bool} (h : Blk w.heap b 177 (b256 f)) (lo hi : Nat) (hh : hi < 256) :
    Cl Try.prog 145 [.pointer (some ⟨b, 0, none⟩), .int .i64 lo, .int .i64 hi] w (fun e w' => e = .returned (.tuple #[]) ∧ Blk w'.heap b 177 (b256 fun n => f n || decide (lo ≤ n ∧ n ≤ hi)) ∧ Ext (fun k => k = b) w w') := by
  apply vc145
  unfold V145
  refine ⟨fun k j w' => ∃ i : Nat, j = i ∧ lo ≤ i ∧ (i ≤ hi + 1 ∨ i = lo) ∧ k = hi + 1 - i ∧ Blk w'.heap b 177 (b256 fun n => f n || decide (lo ≤ n ∧ n < i)) ∧ Ext (fun k => k = b) w w', ⟨_, lo, rfl, Nat.le_refl _, .inr rfl, rfl, ?_, Ext.refl _ _⟩, ?_⟩
  · rw [b256_ext (g := f) fun n _ => by rw [decide_eq_false (by omega), Bool.or_false]]; exact h
  rintro k d j w1 ⟨i, rfl, hl, hi2, rfl, hB, hE⟩
  refine ⟨fun g => ?_, fun g => ?_⟩
  · have g' : i ≤ hi := by have := of_decide_eq_true g; omega
    refine ⟨⟨by omega, by show (i : Int) < 256; omega⟩, ?_⟩
    rw [show 0 + Int.toNat (i : Int) * 1 = i from by omega]
    refine stW_in hB (by rw [b256_length]; show i + 1 ≤ 256; omega) fun w2 s2 k2 e2 => ?_
    refine ⟨hi + 1 - (i + 1), by omega, i + 1, by rw [w64 (by omega)]; omega, by omega, .inl (by omega), rfl, ?_, hE.trans e2⟩
    have : segSet (b256 fun n => f n || decide (lo ≤ n ∧ n < i)) i [.bool true] = b256 fun n => f n || decide (lo ≤ n ∧ n < i + 1) := by
      show (b256 _).set i _ = _
      rw [b256_set]
      apply b256_ext
      intro n hn
      by_cases hni : n = i
      · subst hni; simp [hl]
      · rw [if_neg hni]; congr 1; apply decide_eq_decide.2; omega
    rw [← this]; exact k2
  · have g' : hi < i := by have := of_decide_eq_false g; omega
    refine ⟨rfl, ?_, hE⟩
    rw [b256_ext (g := fun n => f n || decide (lo ≤ n ∧ n < i)) fun n _ => by congr 1; apply decide_eq_decide.2; omega]
    exact hB
end Go.Proofs.Ytngbiaeliphdjaa.V
/- The pieces that are read are small. No statement of the seat is proved here. -/
namespace Go.Vc
set_option linter.unusedVariables false
set_option linter.unusedSimpArgs false
structure Small (p : Pc) : Prop where
  set : p.set.length ≤ 256
  kids : p.kids.length ≤ 121
def AllS (ps : List Pc) : Prop := ∀ p ∈ ps, Small p
theorem AllS.app {ps : List Pc} (h : AllS ps) {x : Pc} (hx : Small x) : AllS (ps ++ [x]) := by
  intro p hp
  rcases List.mem_append.1 hp with hp | hp
  · exact h p hp
  · rw [List.mem_singleton.1 hp]; exact hx
theorem runsF_length (f : Nat → Bool) : ∀ (k i : Nat), k = 256 - i → (runsF f i).length ≤ 256 - i := by
  intro k
  induction k using Nat.strongRecOn with
  | _ k ih =>
    intro i hk
    rw [runsF]
    split
    · split
      · have := runEnd_ge f i
        have := ih (256 - (runEnd f i + 1)) (by omega) (runEnd f i + 1) rfl
        simp only [List.length_cons]; omega
      · have := ih (256 - (i + 1)) (by omega) (i + 1) rfl; omega
    · simp
theorem small_set (f : Nat → Bool) : Small (pSet (runs f)) := ⟨by have := runsF_length f _ 0 rfl; show (runsF f 0).length ≤ 256; omega, by simp [pSet]⟩
theorem small_bare (n : Int) : Small ⟨n, [], 0, 0, false, 0, []⟩ := ⟨by simp, by simp⟩
def SubS (sub : St → Pr (St × Int)) : Prop := ∀ i g out j g' out' k, AllS out → sub (i, g, out) = .ok ((j, g', out'), k) → AllS out'
theorem atomP_small {l : Bytes} {sub : St → Pr (St × Int)} (hsub : SubS sub) {deep : Bool} {i g j g' : Nat} {out out' : List Pc} {k : Int} (hw : AllS out) (h : atomP sub deep l i g out = .ok ((j, g', out'), k)) : AllS out' := by
  unfold atomP at h
  split at h
  · split at h
    · cases h
    split at h
    · cases h
    · rename_i hs
      have h1 := hsub _ _ _ _ _ _ _ hw hs
      split at h
      · cases h
      split at h
      · cases h; exact h1.app ⟨by simp [pGrp], by simp [pGrp]⟩
      · cases h
  split at h
  · split at h
    · cases h
    · rename_i hs
      cases h
      refine hw.app ?_
      unfold setP at hs
      split at hs
      · cases hs
      · generalize clsP l _ true [] = r at hs
        cases r with
        | bad e => cases hs
        | ok y => cases hs; exact small_set _
  split at h
  · cases h; exact hw.app (small_set _)
  split at h
  · cases h; exact hw.app (small_bare 6)
  split at h
  · cases h; exact hw.app (small_bare 7)
  split at h
  · split at h
    · cases h
    · cases h; exact hw.app (small_set _)
  split at h
  · cases h
  · cases h; exact hw.app ⟨by simp [pSet], by simp [pSet]⟩
theorem pieceP_small {l : Bytes} {sub : St → Pr (St × Int)} (hsub : SubS sub) {deep : Bool} {i g j g' : Nat} {out out' : List Pc} {k : Int} (hw : AllS out) (h : pieceP sub deep l i g out = .ok ((j, g', out'), k)) : AllS out' := by
  unfold pieceP at h
  split at h
  · cases h
  · rename_i ha
    have h1 := atomP_small hsub hw ha
    unfold cntR at h
    split at h
    · cases h
    · cases h; exact h1
    · cases h; exact h1.app ⟨by simp [pRep], by simp [pRep]⟩
theorem seqL_small {l : Bytes} {sub : St → Pr (St × Int)} (hsub : SubS sub) {deep : Bool} (hl : l.length ≤ 120) : ∀ (n : Nat) {i g j g' : Nat} {out out' : List Pc} {kids : List Int} {k : Int}, n = l.length - i → i ≤ l.length → kids.length ≤ i → AllS out → seqL sub deep l i g out kids = .ok ((j, g', out'), k) → AllS out' := by
  intro n
  induction n using Nat.strongRecOn with
  | _ n ih =>
    intro i g j g' out out' kids k hn hi hk hw h
    rw [seqL] at h
    split at h
    · split at h
      · cases h
      · rename_i hp
        have h1 := pieceP_small hsub hw hp
        split at h
        · rename_i j1 _ _ _ hj
          by_cases hjl : j1 ≤ l.length
          · exact ih _ (by omega) rfl hjl (by simp; omega) h1 h
          · rw [seqL, dif_neg (by omega)] at h
            cases h
            exact h1.app ⟨by simp [pSeq], by simp [pSeq]; omega⟩
        · cases h
    · cases h
      exact hw.app ⟨by simp [pSeq], by simp [pSeq]; omega⟩
theorem altL_small {l : Bytes} {sub : St → Pr (St × Int)} (hsub : SubS sub) (hsl : SubOk l sub) {deep : Bool} (hl : l.length ≤ 120) : ∀ (n : Nat) {i g j g' : Nat} {out out' : List Pc} {kids : List Int} {k : Int}, n = l.length - i → i ≤ l.length → kids.length ≤ i + 1 → AllS out → altL sub deep l i g out kids = .ok ((j, g', out'), k) → AllS out' := by
  intro n
  induction n using Nat.strongRecOn with
  | _ n ih =>
    intro i g j g' out out' kids k hn hi hk hw h
    rw [altL] at h
    split at h
    · split at h
      · cases h
      · rename_i hp
        have h0 := seqL_len hsl _ rfl (by omega) hp
        have h1 := seqL_small hsub hl _ rfl (by omega) (by simp) hw hp
        split at h
        · exact ih _ (by omega) rfl (by omega) (by simp; omega) h1 h
        · cases h
    · unfold altE at h
      split at h
      · cases h; exact hw
      · cases h
        exact hw.app ⟨by simp [pAlt], by simp [pAlt]; omega⟩
theorem patP_small (l : Bytes) (hl : l.length ≤ 120) : ∀ (d : Nat) {i g j g' : Nat} {out out' : List Pc} {k : Int}, i ≤ l.length → AllS out → patP l d (i, g, out) = .ok ((j, g', out'), k) → AllS out' := by
  have step : ∀ (sub : St → Pr (St × Int)) (deep : Bool) {i g j g' : Nat} {out out' : List Pc} {k : Int}, SubS sub → SubOk l sub → i ≤ l.length → AllS out → (match seqL sub deep l i g out [] with
    | .bad e => .bad e
    | .ok ((j, g', out'), x) => altL sub deep l j g' out' [x]) = Pr.ok ((j, g', out'), k) → AllS out' := by
    intro sub deep i g j g' out out' k hs hsl hi hw h
    split at h
    · cases h
    · rename_i hq
      have h0 := seqL_len hsl _ rfl hi hq
      have h1 := seqL_small hs hl _ rfl hi (by simp) hw hq
      exact altL_small hs hsl hl _ rfl h0.2.1 (by simp) h1 h
  intro d
  induction d with
  | zero =>
    intro i g j g' out out' k hi hw h
    exact step _ _ (by intro i g out j g' out' k _ h; cases h) (by intro i g out j g' out' k _ h; cases h) hi hw h
  | succ d ih =>
    intro i g j g' out out' k hi hw h
    refine step _ _ ?_ (patP_len l d) hi hw h
    intro i g out j g' out' k hw h
    by_cases hi : i ≤ l.length
    · exact ih hi hw h
    · -- out of the text nothing is read
      have hs : ∀ (sub : St → Pr (St × Int)) (deep : Bool), seqL sub deep l i g out [] = .ok ((i, g, out ++ [pSeq []]), (out.length : Int)) := fun sub deep => seqL_out (by omega)
      have ha : ∀ (sub : St → Pr (St × Int)) (deep : Bool) (o : List Pc) (x : Int), altL sub deep l i g o [x] = .ok ((i, g, o), x) := fun sub deep o x => by rw [altL_out (by omega)]; rfl
      cases d with
      | zero => simp only [patP, hs, ha] at h; cases h; exact hw.app ⟨by simp [pSeq], by simp [pSeq]⟩
      | succ d => simp only [patP, hs, ha] at h; cases h; exact hw.app ⟨by simp [pSeq], by simp [pSeq]⟩
theorem readP_small (l : Bytes) : AllS (readP l).pieces ∧ (readP l).pieces.length ≤ 482 ∧ (readP l).groups ≤ 9 := by
  by_cases h : (readP l).ok = true
  · have h1 := readP_wf h
    refine ⟨?_, h1.2.2.2.1, h1.2.2.1⟩
    have hl := h1.2.2.2.2.1
    unfold readP
    rw [if_neg (by omega)]
    split
    · intro p hp; cases hp
    · rename_i hp
      split
      · intro p hp; cases hp
      · exact patP_small l hl 6 (by omega) (by intro p hp; cases hp) hp
  · have h' : (readP l).ok = false := by simpa using h
    have h1 := readP_bad h'
    rw [h1.1, h1.2]
    exact ⟨(by intro p hp; cases hp), by simp, by omega⟩
end Go.Vc
/- Escapes and parts of sets, in the program's reader. No statement of the seat is proved here. -/
namespace Go.Proofs.Ytngbiaeliphdjaa.V
open Go.Vc Go.Proofs Go.RowKit
set_option linter.unusedVariables false
set_option linter.unusedSimpArgs false

theorem inR_app (r r' : Rs) (n : Nat) : inR (r ++ r') n = (inR r n || inR r' n) := by simp [inR]
theorem inR_one (lo hi n : Nat) : inR [(lo, hi)] n = decide (lo ≤ n ∧ n ≤ hi) := by simp [inR]
theorem addR_ok {w : World} {b : Nat} {r : Rs} (h : Blk w.heap b 177 (b256 (inR r))) (lo hi : Nat) (hh : hi < 256) {lo' hi' : Int} (e1 : lo' = lo) (e2 : hi' = hi) :
    Cl Try.prog 145 [.pointer (some ⟨b, 0, none⟩), .int .i64 lo', .int .i64 hi'] w (fun e w' => e = .returned (.tuple #[]) ∧ Blk w'.heap b 177 (b256 (inR (r ++ [(lo, hi)]))) ∧ Ext (fun k => k = b) w w') := by
  subst e1 e2
  refine (add_ok h lo hi hh).use fun e w' he => ?_
  rw [b256_ext (g := inR (r ++ [(lo, hi)])) fun n _ => by rw [inR_app, inR_one]] at he
  exact he
theorem inR_nil : inR [] = fun _ => false := by funext n; rfl
/-- The whole array is stored to itself and given back. -/
theorem self_out {w w0 : World} {b k : Nat} {f : Nat → Bool} {t : Bool} {R : Ending → World → Prop} (h : Blk w.heap k 177 (b256 f)) (hR : ∀ w', Ext (fun x => x = k) w w' → R (.returned (.tuple #[.agg ⟨b256 f⟩, .bool t])) w') :
    ∃ (cs37 : Array Value), cs37.size = 256 ∧ cellsAt w.heap k 0 cs37.toList ∧ stA k 0 256 cs37 (fun (w38) => ∃ (cs39 : Array Value), cs39.size = 256 ∧ cellsAt w38.heap k 0 cs39.toList ∧ R (.returned (.tuple #[.agg cs39, .bool t])) w38) w := by
  refine ⟨⟨b256 f⟩, by simp [b256_length], h.all, ?_⟩
  refine stA_in h (b256_length f) (b256_length f) (b256_scal f) fun w1 s1 k1 e1 => ?_
  exact ⟨⟨b256 f⟩, by simp [b256_length], k1.all, hR w1 e1⟩

/-- What an escape gives. -/
def EscR (w : World) (b : Nat) (s : ByteArray) (g : Nat) (dp : Int) (a : Option Addr) (ln c : Nat) (r : Pr (Nat × Rs × Option Nat)) : Ending → World → Prop := fun e w' => Ext (fun k => k = b) w w' ∧
  match r with
  | .bad n => e = PanicB n
  | .ok (j, rs, o) => e = .returned (.tuple #[.agg ⟨b256 (inR rs)⟩, .bool o.isNone]) ∧ Rd w' b s j g dp a ln c

theorem escape_ok {w : World} {b : Nat} {s : ByteArray} {i g : Nat} {dp : Int} {a : Option Addr} {ln c : Nat} (h : Rd w b s i g dp a ln c) (hi : i < 10000) :
    Cl Try.prog 147 [.pointer (some ⟨b, 0, none⟩)] w (EscR w b s g dp a ln c (escP (L s) (i + 1))) := by
  apply vc147
  unfold V147
  have hsz := size_L s
  have hbl := h.lt
  refine newC_in fun w4 s4 k4 e4 => ?_
  have h4 : Rd w4 b s i g dp a ln c := Blk.keep h e4 fun h => h
  refine ⟨i, h4.cell 1, ?_⟩
  refine h4.mv (j := i + 1) (by rw [w64 (by omega)]; omega) fun w6 s6 h6 e6 => ?_
  have k6 := k4.keep e6 (by omega)
  have E6 : Ext (fun k => k = b) w w6 := (Ext.mono e4 fun _ _ h => h.elim).trans e6
  by_cases hl : i + 1 < s.size
  case neg =>
    refine (need_bad h6 hl).use fun e w8 he => ?_
    obtain ⟨rfl, b8⟩ := he
    refine ⟨E6.trans (Ext.of_below b8), ?_⟩
    unfold escP
    rw [if_pos (by omega), ← hsz]; rfl
  refine (need_ret h6 hl).ret fun w8 b8 => ⟨_, rfl, ?_⟩
  have h8 := h6.below b8
  have k8 := k6.below b8
  rw [← b256_false, ← inR_nil] at k8
  have E8 : Ext (fun k => k = b) w w8 := E6.trans (Ext.of_below b8)
  have hc := at_lt (L s) (i + 1)
  generalize hcc : at_ (L s) (i + 1) = ch at *
  have hP : ch ≠ 120 → escP (L s) (i + 1) = match escC ch with | some (r, o) => .ok (i + 2, r, o) | none => .bad (i + 1) := by
    intro h1; unfold escP; rw [if_neg (by omega), hcc, if_neg h1]; rfl
  have hbad : escC ch = none → ch ≠ 120 → ∀ F : Value → World → Prop, ∃ n8 : Int, cellH w8.heap b (0 + 1) = some (.int .i64 n8) ∧ Cl Try.prog 76 [.pointer (some ⟨b, 0, none⟩), .int .i64 n8] w8 (retG F
        (fun c1 w' => EscR w b s g dp a ln c (escP (L s) (i + 1)) (.panicked c1) w')) := by
    intro n1 n2 F
    refine ⟨_, h8.cell 1, (fail_ok b (i + 1) rfl w8).use fun e w3 he => ?_⟩
    obtain ⟨rfl, rfl⟩ := he
    refine ⟨E8, ?_⟩
    rw [hP n2, n1]; rfl
  refine ⟨fun n w' => ∃ r o, escC ch = some (r, o) ∧ ch ≠ 120 ∧ Rd w' b s (i + 1) g dp a ln c ∧ Ext (fun k => k = b) w w' ∧
      ((o = none ∧ n = -1 ∧ Blk w'.heap w.heap.size 177 (b256 (inR r))) ∨ (∃ v, o = some v ∧ r = [(v, v)] ∧ v < 256 ∧ n = v ∧ Blk w'.heap w.heap.size 177 (b256 (inR [])))), ?_, ?_⟩
  · have jone : ∀ {n : Int} {v : Nat}, escC ch = some ([(v, v)], some v) → ch ≠ 120 → n = v → v < 256 → ∃ r o, escC ch = some (r, o) ∧ ch ≠ 120 ∧ Rd w8 b s (i + 1) g dp a ln c ∧ Ext (fun k => k = b) w w8 ∧
      ((o = none ∧ n = -1 ∧ Blk w8.heap w.heap.size 177 (b256 (inR r))) ∨ (∃ v, o = some v ∧ r = [(v, v)] ∧ v < 256 ∧ n = v ∧ Blk w8.heap w.heap.size 177 (b256 (inR [])))) :=
      fun h1 h2 h3 h4 => ⟨_, _, h1, h2, h8, E8, .inr ⟨_, rfl, rfl, h4, h3, k8⟩⟩
    have hkeep : ∀ {w' : World}, Ext (fun k => k = w.heap.size) w8 w' → Rd w' b s (i + 1) g dp a ln c ∧ Ext (fun k => k = b) w w' := fun e =>
      ⟨Blk.keep h8 e (by omega), E8.step e fun k hk h => by omega⟩
    refine ⟨fun g1 => ?_, fun g1 => ⟨fun g2 => ?_, fun g2 => ⟨fun g3 => ?_, fun g3 => ⟨fun g4 => ?_, fun g4 => ⟨fun g5 => ?_, fun g5 => ⟨fun g6 => ?_, fun g6 => ⟨fun g7 => ?_, fun g7 => ?_⟩⟩⟩⟩⟩⟩⟩
    all_goals try simp only [beq_iff_eq, beq_eq_false_iff_ne, ne_eq] at g1
    all_goals try simp only [beq_iff_eq, beq_eq_false_iff_ne, ne_eq] at g2
    all_goals try simp only [beq_iff_eq, beq_eq_false_iff_ne, ne_eq] at g3
    all_goals try simp only [beq_iff_eq, beq_eq_false_iff_ne, ne_eq] at g4
    all_goals try simp only [beq_iff_eq, beq_eq_false_iff_ne, ne_eq] at g5
    all_goals try simp only [beq_iff_eq, beq_eq_false_iff_ne, ne_eq] at g6
    all_goals try simp only [beq_iff_eq, beq_eq_false_iff_ne, ne_eq] at g7
    · obtain rfl : ch = 100 := by omega
      refine (addR_ok k8 48 57 (by decide) rfl rfl).use fun e w' he => ?_
      obtain ⟨rfl, k9, e9⟩ := he
      exact ⟨rfl, _, _, rfl, by decide, (hkeep e9).1, (hkeep e9).2, .inl ⟨rfl, rfl, k9⟩⟩
    · obtain rfl : ch = 119 := by omega
      refine (addR_ok k8 48 57 (by decide) rfl rfl).use fun e w9 he => ?_
      obtain ⟨rfl, k9, e9⟩ := he
      refine ⟨rfl, (addR_ok k9 65 90 (by decide) rfl rfl).use fun e w10 he => ?_⟩
      obtain ⟨rfl, k10, e10⟩ := he
      refine ⟨rfl, (addR_ok k10 97 122 (by decide) rfl rfl).use fun e w11 he => ?_⟩
      obtain ⟨rfl, k11, e11⟩ := he
      refine ⟨rfl, (addR_ok k11 95 95 (by decide) rfl rfl).use fun e w12 he => ?_⟩
      obtain ⟨rfl, k12, e12⟩ := he
      have e13 := ((e9.trans e10).trans e11).trans e12
      exact ⟨rfl, _, _, rfl, by decide, (hkeep e13).1, (hkeep e13).2, .inl ⟨rfl, rfl, k12⟩⟩
    · obtain rfl : ch = 115 := by omega
      refine (addR_ok k8 9 10 (by decide) rfl rfl).use fun e w9 he => ?_
      obtain ⟨rfl, k9, e9⟩ := he
      refine ⟨rfl, (addR_ok k9 13 13 (by decide) rfl rfl).use fun e w10 he => ?_⟩
      obtain ⟨rfl, k10, e10⟩ := he
      refine ⟨rfl, (addR_ok k10 32 32 (by decide) rfl rfl).use fun e w11 he => ?_⟩
      obtain ⟨rfl, k11, e11⟩ := he
      have e13 := (e9.trans e10).trans e11
      exact ⟨rfl, _, _, rfl, by decide, (hkeep e13).1, (hkeep e13).2, .inl ⟨rfl, rfl, k11⟩⟩
    · obtain rfl : ch = 110 := by omega
      exact jone rfl (by decide) rfl (by decide)
    · obtain rfl : ch = 116 := by omega
      exact jone rfl (by decide) rfl (by decide)
    · obtain rfl : ch = 114 := by omega
      exact jone rfl (by decide) rfl (by decide)
    · obtain rfl : ch = 120 := by omega
      have hP' : escP (L s) (i + 1) = escX (L s) (i + 1) := by unfold escP; rw [if_neg (by omega), hcc, if_pos rfl]
      rw [hP']
      refine ⟨_, h8.cell 1, ?_⟩
      refine h8.mv (j := i + 2) (by rw [w64 (by omega)]; omega) fun w9 s9 h9 e9 => ?_
      have E9 := E8.trans e9
      have k9 := k8.keep e9 (by omega)
      refine (hex_ok h9 (by omega)).use fun e w10 he => ?_
      obtain ⟨e10, he⟩ := he
      have E10 := E9.trans e10
      have k10 := k9.keep e10 (by omega)
      unfold hexP at he
      unfold escX
      by_cases h12 : (L s).length ≤ i + 2
      · rw [if_pos h12] at he
        subst he
        rw [if_pos (show (L s).length ≤ i + 1 + 1 by omega)]
        exact ⟨E10, rfl⟩
      rw [if_neg h12] at he
      rw [if_neg (show ¬ (L s).length ≤ i + 1 + 1 by omega), show i + 1 + 1 = i + 2 from rfl, show i + 1 + 2 = i + 3 from rfl, show i + 1 + 3 = i + 4 from rfl]
      cases hh : hexv (at_ (L s) (i + 2)) with
      | none => rw [hh] at he; subst he; exact ⟨E10, rfl⟩
      | some v1 =>
        rw [hh] at he
        obtain ⟨rfl, h10⟩ := he
        refine ⟨_, rfl, (hex_ok h10 (by omega)).use fun e w11 he => ?_⟩
        obtain ⟨e11, he⟩ := he
        have E11 := E10.trans e11
        have k11 := k10.keep e11 (by omega)
        unfold hexP at he
        simp only []
        by_cases h13 : (L s).length ≤ i + 3
        · rw [if_pos h13] at he
          subst he
          rw [if_pos h13]
          exact ⟨E11, rfl⟩
        rw [if_neg h13] at he
        rw [if_neg h13]
        cases hh2 : hexv (at_ (L s) (i + 3)) with
        | none => rw [hh2] at he; subst he; exact ⟨E11, rfl⟩
        | some v2 =>
          rw [hh2] at he
          obtain ⟨rfl, h11⟩ := he
          have := hexv_lt hh
          have := hexv_lt hh2
          have hw : IntKind.wrap .i64 (IntKind.wrap .i64 (16 * (v1 : Int)) + v2) = ((16 * v1 + v2 : Nat) : Int) := by rw [w64 (n := 16 * (v1 : Int)) (by omega), w64 (by omega)]; omega
          refine ⟨_, rfl, (addR_ok k11 (16 * v1 + v2) (16 * v1 + v2) (by omega) hw hw).use fun e w12 he => ?_⟩
          obtain ⟨rfl, k12, e12⟩ := he
          refine ⟨rfl, self_out (w0 := w) (b := b) k12 fun w13 e13 => ?_⟩
          refine ⟨E11.step (e12.trans e13) fun k hk h => by omega, rfl, ?_⟩
          exact Blk.keep h11 (e12.trans e13) (by omega)
    · have hn : ch ≠ 120 := by omega
      repeat' (apply And.intro <;> intro g)
      all_goals simp only [decide_eq_true_eq, decide_eq_false_iff_not, Bool.not_eq_true', Bool.not_eq_false', ge_iff_le] at *
      all_goals first
        | exact hbad (by unfold escC; rw [if_neg (by omega), if_neg (by omega), if_neg (by omega), if_neg (by omega), if_neg (by omega), if_neg (by omega), if_neg (by omega)]) hn _
        | exact jone (v := ch) (by unfold escC; rw [if_neg (by omega), if_neg (by omega), if_neg (by omega), if_neg (by omega), if_neg (by omega), if_neg (by omega), if_pos (by omega)]) hn (by rw [w64 (by omega)]) hc
  · rintro d n w9 ⟨r, o, hr, hn, h9, E9, ho⟩
    refine ⟨_, h9.cell 1, ?_⟩
    refine h9.mv (j := i + 2) (by rw [w64 (by omega)]; omega) fun w10 s10 h10 e10 => ?_
    have hP' : escP (L s) (i + 1) = .ok (i + 2, r, o) := by rw [hP hn, hr]
    rw [hP']
    rcases ho with ⟨rfl, rfl, hB⟩ | ⟨v, rfl, rfl, hv, rfl, hB⟩
    · refine ⟨fun g => by simp at g, fun _ => self_out (w0 := w) (b := b) (hB.keep e10 (by omega)) fun w13 e13 => ?_⟩
      exact ⟨(E9.trans e10).step e13 fun k hk h => by omega, rfl, Blk.keep h10 e13 (by omega)⟩
    · refine ⟨fun g => ?_, fun g => by have := of_decide_eq_false g; omega⟩
      refine (addR_ok (hB.keep e10 (by omega)) v v hv rfl rfl).use fun e w12 he => ?_
      obtain ⟨rfl, k12, e12⟩ := he
      have hd : decide ((v : Int) < 0) = false := by simp
      rw [hd]
      refine ⟨rfl, self_out (w0 := w) (b := b) k12 fun w13 e13 => ?_⟩
      exact ⟨(E9.trans e10).step (e12.trans e13) fun k hk h => by omega, rfl, Blk.keep h10 (e12.trans e13) (by omega)⟩
end Go.Proofs.Ytngbiaeliphdjaa.V
/- A set's least byte, its ranges, its parts, in the program's reader. No statement of the seat is proved here. -/
namespace Go.Proofs.Ytngbiaeliphdjaa.V
open Go.Vc Go.Proofs Go.RowKit
set_option linter.unusedVariables false
set_option linter.unusedSimpArgs false

theorem b256_size (f : Nat → Bool) : Array.size (⟨b256 f⟩ : Array Value) = 256 := b256_length f
theorem idx256 (f : Nat → Bool) (n : Nat) (h : n < 256) (w : World) : (Instr.index 177 (.agg ⟨b256 f⟩) (.int .i64 n)).run Try.prog w = .ok (.bool (f n)) w := by
  unfold Instr.index
  rw [bind_run (show (asIntOf (.int .i64 (n : Int))).run Try.prog w = .ok (.i64, (n : Int)) w from rfl)]
  simp only []
  rw [bind_run (underlying_run (show Try.prog.underlying 177 = some (.array 256 4) from by kernel_rfl) w)]
  simp only []
  rw [if_pos (by omega), bind_run (sizeOf_run (show sizeP Try.prog 4 = some 1 from by kernel_rfl) w)]
  rw [show Int.toNat (n : Int) * 1 = n from by omega]
  exact part_run_one (show Try.prog.underlying 4 = some .bool from by kernel_rfl) (by intro fs h; cases h) (by intro n e h; cases h) (by simpa using b256_get f n h) w
theorem low_ok (f : Nat → Bool) (v : Nat) (hv : v < 256) (h1 : f v = true) (h0 : ∀ n, n < v → f n = false) (w : World) : Cl Try.prog 162 [.agg ⟨b256 f⟩] w (RetB (.int .i64 v) w) := by
  apply vc162
  unfold V162
  refine newC_in fun w1 s1 k1 e1 => ?_
  have hb : Below w.heap.size w w1 := Ext.to (Below.refl _ _) e1 fun _ h => h.elim
  refine ⟨⟨b256 f⟩, by simp [b256_length], k1.all, fun k n w' => ∃ i : Nat, n = i ∧ i ≤ v ∧ k = 256 - i ∧ Below w.heap.size w w', ⟨_, 0, rfl, by omega, rfl, hb⟩, ?_⟩
  rintro k d n w2 ⟨i, rfl, hi, rfl, hb2⟩
  refine ⟨fun g => ?_, fun g => by have := of_decide_eq_false g; omega⟩
  refine ⟨f i, idx256 f i (by omega) w2, fun g1 => ?_, fun g1 => ?_⟩
  · have : i = v := by
      rcases Nat.lt_or_ge i v with h | h
      · rw [h0 i h] at g1; cases g1
      · omega
    subst this
    exact ⟨rfl, hb2⟩
  · have : i ≠ v := by rintro rfl; rw [h1] at g1; cases g1
    exact ⟨256 - (i + 1), by omega, i + 1, by rw [w64 (by omega)]; omega, by omega, rfl, hb2⟩

theorem elemRng : Elem Try.prog 108 134 2 16 := ⟨by kernel_rfl, by kernel_rfl, by kernel_rfl, ⟨[.int .i64 0, .int .i64 0], by kernel_rfl, rfl⟩⟩
theorem runEnd_lt (f : Nat → Bool) (j : Nat) (h : j < 256) : runEnd f j < 256 := by
  induction hk : 255 - j using Nat.strongRecOn generalizing j with
  | _ k ih =>
    rw [runEnd]
    split
    · split
      · exact ih (255 - (j + 1)) (by omega) (j + 1) (by omega) rfl
      · omega
    · omega
theorem ranges_ok {w : World} {b : Nat} {f : Nat → Bool} (h : Blk w.heap b 177 (b256 f)) :
    Cl Try.prog 146 [.pointer (some ⟨b, 0, none⟩)] w (fun e w' => ∃ a c, e = .returned (.slice a (runs f).length c) ∧ Row w.heap.size w' 134 2 a (runs f).length c (rngC (runs f)) ∧ Below w.heap.size w w') := by
  apply vc146
  unfold V146
  have hbl := h.lt
  refine ⟨fun k a l c n w' => ∃ (i : Nat) (done : List (Int × Int)), n = i ∧ k = 256 - i ∧ l = done.length ∧ done ++ runsF f i = runs f ∧ done.length ≤ i ∧ i ≤ 256 ∧ Row w.heap.size w' 134 2 a l c (rngC done) ∧ Below w.heap.size w w',
    ⟨_, 0, [], rfl, rfl, rfl, rfl, by simp, by omega, Row.nil _ _ (Nat.le_refl _), Below.refl _ _⟩, ?_⟩
  rintro k d a l c n w1 ⟨i, done, rfl, rfl, rfl, hd, hdl, hi, hR, hb⟩
  refine ⟨fun g => ?_, fun g => ?_⟩
  · have g' : i < 256 := by have := of_decide_eq_true g; omega
    have hB := h.below hb
    refine ⟨⟨by omega, by show (i : Int) < 256; omega⟩, f i, ?_, fun g1 => ?_, fun g1 => ?_⟩
    · rw [hB.cell, show 0 + Int.toNat (i : Int) * 1 = i from by omega]; exact b256_get f i g'
    · have hf : f i = false := by simpa using g1
      refine ⟨256 - (i + 1), by omega, i + 1, done, by rw [w64 (by omega)]; omega, rfl, rfl, ?_, by omega, by omega, hR, hb⟩
      rw [← hd]; conv => rhs; rw [runsF]
      rw [dif_pos g', if_neg (by rw [hf]; simp)]
    · have hf : f i = true := by simpa using g1
      have hrun : runsF f i = ((i : Int), (runEnd f i : Int)) :: runsF f (runEnd f i + 1) := by rw [runsF, dif_pos g', if_pos hf]
      have hre := runEnd_lt f i g'
      have hrg := runEnd_ge f i
      refine ⟨fun k n w' => ∃ j : Nat, n = j ∧ i ≤ j ∧ j < 256 ∧ k = 256 - j ∧ runEnd f j = runEnd f i ∧ Row w.heap.size w' 134 2 a done.length c (rngC done) ∧ Below w.heap.size w w', ⟨_, i, rfl, Nat.le_refl _, g', rfl, rfl, hR, hb⟩, ?_⟩
      rintro k d n w2 ⟨j, rfl, hij, hj, rfl, hje, hR2, hb2⟩
      have hfin : runEnd f i = j → newC [.int .i64 (i : Int), .int .i64 (j : Int)] 134 (fun (b20 : Nat) (w21 : World) => ∃ (a22 : Option Addr), ∃ (l22 : Nat), ∃ (c22 : Nat), ∃ (w23 : World), (Builtin.append_ #[108, 108] 108 #[.slice a done.length c, .slice (some ⟨b20, 0, none⟩) 1 1]).run Try.prog w21 = .ok (.slice a22 l22 c22) w23 ∧ (∃ (m24 : Nat), m24 < 256 - i ∧
          (fun (k : Nat) (a : Option Addr) (l c : Nat) (n : Int) (w' : World) => ∃ (i : Nat) (done : List (Int × Int)), n = i ∧ k = 256 - i ∧ l = done.length ∧ done ++ runsF f i = runs f ∧ done.length ≤ i ∧ i ≤ 256 ∧ Row w.heap.size w' 134 2 a l c (rngC done) ∧ Below w.heap.size w w') m24 a22 l22 c22 (IntKind.wrap .i64 ((j : Int) + 1)) w23)) w2 := by
        intro hjj
        obtain ⟨a3, c3, w3, r1, r2, r3⟩ := hR2.app1 elemRng (ys := [.int .i64 (i : Int), .int .i64 (j : Int)]) (n := 1) rfl rfl (by omega) (by omega)
        refine ⟨a3, _, c3, w3, r1, 256 - (j + 1), by omega, j + 1, done ++ [((i : Int), (j : Int))], by rw [w64 (by omega)]; omega, rfl, by simp, ?_, by simp; omega, by omega, ?_, r3.step hb2 (Nat.le_refl _)⟩
        · rw [← hd, hrun, hjj]; simp
        · rw [rngC_append]; exact r2
      refine ⟨fun g2 => ?_, fun g2 => ?_⟩
      · have g2' : j < 255 := by have := of_decide_eq_true g2; omega
        have e1 : IntKind.wrap .i64 ((j : Int) + 1) = ((j + 1 : Nat) : Int) := by rw [w64 (by omega)]; omega
        have hst : runEnd f j = if f (j + 1) then runEnd f (j + 1) else j := by rw [runEnd, dif_pos g2']
        refine ⟨⟨by omega, by show IntKind.wrap .i64 ((j : Int) + 1) < 256; omega⟩, f (j + 1), ?_, fun g3 => ?_, fun g3 => ?_⟩
        · rw [(h.below hb2).cell, e1, show 0 + Int.toNat ((j + 1 : Nat) : Int) * 1 = j + 1 from by omega]; exact b256_get f (j + 1) (by omega)
        · refine ⟨256 - (j + 1), by omega, j + 1, e1, by omega, by omega, rfl, ?_, hR2, hb2⟩
          rw [← hje, hst, if_pos g3]
        · exact hfin (by rw [← hje, hst, if_neg (by rw [g3]; simp)])
      · have g2' : j = 255 := by have := of_decide_eq_false g2; omega
        exact hfin (by rw [← hje, runEnd, dif_neg (by omega)])
  · have : i = 256 := by have := of_decide_eq_false g; omega
    subst this
    have : done = runs f := by rw [← hd, runsF]; simp
    subst this
    exact ⟨a, c, rfl, hR, hb⟩

theorem part_bad {w : World} {b : Nat} {s : ByteArray} {i g : Nat} {dp : Int} {a : Option Addr} {ln c : Nat} (h : Rd w b s i g dp a ln c) (first : Bool) (hl : ¬ i < s.size) :
    Cl Try.prog 161 [.pointer (some ⟨b, 0, none⟩), .bool first] w (fun e w' => e = PanicB s.size ∧ Below w.heap.size w w') := by
  apply vc161
  unfold V161
  refine newC_in fun w1 s1 k1 e1 => ?_
  have B1 : Below w.heap.size w w1 := Ext.to (Below.refl _ _) e1 fun _ h => h.elim
  refine (need_bad (Blk.keep h e1 fun h => h) hl).use fun e w2 he => ?_
  obtain ⟨rfl, b2⟩ := he
  exact ⟨rfl, B1.vstep b2⟩
theorem part_ok {w : World} {b : Nat} {s : ByteArray} {i g : Nat} {dp : Int} {a : Option Addr} {ln c : Nat} (h : Rd w b s i g dp a ln c) (hi : i < 10000) (first : Bool) (hl : i < s.size) (hf : first = true ∨ at_ (L s) i ≠ 93) :
    Cl Try.prog 161 [.pointer (some ⟨b, 0, none⟩), .bool first] w (EscR w b s g dp a ln c (partP (L s) i)) := by
  apply vc161
  unfold V161
  have hbl := h.lt
  refine newC_in fun w1 s1 k1 e1 => ?_
  have h1 : Rd w1 b s i g dp a ln c := Blk.keep h e1 fun h => h
  have E1 : Ext (fun k => k = b) w w1 := Ext.mono e1 fun _ _ h => h.elim
  refine (need_ret h1 hl).ret fun w2 b2 => ⟨_, rfl, fun g1 => ?_, fun g1 => ?_⟩
  · have g1' : at_ (L s) i = 92 := by have : ((at_ (L s) i : Nat) : Int) = 92 := by simpa using g1
                                      omega
    have hP : partP (L s) i = escP (L s) (i + 1) := by unfold partP; rw [if_pos g1']
    rw [hP]
    refine (escape_ok (h1.below b2) hi).use fun e w3 he => ?_
    obtain ⟨e3, he⟩ := he
    have E3 := (E1.trans (Ext.of_below b2)).trans e3
    cases hq : escP (L s) (i + 1) with
    | bad n => rw [hq] at he; subst he; exact ⟨E3, rfl⟩
    | ok x =>
      obtain ⟨j, rs, o⟩ := x
      rw [hq] at he
      obtain ⟨rfl, h3⟩ := he
      refine ⟨_, _, rfl, ?_⟩
      have k3 := (k1.below b2).keep e3 (by omega)
      refine stA_in k3 (b256_length _) List.length_replicate (b256_scal _) fun w4 s4 k4 e4 => ?_
      refine ⟨_, b256_size _, k4.all, E3.step e4 fun k hk h => by omega, rfl, Blk.keep h3 e4 (by omega)⟩
  · have g1' : at_ (L s) i ≠ 92 := by have : ((at_ (L s) i : Nat) : Int) ≠ 92 := by simpa using g1
                                      omega
    have hc := at_lt (L s) i
    have hP : partP (L s) i = .ok (i + 1, [(at_ (L s) i, at_ (L s) i)], some (at_ (L s) i)) := by unfold partP; rw [if_neg g1']
    rw [hP]
    have hgo : ∃ (n32 : Int), cellH w2.heap b (0 + 1) = some (.int .i64 n32) ∧ stW b (0 + 1) [.int .i64 (IntKind.wrap .i64 (n32 + 1))] (fun (w33 : World) => Cl Try.prog 145 [.pointer (some ⟨w.heap.size, 0, none⟩), .int .i64 (IntKind.wrap .i64 ((at_ (L s) i : Nat) : Int)), .int .i64 (IntKind.wrap .i64 ((at_ (L s) i : Nat) : Int))] w33 (retG (fun (r35 : Value) (w34 : World) => r35 = .tuple #[] ∧ ∃ (cs36 : Array Value), cs36.size = 256 ∧ cellsAt w34.heap w.heap.size 0 cs36.toList ∧ stA w.heap.size 0 256 cs36 (fun (w37 : World) => ∃ (cs38 : Array Value), cs38.size = 256 ∧ cellsAt w37.heap w.heap.size 0 cs38.toList ∧ EscR w b s g dp a ln c (.ok (i + 1, [(at_ (L s) i, at_ (L s) i)], some (at_ (L s) i))) (.returned (.tuple #[.agg cs38, .bool false])) w37) w34)
        fun c1 w1 => EscR w b s g dp a ln c (.ok (i + 1, [(at_ (L s) i, at_ (L s) i)], some (at_ (L s) i))) (.panicked c1) w1)) w2 := by
      have h2 := h1.below b2
      have k2 := k1.below b2
      rw [← b256_false, ← inR_nil] at k2
      refine ⟨_, h2.cell 1, ?_⟩
      refine h2.mv (j := i + 1) (by rw [w64 (by omega)]; omega) fun w3 s3 h3 e3 => ?_
      have hw : IntKind.wrap .i64 ((at_ (L s) i : Nat) : Int) = ((at_ (L s) i : Nat) : Int) := w64 (by omega)
      refine (addR_ok (k2.keep e3 (by omega)) _ _ hc hw hw).use fun e w4 he => ?_
      obtain ⟨rfl, k4, e4⟩ := he
      refine ⟨rfl, self_out (w0 := w) (b := b) k4 fun w5 e5 => ?_⟩
      refine ⟨((E1.trans (Ext.of_below b2)).trans e3).step (e4.trans e5) fun k hk h => by omega, rfl, ?_⟩
      exact Blk.keep h3 (e4.trans e5) (by omega)
    refine ⟨fun g2 => ⟨fun g3 => ?_, fun g3 => hgo⟩, fun g2 => hgo⟩
    have g2' : at_ (L s) i = 93 := by have : ((at_ (L s) i : Nat) : Int) = 93 := by simpa using g2
                                      omega
    rcases hf with hf | hf
    · rw [hf] at g3; cases g3
    · exact absurd g2' hf
end Go.Proofs.Ytngbiaeliphdjaa.V
/- Printed by vcgen.py, a program of this session: formulas of Go functions, each with the proof that it gives the function's contract. No statement of the seat is proved here. -/
namespace Go.Proofs.Ytngbiaeliphdjaa.V
open Go.Vc Go.Proofs
set_option linter.unusedVariables false
set_option maxRecDepth 100000
/-- (*impl.reader).set -/
def V144 (b1 : Nat) (o2 : Nat) (R : Ending → World → Prop) : World → Prop := fun w =>
  ∃ (n3 : Int), cellH w.heap b1 (o2 + 1) = some (.int .i64 n3) ∧ stW b1 (o2 + 1) [.int .i64 (IntKind.wrap .i64 (n3 + 1))] (fun (w4 : World) => Cl Try.prog 143 ([.pointer (some ⟨b1, o2, none⟩)]) w4 (retG (fun (r7 : Value) (w6 : World) => ∃ (n5 : Int), r7 = .int .u8 n5 ∧ ∃ (J8 : World → Prop), (((((n5 : Int) == 94) = true → ∃ (n9 : Int), cellH w6.heap b1 (o2 + 1) = some (.int .i64 n9) ∧ stW b1 (o2 + 1) [.int .i64 (IntKind.wrap .i64 (n9 + 1))] (fun (w10 : World) => J8  w10) w6) ∧ (((n5 : Int) == 94) = false → J8  w6))) ∧ ∀ (d11 : Nat → Value) (w12 : World), J8  w12 → newC (List.replicate 256 (.bool false)) 177 (fun (b13 : Nat) (w14 : World) => ∃ (I15 : Nat → Bool → World → Prop), (∃ (k17 : Nat), I15 k17 true w14) ∧ ∀ (k16 : Nat) (d19 : Nat → Value) (t20 : Bool) (w18 : World), I15 k16 t20 w18 → ∃ (J21 : World → Prop), (((t20 = true → J21  w18) ∧ (t20 = false → Cl Try.prog 143 ([.pointer (some ⟨b1, o2, none⟩)]) w18 (retG (fun (r24 : Value) (w23 : World) => ∃ (n22 : Int), r24 = .int .u8 n22 ∧ ((((n22 : Int) != 93) = true → J21  w23) ∧ (((n22 : Int) != 93) = false → ∃ (n25 : Int), cellH w23.heap b1 (o2 + 1) = some (.int .i64 n25) ∧ stW b1 (o2 + 1) [.int .i64 (IntKind.wrap .i64 (n25 + 1))] (fun (w26 : World) => ((((n5 : Int) == 94) = true → ∃ (I27 : Nat → Int → World → Prop), (∃ (k29 : Nat), I27 k29 0 w26) ∧ ∀ (k28 : Nat) (d31 : Nat → Value) (n32 : Int) (w30 : World), I27 k28 n32 w30 → (((decide ((n32 : Int) < 256)) = true → (0 ≤ (n32 : Int) ∧ (n32 : Int) < ((256 : Nat) : Int)) ∧ ∃ (t33 : Bool), cellH w30.heap b13 (0 + (Int.toNat n32) * 1) = some (.bool t33) ∧ (0 ≤ (n32 : Int) ∧ (n32 : Int) < ((256 : Nat) : Int)) ∧ stW b13 (0 + (Int.toNat n32) * 1) [.bool (!t33)] (fun (w34 : World) => (∃ (m35 : Nat), m35 < k28 ∧ I27 m35 (IntKind.wrap .i64 (n32 + 1)) w34)) w30) ∧ ((decide ((n32 : Int) < 256)) = false → Cl Try.prog 146 ([.pointer (some ⟨b13, 0, none⟩)]) w30 (retG (fun (r38 : Value) (w37 : World) => ∃ (a36 : Option Addr), ∃ (l36 : Nat), ∃ (c36 : Nat), r38 = .slice a36 l36 c36 ∧ R (.returned (.slice a36 l36 c36)) w37) (fun c w => R (.panicked c) w))))) ∧ (((n5 : Int) == 94) = false → Cl Try.prog 146 ([.pointer (some ⟨b13, 0, none⟩)]) w26 (retG (fun (r41 : Value) (w40 : World) => ∃ (a39 : Option Addr), ∃ (l39 : Nat), ∃ (c39 : Nat), r41 = .slice a39 l39 c39 ∧ R (.returned (.slice a39 l39 c39)) w40) (fun c w => R (.panicked c) w))))) w23))) (fun c w => R (.panicked c) w))))) ∧ ∀ (d42 : Nat → Value) (w43 : World), J21  w43 → Cl Try.prog 161 ([.pointer (some ⟨b1, o2, none⟩), .bool t20]) w43 (retG (fun (r47 : Value) (w46 : World) => ∃ (cs44 : Array Value), ∃ (t45 : Bool), r47 = .tuple #[.agg cs44, .bool t45] ∧ newC (List.replicate 256 (.bool false)) 177 (fun (b48 : Nat) (w49 : World) => stA b48 0 256 cs44 (fun (w50 : World) => ∃ (J51 : World → Prop), ((((!t45) = true → Cl Try.prog 143 ([.pointer (some ⟨b1, o2, none⟩)]) w50 (retG (fun (r54 : Value) (w53 : World) => ∃ (n52 : Int), r54 = .int .u8 n52 ∧ ((((n52 : Int) == 45) = true → drw (fun (w55 : World) => ∃ (n56 : Int), cellH w55.heap b1 (o2 + 1) = some (.int .i64 n56) ∧ ∃ (s57 : ByteArray), cellH w55.heap b1 o2 = some (.string s57) ∧ ∃ (J58 : World → Prop), ((((decide ((IntKind.wrap .i64 (n56 + 1) : Int) ≥ ((ByteArray.size s57 : Nat) : Int))) = true → ∃ (s59 : ByteArray), cellH w55.heap b1 o2 = some (.string s59) ∧ Cl Try.prog 76 ([.pointer (some ⟨b1, o2, none⟩), .int .i64 ((ByteArray.size s59 : Nat) : Int)]) w55 (retG (fun (r61 : Value) (w60 : World) => r61 = .tuple #[] ∧ J58  w60) (fun c w => R (.panicked c) w))) ∧ ((decide ((IntKind.wrap .i64 (n56 + 1) : Int) ≥ ((ByteArray.size s57 : Nat) : Int))) = false → J58  w55))) ∧ ∀ (d62 : Nat → Value) (w63 : World), J58  w63 → drw (fun (w64 : World) => ∃ (s65 : ByteArray), cellH w64.heap b1 o2 = some (.string s65) ∧ ∃ (n66 : Int), cellH w64.heap b1 (o2 + 1) = some (.int .i64 n66) ∧ (0 ≤ (IntKind.wrap .i64 (n66 + 1) : Int) ∧ (IntKind.wrap .i64 (n66 + 1) : Int) < ((ByteArray.size s65 : Nat) : Int)) ∧ ((((byteAt s65 (Int.toNat (IntKind.wrap .i64 (n66 + 1))) : Int) != 93) = true → ∃ (n67 : Int), cellH w64.heap b1 (o2 + 1) = some (.int .i64 n67) ∧ stW b1 (o2 + 1) [.int .i64 (IntKind.wrap .i64 (n67 + 1))] (fun (w68 : World) => ∃ (n69 : Int), cellH w68.heap b1 (o2 + 1) = some (.int .i64 n69) ∧ Cl Try.prog 161 ([.pointer (some ⟨b1, o2, none⟩), .bool false]) w68 (retG (fun (r73 : Value) (w72 : World) => ∃ (cs70 : Array Value), ∃ (t71 : Bool), r73 = .tuple #[.agg cs70, .bool t71] ∧ newC (List.replicate 256 (.bool false)) 177 (fun (b74 : Nat) (w75 : World) => stA b74 0 256 cs70 (fun (w76 : World) => drw (fun (w77 : World) => ((t71 = true → Cl Try.prog 76 ([.pointer (some ⟨b1, o2, none⟩), .int .i64 n69]) w77 (retG (fun (r79 : Value) (w78 : World) => r79 = .tuple #[] ∧ drw (fun (w80 : World) => ∃ (cs81 : Array Value), cs81.size = 256 ∧ cellsAt w80.heap b48 0 cs81.toList ∧ ∃ (cs82 : Array Value), cs82.size = 256 ∧ cellsAt w80.heap b74 0 cs82.toList ∧ Cl Try.prog 162 ([.agg cs81]) w80 (retG (fun (r85 : Value) (w84 : World) => ∃ (n83 : Int), r85 = .int .i64 n83 ∧ cellsAt w84.heap b74 0 cs82.toList ∧ Cl Try.prog 162 ([.agg cs82]) w84 (retG (fun (r88 : Value) (w87 : World) => ∃ (n86 : Int), r88 = .int .i64 n86 ∧ Cl Try.prog 145 ([.pointer (some ⟨b48, 0, none⟩), .int .i64 n83, .int .i64 n86]) w87 (retG (fun (r90 : Value) (w89 : World) => r90 = .tuple #[] ∧ J51  w89) (fun c w => R (.panicked c) w))) (fun c w => R (.panicked c) w))) (fun c w => R (.panicked c) w))) w78) (fun c w => R (.panicked c) w))) ∧ (t71 = false → ∃ (cs91 : Array Value), cs91.size = 256 ∧ cellsAt w77.heap b74 0 cs91.toList ∧ ∃ (cs92 : Array Value), cs92.size = 256 ∧ cellsAt w77.heap b48 0 cs92.toList ∧ Cl Try.prog 162 ([.agg cs91]) w77 (retG (fun (r95 : Value) (w94 : World) => ∃ (n93 : Int), r95 = .int .i64 n93 ∧ cellsAt w94.heap b48 0 cs92.toList ∧ Cl Try.prog 162 ([.agg cs92]) w94 (retG (fun (r98 : Value) (w97 : World) => ∃ (n96 : Int), r98 = .int .i64 n96 ∧ (((decide ((n93 : Int) < n96)) = true → Cl Try.prog 76 ([.pointer (some ⟨b1, o2, none⟩), .int .i64 n69]) w97 (retG (fun (r100 : Value) (w99 : World) => r100 = .tuple #[] ∧ drw (fun (w101 : World) => ∃ (cs102 : Array Value), cs102.size = 256 ∧ cellsAt w101.heap b48 0 cs102.toList ∧ ∃ (cs103 : Array Value), cs103.size = 256 ∧ cellsAt w101.heap b74 0 cs103.toList ∧ Cl Try.prog 162 ([.agg cs102]) w101 (retG (fun (r106 : Value) (w105 : World) => ∃ (n104 : Int), r106 = .int .i64 n104 ∧ cellsAt w105.heap b74 0 cs103.toList ∧ Cl Try.prog 162 ([.agg cs103]) w105 (retG (fun (r109 : Value) (w108 : World) => ∃ (n107 : Int), r109 = .int .i64 n107 ∧ Cl Try.prog 145 ([.pointer (some ⟨b48, 0, none⟩), .int .i64 n104, .int .i64 n107]) w108 (retG (fun (r111 : Value) (w110 : World) => r111 = .tuple #[] ∧ J51  w110) (fun c w => R (.panicked c) w))) (fun c w => R (.panicked c) w))) (fun c w => R (.panicked c) w))) w99) (fun c w => R (.panicked c) w))) ∧ ((decide ((n93 : Int) < n96)) = false → drw (fun (w112 : World) => ∃ (cs113 : Array Value), cs113.size = 256 ∧ cellsAt w112.heap b48 0 cs113.toList ∧ ∃ (cs114 : Array Value), cs114.size = 256 ∧ cellsAt w112.heap b74 0 cs114.toList ∧ Cl Try.prog 162 ([.agg cs113]) w112 (retG (fun (r117 : Value) (w116 : World) => ∃ (n115 : Int), r117 = .int .i64 n115 ∧ cellsAt w116.heap b74 0 cs114.toList ∧ Cl Try.prog 162 ([.agg cs114]) w116 (retG (fun (r120 : Value) (w119 : World) => ∃ (n118 : Int), r120 = .int .i64 n118 ∧ Cl Try.prog 145 ([.pointer (some ⟨b48, 0, none⟩), .int .i64 n115, .int .i64 n118]) w119 (retG (fun (r122 : Value) (w121 : World) => r122 = .tuple #[] ∧ J51  w121) (fun c w => R (.panicked c) w))) (fun c w => R (.panicked c) w))) (fun c w => R (.panicked c) w))) w97))) (fun c w => R (.panicked c) w))) (fun c w => R (.panicked c) w))))) w76) w75) w72) (fun c w => R (.panicked c) w))) w64) ∧ (((byteAt s65 (Int.toNat (IntKind.wrap .i64 (n66 + 1))) : Int) != 93) = false → J51  w64))) w63) w53) ∧ (((n52 : Int) == 45) = false → J51  w53))) (fun c w => R (.panicked c) w))) ∧ ((!t45) = false → J51  w50))) ∧ ∀ (d123 : Nat → Value) (w124 : World), J51  w124 → ∃ (cs125 : Array Value), cs125.size = 256 ∧ cellsAt w124.heap b48 0 cs125.toList ∧ ∃ (I126 : Nat → Int → World → Prop), (∃ (k128 : Nat), I126 k128 0 w124) ∧ ∀ (k127 : Nat) (d130 : Nat → Value) (n131 : Int) (w129 : World), I126 k127 n131 w129 → (((decide ((n131 : Int) < 256)) = true → ∃ (t132 : Bool), (Instr.index 177 (.agg cs125) (.int .i64 n131)).run Try.prog w129 = .ok (.bool t132) w129 ∧ (0 ≤ (n131 : Int) ∧ (n131 : Int) < ((256 : Nat) : Int)) ∧ ∃ (t133 : Bool), cellH w129.heap b13 (0 + (Int.toNat n131) * 1) = some (.bool t133) ∧ ((t133 = true → (0 ≤ (n131 : Int) ∧ (n131 : Int) < ((256 : Nat) : Int)) ∧ stW b13 (0 + (Int.toNat n131) * 1) [.bool true] (fun (w134 : World) => (∃ (m135 : Nat), m135 < k127 ∧ I126 m135 (IntKind.wrap .i64 (n131 + 1)) w134)) w129) ∧ (t133 = false → (0 ≤ (n131 : Int) ∧ (n131 : Int) < ((256 : Nat) : Int)) ∧ stW b13 (0 + (Int.toNat n131) * 1) [.bool t132] (fun (w136 : World) => (∃ (m137 : Nat), m137 < k127 ∧ I126 m137 (IntKind.wrap .i64 (n131 + 1)) w136)) w129))) ∧ ((decide ((n131 : Int) < 256)) = false → (∃ (m138 : Nat), m138 < k16 ∧ I15 m138 false w129)))) w49) w46) (fun c w => R (.panicked c) w))) w12) (fun c w => R (.panicked c) w))) w
def scr144 : Scr := (.run [0] (.close (.run [0, 1, 2, 3, 4, 5, 6, 7] (.close (.run [0, 1, 2, 3] (.close (.run [0] (.close (.cut [(25, none), (26, none), (27, none), (28, none), (29, none), (30, none), (31, none)] (.cond (.run [0, 1, 2, 3, 4, 5, 6, 7] (.close .nil)) .nil) (.run [0] (.close (.run [0] (.close (.loop [(5, some .bool), (6, none), (7, none), (8, none), (9, none), (10, none), (11, none), (12, none), (32, none), (33, none), (34, none), (35, none), (36, none), (37, none), (38, none), (39, none), (40, none), (41, none), (42, none), (43, none), (44, none), (45, none), (46, none), (47, none), (48, none), (49, none), (50, none), (51, none), (52, none), (53, none), (54, none), (55, none), (56, none), (57, none), (58, none), (59, none), (60, none), (61, none), (62, none), (63, none), (64, none), (65, none), (66, none), (67, none), (68, none), (69, none), (70, none), (71, none), (72, none), (73, none), (74, none), (75, none), (76, none), (77, none), (78, none), (79, none), (80, none), (81, none), (82, none), (83, none), (84, none), (85, none), (86, none), (87, none), (88, none), (89, none), (90, none), (91, none), (92, none), (93, none), (94, none), (95, none), (96, none), (97, none), (98, none), (99, none), (100, none), (101, none), (102, none), (103, none), (104, none), (105, none), (106, none), (107, none), (108, none), (109, none), (110, none), (111, none), (112, none), (113, none), (114, none), (115, none), (116, none), (117, none), (118, none), (119, none), (120, none), (121, none), (122, none), (123, none), (124, none), (125, none)] (.cutS [(32, none), (33, none), (34, none), (35, none), (36, none), (37, none)] (.run [0, 1] (.split 33 (.run [2, 3, 4, 5] (.close (.lit .nil))) (.run [2, 3, 4, 5] (.close (.cond .nil (.run [0, 1, 2, 3, 4, 5, 6, 7] (.close (.run [0] (.close (.cond (.run [0] (.close (.loop [(134, some (.int .i64)), (13, none), (135, none), (136, none), (137, none), (138, none), (139, none), (140, none), (141, none), (142, none), (143, none)] (.run [0] (.close (.cond (.run [0, 1] (.close (.run [0, 1, 2, 3, 4, 5, 6] (.close (.run [0, 1] (.close .nil)))))) (.run [0, 1] (.close .nil)))))))) (.run [0, 1] (.close .nil)))))))))))) (.run [0, 1, 2, 3, 4, 5, 6, 7, 8] (.close (.cutS [(8, none), (9, none), (10, none), (44, none), (45, none), (46, none), (47, none), (48, none), (49, none), (50, none), (51, none), (52, none), (53, none), (54, none), (55, none), (56, none), (57, none), (58, none), (59, none), (60, none), (61, none), (62, none), (63, none), (64, none), (65, none), (66, none), (67, none), (68, none), (69, none), (70, none), (71, none), (72, none), (73, none), (74, none), (75, none), (76, none), (77, none), (78, none), (79, none), (80, none), (81, none), (82, none), (83, none), (84, none), (85, none), (86, none), (87, none), (88, none), (89, none), (90, none), (91, none), (92, none), (93, none), (94, none), (95, none), (96, none), (97, none), (98, none), (99, none), (100, none), (101, none), (102, none), (103, none), (104, none), (105, none), (106, none), (107, none), (108, none), (109, none), (110, none), (111, none)] (.run [0, 1, 2] (.split 46 (.run [3, 4, 5, 6] (.close (.cond (.run [0, 1, 2, 3, 4, 5, 6, 7, 8, 9, 10] (.close (.cut [(62, none), (63, none), (64, none), (65, none), (66, none), (67, none), (68, none)] (.cond (.run [0, 1, 2, 3, 4, 5, 6] (.close .nil)) .nil) (.run [0, 1, 2, 3, 4, 5, 6, 7, 8, 9, 10] (.close (.cond (.run [0, 1, 2, 3, 4, 5, 6, 7] (.close (.run [0, 1, 2, 3, 4] (.close (.run [0, 1, 2, 3, 4, 5, 6, 7] (.close (.run [0, 1] (.split 97 (.run [2, 3, 4, 5, 6, 7] (.close (.lit (.run [0, 1, 2] (.close (.run [0, 2, 1, 3, 4] (.close .nil))))))) (.run [2, 4, 3, 5, 6, 7] (.close (.cond (.run [0, 1, 2] (.close (.run [0, 2, 1, 3, 4] (.close .nil)))) (.run [0, 2, 1, 3, 4] (.close .nil))))))))))))) .nil)))))) .nil))) (.run [3, 4, 5, 6] (.close (.lit .nil))))) (.run [0, 1] (.close (.loop [(113, some (.int .i64)), (11, none), (12, none), (114, none), (115, none), (116, none), (117, none), (118, none), (119, none), (120, none), (121, none), (122, none), (123, none), (124, none), (125, none)] (.run [0] (.close (.cond (.run [0, 1, 2, 3] (.close (.run [0, 1, 2, 3, 4] (.split 121 (.run [5, 6, 7, 8] (.close (.run [0, 1] (.close .nil)))) (.run [5, 6, 7, 8] (.close (.run [0, 1] (.close .nil)))))))) (.run [0] (.close .nil))))))))))))))))))))))))))
theorem vc144 {b1 : Nat} {o2 : Nat} {R : Ending → World → Prop} {w : World} (h : V144 b1 o2 R w) : Cl Try.prog 144 [.pointer (some ⟨b1, o2, none⟩)] w R :=
  cl_of scr144 Try.func144 (by kernel_rfl) [.pointer (some ⟨b1, o2, none⟩)] (V144 b1 o2 R) (by kernel_rfl) h
/-- (*impl.reader).number -/
def V148 (b1 : Nat) (o2 : Nat) (R : Ending → World → Prop) : World → Prop := fun w =>
  ∃ (n3 : Int), cellH w.heap b1 (o2 + 1) = some (.int .i64 n3) ∧ Cl Try.prog 143 ([.pointer (some ⟨b1, o2, none⟩)]) w (retG (fun (r6 : Value) (w5 : World) => ∃ (n4 : Int), r6 = .int .u8 n4 ∧ ∃ (J7 : World → Prop), ((((decide ((n4 : Int) < 48)) = true → ∃ (n8 : Int), cellH w5.heap b1 (o2 + 1) = some (.int .i64 n8) ∧ Cl Try.prog 76 ([.pointer (some ⟨b1, o2, none⟩), .int .i64 n8]) w5 (retG (fun (r10 : Value) (w9 : World) => r10 = .tuple #[] ∧ J7  w9) (fun c w => R (.panicked c) w))) ∧ ((decide ((n4 : Int) < 48)) = false → (((decide ((n4 : Int) > 57)) = true → ∃ (n11 : Int), cellH w5.heap b1 (o2 + 1) = some (.int .i64 n11) ∧ Cl Try.prog 76 ([.pointer (some ⟨b1, o2, none⟩), .int .i64 n11]) w5 (retG (fun (r13 : Value) (w12 : World) => r13 = .tuple #[] ∧ J7  w12) (fun c w => R (.panicked c) w))) ∧ ((decide ((n4 : Int) > 57)) = false → J7  w5))))) ∧ ∀ (d14 : Nat → Value) (w15 : World), J7  w15 → ∃ (I16 : Nat → Int → World → Prop), (∃ (k18 : Nat), I16 k18 0 w15) ∧ ∀ (k17 : Nat) (d20 : Nat → Value) (n21 : Int) (w19 : World), I16 k17 n21 w19 → drw (fun (w22 : World) => Cl Try.prog 75 ([.pointer (some ⟨b1, o2, none⟩)]) w22 (retG (fun (r25 : Value) (w24 : World) => ∃ (t23 : Bool), r25 = .bool t23 ∧ (((!t23) = true → ∃ (s26 : ByteArray), cellH w24.heap b1 o2 = some (.string s26) ∧ ∃ (n27 : Int), cellH w24.heap b1 (o2 + 1) = some (.int .i64 n27) ∧ (0 ≤ (n27 : Int) ∧ (n27 : Int) < ((ByteArray.size s26 : Nat) : Int)) ∧ (((decide ((byteAt s26 (Int.toNat n27) : Int) ≥ 48)) = true → ∃ (s28 : ByteArray), cellH w24.heap b1 o2 = some (.string s28) ∧ ∃ (n29 : Int), cellH w24.heap b1 (o2 + 1) = some (.int .i64 n29) ∧ (0 ≤ (n29 : Int) ∧ (n29 : Int) < ((ByteArray.size s28 : Nat) : Int)) ∧ (((decide ((byteAt s28 (Int.toNat n29) : Int) ≤ 57)) = true → drw (fun (w30 : World) => ∃ (s31 : ByteArray), cellH w30.heap b1 o2 = some (.string s31) ∧ ∃ (n32 : Int), cellH w30.heap b1 (o2 + 1) = some (.int .i64 n32) ∧ (0 ≤ (n32 : Int) ∧ (n32 : Int) < ((ByteArray.size s31 : Nat) : Int)) ∧ ∃ (n33 : Int), (Builtin.min_ #[3, 3] 3 #[.int .i64 1000, .int .i64 (IntKind.wrap .i64 ((IntKind.wrap .i64 (10 * n21)) + (IntKind.wrap .i64 (IntKind.wrap .u8 ((byteAt s31 (Int.toNat n32)) - 48)))))]).run Try.prog w30 = .ok (.int .i64 n33) w30 ∧ ∃ (n34 : Int), cellH w30.heap b1 (o2 + 1) = some (.int .i64 n34) ∧ stW b1 (o2 + 1) [.int .i64 (IntKind.wrap .i64 (n34 + 1))] (fun (w35 : World) => (∃ (m36 : Nat), m36 < k17 ∧ I16 m36 n33 w35)) w30) w24) ∧ ((decide ((byteAt s28 (Int.toNat n29) : Int) ≤ 57)) = false → (((decide ((n21 : Int) > 50)) = true → Cl Try.prog 76 ([.pointer (some ⟨b1, o2, none⟩), .int .i64 n3]) w24 (retG (fun (r38 : Value) (w37 : World) => r38 = .tuple #[] ∧ R (.returned (.int .i64 n21)) w37) (fun c w => R (.panicked c) w))) ∧ ((decide ((n21 : Int) > 50)) = false → R (.returned (.int .i64 n21)) w24))))) ∧ ((decide ((byteAt s26 (Int.toNat n27) : Int) ≥ 48)) = false → (((decide ((n21 : Int) > 50)) = true → Cl Try.prog 76 ([.pointer (some ⟨b1, o2, none⟩), .int .i64 n3]) w24 (retG (fun (r40 : Value) (w39 : World) => r40 = .tuple #[] ∧ R (.returned (.int .i64 n21)) w39) (fun c w => R (.panicked c) w))) ∧ ((decide ((n21 : Int) > 50)) = false → R (.returned (.int .i64 n21)) w24))))) ∧ ((!t23) = false → (((decide ((n21 : Int) > 50)) = true → Cl Try.prog 76 ([.pointer (some ⟨b1, o2, none⟩), .int .i64 n3]) w24 (retG (fun (r42 : Value) (w41 : World) => r42 = .tuple #[] ∧ R (.returned (.int .i64 n21)) w41) (fun c w => R (.panicked c) w))) ∧ ((decide ((n21 : Int) > 50)) = false → R (.returned (.int .i64 n21)) w24))))) (fun c w => R (.panicked c) w))) w19) (fun c w => R (.panicked c) w))
def scr148 : Scr := (.run [0] (.close (.run [0, 1, 2, 3, 4] (.close (.run [0, 1, 2] (.close (.cutS [(12, none), (13, none), (14, none), (15, none), (16, none), (17, none), (18, none), (19, none), (20, none), (21, none), (22, none), (23, none)] (.run [0, 1, 2] (.split 14 (.run [3, 4, 5] (.close (.lit (.run [0, 1, 2, 3, 4, 5] (.close .nil))))) (.run [3, 4, 5] (.close (.cond (.run [0, 1, 2, 3, 4, 5] (.close .nil)) .nil))))) (.run [0] (.close (.loop [(5, some (.int .i64)), (24, none), (25, none), (26, none), (27, none), (28, none), (29, none), (30, none), (31, none), (32, none), (33, none), (34, none), (35, none), (36, none), (37, none), (38, none), (39, none), (40, none), (41, none), (42, none), (43, none), (44, none), (45, none), (46, none), (47, none), (48, none), (49, none), (50, none), (51, none), (52, none), (53, none), (54, none), (55, none), (56, none), (57, none), (58, none), (59, none), (60, none), (61, none), (62, none), (63, none), (64, none), (65, none), (66, none), (67, none), (68, none), (69, none), (70, none), (71, none), (72, none)] (.run [0, 1, 2, 3] (.split 27 (.run [4, 5, 6, 7, 8, 9, 10, 11, 12, 13, 14, 15] (.split 39 (.run [16, 17, 18, 19, 20, 21, 22, 23, 24, 25, 26] (.close (.cond (.run [0, 1, 2, 3, 4, 5, 6, 7, 8, 9, 10, 11, 12, 13, 14, 15] (.close (.run [0, 1, 2, 3, 4, 5, 6, 7] (.close .nil)))) (.run [0, 1] (.close (.cond (.run [0, 1, 2] (.close (.run [0, 1] (.close .nil)))) (.run [0, 1] (.close .nil)))))))) (.run [16, 17, 18, 19, 20, 21, 22, 23, 24, 25, 26] (.close (.lit (.run [0, 1] (.close (.cond (.run [0, 1, 2] (.close (.run [0, 1] (.close .nil)))) (.run [0, 1] (.close .nil)))))))))) (.run [4, 5, 6, 7, 8, 9, 10, 11, 12, 13, 14, 15, 16, 17, 18, 19, 20, 21, 22, 23, 24, 25, 26] (.close (.lit (.run [0, 1] (.close (.cond (.run [0, 1, 2] (.close (.run [0, 1] (.close .nil)))) (.run [0, 1] (.close .nil))))))))))))))))))))
theorem vc148 {b1 : Nat} {o2 : Nat} {R : Ending → World → Prop} {w : World} (h : V148 b1 o2 R w) : Cl Try.prog 148 [.pointer (some ⟨b1, o2, none⟩)] w R :=
  cl_of scr148 Try.func148 (by kernel_rfl) [.pointer (some ⟨b1, o2, none⟩)] (V148 b1 o2 R) (by kernel_rfl) h
/-- (*impl.reader).counts -/
def V127 (b1 : Nat) (o2 : Nat) (n3 : Int) (R : Ending → World → Prop) : World → Prop := fun w =>
  Cl Try.prog 75 ([.pointer (some ⟨b1, o2, none⟩)]) w (retG (fun (r6 : Value) (w5 : World) => ∃ (t4 : Bool), r6 = .bool t4 ∧ ((t4 = true → R (.returned (.int .i64 n3)) w5) ∧ (t4 = false → newC [.int .i64 n3] 3 (fun (b7 : Nat) (w8 : World) => newC [.int .i64 0, .slice none 0 0, .int .i64 0, .int .i64 0, .bool false, .int .i64 0, .slice none 0 0] 111 (fun (b9 : Nat) (w10 : World) => stW b9 0 [.int .i64 4, .slice none 0 0, .int .i64 0, .int .i64 0, .bool false, .int .i64 0, .slice (some ⟨b7, 0, none⟩) 1 1] (fun (w11 : World) => drw (fun (w12 : World) => ∃ (s13 : ByteArray), cellH w12.heap b1 o2 = some (.string s13) ∧ ∃ (n14 : Int), cellH w12.heap b1 (o2 + 1) = some (.int .i64 n14) ∧ (0 ≤ (n14 : Int) ∧ (n14 : Int) < ((ByteArray.size s13 : Nat) : Int)) ∧ ∃ (J15 : World → Prop), (((((byteAt s13 (Int.toNat n14) : Int) == 42) = true → stW b9 3 [.int .i64 (-1)] (fun (w16 : World) => ∃ (n17 : Int), cellH w16.heap b1 (o2 + 1) = some (.int .i64 n17) ∧ stW b1 (o2 + 1) [.int .i64 (IntKind.wrap .i64 (n17 + 1))] (fun (w18 : World) => J15  w18) w16) w12) ∧ (((byteAt s13 (Int.toNat n14) : Int) == 42) = false → ((((byteAt s13 (Int.toNat n14) : Int) == 43) = true → stW b9 2 [.int .i64 1] (fun (w19 : World) => stW b9 3 [.int .i64 (-1)] (fun (w20 : World) => ∃ (n21 : Int), cellH w20.heap b1 (o2 + 1) = some (.int .i64 n21) ∧ stW b1 (o2 + 1) [.int .i64 (IntKind.wrap .i64 (n21 + 1))] (fun (w22 : World) => J15  w22) w20) w19) w12) ∧ (((byteAt s13 (Int.toNat n14) : Int) == 43) = false → ((((byteAt s13 (Int.toNat n14) : Int) == 63) = true → stW b9 3 [.int .i64 1] (fun (w23 : World) => ∃ (n24 : Int), cellH w23.heap b1 (o2 + 1) = some (.int .i64 n24) ∧ stW b1 (o2 + 1) [.int .i64 (IntKind.wrap .i64 (n24 + 1))] (fun (w25 : World) => J15  w25) w23) w12) ∧ (((byteAt s13 (Int.toNat n14) : Int) == 63) = false → ((((byteAt s13 (Int.toNat n14) : Int) == 123) = true → ∃ (n26 : Int), cellH w12.heap b1 (o2 + 1) = some (.int .i64 n26) ∧ stW b1 (o2 + 1) [.int .i64 (IntKind.wrap .i64 (n26 + 1))] (fun (w27 : World) => Cl Try.prog 148 ([.pointer (some ⟨b1, o2, none⟩)]) w27 (retG (fun (r30 : Value) (w29 : World) => ∃ (n28 : Int), r30 = .int .i64 n28 ∧ stW b9 2 [.int .i64 n28] (fun (w31 : World) => ∃ (n32 : Int), cellH w31.heap b9 2 = some (.int .i64 n32) ∧ stW b9 3 [.int .i64 n32] (fun (w33 : World) => Cl Try.prog 143 ([.pointer (some ⟨b1, o2, none⟩)]) w33 (retG (fun (r36 : Value) (w35 : World) => ∃ (n34 : Int), r36 = .int .u8 n34 ∧ ((((n34 : Int) == 44) = true → ∃ (n37 : Int), cellH w35.heap b1 (o2 + 1) = some (.int .i64 n37) ∧ stW b1 (o2 + 1) [.int .i64 (IntKind.wrap .i64 (n37 + 1))] (fun (w38 : World) => stW b9 3 [.int .i64 (-1)] (fun (w39 : World) => Cl Try.prog 143 ([.pointer (some ⟨b1, o2, none⟩)]) w39 (retG (fun (r42 : Value) (w41 : World) => ∃ (n40 : Int), r42 = .int .u8 n40 ∧ ((((n40 : Int) != 125) = true → ∃ (n43 : Int), cellH w41.heap b1 (o2 + 1) = some (.int .i64 n43) ∧ Cl Try.prog 148 ([.pointer (some ⟨b1, o2, none⟩)]) w41 (retG (fun (r46 : Value) (w45 : World) => ∃ (n44 : Int), r46 = .int .i64 n44 ∧ stW b9 3 [.int .i64 n44] (fun (w47 : World) => ∃ (n48 : Int), cellH w47.heap b9 3 = some (.int .i64 n48) ∧ ∃ (n49 : Int), cellH w47.heap b9 2 = some (.int .i64 n49) ∧ (((decide ((n48 : Int) < n49)) = true → Cl Try.prog 76 ([.pointer (some ⟨b1, o2, none⟩), .int .i64 n43]) w47 (retG (fun (r51 : Value) (w50 : World) => r51 = .tuple #[] ∧ Cl Try.prog 143 ([.pointer (some ⟨b1, o2, none⟩)]) w50 (retG (fun (r54 : Value) (w53 : World) => ∃ (n52 : Int), r54 = .int .u8 n52 ∧ ((((n52 : Int) != 125) = true → ∃ (n55 : Int), cellH w53.heap b1 (o2 + 1) = some (.int .i64 n55) ∧ Cl Try.prog 76 ([.pointer (some ⟨b1, o2, none⟩), .int .i64 n55]) w53 (retG (fun (r57 : Value) (w56 : World) => r57 = .tuple #[] ∧ ∃ (n58 : Int), cellH w56.heap b1 (o2 + 1) = some (.int .i64 n58) ∧ stW b1 (o2 + 1) [.int .i64 (IntKind.wrap .i64 (n58 + 1))] (fun (w59 : World) => J15  w59) w56) (fun c w => R (.panicked c) w))) ∧ (((n52 : Int) != 125) = false → ∃ (n60 : Int), cellH w53.heap b1 (o2 + 1) = some (.int .i64 n60) ∧ stW b1 (o2 + 1) [.int .i64 (IntKind.wrap .i64 (n60 + 1))] (fun (w61 : World) => J15  w61) w53))) (fun c w => R (.panicked c) w))) (fun c w => R (.panicked c) w))) ∧ ((decide ((n48 : Int) < n49)) = false → Cl Try.prog 143 ([.pointer (some ⟨b1, o2, none⟩)]) w47 (retG (fun (r64 : Value) (w63 : World) => ∃ (n62 : Int), r64 = .int .u8 n62 ∧ ((((n62 : Int) != 125) = true → ∃ (n65 : Int), cellH w63.heap b1 (o2 + 1) = some (.int .i64 n65) ∧ Cl Try.prog 76 ([.pointer (some ⟨b1, o2, none⟩), .int .i64 n65]) w63 (retG (fun (r67 : Value) (w66 : World) => r67 = .tuple #[] ∧ ∃ (n68 : Int), cellH w66.heap b1 (o2 + 1) = some (.int .i64 n68) ∧ stW b1 (o2 + 1) [.int .i64 (IntKind.wrap .i64 (n68 + 1))] (fun (w69 : World) => J15  w69) w66) (fun c w => R (.panicked c) w))) ∧ (((n62 : Int) != 125) = false → ∃ (n70 : Int), cellH w63.heap b1 (o2 + 1) = some (.int .i64 n70) ∧ stW b1 (o2 + 1) [.int .i64 (IntKind.wrap .i64 (n70 + 1))] (fun (w71 : World) => J15  w71) w63))) (fun c w => R (.panicked c) w))))) w45) (fun c w => R (.panicked c) w))) ∧ (((n40 : Int) != 125) = false → Cl Try.prog 143 ([.pointer (some ⟨b1, o2, none⟩)]) w41 (retG (fun (r74 : Value) (w73 : World) => ∃ (n72 : Int), r74 = .int .u8 n72 ∧ ((((n72 : Int) != 125) = true → ∃ (n75 : Int), cellH w73.heap b1 (o2 + 1) = some (.int .i64 n75) ∧ Cl Try.prog 76 ([.pointer (some ⟨b1, o2, none⟩), .int .i64 n75]) w73 (retG (fun (r77 : Value) (w76 : World) => r77 = .tuple #[] ∧ ∃ (n78 : Int), cellH w76.heap b1 (o2 + 1) = some (.int .i64 n78) ∧ stW b1 (o2 + 1) [.int .i64 (IntKind.wrap .i64 (n78 + 1))] (fun (w79 : World) => J15  w79) w76) (fun c w => R (.panicked c) w))) ∧ (((n72 : Int) != 125) = false → ∃ (n80 : Int), cellH w73.heap b1 (o2 + 1) = some (.int .i64 n80) ∧ stW b1 (o2 + 1) [.int .i64 (IntKind.wrap .i64 (n80 + 1))] (fun (w81 : World) => J15  w81) w73))) (fun c w => R (.panicked c) w))))) (fun c w => R (.panicked c) w))) w38) w35) ∧ (((n34 : Int) == 44) = false → Cl Try.prog 143 ([.pointer (some ⟨b1, o2, none⟩)]) w35 (retG (fun (r84 : Value) (w83 : World) => ∃ (n82 : Int), r84 = .int .u8 n82 ∧ ((((n82 : Int) != 125) = true → ∃ (n85 : Int), cellH w83.heap b1 (o2 + 1) = some (.int .i64 n85) ∧ Cl Try.prog 76 ([.pointer (some ⟨b1, o2, none⟩), .int .i64 n85]) w83 (retG (fun (r87 : Value) (w86 : World) => r87 = .tuple #[] ∧ ∃ (n88 : Int), cellH w86.heap b1 (o2 + 1) = some (.int .i64 n88) ∧ stW b1 (o2 + 1) [.int .i64 (IntKind.wrap .i64 (n88 + 1))] (fun (w89 : World) => J15  w89) w86) (fun c w => R (.panicked c) w))) ∧ (((n82 : Int) != 125) = false → ∃ (n90 : Int), cellH w83.heap b1 (o2 + 1) = some (.int .i64 n90) ∧ stW b1 (o2 + 1) [.int .i64 (IntKind.wrap .i64 (n90 + 1))] (fun (w91 : World) => J15  w91) w83))) (fun c w => R (.panicked c) w))))) (fun c w => R (.panicked c) w))) w31) w29) (fun c w => R (.panicked c) w))) w12) ∧ (((byteAt s13 (Int.toNat n14) : Int) == 123) = false → R (.returned (.int .i64 n3)) w12))))))))) ∧ ∀ (d92 : Nat → Value) (w93 : World), J15  w93 → drw (fun (w94 : World) => Cl Try.prog 75 ([.pointer (some ⟨b1, o2, none⟩)]) w94 (retG (fun (r97 : Value) (w96 : World) => ∃ (t95 : Bool), r97 = .bool t95 ∧ (((!t95) = true → ∃ (s98 : ByteArray), cellH w96.heap b1 o2 = some (.string s98) ∧ ∃ (n99 : Int), cellH w96.heap b1 (o2 + 1) = some (.int .i64 n99) ∧ (0 ≤ (n99 : Int) ∧ (n99 : Int) < ((ByteArray.size s98 : Nat) : Int)) ∧ ((((byteAt s98 (Int.toNat n99) : Int) == 63) = true → stW b9 4 [.bool true] (fun (w100 : World) => ∃ (n101 : Int), cellH w100.heap b1 (o2 + 1) = some (.int .i64 n101) ∧ stW b1 (o2 + 1) [.int .i64 (IntKind.wrap .i64 (n101 + 1))] (fun (w102 : World) => ∃ (n103 : Int), cellH w102.heap b9 0 = some (.int .i64 n103) ∧ ∃ (a104 : Option Addr), ∃ (l104 : Nat), ∃ (c104 : Nat), cellH w102.heap b9 1 = some (.slice a104 l104 c104) ∧ ∃ (n105 : Int), cellH w102.heap b9 2 = some (.int .i64 n105) ∧ ∃ (n106 : Int), cellH w102.heap b9 3 = some (.int .i64 n106) ∧ ∃ (t107 : Bool), cellH w102.heap b9 4 = some (.bool t107) ∧ ∃ (n108 : Int), cellH w102.heap b9 5 = some (.int .i64 n108) ∧ ∃ (a109 : Option Addr), ∃ (l109 : Nat), ∃ (c109 : Nat), cellH w102.heap b9 6 = some (.slice a109 l109 c109) ∧ Cl Try.prog 110 ([.pointer (some ⟨b1, o2, none⟩), .agg #[.int .i64 n103, .slice a104 l104 c104, .int .i64 n105, .int .i64 n106, .bool t107, .int .i64 n108, .slice a109 l109 c109]]) w102 (retG (fun (r112 : Value) (w111 : World) => ∃ (n110 : Int), r112 = .int .i64 n110 ∧ R (.returned (.int .i64 n110)) w111) (fun c w => R (.panicked c) w))) w100) w96) ∧ (((byteAt s98 (Int.toNat n99) : Int) == 63) = false → ∃ (n113 : Int), cellH w96.heap b9 0 = some (.int .i64 n113) ∧ ∃ (a114 : Option Addr), ∃ (l114 : Nat), ∃ (c114 : Nat), cellH w96.heap b9 1 = some (.slice a114 l114 c114) ∧ ∃ (n115 : Int), cellH w96.heap b9 2 = some (.int .i64 n115) ∧ ∃ (n116 : Int), cellH w96.heap b9 3 = some (.int .i64 n116) ∧ ∃ (t117 : Bool), cellH w96.heap b9 4 = some (.bool t117) ∧ ∃ (n118 : Int), cellH w96.heap b9 5 = some (.int .i64 n118) ∧ ∃ (a119 : Option Addr), ∃ (l119 : Nat), ∃ (c119 : Nat), cellH w96.heap b9 6 = some (.slice a119 l119 c119) ∧ Cl Try.prog 110 ([.pointer (some ⟨b1, o2, none⟩), .agg #[.int .i64 n113, .slice a114 l114 c114, .int .i64 n115, .int .i64 n116, .bool t117, .int .i64 n118, .slice a119 l119 c119]]) w96 (retG (fun (r122 : Value) (w121 : World) => ∃ (n120 : Int), r122 = .int .i64 n120 ∧ R (.returned (.int .i64 n120)) w121) (fun c w => R (.panicked c) w))))) ∧ ((!t95) = false → ∃ (n123 : Int), cellH w96.heap b9 0 = some (.int .i64 n123) ∧ ∃ (a124 : Option Addr), ∃ (l124 : Nat), ∃ (c124 : Nat), cellH w96.heap b9 1 = some (.slice a124 l124 c124) ∧ ∃ (n125 : Int), cellH w96.heap b9 2 = some (.int .i64 n125) ∧ ∃ (n126 : Int), cellH w96.heap b9 3 = some (.int .i64 n126) ∧ ∃ (t127 : Bool), cellH w96.heap b9 4 = some (.bool t127) ∧ ∃ (n128 : Int), cellH w96.heap b9 5 = some (.int .i64 n128) ∧ ∃ (a129 : Option Addr), ∃ (l129 : Nat), ∃ (c129 : Nat), cellH w96.heap b9 6 = some (.slice a129 l129 c129) ∧ Cl Try.prog 110 ([.pointer (some ⟨b1, o2, none⟩), .agg #[.int .i64 n123, .slice a124 l124 c124, .int .i64 n125, .int .i64 n126, .bool t127, .int .i64 n128, .slice a129 l129 c129]]) w96 (retG (fun (r132 : Value) (w131 : World) => ∃ (n130 : Int), r132 = .int .i64 n130 ∧ R (.returned (.int .i64 n130)) w131) (fun c w => R (.panicked c) w))))) (fun c w => R (.panicked c) w))) w93) w11) w10) w8) w5))) (fun c w => R (.panicked c) w))
def scr127 : Scr := (.run [0] (.close (.run [0, 1] (.close (.cond (.run [0, 1] (.close .nil)) (.run [0, 1, 2, 3, 4] (.close (.run [0, 1, 2, 3, 4, 5, 6, 7, 8] (.close (.run [0, 1] (.close (.cut [(4, none), (6, none), (22, none), (25, none), (26, none), (27, none), (28, none), (29, none), (30, none), (31, none), (32, none), (33, none), (34, none), (35, none), (36, none), (37, none), (38, none), (39, none), (40, none), (41, none), (42, none), (43, none), (44, none), (45, none), (46, none), (47, none), (48, none), (49, none), (50, none), (51, none), (52, none), (53, none), (54, none), (55, none), (56, none), (57, none), (58, none), (59, none), (60, none), (61, none), (62, none), (63, none), (64, none), (65, none), (66, none), (67, none), (68, none), (69, none), (70, none), (71, none), (72, none), (73, none), (74, none), (75, none), (76, none), (77, none), (78, none), (79, none), (80, none), (81, none), (82, none), (83, none), (84, none), (85, none), (86, none), (87, none), (88, none), (89, none), (90, none), (91, none), (92, none), (93, none), (94, none), (95, none), (96, none), (97, none), (98, none), (99, none), (100, none), (101, none), (102, none), (103, none), (104, none), (105, none), (106, none), (107, none), (108, none), (109, none), (110, none), (111, none), (112, none), (113, none)] (.cond (.run [0, 1] (.close (.run [0, 1, 2, 3, 4, 5, 6, 7] (.close .nil)))) (.run [0, 1] (.close (.cond (.run [0, 1, 2, 3] (.close (.run [0, 1, 2, 3, 4, 5, 6, 7] (.close .nil)))) (.run [0, 1] (.close (.cond (.run [0, 1] (.close (.run [0, 1, 2, 3, 4, 5, 6, 7] (.close .nil)))) (.run [0, 1] (.close (.cond (.run [0, 1, 2, 3, 4, 5, 6, 7] (.close (.run [0, 1, 2, 3] (.close (.run [0, 1, 2, 3] (.close (.run [0, 1, 2] (.close (.cond (.run [0, 1, 2, 3, 4, 5, 6, 7] (.close (.run [0, 1] (.close (.run [0, 1, 2] (.close (.cond (.run [0, 1, 2, 3, 4] (.close (.run [0, 1, 2, 3] (.close (.run [0, 1, 2, 3, 4] (.close (.cond (.run [0, 1, 2] (.close (.run [0, 1, 2] (.close (.cond (.run [0, 1, 2, 3, 4, 5] (.close (.run [0, 1, 2, 3, 4, 5, 6, 7] (.close .nil)))) (.run [0, 1, 2, 3, 4, 5, 6, 7] (.close .nil))))))) (.run [0, 1, 2] (.close (.cond (.run [0, 1, 2, 3, 4, 5] (.close (.run [0, 1, 2, 3, 4, 5, 6, 7] (.close .nil)))) (.run [0, 1, 2, 3, 4, 5, 6, 7] (.close .nil)))))))))))) (.run [0, 1, 2] (.close (.cond (.run [0, 1, 2, 3, 4, 5] (.close (.run [0, 1, 2, 3, 4, 5, 6, 7] (.close .nil)))) (.run [0, 1, 2, 3, 4, 5, 6, 7] (.close .nil)))))))))))) (.run [0, 1, 2] (.close (.cond (.run [0, 1, 2, 3, 4, 5] (.close (.run [0, 1, 2, 3, 4, 5, 6, 7] (.close .nil)))) (.run [0, 1, 2, 3, 4, 5, 6, 7] (.close .nil)))))))))))))) (.run [0, 1] (.close .nil)))))))))))) (.run [0, 1, 2, 3] (.split 117 (.run [4, 5, 6, 7, 8, 9, 10, 11, 12, 13, 14] (.close (.cond (.run [0, 1] (.close (.run [0, 1, 2, 3, 4, 5, 6, 7] (.close (.run [0, 1, 2, 3] (.close .nil)))))) (.run [0, 1, 2, 3] (.close .nil))))) (.run [4, 5, 6, 7, 8, 9, 10, 11, 12, 13, 14] (.close (.lit (.run [0, 1, 2, 3] (.close .nil)))))))))))))))))))
theorem vc127 {b1 : Nat} {o2 : Nat} {n3 : Int} {R : Ending → World → Prop} {w : World} (h : V127 b1 o2 n3 R w) : Cl Try.prog 127 [.pointer (some ⟨b1, o2, none⟩), .int .i64 n3] w R :=
  cl_of scr127 Try.func127 (by kernel_rfl) [.pointer (some ⟨b1, o2, none⟩), .int .i64 n3] (V127 b1 o2 n3 R) (by kernel_rfl) h
/-- (*impl.reader).atom -/
def V126 (b1 : Nat) (o2 : Nat) (n3 : Int) (R : Ending → World → Prop) : World → Prop := fun w =>
  ((((n3 : Int) == 40) = true → ∃ (J4 : World → Prop), (∃ (n5 : Int), cellH w.heap b1 (o2 + 2) = some (.int .i64 n5) ∧ ((((n5 : Int) == 9) = true → ∃ (n6 : Int), cellH w.heap b1 (o2 + 1) = some (.int .i64 n6) ∧ Cl Try.prog 76 ([.pointer (some ⟨b1, o2, none⟩), .int .i64 n6]) w (retG (fun (r8 : Value) (w7 : World) => r8 = .tuple #[] ∧ J4  w7) (fun c w => R (.panicked c) w))) ∧ (((n5 : Int) == 9) = false → ∃ (n9 : Int), cellH w.heap b1 (o2 + 3) = some (.int .i64 n9) ∧ ((((n9 : Int) == 6) = true → ∃ (n10 : Int), cellH w.heap b1 (o2 + 1) = some (.int .i64 n10) ∧ Cl Try.prog 76 ([.pointer (some ⟨b1, o2, none⟩), .int .i64 n10]) w (retG (fun (r12 : Value) (w11 : World) => r12 = .tuple #[] ∧ J4  w11) (fun c w => R (.panicked c) w))) ∧ (((n9 : Int) == 6) = false → J4  w))))) ∧ ∀ (d13 : Nat → Value) (w14 : World), J4  w14 → ∃ (n15 : Int), cellH w14.heap b1 (o2 + 2) = some (.int .i64 n15) ∧ stW b1 (o2 + 2) [.int .i64 (IntKind.wrap .i64 (n15 + 1))] (fun (w16 : World) => ∃ (n17 : Int), cellH w16.heap b1 (o2 + 3) = some (.int .i64 n17) ∧ stW b1 (o2 + 3) [.int .i64 (IntKind.wrap .i64 (n17 + 1))] (fun (w18 : World) => ∃ (n19 : Int), cellH w18.heap b1 (o2 + 2) = some (.int .i64 n19) ∧ ∃ (n20 : Int), cellH w18.heap b1 (o2 + 1) = some (.int .i64 n20) ∧ stW b1 (o2 + 1) [.int .i64 (IntKind.wrap .i64 (n20 + 1))] (fun (w21 : World) => Cl Try.prog 74 ([.pointer (some ⟨b1, o2, none⟩)]) w21 (retG (fun (r24 : Value) (w23 : World) => ∃ (n22 : Int), r24 = .int .i64 n22 ∧ Cl Try.prog 143 ([.pointer (some ⟨b1, o2, none⟩)]) w23 (retG (fun (r27 : Value) (w26 : World) => ∃ (n25 : Int), r27 = .int .u8 n25 ∧ ((((n25 : Int) != 41) = true → ∃ (n28 : Int), cellH w26.heap b1 (o2 + 1) = some (.int .i64 n28) ∧ Cl Try.prog 76 ([.pointer (some ⟨b1, o2, none⟩), .int .i64 n28]) w26 (retG (fun (r30 : Value) (w29 : World) => r30 = .tuple #[] ∧ ∃ (n31 : Int), cellH w29.heap b1 (o2 + 1) = some (.int .i64 n31) ∧ stW b1 (o2 + 1) [.int .i64 (IntKind.wrap .i64 (n31 + 1))] (fun (w32 : World) => ∃ (n33 : Int), cellH w32.heap b1 (o2 + 3) = some (.int .i64 n33) ∧ stW b1 (o2 + 3) [.int .i64 (IntKind.wrap .i64 (n33 - 1))] (fun (w34 : World) => newC [.int .i64 n22] 3 (fun (b35 : Nat) (w36 : World) => Cl Try.prog 110 ([.pointer (some ⟨b1, o2, none⟩), .agg #[.int .i64 5, .slice none 0 0, .int .i64 0, .int .i64 0, .bool false, .int .i64 n19, .slice (some ⟨b35, 0, none⟩) 1 1]]) w36 (retG (fun (r39 : Value) (w38 : World) => ∃ (n37 : Int), r39 = .int .i64 n37 ∧ R (.returned (.int .i64 n37)) w38) (fun c w => R (.panicked c) w))) w34) w32) w29) (fun c w => R (.panicked c) w))) ∧ (((n25 : Int) != 41) = false → ∃ (n40 : Int), cellH w26.heap b1 (o2 + 1) = some (.int .i64 n40) ∧ stW b1 (o2 + 1) [.int .i64 (IntKind.wrap .i64 (n40 + 1))] (fun (w41 : World) => ∃ (n42 : Int), cellH w41.heap b1 (o2 + 3) = some (.int .i64 n42) ∧ stW b1 (o2 + 3) [.int .i64 (IntKind.wrap .i64 (n42 - 1))] (fun (w43 : World) => newC [.int .i64 n22] 3 (fun (b44 : Nat) (w45 : World) => Cl Try.prog 110 ([.pointer (some ⟨b1, o2, none⟩), .agg #[.int .i64 5, .slice none 0 0, .int .i64 0, .int .i64 0, .bool false, .int .i64 n19, .slice (some ⟨b44, 0, none⟩) 1 1]]) w45 (retG (fun (r48 : Value) (w47 : World) => ∃ (n46 : Int), r48 = .int .i64 n46 ∧ R (.returned (.int .i64 n46)) w47) (fun c w => R (.panicked c) w))) w43) w41) w26))) (fun c w => R (.panicked c) w))) (fun c w => R (.panicked c) w))) w18) w16) w14) ∧ (((n3 : Int) == 40) = false → ((((n3 : Int) == 91) = true → Cl Try.prog 144 ([.pointer (some ⟨b1, o2, none⟩)]) w (retG (fun (r51 : Value) (w50 : World) => ∃ (a49 : Option Addr), ∃ (l49 : Nat), ∃ (c49 : Nat), r51 = .slice a49 l49 c49 ∧ Cl Try.prog 110 ([.pointer (some ⟨b1, o2, none⟩), .agg #[.int .i64 1, .slice a49 l49 c49, .int .i64 0, .int .i64 0, .bool false, .int .i64 0, .slice none 0 0]]) w50 (retG (fun (r54 : Value) (w53 : World) => ∃ (n52 : Int), r54 = .int .i64 n52 ∧ R (.returned (.int .i64 n52)) w53) (fun c w => R (.panicked c) w))) (fun c w => R (.panicked c) w))) ∧ (((n3 : Int) == 91) = false → ((((n3 : Int) == 46) = true → ∃ (n55 : Int), cellH w.heap b1 (o2 + 1) = some (.int .i64 n55) ∧ stW b1 (o2 + 1) [.int .i64 (IntKind.wrap .i64 (n55 + 1))] (fun (w56 : World) => newC (List.replicate 256 (.bool false)) 177 (fun (b57 : Nat) (w58 : World) => Cl Try.prog 145 ([.pointer (some ⟨b57, 0, none⟩), .int .i64 0, .int .i64 9]) w58 (retG (fun (r60 : Value) (w59 : World) => r60 = .tuple #[] ∧ Cl Try.prog 145 ([.pointer (some ⟨b57, 0, none⟩), .int .i64 11, .int .i64 255]) w59 (retG (fun (r62 : Value) (w61 : World) => r62 = .tuple #[] ∧ Cl Try.prog 146 ([.pointer (some ⟨b57, 0, none⟩)]) w61 (retG (fun (r65 : Value) (w64 : World) => ∃ (a63 : Option Addr), ∃ (l63 : Nat), ∃ (c63 : Nat), r65 = .slice a63 l63 c63 ∧ Cl Try.prog 110 ([.pointer (some ⟨b1, o2, none⟩), .agg #[.int .i64 1, .slice a63 l63 c63, .int .i64 0, .int .i64 0, .bool false, .int .i64 0, .slice none 0 0]]) w64 (retG (fun (r68 : Value) (w67 : World) => ∃ (n66 : Int), r68 = .int .i64 n66 ∧ R (.returned (.int .i64 n66)) w67) (fun c w => R (.panicked c) w))) (fun c w => R (.panicked c) w))) (fun c w => R (.panicked c) w))) (fun c w => R (.panicked c) w))) w56) w) ∧ (((n3 : Int) == 46) = false → ((((n3 : Int) == 94) = true → ∃ (n69 : Int), cellH w.heap b1 (o2 + 1) = some (.int .i64 n69) ∧ stW b1 (o2 + 1) [.int .i64 (IntKind.wrap .i64 (n69 + 1))] (fun (w70 : World) => Cl Try.prog 110 ([.pointer (some ⟨b1, o2, none⟩), .agg #[.int .i64 6, .slice none 0 0, .int .i64 0, .int .i64 0, .bool false, .int .i64 0, .slice none 0 0]]) w70 (retG (fun (r73 : Value) (w72 : World) => ∃ (n71 : Int), r73 = .int .i64 n71 ∧ R (.returned (.int .i64 n71)) w72) (fun c w => R (.panicked c) w))) w) ∧ (((n3 : Int) == 94) = false → ((((n3 : Int) == 36) = true → ∃ (n74 : Int), cellH w.heap b1 (o2 + 1) = some (.int .i64 n74) ∧ stW b1 (o2 + 1) [.int .i64 (IntKind.wrap .i64 (n74 + 1))] (fun (w75 : World) => Cl Try.prog 110 ([.pointer (some ⟨b1, o2, none⟩), .agg #[.int .i64 7, .slice none 0 0, .int .i64 0, .int .i64 0, .bool false, .int .i64 0, .slice none 0 0]]) w75 (retG (fun (r78 : Value) (w77 : World) => ∃ (n76 : Int), r78 = .int .i64 n76 ∧ R (.returned (.int .i64 n76)) w77) (fun c w => R (.panicked c) w))) w) ∧ (((n3 : Int) == 36) = false → ((((n3 : Int) == 92) = true → Cl Try.prog 147 ([.pointer (some ⟨b1, o2, none⟩)]) w (retG (fun (r82 : Value) (w81 : World) => ∃ (cs79 : Array Value), ∃ (t80 : Bool), r82 = .tuple #[.agg cs79, .bool t80] ∧ newC (List.replicate 256 (.bool false)) 177 (fun (b83 : Nat) (w84 : World) => stA b83 0 256 cs79 (fun (w85 : World) => Cl Try.prog 146 ([.pointer (some ⟨b83, 0, none⟩)]) w85 (retG (fun (r88 : Value) (w87 : World) => ∃ (a86 : Option Addr), ∃ (l86 : Nat), ∃ (c86 : Nat), r88 = .slice a86 l86 c86 ∧ Cl Try.prog 110 ([.pointer (some ⟨b1, o2, none⟩), .agg #[.int .i64 1, .slice a86 l86 c86, .int .i64 0, .int .i64 0, .bool false, .int .i64 0, .slice none 0 0]]) w87 (retG (fun (r91 : Value) (w90 : World) => ∃ (n89 : Int), r91 = .int .i64 n89 ∧ R (.returned (.int .i64 n89)) w90) (fun c w => R (.panicked c) w))) (fun c w => R (.panicked c) w))) w84) w81) (fun c w => R (.panicked c) w))) ∧ (((n3 : Int) == 92) = false → ∃ (J92 : Bool → World → Prop), (((((n3 : Int) == 41) = true → J92 true w) ∧ (((n3 : Int) == 41) = false → ((((n3 : Int) == 93) = true → J92 true w) ∧ (((n3 : Int) == 93) = false → ((((n3 : Int) == 123) = true → J92 true w) ∧ (((n3 : Int) == 123) = false → ((((n3 : Int) == 125) = true → J92 true w) ∧ (((n3 : Int) == 125) = false → ((((n3 : Int) == 42) = true → J92 true w) ∧ (((n3 : Int) == 42) = false → ((((n3 : Int) == 43) = true → J92 true w) ∧ (((n3 : Int) == 43) = false → ((((n3 : Int) == 63) = true → J92 true w) ∧ (((n3 : Int) == 63) = false → J92 ((n3 : Int) == 124) w))))))))))))))) ∧ ∀ (d93 : Nat → Value) (t94 : Bool) (w95 : World), J92 t94 w95 → ((t94 = true → ∃ (n96 : Int), cellH w95.heap b1 (o2 + 1) = some (.int .i64 n96) ∧ Cl Try.prog 76 ([.pointer (some ⟨b1, o2, none⟩), .int .i64 n96]) w95 (retG (fun (r98 : Value) (w97 : World) => r98 = .tuple #[] ∧ ∃ (n99 : Int), cellH w97.heap b1 (o2 + 1) = some (.int .i64 n99) ∧ stW b1 (o2 + 1) [.int .i64 (IntKind.wrap .i64 (n99 + 1))] (fun (w100 : World) => newC [.int .i64 (IntKind.wrap .i64 n3), .int .i64 (IntKind.wrap .i64 n3)] 134 (fun (b101 : Nat) (w102 : World) => Cl Try.prog 110 ([.pointer (some ⟨b1, o2, none⟩), .agg #[.int .i64 1, .slice (some ⟨b101, 0, none⟩) 1 1, .int .i64 0, .int .i64 0, .bool false, .int .i64 0, .slice none 0 0]]) w102 (retG (fun (r105 : Value) (w104 : World) => ∃ (n103 : Int), r105 = .int .i64 n103 ∧ R (.returned (.int .i64 n103)) w104) (fun c w => R (.panicked c) w))) w100) w97) (fun c w => R (.panicked c) w))) ∧ (t94 = false → ∃ (n106 : Int), cellH w95.heap b1 (o2 + 1) = some (.int .i64 n106) ∧ stW b1 (o2 + 1) [.int .i64 (IntKind.wrap .i64 (n106 + 1))] (fun (w107 : World) => newC [.int .i64 (IntKind.wrap .i64 n3), .int .i64 (IntKind.wrap .i64 n3)] 134 (fun (b108 : Nat) (w109 : World) => Cl Try.prog 110 ([.pointer (some ⟨b1, o2, none⟩), .agg #[.int .i64 1, .slice (some ⟨b108, 0, none⟩) 1 1, .int .i64 0, .int .i64 0, .bool false, .int .i64 0, .slice none 0 0]]) w109 (retG (fun (r112 : Value) (w111 : World) => ∃ (n110 : Int), r112 = .int .i64 n110 ∧ R (.returned (.int .i64 n110)) w111) (fun c w => R (.panicked c) w))) w107) w95))))))))))))))
def scr126 : Scr := (.run [0] (.close (.run [0] (.close (.run [0, 1] (.close (.cond (.cutS [(13, none), (14, none), (15, none), (16, none), (17, none), (18, none), (19, none), (20, none), (21, none), (22, none), (23, none), (24, none), (25, none), (26, none), (27, none), (28, none), (29, none), (30, none)] (.run [0, 1, 2, 3, 4, 5] (.split 18 (.run [6, 7, 8, 9, 10, 11] (.close (.lit (.run [0, 1, 2, 3, 4, 5] (.close .nil))))) (.run [6, 7, 8, 9, 10, 11] (.close (.cond (.run [0, 1, 2, 3, 4, 5] (.close .nil)) .nil))))) (.run [0, 1, 2, 3, 4, 5, 6, 7] (.close (.run [0, 1, 2, 3, 4, 5, 6, 7] (.close (.run [0, 1, 2, 3, 4] (.close (.run [0, 1, 2, 3, 4, 5, 6, 7] (.close (.run [0, 1, 2] (.close (.run [0, 1, 2] (.close (.cond (.run [0, 1, 2, 3, 4, 5] (.close (.run [0, 1, 2, 3, 4, 5, 6, 7] (.close (.run [0, 1, 2, 3, 4, 5, 6, 7] (.close (.run [0, 1, 2, 3, 4, 5, 6] (.close .nil)))))))) (.run [0, 1, 2, 3, 4, 5, 6, 7] (.close (.run [0, 1, 2, 3, 4, 5, 6, 7] (.close (.run [0, 1, 2, 3, 4, 5, 6] (.close .nil)))))))))))))))))))) (.run [0, 1] (.close (.cond (.run [0, 1, 2, 3, 4, 5] (.close .nil)) (.run [0, 1] (.close (.cond (.run [0, 1, 2, 3, 4, 5, 6, 7] (.close (.run [0] (.close (.run [0] (.close (.run [0] (.close (.run [0, 1, 2, 3, 4] (.close .nil)))))))))) (.run [0, 1] (.close (.cond (.run [0, 1, 2, 3, 4, 5, 6, 7] (.close (.run [0, 1, 2, 3] (.close .nil)))) (.run [0, 1] (.close (.cond (.run [0, 1, 2, 3, 4, 5, 6, 7] (.close (.run [0, 1, 2, 3] (.close .nil)))) (.run [0, 1] (.close (.cond (.run [0, 1, 2, 3, 4, 5, 6, 7] (.close (.run [0, 1, 2, 3, 4] (.close .nil)))) (.run [0, 1] (.close (.cut [(144, some .bool), (146, none), (147, none), (148, none), (149, none), (150, none), (151, none), (152, none)] (.cond .nil (.run [0, 1] (.close (.cond .nil (.run [0, 1] (.close (.cond .nil (.run [0, 1] (.close (.cond .nil (.run [0, 1] (.close (.cond .nil (.run [0, 1] (.close (.cond .nil (.run [0, 1] (.close (.cond .nil (.run [0, 1] (.close .nil))))))))))))))))))))) (.cond (.run [0, 1, 2, 3, 4, 5] (.close (.run [0, 1, 2, 3, 4, 5, 6, 7] (.close (.run [0, 1, 2, 3, 4, 5, 6, 7, 8, 9] (.close .nil)))))) (.run [0, 1, 2, 3, 4, 5, 6, 7] (.close (.run [0, 1, 2, 3, 4, 5, 6, 7, 8, 9] (.close .nil))))))))))))))))))))))))))))))
theorem vc126 {b1 : Nat} {o2 : Nat} {n3 : Int} {R : Ending → World → Prop} {w : World} (h : V126 b1 o2 n3 R w) : Cl Try.prog 126 [.pointer (some ⟨b1, o2, none⟩), .int .u8 n3] w R :=
  cl_of scr126 Try.func126 (by kernel_rfl) [.pointer (some ⟨b1, o2, none⟩), .int .u8 n3] (V126 b1 o2 n3 R) (by kernel_rfl) h
/-- (*impl.reader).seq -/
def V109 (b1 : Nat) (o2 : Nat) (R : Ending → World → Prop) : World → Prop := fun w =>
  ∃ (I3 : Nat → Option Addr → Nat → Nat → World → Prop), (∃ (k5 : Nat), I3 k5 none 0 0 w) ∧ ∀ (k4 : Nat) (d7 : Nat → Value) (a8 : Option Addr) (l8 : Nat) (c8 : Nat) (w6 : World), I3 k4 a8 l8 c8 w6 → Cl Try.prog 75 ([.pointer (some ⟨b1, o2, none⟩)]) w6 (retG (fun (r11 : Value) (w10 : World) => ∃ (t9 : Bool), r11 = .bool t9 ∧ (((!t9) = true → drw (fun (w12 : World) => ∃ (s13 : ByteArray), cellH w12.heap b1 o2 = some (.string s13) ∧ ∃ (n14 : Int), cellH w12.heap b1 (o2 + 1) = some (.int .i64 n14) ∧ (0 ≤ (n14 : Int) ∧ (n14 : Int) < ((ByteArray.size s13 : Nat) : Int)) ∧ ((((byteAt s13 (Int.toNat n14) : Int) == 124) = true → Cl Try.prog 110 ([.pointer (some ⟨b1, o2, none⟩), .agg #[.int .i64 2, .slice none 0 0, .int .i64 0, .int .i64 0, .bool false, .int .i64 0, .slice a8 l8 c8]]) w12 (retG (fun (r17 : Value) (w16 : World) => ∃ (n15 : Int), r17 = .int .i64 n15 ∧ R (.returned (.int .i64 n15)) w16) (fun c w => R (.panicked c) w))) ∧ (((byteAt s13 (Int.toNat n14) : Int) == 124) = false → ((((byteAt s13 (Int.toNat n14) : Int) == 41) = true → Cl Try.prog 110 ([.pointer (some ⟨b1, o2, none⟩), .agg #[.int .i64 2, .slice none 0 0, .int .i64 0, .int .i64 0, .bool false, .int .i64 0, .slice a8 l8 c8]]) w12 (retG (fun (r20 : Value) (w19 : World) => ∃ (n18 : Int), r20 = .int .i64 n18 ∧ R (.returned (.int .i64 n18)) w19) (fun c w => R (.panicked c) w))) ∧ (((byteAt s13 (Int.toNat n14) : Int) == 41) = false → Cl Try.prog 126 ([.pointer (some ⟨b1, o2, none⟩), .int .u8 (byteAt s13 (Int.toNat n14))]) w12 (retG (fun (r23 : Value) (w22 : World) => ∃ (n21 : Int), r23 = .int .i64 n21 ∧ Cl Try.prog 127 ([.pointer (some ⟨b1, o2, none⟩), .int .i64 n21]) w22 (retG (fun (r26 : Value) (w25 : World) => ∃ (n24 : Int), r26 = .int .i64 n24 ∧ newC [.int .i64 n24] 3 (fun (b27 : Nat) (w28 : World) => ∃ (a29 : Option Addr), ∃ (l29 : Nat), ∃ (c29 : Nat), ∃ (w30 : World), (Builtin.append_ #[109, 109] 109 #[.slice a8 l8 c8, .slice (some ⟨b27, 0, none⟩) 1 1]).run Try.prog w28 = .ok (.slice a29 l29 c29) w30 ∧ (∃ (m31 : Nat), m31 < k4 ∧ I3 m31 a29 l29 c29 w30)) w25) (fun c w => R (.panicked c) w))) (fun c w => R (.panicked c) w))))))) w10) ∧ ((!t9) = false → Cl Try.prog 110 ([.pointer (some ⟨b1, o2, none⟩), .agg #[.int .i64 2, .slice none 0 0, .int .i64 0, .int .i64 0, .bool false, .int .i64 0, .slice a8 l8 c8]]) w10 (retG (fun (r34 : Value) (w33 : World) => ∃ (n32 : Int), r34 = .int .i64 n32 ∧ R (.returned (.int .i64 n32)) w33) (fun c w => R (.panicked c) w))))) (fun c w => R (.panicked c) w))
def scr109 : Scr := (.run [0] (.close (.run [0] (.close (.loop [(3, some .slice), (4, none), (5, none), (6, none), (7, none), (8, none), (9, none), (10, none), (11, none), (12, none), (13, none), (14, none), (15, none), (16, none), (17, none), (18, none), (19, none), (20, none), (21, none), (22, none), (23, none), (24, none), (25, none), (26, none), (27, none), (28, none), (29, none), (30, none), (31, none), (32, none)] (.run [0, 1, 2] (.close (.cond (.run [0, 1, 2, 3, 4, 5, 6, 7, 8, 9] (.close (.run [0, 1, 2] (.split 20 (.run [3, 4, 5] (.close (.lit (.run [0, 1, 2, 3, 4] (.close .nil))))) (.run [3, 4, 5] (.close (.cond (.run [0, 1, 2, 3, 4] (.close .nil)) (.run [0, 1, 2, 3] (.close (.run [0, 1, 2, 3, 4, 5, 6] (.close .nil))))))))))) (.run [0, 1, 2, 3, 4] (.close .nil))))))))))
theorem vc109 {b1 : Nat} {o2 : Nat} {R : Ending → World → Prop} {w : World} (h : V109 b1 o2 R w) : Cl Try.prog 109 [.pointer (some ⟨b1, o2, none⟩)] w R :=
  cl_of scr109 Try.func109 (by kernel_rfl) [.pointer (some ⟨b1, o2, none⟩)] (V109 b1 o2 R) (by kernel_rfl) h
/-- (*impl.reader).pattern -/
def V74 (b1 : Nat) (o2 : Nat) (R : Ending → World → Prop) : World → Prop := fun w =>
  Cl Try.prog 109 ([.pointer (some ⟨b1, o2, none⟩)]) w (retG (fun (r5 : Value) (w4 : World) => ∃ (n3 : Int), r5 = .int .i64 n3 ∧ newC [.int .i64 n3] 3 (fun (b6 : Nat) (w7 : World) => ∃ (I8 : Nat → Option Addr → Nat → Nat → World → Prop), (∃ (k10 : Nat), I8 k10 (some ⟨b6, 0, none⟩) 1 1 w7) ∧ ∀ (k9 : Nat) (d12 : Nat → Value) (a13 : Option Addr) (l13 : Nat) (c13 : Nat) (w11 : World), I8 k9 a13 l13 c13 w11 → drw (fun (w14 : World) => Cl Try.prog 75 ([.pointer (some ⟨b1, o2, none⟩)]) w14 (retG (fun (r17 : Value) (w16 : World) => ∃ (t15 : Bool), r17 = .bool t15 ∧ (((!t15) = true → ∃ (s18 : ByteArray), cellH w16.heap b1 o2 = some (.string s18) ∧ ∃ (n19 : Int), cellH w16.heap b1 (o2 + 1) = some (.int .i64 n19) ∧ (0 ≤ (n19 : Int) ∧ (n19 : Int) < ((ByteArray.size s18 : Nat) : Int)) ∧ ((((byteAt s18 (Int.toNat n19) : Int) == 124) = true → ∃ (n20 : Int), cellH w16.heap b1 (o2 + 1) = some (.int .i64 n20) ∧ stW b1 (o2 + 1) [.int .i64 (IntKind.wrap .i64 (n20 + 1))] (fun (w21 : World) => Cl Try.prog 109 ([.pointer (some ⟨b1, o2, none⟩)]) w21 (retG (fun (r24 : Value) (w23 : World) => ∃ (n22 : Int), r24 = .int .i64 n22 ∧ newC [.int .i64 n22] 3 (fun (b25 : Nat) (w26 : World) => ∃ (a27 : Option Addr), ∃ (l27 : Nat), ∃ (c27 : Nat), ∃ (w28 : World), (Builtin.append_ #[109, 109] 109 #[.slice a13 l13 c13, .slice (some ⟨b25, 0, none⟩) 1 1]).run Try.prog w26 = .ok (.slice a27 l27 c27) w28 ∧ (∃ (m29 : Nat), m29 < k9 ∧ I8 m29 a27 l27 c27 w28)) w23) (fun c w => R (.panicked c) w))) w16) ∧ (((byteAt s18 (Int.toNat n19) : Int) == 124) = false → ((((((l13 : Nat) : Int) : Int) == 1) = true → ∃ (b30 : Nat) (o31 : Nat), ((a13 : Option Addr) = some ⟨b30, o31, none⟩ ∧ 0 ≤ (0 : Int) ∧ (0 : Int) < ((l13 : Nat) : Int)) ∧ ∃ (n32 : Int), cellH w16.heap b30 o31 = some (.int .i64 n32) ∧ R (.returned (.int .i64 n32)) w16) ∧ (((((l13 : Nat) : Int) : Int) == 1) = false → Cl Try.prog 110 ([.pointer (some ⟨b1, o2, none⟩), .agg #[.int .i64 3, .slice none 0 0, .int .i64 0, .int .i64 0, .bool false, .int .i64 0, .slice a13 l13 c13]]) w16 (retG (fun (r35 : Value) (w34 : World) => ∃ (n33 : Int), r35 = .int .i64 n33 ∧ R (.returned (.int .i64 n33)) w34) (fun c w => R (.panicked c) w))))))) ∧ ((!t15) = false → ((((((l13 : Nat) : Int) : Int) == 1) = true → ∃ (b36 : Nat) (o37 : Nat), ((a13 : Option Addr) = some ⟨b36, o37, none⟩ ∧ 0 ≤ (0 : Int) ∧ (0 : Int) < ((l13 : Nat) : Int)) ∧ ∃ (n38 : Int), cellH w16.heap b36 o37 = some (.int .i64 n38) ∧ R (.returned (.int .i64 n38)) w16) ∧ (((((l13 : Nat) : Int) : Int) == 1) = false → Cl Try.prog 110 ([.pointer (some ⟨b1, o2, none⟩), .agg #[.int .i64 3, .slice none 0 0, .int .i64 0, .int .i64 0, .bool false, .int .i64 0, .slice a13 l13 c13]]) w16 (retG (fun (r41 : Value) (w40 : World) => ∃ (n39 : Int), r41 = .int .i64 n39 ∧ R (.returned (.int .i64 n39)) w40) (fun c w => R (.panicked c) w))))))) (fun c w => R (.panicked c) w))) w11) w4) (fun c w => R (.panicked c) w))
def scr74 : Scr := (.run [0] (.close (.run [0, 1, 2, 3] (.close (.loop [(3, some .slice), (7, none), (8, none), (9, none), (10, none), (11, none), (12, none), (13, none), (14, none), (15, none), (16, none), (17, none), (18, none), (19, none), (20, none), (21, none), (22, none), (23, none), (24, none), (25, none), (26, none), (27, none), (28, none), (29, none), (30, none), (31, none), (32, none), (33, none)] (.run [0, 1, 2, 3] (.split 10 (.run [4, 5, 6, 7, 8, 9, 10, 11, 12, 13, 14] (.close (.cond (.run [0, 1, 2, 3, 4, 5, 6, 7] (.close (.run [0, 1, 2, 3, 4, 5] (.close .nil)))) (.run [0, 1, 2] (.close (.cond (.run [0, 1, 2, 3] (.close .nil)) (.run [0, 1, 2, 3, 4] (.close .nil)))))))) (.run [4, 5, 6, 7, 8, 9, 10, 11, 12, 13, 14] (.close (.lit (.run [0, 1, 2] (.close (.cond (.run [0, 1, 2, 3] (.close .nil)) (.run [0, 1, 2, 3, 4] (.close .nil)))))))))))))))
theorem vc74 {b1 : Nat} {o2 : Nat} {R : Ending → World → Prop} {w : World} (h : V74 b1 o2 R w) : Cl Try.prog 74 [.pointer (some ⟨b1, o2, none⟩)] w R :=
  cl_of scr74 Try.func74 (by kernel_rfl) [.pointer (some ⟨b1, o2, none⟩)] (V74 b1 o2 R) (by kernel_rfl) h
end Go.Proofs.Ytngbiaeliphdjaa.V
/- A set in brackets, in the program's reader. No statement of the seat is proved here. -/
namespace Go.Proofs.Ytngbiaeliphdjaa.V
open Go.Vc Go.Proofs Go.RowKit
set_option linter.unusedVariables false
set_option linter.unusedSimpArgs false

/-- What a set gives. -/
def SetR (w : World) (b : Nat) (s : ByteArray) (g : Nat) (dp : Int) (a : Option Addr) (ln c : Nat) (r : Pr (Nat × List (Int × Int))) : Ending → World → Prop := fun e w' => Ext (fun k => k = b) w w' ∧
  match r with
  | .bad n => e = PanicB n
  | .ok (j, rs) => ∃ a' c', e = .returned (.slice a' rs.length c') ∧ Row w.heap.size w' 134 2 a' rs.length c' (rngC rs) ∧ Rd w' b s j g dp a ln c
theorem byteI (s : ByteArray) {j : Nat} {n : Int} (h : n = j) : byteAt s (Int.toNat n) = (at_ (L s) j : Int) := by subst h; rfl

theorem set_ok {w : World} {b : Nat} {s : ByteArray} {i g : Nat} {dp : Int} {a : Option Addr} {ln c : Nat} (h : Rd w b s i g dp a ln c) (hs : s.size ≤ 120) (hi : i < s.size) :
    Cl Try.prog 144 [.pointer (some ⟨b, 0, none⟩)] w (SetR w b s g dp a ln c (setP (L s) i)) := by
  apply vc144
  unfold V144
  have hsz := size_L s
  have hbl := h.lt
  refine ⟨i, h.cell 1, ?_⟩
  refine h.mv (j := i + 1) (by rw [w64 (by omega)]; omega) fun w4 s4 h4 e4 => ?_
  by_cases hl : i + 1 < s.size
  case neg =>
    refine (need_bad h4 hl).use fun e w8 he => ?_
    obtain ⟨rfl, b8⟩ := he
    refine ⟨e4.trans (Ext.of_below b8), ?_⟩
    unfold setP
    rw [if_pos (by omega), ← hsz]; rfl
  refine (need_ret h4 hl).ret fun w6 b6 => ⟨_, rfl, ?_⟩
  have h6 := h4.below b6
  have E6 : Ext (fun k => k = b) w w6 := e4.trans (Ext.of_below b6)
  obtain ⟨i0, hi0⟩ : ∃ i0, i0 = if at_ (L s) (i + 1) = 94 then i + 2 else i + 1 := ⟨_, rfl⟩
  have hP : setP (L s) i = clsFin (decide (at_ (L s) (i + 1) = 94)) (clsP (L s) i0 true []) := by
    unfold setP; rw [if_neg (by omega), ← hi0]
  rw [hP]
  generalize hC : clsP (L s) i0 true [] = C
  have hi0l : i0 ≤ s.size := by rw [hi0]; split <;> omega
  refine ⟨fun w' => Rd w' b s i0 g dp a ln c ∧ Ext (fun k => k = b) w w', ⟨fun g1 => ?_, fun g1 => ?_⟩, ?_⟩
  · have : ((at_ (L s) (i + 1) : Nat) : Int) = 94 := by simpa using g1
    have e : i0 = i + 2 := by rw [hi0, if_pos (by omega)]
    refine ⟨_, h6.cell 1, ?_⟩
    exact h6.mv (j := i + 2) (by rw [w64 (by omega)]; omega) fun w7 s7 h7 e7 => ⟨by rw [e]; exact h7, E6.trans e7⟩
  · have : ¬ ((at_ (L s) (i + 1) : Nat) : Int) = 94 := by simpa using g1
    have e : i0 = i + 1 := by rw [hi0, if_neg (by omega)]
    exact ⟨by rw [e]; exact h6, E6⟩
  rintro - w12 ⟨h12, E12⟩
  have hz12 := E12.size
  refine newC_in fun w14 s14 k14 e14 => ?_
  generalize hb13 : w12.heap.size = b13 at *
  -- all that the loop keeps
  let St (w' : World) (j : Nat) (rs : Rs) : Prop := Rd w' b s j g dp a ln c ∧ Blk w'.heap b13 177 (b256 (inR rs)) ∧ Ext (fun k => k = b) w w'
  have hst : ∀ {w' w'' : World} {j : Nat} {rs : Rs}, St w' j rs → Below w'.heap.size w' w'' → St w'' j rs := fun h k => ⟨h.1.below k, h.2.1.below k, h.2.2.trans (Ext.of_below k)⟩
  have hstE : ∀ {w' w'' : World} {j : Nat} {rs : Rs}, St w' j rs → Ext (fun _ => False) w' w'' → St w'' j rs := fun h k => ⟨Blk.keep h.1 k fun h => h, h.2.1.keep k fun h => h, h.2.2.trans (Ext.mono k fun _ _ h => h.elim)⟩
  have hpan : ∀ {w' w'' : World} {j n : Nat} {rs : Rs}, St w' j rs → Ext (fun k => k = b) w' w'' → C = .bad n → SetR w b s g dp a ln c (clsFin (decide (at_ (L s) (i + 1) = 94)) C) (PanicB n) w'' := by
    intro w' w'' j n rs h e hn
    rw [hn]
    exact ⟨h.2.2.trans e, rfl⟩
  refine ⟨fun k first w' => ∃ j rs, clsP (L s) j first rs = C ∧ k = s.size + 1 - j ∧ j ≤ s.size ∧ St w' j rs, ⟨_, i0, [], hC, rfl, hi0l, Blk.keep h12 e14 (fun h => h), ?_, E12.trans (Ext.mono e14 fun _ _ h => h.elim)⟩, ?_⟩
  · rw [inR_nil, b256_false]; exact k14
  rintro k d first w18 ⟨j, rs, hCl, rfl, hj, hS⟩
  have hb13b : b13 ≠ b := by omega
  have hout : ¬ j < s.size → C = .bad s.size := fun hn => by rw [← hCl, clsP_out (by omega), hsz]
  refine ⟨fun w' => St w' j rs ∧ (first = true ∨ j < s.size ∧ at_ (L s) j ≠ 93), ?_, ?_⟩
  · -- the test ahead of a round
    refine ⟨fun g1 => ⟨hS, .inl g1⟩, fun g1 => ?_⟩
    by_cases hjl : j < s.size
    case neg =>
      refine (need_bad hS.1 hjl).use fun e w23 he => ?_
      obtain ⟨rfl, b23⟩ := he
      exact hpan hS (Ext.of_below b23) (hout hjl)
    refine (need_ret hS.1 hjl).ret fun w23 b23 => ⟨_, rfl, fun g2 => ?_, fun g2 => ?_⟩
    · have : ¬ ((at_ (L s) j : Nat) : Int) = 93 := by simpa using g2
      exact ⟨hst hS b23, .inr ⟨hjl, by omega⟩⟩
    · have g2' : at_ (L s) j = 93 := by have : ((at_ (L s) j : Nat) : Int) = 93 := by simpa using g2
                                        omega
      have hCe : C = .ok (j + 1, rs) := by rw [← hCl, clsP_end (by omega) g1 g2']
      have hS23 := hst hS b23
      refine ⟨_, hS23.1.cell 1, ?_⟩
      refine hS23.1.mv (j := j + 1) (by rw [w64 (by omega)]; omega) fun w26 s26 h26 e26 => ?_
      have k26 := hS23.2.1.keep e26 hb13b
      have E26 := hS23.2.2.trans e26
      rw [hCe]
      have hend : ∀ {w' : World} {f : Nat → Bool}, Blk w'.heap b13 177 (b256 f) → Rd w' b s (j + 1) g dp a ln c → Ext (fun k => k = b) w w' → (f = fun n => inR rs n != decide (at_ (L s) (i + 1) = 94)) →
          Cl Try.prog 146 [.pointer (some ⟨b13, 0, none⟩)] w' (retG (fun (r38 : Value) (w37 : World) => ∃ (a36 : Option Addr), ∃ (l36 : Nat), ∃ (c36 : Nat), r38 = .slice a36 l36 c36 ∧ SetR w b s g dp a ln c (.ok (j + 1, runs fun n => inR rs n != decide (at_ (L s) (i + 1) = 94))) (.returned (.slice a36 l36 c36)) w37)
            fun c1 w1 => SetR w b s g dp a ln c (.ok (j + 1, runs fun n => inR rs n != decide (at_ (L s) (i + 1) = 94))) (.panicked c1) w1) := by
        intro w' f hB hR hE hf
        subst hf
        refine (ranges_ok hB).use fun e w'' he => ?_
        obtain ⟨a', c', rfl, hRow, hbel⟩ := he
        exact ⟨a', _, c', rfl, hE.trans (Ext.of_below hbel), a', c', rfl, hRow.mono hE.size, hR.below hbel⟩
      refine ⟨fun g3 => ?_, fun g3 => ?_⟩
      · have g3' : at_ (L s) (i + 1) = 94 := by have : ((at_ (L s) (i + 1) : Nat) : Int) = 94 := by simpa using g3
                                                omega
        refine ⟨fun k n w' => ∃ q : Nat, n = q ∧ q ≤ 256 ∧ k = 256 - q ∧ Rd w' b s (j + 1) g dp a ln c ∧ Blk w'.heap b13 177 (b256 fun n => if n < q then !inR rs n else inR rs n) ∧ Ext (fun k => k = b) w w', ⟨_, 0, rfl, by omega, rfl, h26, by simpa using k26, E26⟩, ?_⟩
        rintro k d n w30 ⟨q, rfl, hq, rfl, h30, k30, E30⟩
        refine ⟨fun g4 => ?_, fun g4 => ?_⟩
        · have g4' : q < 256 := by have := of_decide_eq_true g4; omega
          rw [show 0 + Int.toNat (q : Int) * 1 = q from by omega]
          refine ⟨⟨by omega, by show (q : Int) < 256; omega⟩, inR rs q, by rw [k30.cell, b256_get _ _ g4']; simp, ⟨by omega, by show (q : Int) < 256; omega⟩, ?_⟩
          refine stW_in k30 (by rw [b256_length]; show q + 1 ≤ 256; omega) fun w34 s34 k34 e34 => ?_
          refine ⟨_, by omega, q + 1, by rw [w64 (by omega)]; omega, by omega, rfl, Blk.keep h30 e34 (by omega), ?_, E30.step e34 fun k hk h => by omega⟩
          have : segSet (b256 fun n => if n < q then !inR rs n else inR rs n) q [.bool (!inR rs q)] = b256 fun n => if n < q + 1 then !inR rs n else inR rs n := by
            show (b256 _).set q _ = _
            rw [b256_set]
            apply b256_ext
            intro n hn
            by_cases hnq : n = q
            · subst hnq; simp
            · rw [if_neg hnq]
              by_cases h1 : n < q
              · rw [if_pos h1, if_pos (by omega)]
              · rw [if_neg h1, if_neg (by omega)]
          rw [← this]; exact k34
        · have : q = 256 := by have := of_decide_eq_false g4; omega
          subst this
          have hfe : (b256 fun n => if n < 256 then !inR rs n else inR rs n) = b256 fun n => inR rs n != decide (at_ (L s) (i + 1) = 94) := by
            apply b256_ext
            intro n hn
            rw [if_pos hn, g3']; simp
          rw [hfe] at k30
          exact hend k30 h30 E30 rfl
      · have g3' : ¬ at_ (L s) (i + 1) = 94 := by have : ¬ ((at_ (L s) (i + 1) : Nat) : Int) = 94 := by simpa using g3
                                                  omega
        exact hend k26 h26 E26 (by funext n; rw [decide_eq_false g3']; simp)
  · rintro - w43 ⟨hS43, hfj⟩
    by_cases hjl : j < s.size
    case neg =>
      refine (part_bad hS43.1 first hjl).use fun e w46 he => ?_
      obtain ⟨rfl, b46⟩ := he
      exact hpan hS43 (Ext.of_below b46) (hout hjl)
    have hn : ¬ (first = false ∧ at_ (L s) j = 93) := by
      rintro ⟨h1, h2⟩
      rcases hfj with h | h
      · rw [h] at h1; cases h1
      · exact h.2 h2
    refine (part_ok hS43.1 (by omega) first hjl (hfj.imp id (·.2))).use fun e w46 he => ?_
    obtain ⟨e46, he⟩ := he
    cases hp : partP (L s) j with
    | bad n =>
      rw [hp] at he; subst he
      exact hpan hS43 e46 (by rw [← hCl, clsP_bad (by omega) hn hp])
    | ok x =>
    obtain ⟨j1, r, o⟩ := x
    have hj1 := partP_gt (by omega) hp
    rw [hp] at he
    obtain ⟨rfl, h46⟩ := he
    have S46 : St w46 j1 rs := ⟨h46, hS43.2.1.keep e46 hb13b, hS43.2.2.trans e46⟩
    refine ⟨_, _, rfl, ?_⟩
    refine newC_in fun w49 s49 k49 e49 => ?_
    have S49 := hstE S46 e49
    have hlt13 := S46.2.1.lt
    have hbl46 := Blk.lt h46
    refine stA_in k49 (b256_length _) List.length_replicate (b256_scal _) fun w50 s50 k50 e50 => ?_
    have hz46 := S46.2.2.size
    have S50 : St w50 j1 rs := ⟨Blk.keep S49.1 e50 (by omega), S49.2.1.keep e50 (by omega), S49.2.2.step e50 fun k hk h => by omega⟩
    generalize hb48 : w46.heap.size = b48 at *
    -- behind the range, if there is one
    refine ⟨fun w' => ∃ j2 r', clsP (L s) j first rs = clsP (L s) j2 false (rs ++ r') ∧ j < j2 ∧ j2 ≤ s.size ∧ St w' j2 rs ∧ Blk w'.heap b48 177 (b256 (inR r')), ?_, ?_⟩
    · cases o with
      | none =>
        refine ⟨fun g1 => by simp at g1, fun _ => ⟨j1, r, clsP_many (by omega) hn hp, by omega, by omega, S50, k50⟩⟩
      | some v =>
        obtain ⟨rfl, hv⟩ := partP_one hp
        have hone := clsP_one (rs := rs) (by omega) hn hp
        refine ⟨fun _ => ?_, fun g1 => by simp at g1⟩
        by_cases hj1l : j1 < s.size
        case neg =>
          refine (need_bad S50.1 hj1l).use fun e w53 he => ?_
          obtain ⟨rfl, b53⟩ := he
          exact hpan S50 (Ext.of_below b53) (by rw [← hCl, hone, if_pos (by omega), hsz])
        rw [if_neg (by omega)] at hone
        refine (need_ret S50.1 hj1l).ret fun w53 b53 => ⟨_, rfl, fun g2 => ?_, fun g2 => ?_⟩
        case refine_2 =>
          have : at_ (L s) j1 ≠ 45 := by have : ((at_ (L s) j1 : Nat) : Int) ≠ 45 := by simpa using g2
                                         omega
          rw [if_pos this] at hone
          exact ⟨j1, _, hone, by omega, by omega, hst S50 b53, k50.below b53⟩
        have g2' : at_ (L s) j1 = 45 := by have : ((at_ (L s) j1 : Nat) : Int) = 45 := by simpa using g2
                                           omega
        rw [if_neg (by omega)] at hone
        refine drw_in fun w55 q55 e55 => ?_
        have S55 := hstE (hst S50 b53) e55
        have k55 := (k50.below b53).keep e55 fun h => h
        have hw1 : IntKind.wrap .i64 ((j1 : Int) + 1) = ((j1 + 1 : Nat) : Int) := by rw [w64 (by omega)]; omega
        refine ⟨j1, S55.1.cell 1, s, S55.1.cell 0, ?_⟩
        rw [hw1]
        refine ⟨fun w' => w' = w55 ∧ j1 + 1 < s.size, ⟨fun g3 => ?_, fun g3 => ⟨rfl, by have := of_decide_eq_false g3; omega⟩⟩, ?_⟩
        · have g3' := of_decide_eq_true g3
          refine ⟨s, S55.1.cell 0, (fail_ok b s.size rfl w55).use fun e w57 he => ?_⟩
          obtain ⟨rfl, rfl⟩ := he
          exact hpan S55 (Ext.refl _ _) (by rw [← hCl, hone, if_pos (by omega), hsz])
        rintro - w63 ⟨rfl, hj12⟩
        rw [if_neg (by omega)] at hone
        refine drw_in fun w64 q64 e64 => ?_
        have S64 := hstE S55 e64
        have k64 := k55.keep e64 fun h => h
        refine ⟨s, S64.1.cell 0, j1, S64.1.cell 1, ?_⟩
        rw [hw1, byteI s (j := j1 + 1) rfl]
        refine ⟨⟨by omega, by omega⟩, fun g4 => ?_, fun g4 => ?_⟩
        case refine_2 =>
          have : at_ (L s) (j1 + 1) = 93 := by have : ((at_ (L s) (j1 + 1) : Nat) : Int) = 93 := by simpa using g4
                                               omega
          rw [if_pos this] at hone
          exact ⟨j1, _, hone, by omega, by omega, S64, k64⟩
        have g4' : at_ (L s) (j1 + 1) ≠ 93 := by have : ((at_ (L s) (j1 + 1) : Nat) : Int) ≠ 93 := by simpa using g4
                                                 omega
        rw [if_neg g4'] at hone
        refine ⟨j1, S64.1.cell 1, ?_⟩
        refine S64.1.mv (j := j1 + 1) hw1 fun w68 s68 h68 e68 => ?_
        have k68 := k64.keep e68 (by omega)
        have S68 : St w68 (j1 + 1) rs := ⟨h68, S64.2.1.keep e68 hb13b, S64.2.2.trans e68⟩
        refine ⟨_, h68.cell 1, ?_⟩
        refine (part_ok h68 (by omega) false hj12 (.inr g4')).use fun e w72 he => ?_
        obtain ⟨e72, he⟩ := he
        cases hq : partP (L s) (j1 + 1) with
        | bad n =>
          rw [hq] at he hone; subst he
          exact hpan S68 e72 (by rw [← hCl, hone])
        | ok x =>
        obtain ⟨j2, r2, o2⟩ := x
        have hj2 := partP_gt (by omega) hq
        rw [hq] at he hone
        obtain ⟨rfl, h72⟩ := he
        refine ⟨_, _, rfl, ?_⟩
        have S72 : St w72 j2 rs := ⟨h72, S68.2.1.keep e72 hb13b, S68.2.2.trans e72⟩
        have k72 := k68.keep e72 (by omega)
        have hlt13' := S72.2.1.lt
        have hlt48 := k72.lt
        have hbl72 := Blk.lt h72
        refine newC_in fun w75 s75 k75 e75 => ?_
        have S75 := hstE S72 e75
        have k48 := k72.keep e75 fun h => h
        refine stA_in k75 (b256_length _) List.length_replicate (b256_scal _) fun w76 s76 k76 e76 => ?_
        have hz72 := S72.2.2.size
        have S76 : St w76 j2 rs := ⟨Blk.keep S75.1 e76 (by omega), S75.2.1.keep e76 (by omega), S75.2.2.step e76 fun k hk h => by omega⟩
        have k48' := k48.keep e76 (by omega)
        refine drw_in fun w77 q77 e77 => ?_
        have S77 := hstE S76 e77
        have k48'' := k48'.keep e77 fun h => h
        have k74 := k76.keep e77 fun h => h
        cases o2 with
        | none =>
          refine ⟨fun _ => ?_, fun g => by simp at g⟩
          refine (fail_ok b (j1 + 1) rfl w77).use fun e w78 he => ?_
          obtain ⟨rfl, rfl⟩ := he
          exact hpan S77 (Ext.refl _ _) (by rw [← hCl, hone])
        | some v2 =>
        obtain ⟨rfl, hv2⟩ := partP_one hq
        simp only [] at hone
        refine ⟨fun g => by simp at g, fun _ => ?_⟩
        have lowv : ∀ (v : Nat), v < 256 → ∀ w, Cl Try.prog 162 [.agg ⟨b256 (inR [(v, v)])⟩] w (RetB (.int .i64 v) w) := fun v hv w =>
          low_ok _ v hv (by rw [inR_one]; simp) (fun n hn => by rw [inR_one]; exact decide_eq_false (by omega)) w
        refine ⟨⟨b256 (inR [(v2, v2)])⟩, b256_size _, k74.all, ⟨b256 (inR [(v, v)])⟩, b256_size _, k48''.all, ?_⟩
        refine (lowv v2 hv2 w77).ret fun w94 b94 => ⟨_, rfl, (k48''.below b94).all, ?_⟩
        refine (lowv v hv w94).ret fun w97 b97 => ⟨_, rfl, fun g5 => ?_, fun g5 => ?_⟩
        · have g5' := of_decide_eq_true g5
          refine (fail_ok b (j1 + 1) rfl w97).use fun e w99 he => ?_
          obtain ⟨rfl, rfl⟩ := he
          exact hpan S77 (Ext.of_below (b94.vstep b97)) (by rw [← hCl, hone, if_pos (by omega)])
        · have g5' := of_decide_eq_false g5
          rw [if_neg (by omega)] at hone
          refine drw_in fun w112 q112 e112 => ?_
          have B112 : Below w77.heap.size w77 w112 := Ext.to (b94.vstep b97) e112 fun _ h => h.elim
          have S112 := hst S77 B112
          have k48b := k48''.below B112
          have k74b := k74.below B112
          refine ⟨⟨b256 (inR [(v, v)])⟩, b256_size _, k48b.all, ⟨b256 (inR [(v2, v2)])⟩, b256_size _, k74b.all, ?_⟩
          refine (lowv v hv w112).ret fun w116 b116 => ⟨_, rfl, (k74b.below b116).all, ?_⟩
          refine (lowv v2 hv2 w116).ret fun w119 b119 => ⟨_, rfl, ?_⟩
          have B119 := b116.vstep b119
          refine (addR_ok (k48b.below B119) v v2 hv2 rfl rfl).use fun e w121 he => ?_
          obtain ⟨rfl, k121, e121⟩ := he
          have S119 := hst S112 B119
          refine ⟨rfl, j2, [(v, v)] ++ [(v, v2)], ?_, by omega, by omega, ⟨Blk.keep S119.1 e121 (by omega), S119.2.1.keep e121 (by omega), S119.2.2.step e121 fun k hk h => by omega⟩, k121⟩
          rw [hone, List.append_assoc]
    · rintro - w124 ⟨j2, r', hc2, hj2, hj2l, S124, k124⟩
      refine ⟨⟨b256 (inR r')⟩, b256_size _, k124.all, ?_⟩
      refine ⟨fun k n w' => ∃ q : Nat, n = q ∧ q ≤ 256 ∧ k = 256 - q ∧ Rd w' b s j2 g dp a ln c ∧ Blk w'.heap b13 177 (b256 fun n => inR rs n || (decide (n < q) && inR r' n)) ∧ Ext (fun k => k = b) w w', ⟨_, 0, rfl, by omega, rfl, S124.1, by simpa using S124.2.1, S124.2.2⟩, ?_⟩
      rintro k d n w30 ⟨q, rfl, hq, rfl, h30, k30, E30⟩
      refine ⟨fun g4 => ?_, fun g4 => ?_⟩
      · have g4' : q < 256 := by have := of_decide_eq_true g4; omega
        have hback : ∀ w34 : World, ∀ v : Bool, v = (inR rs q || inR r' q) → Ext (fun k => k = b13) w30 w34 → Blk w34.heap b13 177 (segSet (b256 fun n => inR rs n || (decide (n < q) && inR r' n)) q [.bool v]) →
            ∃ m, m < 256 - q ∧ ∃ q' : Nat, IntKind.wrap .i64 ((q : Int) + 1) = q' ∧ q' ≤ 256 ∧ m = 256 - q' ∧ Rd w34 b s j2 g dp a ln c ∧ Blk w34.heap b13 177 (b256 fun n => inR rs n || (decide (n < q') && inR r' n)) ∧ Ext (fun k => k = b) w w34 := by
          intro w34 v hv e34 k34
          refine ⟨_, by omega, q + 1, by rw [w64 (by omega)]; omega, by omega, rfl, Blk.keep h30 e34 (by omega), ?_, E30.step e34 fun k hk h => by omega⟩
          have : segSet (b256 fun n => inR rs n || (decide (n < q) && inR r' n)) q [.bool v] = b256 fun n => inR rs n || (decide (n < q + 1) && inR r' n) := by
            show (b256 _).set q _ = _
            rw [b256_set]
            apply b256_ext
            intro n hn
            by_cases hnq : n = q
            · subst hnq; simp [hv]
            · rw [if_neg hnq, show decide (n < q) = decide (n < q + 1) from decide_eq_decide.2 (by omega)]
          rw [← this]; exact k34
        rw [show 0 + Int.toNat (q : Int) * 1 = q from by omega]
        have hqi : 0 ≤ (q : Int) ∧ (q : Int) < ((256 : Nat) : Int) := ⟨by omega, by omega⟩
        refine ⟨inR r' q, idx256 (inR r') q g4' w30, hqi, inR rs q, by rw [k30.cell, b256_get _ _ g4']; simp, fun g5 => ⟨hqi, ?_⟩, fun g5 => ⟨hqi, ?_⟩⟩
        · exact stW_in k30 (by rw [b256_length]; show q + 1 ≤ 256; omega) fun w34 s34 k34 e34 => hback w34 true (by rw [g5]; simp) e34 k34
        · exact stW_in k30 (by rw [b256_length]; show q + 1 ≤ 256; omega) fun w34 s34 k34 e34 => hback w34 (inR r' q) (by rw [g5]; simp) e34 k34
      · have : q = 256 := by have := of_decide_eq_false g4; omega
        subst this
        refine ⟨s.size + 1 - j2, by omega, j2, rs ++ r', by rw [← hc2, hCl], rfl, hj2l, h30, ?_, E30⟩
        rw [b256_ext (g := fun n => inR rs n || (decide (n < 256) && inR r' n)) fun n hn => by rw [inR_app]; simp [hn]]
        exact k30
end Go.Proofs.Ytngbiaeliphdjaa.V
/- Pieces in memory; the program's put. No statement of the seat is proved here. -/
namespace Go.Vc
open Go.RowKit
set_option linter.unusedVariables false
set_option linter.unusedSimpArgs false
/-- A piece as its cells hold it. -/
structure Raw where
  kind : Int
  sa : Option Addr
  sl : Nat
  sc : Nat
  min : Int
  max : Int
  lazy : Bool
  num : Int
  ka : Option Addr
  kl : Nat
  kc : Nat
def Raw.cells (r : Raw) : List Value := [.int .i64 r.kind, .slice r.sa r.sl r.sc, .int .i64 r.min, .int .i64 r.max, .bool r.lazy, .int .i64 r.num, .slice r.ka r.kl r.kc]
def rawC (l : List Raw) : List Value := l.flatMap Raw.cells
theorem rawC_append (l m : List Raw) : rawC (l ++ m) = rawC l ++ rawC m := by simp [rawC]
theorem rawC_one (r : Raw) : rawC [r] = r.cells := by simp [rawC]
theorem rawC_length (l : List Raw) : (rawC l).length = l.length * 7 := by
  induction l with
  | nil => rfl
  | cons b r ih => rw [show b :: r = [b] ++ r from rfl, rawC_append, List.length_append, ih, rawC_one]; simp [Raw.cells]; omega
theorem rawC_at : ∀ (l : List Raw) (i : Nat) (h : i < l.length) (o : Nat), o < 7 → (rawC l)[i * 7 + o]? = l[i].cells[o]?
  | b :: r, 0, h, o, ho => by
    rw [show rawC (b :: r) = b.cells ++ rawC r from by simp [rawC]]
    rw [List.getElem?_append_left (by simp [Raw.cells]; omega)]; simp
  | b :: r, i + 1, h, o, ho => by
    rw [show rawC (b :: r) = b.cells ++ rawC r from by simp [rawC]]
    have hl : b.cells.length = 7 := rfl
    rw [List.getElem?_append_right (by rw [hl]; omega), hl, show (i + 1) * 7 + o - 7 = i * 7 + o from by omega]
    simpa using rawC_at r i (by simpa using h) o ho
theorem rawC_scal (l : List Raw) : (rawC l).all scal = true := by
  simp only [rawC, List.all_flatMap, List.all_eq_true]
  intro b _ v hv
  simp only [Raw.cells, List.mem_cons, List.not_mem_nil, or_false] at hv
  rcases hv with rfl | rfl | rfl | rfl | rfl | rfl | rfl <;> rfl
def intC (l : List Int) : List Value := l.map fun n => .int .i64 n
theorem intC_append (l m : List Int) : intC (l ++ m) = intC l ++ intC m := by simp [intC]
theorem intC_length (l : List Int) : (intC l).length = l.length * 1 := by simp [intC]
def ob (a : Option Addr) : List Nat := (blkOf a).toList
theorem mem_ob {a : Option Addr} {k : Nat} : k ∈ ob a ↔ blkOf a = some k := by unfold ob; cases blkOf a <;> simp [eq_comm]
def Raw.blocks (r : Raw) : List Nat := ob r.sa ++ ob r.ka
/-- The piece that these cells mean. -/
structure RawOk (w : World) (r : Raw) (p : Pc) : Prop where
  kind : r.kind = p.kind
  min : r.min = p.min
  max : r.max = p.max
  lazy : r.lazy = p.lazy
  num : r.num = p.num
  set : Vec w.heap 134 2 r.sa r.sl r.sc (rngC p.set)
  kids : Vec w.heap 3 1 r.ka r.kl r.kc (intC p.kids)
theorem RawOk.keep {S : Nat → Prop} {w w' : World} {r : Raw} {p : Pc} (h : RawOk w r p) (e : Ext S w w') (hs : ∀ k ∈ r.blocks, ¬ S k) : RawOk w' r p :=
  ⟨h.kind, h.min, h.max, h.lazy, h.num, h.set.keep e fun b hb => hs b (List.mem_append_left _ (mem_ob.2 hb)), h.kids.keep e fun b hb => hs b (List.mem_append_right _ (mem_ob.2 hb))⟩
theorem RawOk.lt {w : World} {r : Raw} {p : Pc} (h : RawOk w r p) : ∀ k ∈ r.blocks, k < w.heap.size := by
  intro k hk
  rcases List.mem_append.1 hk with hk | hk
  · exact h.set.lt k (mem_ob.1 hk)
  · exact h.kids.lt k (mem_ob.1 hk)
/-- A row of pieces, in blocks of its own, no two of them one. -/
def blks (a : Option Addr) (rs : List Raw) : List Nat := ob a ++ rs.flatMap Raw.blocks
structure Pcs (N : Nat) (w : World) (a : Option Addr) (l c : Nat) (rs : List Raw) (ps : List Pc) : Prop where
  row : Vec w.heap 111 7 a l c (rawC rs)
  len : rs.length = l
  len' : ps.length = l
  all : ∀ (i : Nat) (r : Raw) (p : Pc), rs[i]? = some r → ps[i]? = some p → RawOk w r p
  nodup : (blks a rs).Nodup
  low : ∀ b ∈ blks a rs, N ≤ b
theorem Pcs.nil (N : Nat) (w : World) : Pcs N w none 0 0 [] [] := ⟨Vec.nil _ _ _, rfl, rfl, by intro i r p h; simp at h, by simp [blks, ob, blkOf], by simp [blks, ob, blkOf]⟩
theorem Pcs.each {N : Nat} {w : World} {a : Option Addr} {l c : Nat} {rs : List Raw} {ps : List Pc} (h : Pcs N w a l c rs ps) {r : Raw} (hr : r ∈ rs) : ∃ p, p ∈ ps ∧ RawOk w r p := by
  obtain ⟨i, hi⟩ := List.getElem?_of_mem hr
  have hil : i < ps.length := by rw [h.len', ← h.len]; exact (List.getElem?_eq_some_iff.1 hi).1
  exact ⟨ps[i], List.getElem_mem _, h.all i r _ hi (List.getElem?_eq_getElem hil)⟩
theorem Pcs.lt {N : Nat} {w : World} {a : Option Addr} {l c : Nat} {rs : List Raw} {ps : List Pc} (h : Pcs N w a l c rs ps) : ∀ b ∈ blks a rs, b < w.heap.size := by
  intro b hb
  rcases List.mem_append.1 hb with hb | hb
  · exact h.row.lt b (mem_ob.1 hb)
  · obtain ⟨r, hr, hb⟩ := List.mem_flatMap.1 hb
    obtain ⟨p, _, hp⟩ := h.each hr
    exact hp.lt b hb
theorem Pcs.keep {S : Nat → Prop} {N : Nat} {w w' : World} {a : Option Addr} {l c : Nat} {rs : List Raw} {ps : List Pc} (h : Pcs N w a l c rs ps) (e : Ext S w w') (hs : ∀ k ∈ blks a rs, ¬ S k) : Pcs N w' a l c rs ps :=
  ⟨h.row.keep e fun b hb => hs b (List.mem_append_left _ (mem_ob.2 hb)), h.len, h.len', fun i r p hr hp => (h.all i r p hr hp).keep e fun k hk => hs k (List.mem_append_right _ (List.mem_flatMap.2 ⟨r, List.mem_of_getElem? hr, hk⟩)), h.nodup, h.low⟩
theorem Pcs.below {N : Nat} {w w' : World} {a : Option Addr} {l c : Nat} {rs : List Raw} {ps : List Pc} (h : Pcs N w a l c rs ps) (e : Below w.heap.size w w') : Pcs N w' a l c rs ps :=
  h.keep (S := fun _ => False) (Ext.of_below e) fun _ _ h => h
/-- What a step may have changed: the block b, the blocks B; what it leaves as its own is B or new. -/
def Step (b : Nat) (B : List Nat) (w w' : World) (B' : List Nat) : Prop := Ext (fun k => k = b ∨ k ∈ B) w w' ∧ ∀ k ∈ B', k ∈ B ∨ w.heap.size ≤ k
theorem Step.refl (b : Nat) (B : List Nat) (w : World) : Step b B w w B := ⟨Ext.refl _ _, fun k hk => .inl hk⟩
theorem Step.trans {b : Nat} {B B1 B2 : List Nat} {w w1 w2 : World} (h : Step b B w w1 B1) (k : Step b B1 w1 w2 B2) : Step b B w w2 B2 := by
  refine ⟨h.1.step k.1 fun i hi hk => ?_, fun i hi => ?_⟩
  · rcases hk with hk | hk
    · exact .inl hk
    · rcases h.2 i hk with h1 | h1
      · exact .inr h1
      · omega
  · rcases k.2 i hi with h1 | h1
    · exact h.2 i h1
    · exact .inr (Nat.le_trans h.1.size h1)
theorem Step.of_ext {b : Nat} {B : List Nat} {w w' : World} (h : Ext (fun k => k = b) w w') : Step b B w w' B := ⟨Ext.mono h fun _ _ hk => .inl hk, fun k hk => .inl hk⟩
theorem Step.of_below {b : Nat} {B : List Nat} {w w' : World} (h : Below w.heap.size w w') : Step b B w w' B := ⟨Ext.of_below h, fun k hk => .inl hk⟩
end Go.Vc
namespace Go.Proofs.Ytngbiaeliphdjaa.V
open Go.Vc Go.Proofs Go.RowKit
set_option linter.unusedVariables false
set_option linter.unusedSimpArgs false

theorem elemPc : Elem Try.prog 35 111 7 88 := ⟨by kernel_rfl, by kernel_rfl, by kernel_rfl, ⟨[.int .i64 0, .slice none 0 0, .int .i64 0, .int .i64 0, .bool false, .int .i64 0, .slice none 0 0], by kernel_rfl, rfl⟩⟩
theorem elemInt : Elem Try.prog 109 3 1 8 := ⟨by kernel_rfl, by kernel_rfl, by kernel_rfl, ⟨[.int .i64 0], by kernel_rfl, rfl⟩⟩

/-- One piece more. -/
theorem Pcs_app {N : Nat} {w : World} {a : Option Addr} {l c : Nat} {rs : List Raw} {ps : List Pc} (h : Pcs N w a l c rs ps) (hN : N ≤ w.heap.size) {r : Raw} {p : Pc} (hr : RawOk w r p) (hb : r.blocks.Nodup) (hd : ∀ k ∈ r.blocks, k ∉ blks a rs ∧ N ≤ k) (hl : l ≤ 1000) :
    ∃ a2 c2 w', (Builtin.append_ #[35, 35] 35 #[.slice a l c, .slice (some ⟨w.heap.size, 0, none⟩) 1 1]).run Try.prog (newW w (.cells ⟨r.cells⟩ 111)) = .ok (.slice a2 (l + 1) c2) w' ∧ Pcs N w' a2 (l + 1) c2 (rs ++ [r]) (ps ++ [p]) ∧
      Ext (fun k => k ∈ ob a) w w' ∧ (a2 = a ∨ a2 = some ⟨w.heap.size + 1, 0, none⟩) := by
  have E1 : Ext (fun _ => False) w (newW w (.cells ⟨r.cells⟩ 111)) := (Ext.refl _ w).vnew _
  obtain ⟨a2, c2, w', h1, h2, h3, h4⟩ := append_run (P := Try.prog) (T := 35) (T' := 35) (T'' := 35) elemPc.und elemPc.und elemPc.size elemPc.bytes (by rw [show zeroL Try.prog 111 = some _ from elemPc.zero.choose_spec.1]; simp)
    (by rw [show zeroL Try.prog 111 = some _ from elemPc.zero.choose_spec.1]; intro y hy; cases hy; exact elemPc.zero.choose_spec.2) (h.row.keep E1 fun _ _ h => h) (a' := some ⟨w.heap.size, 0, none⟩) (n := 1) (c' := 1) (ys := r.cells) rfl rfl (.inr ⟨_, _, rfl, cellsAt_newW w _ _⟩) (fun h => by cases h) (by omega) (by omega)
  rw [size_newW] at h4
  have E2 : Ext (fun k => k ∈ ob a) w w' := (Ext.mono E1 fun _ _ h => h.elim).trans (Ext.mono h3 fun k _ hk => mem_ob.2 hk)
  have hnd := List.nodup_append.1 h.nodup
  have hblk : ∀ k, k ∈ blks a2 (rs ++ [r]) → k ∈ blks a rs ∨ k ∈ r.blocks ∨ k = w.heap.size + 1 := by
    intro k hk
    simp only [blks, List.flatMap_append, List.mem_append, List.flatMap_cons, List.flatMap_nil, List.append_nil] at hk ⊢
    rcases hk with hk | hk | hk
    · rcases h4 with rfl | rfl
      · exact .inl (.inl hk)
      · right; right; rw [mem_ob] at hk; simp [blkOf] at hk; omega
    · exact .inl (.inr hk)
    · exact .inr (.inl hk)
  refine ⟨a2, c2, w', h1, ⟨by rw [rawC_append, rawC_one]; exact h2, by simp [h.len], by simp [h.len'], ?_, ?_, ?_⟩, E2, h4⟩
  · intro i x y hx hy
    rw [List.getElem?_append] at hx hy
    rw [h.len] at hx
    rw [h.len'] at hy
    split at hx
    · rename_i hi
      rw [if_pos hi] at hy
      refine (h.all i x y hx hy).keep E2 fun k hk hka => ?_
      exact hnd.2.2 k hka k (List.mem_flatMap.2 ⟨x, List.mem_of_getElem? hx, hk⟩) rfl
    · rename_i hi
      rw [if_neg hi] at hy
      have hx' : x = r := by
        have := List.mem_of_getElem? hx; simpa using this
      have hy' : y = p := by
        have := List.mem_of_getElem? hy; simpa using this
      subst hx' hy'
      exact hr.keep E2 fun k hk hka => (hd k hk).1 (List.mem_append_left _ hka)
  · -- all blocks differ
    have hr2 : ∀ k ∈ rs.flatMap Raw.blocks, k ∉ r.blocks := fun k hk hk2 => (hd k hk2).1 (List.mem_append_right _ hk)
    unfold blks
    rw [List.flatMap_append, List.nodup_append]
    refine ⟨by unfold ob; cases blkOf a2 <;> simp, ?_, ?_⟩
    · rw [List.nodup_append]
      refine ⟨hnd.2.1, by simpa using hb, ?_⟩
      intro x hx y hy hxy
      subst hxy
      exact hr2 x hx (by simpa using hy)
    · intro x hx y hy hxy
      subst hxy
      rcases h4 with rfl | rfl
      · rcases List.mem_append.1 hy with hy | hy
        · exact hnd.2.2 x hx x hy rfl
        · exact (hd x (by simpa using hy)).1 (List.mem_append_left _ hx)
      · have hxe : x = w.heap.size + 1 := by rw [mem_ob] at hx; simp [blkOf] at hx; omega
        rcases List.mem_append.1 hy with hy | hy
        · have := h.lt x (List.mem_append_right _ hy); omega
        · have := hr.lt x (by simpa using hy); omega
  · intro k hk
    rcases hblk k hk with h1 | h1 | h1
    · exact h.low k h1
    · exact (hd k h1).2
    · omega
end Go.Proofs.Ytngbiaeliphdjaa.V
/- Lemmas on rows in memory, marks, boxes. No statement of the seat is proved here. -/
namespace Go.Vc
open Go.RowKit
set_option linter.unusedVariables false
set_option linter.unusedSimpArgs false
theorem Vec.open {h : Array Obj} {e : TypeId} {sz : Nat} {a : Option Addr} {l c : Nat} {xs : List Value} (hv : Vec h e sz a l c xs) (hl : 0 < l * sz) : ∃ b, a = some ⟨b, 0, none⟩ ∧ ∀ o, o < l * sz → cellH h b o = xs[o]? := by
  obtain ⟨h1, h2, h3⟩ := hv
  rcases h3 with ⟨rfl, rfl⟩ | ⟨b, cs, rfl, hb, h6, h7⟩
  · have : l = 0 := by omega
    subst this; simp at hl
  · refine ⟨b, rfl, fun o ho => ?_⟩
    rw [hb.cell, ← h7, List.getElem?_take, if_pos ho]
theorem Vec.st {w : World} {e : TypeId} {sz : Nat} {b : Nat} {l c : Nat} {xs : List Value} (h : Vec w.heap e sz (some ⟨b, 0, none⟩) l c xs) {o : Nat} (ho : o < l * sz) {v : Value} {K : World → Prop}
    (hK : ∀ w1, w1.heap.size = w.heap.size → Vec w1.heap e sz (some ⟨b, 0, none⟩) l c (xs.set o v) → Ext (fun k => k = b) w w1 → K w1) : stW b o [v] K w := by
  obtain ⟨h1, h2, h3⟩ := h
  rcases h3 with ⟨h3, _⟩ | ⟨b', cs, hb', hB, h6, h7⟩
  · cases h3
  obtain rfl : b = b' := by injection hb' with hb'; injection hb'
  have hle := Nat.mul_le_mul_right sz h2
  refine stW_in hB (by simp only [List.length_singleton]; omega) fun w1 s1 k1 e1 => hK w1 s1 ⟨by rw [List.length_set]; exact h1, h2, .inr ⟨b, _, rfl, k1, by rw [segSet_length]; exact h6, ?_⟩⟩ e1
  show (cs.set o v).take (l * sz) = _
  rw [List.take_set, h7]
theorem rngC_at : ∀ (l : List (Int × Int)) (i : Nat) (h : i < l.length), (rngC l)[i * 2]? = some (.int .i64 l[i].1) ∧ (rngC l)[i * 2 + 1]? = some (.int .i64 l[i].2)
  | x :: r, 0, h => ⟨rfl, rfl⟩
  | x :: r, i + 1, h => by
    have := rngC_at r i (by simpa using h)
    rw [show (i + 1) * 2 = i * 2 + 2 from by omega, show i * 2 + 2 + 1 = (i * 2 + 1) + 2 from by omega]
    exact this
theorem intC_at (l : List Int) (i : Nat) (h : i < l.length) : (intC l)[i]? = some (.int .i64 l[i]) := by simp [intC, h]
def mkRng (k : Nat) : List (Int × Int) → List (Int × Int)
  | [] => []
  | _ :: r => ((k : Int), ((k + 1 : Nat) : Int)) :: mkRng (k + 2) r
theorem mkRng_length (s : List (Int × Int)) : ∀ k, (mkRng k s).length = s.length := by
  induction s with
  | nil => intro k; rfl
  | cons x r ih => intro k; simp [mkRng, ih]
theorem mkRng_append (s t : List (Int × Int)) : ∀ k, mkRng k (s ++ t) = mkRng k s ++ mkRng (k + 2 * s.length) t := by
  induction s with
  | nil => intro k; rfl
  | cons x r ih => intro k; simp only [List.cons_append, mkRng, ih, List.length_cons]; rw [show k + 2 + 2 * r.length = k + 2 * (r.length + 1) from by omega]
end Go.Vc
namespace Go.Proofs.Ytngbiaeliphdjaa.V
open Go.Vc Go.Proofs Go.RowKit
set_option linter.unusedVariables false
set_option linter.unusedSimpArgs false
theorem raw_at {w : World} {b l : Nat} {rs : List Raw} (hc : ∀ o, o < l * 7 → cellH w.heap b o = (rawC rs)[o]?) (hl : rs.length = l) {i : Nat} (hi : i < rs.length) (o : Nat) (ho : o < 7) : cellH w.heap b (0 + i * 7 + o) = rs[i].cells[o]? := by
  rw [Nat.zero_add, hc _ (by omega)]
  exact rawC_at rs i hi o ho
/-- A pattern's value as a box on the heap holds it. -/
def Box (w : World) (b : Nat) (t : Bool) (n m : Int) (a : Option Addr) (l c : Nat) : Prop := Blk w.heap b 37 [.bool t, .int .i64 n, .int .i64 m, .slice a l c]
theorem box_in {w : World} {t : Bool} {n m : Int} {a : Option Addr} {l c : Nat} {K : Nat → World → Prop} (h : ∀ w2, w2.heap.size = w.heap.size + 1 → Box w2 w.heap.size t n m a l c → Below w.heap.size w w2 → K w.heap.size w2) :
    newC [.bool false, .int .i64 0, .int .i64 0, .slice none 0 0] 37 (fun b (w8 : World) => stW b 0 [.bool t, .int .i64 n, .int .i64 m, .slice a l c] (fun w9 => K b w9) w8) w := by
  refine newC_in fun w1 s1 k1 e1 => ?_
  refine stW_in k1 (by show 0 + 4 ≤ 4; decide) fun w2 s2 k2 e2 => ?_
  exact h w2 (by omega) k2 (Ext.to (Ext.to (Below.refl _ _) e1 fun _ h => h.elim) e2 fun i h => by omega)
end Go.Proofs.Ytngbiaeliphdjaa.V
/- Printed by vcgen.py, a program of this session: formulas of Go functions, each with the proof that it gives the function's contract. No statement of the seat is proved here. -/
namespace Go.Proofs.Ytngbiaeliphdjaa.V
open Go.Vc Go.Proofs
set_option linter.unusedVariables false
set_option maxRecDepth 100000
/-- (*impl.list).add -/
def V129 (b1 : Nat) (o2 : Nat) (n3 : Int) (g4 : Nat → Int) (R : Ending → World → Prop) : World → Prop := fun w =>
  newC [.int .i64 n3, .int .i64 (g4 0), .int .i64 (g4 1), .int .i64 (g4 2), .int .i64 (g4 3), .int .i64 (g4 4), .int .i64 (g4 5), .int .i64 (g4 6), .int .i64 (g4 7), .int .i64 (g4 8), .int .i64 (g4 9), .int .i64 (g4 10), .int .i64 (g4 11), .int .i64 (g4 12), .int .i64 (g4 13), .int .i64 (g4 14), .int .i64 (g4 15), .int .i64 (g4 16), .int .i64 (g4 17), .int .i64 (g4 18), .int .i64 (g4 19)] 142 (fun (b5 : Nat) (w6 : World) => drw (fun (w7 : World) => ∃ (n8 : Int), cellH w7.heap b5 0 = some (.int .i64 n8) ∧ (0 ≤ (n8 : Int) ∧ (n8 : Int) < ((201 : Nat) : Int)) ∧ ∃ (t9 : Bool), cellH w7.heap b1 (o2 + 1 + (Int.toNat n8) * 1) = some (.bool t9) ∧ (((!t9) = true → drw (fun (w10 : World) => ∃ (n11 : Int), cellH w10.heap b5 0 = some (.int .i64 n11) ∧ (0 ≤ (n11 : Int) ∧ (n11 : Int) < ((201 : Nat) : Int)) ∧ stW b1 (o2 + 1 + (Int.toNat n11) * 1) [.bool true] (fun (w12 : World) => drw (fun (w13 : World) => ∃ (a14 : Option Addr), ∃ (l14 : Nat), ∃ (c14 : Nat), cellH w13.heap b1 o2 = some (.slice a14 l14 c14) ∧ ∃ (n15 : Int), cellH w13.heap b5 0 = some (.int .i64 n15) ∧ ∃ (g16 : Nat → Int), intsAt w13.heap b5 1 20 g16 ∧ newC [.int .i64 n15, .int .i64 (g16 0), .int .i64 (g16 1), .int .i64 (g16 2), .int .i64 (g16 3), .int .i64 (g16 4), .int .i64 (g16 5), .int .i64 (g16 6), .int .i64 (g16 7), .int .i64 (g16 8), .int .i64 (g16 9), .int .i64 (g16 10), .int .i64 (g16 11), .int .i64 (g16 12), .int .i64 (g16 13), .int .i64 (g16 14), .int .i64 (g16 15), .int .i64 (g16 16), .int .i64 (g16 17), .int .i64 (g16 18), .int .i64 (g16 19)] 142 (fun (b17 : Nat) (w18 : World) => cellH w18.heap b1 o2 = some (.slice a14 l14 c14) ∧ ∃ (a19 : Option Addr), ∃ (l19 : Nat), ∃ (c19 : Nat), ∃ (w20 : World), (Builtin.append_ #[137, 137] 137 #[.slice a14 l14 c14, .slice (some ⟨b17, 0, none⟩) 1 1]).run Try.prog w18 = .ok (.slice a19 l19 c19) w20 ∧ stW b1 o2 [.slice a19 l19 c19] (fun (w21 : World) => R (.returned (.tuple #[])) w21) w20) w13) w12) w10) w7) ∧ ((!t9) = false → R (.returned (.tuple #[])) w7))) w6) w
def scr129 : Scr := (.run [0] (.close (.run [0, 1, 2, 3, 4, 5, 6, 7] (.close (.cond (.run [0, 1, 2, 3, 4, 5, 6] (.close (.run [0, 1, 2, 3, 4, 5, 6, 7, 8, 9, 10] (.close .nil)))) .nil)))))
theorem vc129 {b1 : Nat} {o2 : Nat} {n3 : Int} {g4 : Nat → Int} {R : Ending → World → Prop} {w : World} (h : V129 b1 o2 n3 g4 R w) : Cl Try.prog 129 [.pointer (some ⟨b1, o2, none⟩), .agg #[.int .i64 n3, .int .i64 (g4 0), .int .i64 (g4 1), .int .i64 (g4 2), .int .i64 (g4 3), .int .i64 (g4 4), .int .i64 (g4 5), .int .i64 (g4 6), .int .i64 (g4 7), .int .i64 (g4 8), .int .i64 (g4 9), .int .i64 (g4 10), .int .i64 (g4 11), .int .i64 (g4 12), .int .i64 (g4 13), .int .i64 (g4 14), .int .i64 (g4 15), .int .i64 (g4 16), .int .i64 (g4 17), .int .i64 (g4 18), .int .i64 (g4 19)]] w R :=
  cl_of scr129 Try.func129 (by kernel_rfl) [.pointer (some ⟨b1, o2, none⟩), .agg #[.int .i64 n3, .int .i64 (g4 0), .int .i64 (g4 1), .int .i64 (g4 2), .int .i64 (g4 3), .int .i64 (g4 4), .int .i64 (g4 5), .int .i64 (g4 6), .int .i64 (g4 7), .int .i64 (g4 8), .int .i64 (g4 9), .int .i64 (g4 10), .int .i64 (g4 11), .int .i64 (g4 12), .int .i64 (g4 13), .int .i64 (g4 14), .int .i64 (g4 15), .int .i64 (g4 16), .int .i64 (g4 17), .int .i64 (g4 18), .int .i64 (g4 19)]] (V129 b1 o2 n3 g4 R) (by kernel_rfl) h
/-- impl.none -/
def V130  (R : Ending → World → Prop) : World → Prop := fun w =>
  newC [.int .i64 0, .int .i64 0, .int .i64 0, .int .i64 0, .int .i64 0, .int .i64 0, .int .i64 0, .int .i64 0, .int .i64 0, .int .i64 0, .int .i64 0, .int .i64 0, .int .i64 0, .int .i64 0, .int .i64 0, .int .i64 0, .int .i64 0, .int .i64 0, .int .i64 0, .int .i64 0] 140 (fun (b1 : Nat) (w2 : World) => ∃ (I3 : Nat → Int → World → Prop), (∃ (k5 : Nat), I3 k5 0 w2) ∧ ∀ (k4 : Nat) (d7 : Nat → Value) (n8 : Int) (w6 : World), I3 k4 n8 w6 → (((decide ((n8 : Int) < 10)) = true → (0 ≤ (n8 : Int) ∧ (n8 : Int) < ((10 : Nat) : Int)) ∧ stW b1 (0 + (Int.toNat n8) * 2) [.int .i64 (-1), .int .i64 (-1)] (fun (w9 : World) => (∃ (m10 : Nat), m10 < k4 ∧ I3 m10 (IntKind.wrap .i64 (n8 + 1)) w9)) w6) ∧ ((decide ((n8 : Int) < 10)) = false → ∃ (g11 : Nat → Int), intsAt w6.heap b1 0 20 g11 ∧ stW b1 0 [.int .i64 (g11 0), .int .i64 (g11 1), .int .i64 (g11 2), .int .i64 (g11 3), .int .i64 (g11 4), .int .i64 (g11 5), .int .i64 (g11 6), .int .i64 (g11 7), .int .i64 (g11 8), .int .i64 (g11 9), .int .i64 (g11 10), .int .i64 (g11 11), .int .i64 (g11 12), .int .i64 (g11 13), .int .i64 (g11 14), .int .i64 (g11 15), .int .i64 (g11 16), .int .i64 (g11 17), .int .i64 (g11 18), .int .i64 (g11 19)] (fun (w12 : World) => ∃ (g13 : Nat → Int), intsAt w12.heap b1 0 20 g13 ∧ R (.returned (.agg #[.int .i64 (g13 0), .int .i64 (g13 1), .int .i64 (g13 2), .int .i64 (g13 3), .int .i64 (g13 4), .int .i64 (g13 5), .int .i64 (g13 6), .int .i64 (g13 7), .int .i64 (g13 8), .int .i64 (g13 9), .int .i64 (g13 10), .int .i64 (g13 11), .int .i64 (g13 12), .int .i64 (g13 13), .int .i64 (g13 14), .int .i64 (g13 15), .int .i64 (g13 16), .int .i64 (g13 17), .int .i64 (g13 18), .int .i64 (g13 19)])) w12) w6))) w
def scr130 : Scr := (.run [0] (.close (.run [0] (.close (.loop [(2, some (.int .i64)), (1, none), (3, none), (4, none), (5, none), (6, none), (7, none), (8, none)] (.run [0] (.close (.cond (.run [0, 1] (.close (.run [0, 1, 2, 3] (.close (.run [0, 1] (.close .nil)))))) (.run [0, 1] (.close .nil))))))))))
theorem vc130  {R : Ending → World → Prop} {w : World} (h : V130  R w) : Cl Try.prog 130 [] w R :=
  cl_of scr130 Try.func130 (by kernel_rfl) [] (V130  R) (by kernel_rfl) h
/-- (impl.spans).with -/
def V151 (g1 : Nat → Int) (g2 : Nat → Int) (R : Ending → World → Prop) : World → Prop := fun w =>
  newC [.int .i64 (g1 0), .int .i64 (g1 1), .int .i64 (g1 2), .int .i64 (g1 3), .int .i64 (g1 4), .int .i64 (g1 5), .int .i64 (g1 6), .int .i64 (g1 7), .int .i64 (g1 8), .int .i64 (g1 9), .int .i64 (g1 10), .int .i64 (g1 11), .int .i64 (g1 12), .int .i64 (g1 13), .int .i64 (g1 14), .int .i64 (g1 15), .int .i64 (g1 16), .int .i64 (g1 17), .int .i64 (g1 18), .int .i64 (g1 19)] 140 (fun (b3 : Nat) (w4 : World) => newC [.int .i64 (g2 0), .int .i64 (g2 1), .int .i64 (g2 2), .int .i64 (g2 3), .int .i64 (g2 4), .int .i64 (g2 5), .int .i64 (g2 6), .int .i64 (g2 7), .int .i64 (g2 8), .int .i64 (g2 9), .int .i64 (g2 10), .int .i64 (g2 11), .int .i64 (g2 12), .int .i64 (g2 13), .int .i64 (g2 14), .int .i64 (g2 15), .int .i64 (g2 16), .int .i64 (g2 17), .int .i64 (g2 18), .int .i64 (g2 19)] 140 (fun (b5 : Nat) (w6 : World) => newC [.int .i64 0, .int .i64 0, .int .i64 0, .int .i64 0, .int .i64 0, .int .i64 0, .int .i64 0, .int .i64 0, .int .i64 0, .int .i64 0, .int .i64 0, .int .i64 0, .int .i64 0, .int .i64 0, .int .i64 0, .int .i64 0, .int .i64 0, .int .i64 0, .int .i64 0, .int .i64 0] 140 (fun (b7 : Nat) (w8 : World) => ∃ (g9 : Nat → Int), intsAt w8.heap b5 0 20 g9 ∧ ∃ (I10 : Nat → Int → World → Prop), (∃ (k12 : Nat), I10 k12 0 w8) ∧ ∀ (k11 : Nat) (d14 : Nat → Value) (n15 : Int) (w13 : World), I10 k11 n15 w13 → (((decide ((n15 : Int) < 10)) = true → ∃ (n16 : Int), ∃ (n17 : Int), (Instr.index 140 (.agg #[.int .i64 (g9 0), .int .i64 (g9 1), .int .i64 (g9 2), .int .i64 (g9 3), .int .i64 (g9 4), .int .i64 (g9 5), .int .i64 (g9 6), .int .i64 (g9 7), .int .i64 (g9 8), .int .i64 (g9 9), .int .i64 (g9 10), .int .i64 (g9 11), .int .i64 (g9 12), .int .i64 (g9 13), .int .i64 (g9 14), .int .i64 (g9 15), .int .i64 (g9 16), .int .i64 (g9 17), .int .i64 (g9 18), .int .i64 (g9 19)]) (.int .i64 n15)).run Try.prog w13 = .ok (.agg #[.int .i64 n16, .int .i64 n17]) w13 ∧ newC [.int .i64 0, .int .i64 0] 31 (fun (b18 : Nat) (w19 : World) => stW b18 0 [.int .i64 n16, .int .i64 n17] (fun (w20 : World) => ∃ (n21 : Int), cellH w20.heap b18 0 = some (.int .i64 n21) ∧ (((decide ((n21 : Int) ≥ 0)) = true → ∃ (n22 : Int), cellH w20.heap b18 0 = some (.int .i64 n22) ∧ ∃ (n23 : Int), cellH w20.heap b18 1 = some (.int .i64 n23) ∧ (0 ≤ (n15 : Int) ∧ (n15 : Int) < ((10 : Nat) : Int)) ∧ stW b3 (0 + (Int.toNat n15) * 2) [.int .i64 n22, .int .i64 n23] (fun (w24 : World) => (∃ (m25 : Nat), m25 < k11 ∧ I10 m25 (IntKind.wrap .i64 (n15 + 1)) w24)) w20) ∧ ((decide ((n21 : Int) ≥ 0)) = false → (∃ (m26 : Nat), m26 < k11 ∧ I10 m26 (IntKind.wrap .i64 (n15 + 1)) w20)))) w19) w13) ∧ ((decide ((n15 : Int) < 10)) = false → ∃ (g27 : Nat → Int), intsAt w13.heap b3 0 20 g27 ∧ stW b7 0 [.int .i64 (g27 0), .int .i64 (g27 1), .int .i64 (g27 2), .int .i64 (g27 3), .int .i64 (g27 4), .int .i64 (g27 5), .int .i64 (g27 6), .int .i64 (g27 7), .int .i64 (g27 8), .int .i64 (g27 9), .int .i64 (g27 10), .int .i64 (g27 11), .int .i64 (g27 12), .int .i64 (g27 13), .int .i64 (g27 14), .int .i64 (g27 15), .int .i64 (g27 16), .int .i64 (g27 17), .int .i64 (g27 18), .int .i64 (g27 19)] (fun (w28 : World) => ∃ (g29 : Nat → Int), intsAt w28.heap b7 0 20 g29 ∧ R (.returned (.agg #[.int .i64 (g29 0), .int .i64 (g29 1), .int .i64 (g29 2), .int .i64 (g29 3), .int .i64 (g29 4), .int .i64 (g29 5), .int .i64 (g29 6), .int .i64 (g29 7), .int .i64 (g29 8), .int .i64 (g29 9), .int .i64 (g29 10), .int .i64 (g29 11), .int .i64 (g29 12), .int .i64 (g29 13), .int .i64 (g29 14), .int .i64 (g29 15), .int .i64 (g29 16), .int .i64 (g29 17), .int .i64 (g29 18), .int .i64 (g29 19)])) w28) w13))) w6) w4) w
def scr151 : Scr := (.run [0, 1, 2] (.close (.run [0, 1] (.close (.loop [(8, some (.int .i64)), (5, none), (6, none), (9, none), (10, none), (11, none), (12, none), (13, none), (14, none), (15, none), (16, none), (17, none), (18, none)] (.run [0] (.close (.cond (.run [0, 1, 2, 3, 4] (.close (.run [0, 1, 2] (.close (.cond (.run [0, 1, 2, 3] (.close (.run [0, 1] (.close .nil)))) (.run [0, 1] (.close .nil))))))) (.run [0, 1] (.close .nil))))))))))
theorem vc151 {g1 : Nat → Int} {g2 : Nat → Int} {R : Ending → World → Prop} {w : World} (h : V151 g1 g2 R w) : Cl Try.prog 151 [.agg #[.int .i64 (g1 0), .int .i64 (g1 1), .int .i64 (g1 2), .int .i64 (g1 3), .int .i64 (g1 4), .int .i64 (g1 5), .int .i64 (g1 6), .int .i64 (g1 7), .int .i64 (g1 8), .int .i64 (g1 9), .int .i64 (g1 10), .int .i64 (g1 11), .int .i64 (g1 12), .int .i64 (g1 13), .int .i64 (g1 14), .int .i64 (g1 15), .int .i64 (g1 16), .int .i64 (g1 17), .int .i64 (g1 18), .int .i64 (g1 19)], .agg #[.int .i64 (g2 0), .int .i64 (g2 1), .int .i64 (g2 2), .int .i64 (g2 3), .int .i64 (g2 4), .int .i64 (g2 5), .int .i64 (g2 6), .int .i64 (g2 7), .int .i64 (g2 8), .int .i64 (g2 9), .int .i64 (g2 10), .int .i64 (g2 11), .int .i64 (g2 12), .int .i64 (g2 13), .int .i64 (g2 14), .int .i64 (g2 15), .int .i64 (g2 16), .int .i64 (g2 17), .int .i64 (g2 18), .int .i64 (g2 19)]] w R :=
  cl_of scr151 Try.func151 (by kernel_rfl) [.agg #[.int .i64 (g1 0), .int .i64 (g1 1), .int .i64 (g1 2), .int .i64 (g1 3), .int .i64 (g1 4), .int .i64 (g1 5), .int .i64 (g1 6), .int .i64 (g1 7), .int .i64 (g1 8), .int .i64 (g1 9), .int .i64 (g1 10), .int .i64 (g1 11), .int .i64 (g1 12), .int .i64 (g1 13), .int .i64 (g1 14), .int .i64 (g1 15), .int .i64 (g1 16), .int .i64 (g1 17), .int .i64 (g1 18), .int .i64 (g1 19)], .agg #[.int .i64 (g2 0), .int .i64 (g2 1), .int .i64 (g2 2), .int .i64 (g2 3), .int .i64 (g2 4), .int .i64 (g2 5), .int .i64 (g2 6), .int .i64 (g2 7), .int .i64 (g2 8), .int .i64 (g2 9), .int .i64 (g2 10), .int .i64 (g2 11), .int .i64 (g2 12), .int .i64 (g2 13), .int .i64 (g2 14), .int .i64 (g2 15), .int .i64 (g2 16), .int .i64 (g2 17), .int .i64 (g2 18), .int .i64 (g2 19)]] (V151 g1 g2 R) (by kernel_rfl) h
/-- (*impl.finder).then -/
def V131 (b1 : Nat) (o2 : Nat) (a3 : Option Addr) (l3 : Nat) (c3 : Nat) (f4 : Nat) (fi4 cp4 : Array Value) (R : Ending → World → Prop) : World → Prop := fun w =>
  newC ([.slice none 0 0] ++ List.replicate 201 (.bool false)) 163 (fun (b5 : Nat) (w6 : World) => ∃ (I7 : Nat → Int → World → Prop), (∃ (k9 : Nat), I7 k9 0 w6) ∧ ∀ (k8 : Nat) (d11 : Nat → Value) (n12 : Int) (w10 : World), I7 k8 n12 w10 → (((decide ((n12 : Int) < ((l3 : Nat) : Int))) = true → ∃ (b13 : Nat) (o14 : Nat), ((a3 : Option Addr) = some ⟨b13, o14, none⟩ ∧ 0 ≤ (n12 : Int) ∧ (n12 : Int) < ((l3 : Nat) : Int)) ∧ ∃ (n15 : Int), cellH w10.heap b13 (o14 + (Int.toNat n12) * 21) = some (.int .i64 n15) ∧ ∃ (g16 : Nat → Int), intsAt w10.heap b13 (o14 + (Int.toNat n12) * 21 + 1) 20 g16 ∧ newC [.int .i64 0, .int .i64 0, .int .i64 0, .int .i64 0, .int .i64 0, .int .i64 0, .int .i64 0, .int .i64 0, .int .i64 0, .int .i64 0, .int .i64 0, .int .i64 0, .int .i64 0, .int .i64 0, .int .i64 0, .int .i64 0, .int .i64 0, .int .i64 0, .int .i64 0, .int .i64 0, .int .i64 0] 142 (fun (b17 : Nat) (w18 : World) => stW b17 0 [.int .i64 n15, .int .i64 (g16 0), .int .i64 (g16 1), .int .i64 (g16 2), .int .i64 (g16 3), .int .i64 (g16 4), .int .i64 (g16 5), .int .i64 (g16 6), .int .i64 (g16 7), .int .i64 (g16 8), .int .i64 (g16 9), .int .i64 (g16 10), .int .i64 (g16 11), .int .i64 (g16 12), .int .i64 (g16 13), .int .i64 (g16 14), .int .i64 (g16 15), .int .i64 (g16 16), .int .i64 (g16 17), .int .i64 (g16 18), .int .i64 (g16 19)] (fun (w19 : World) => ∃ (n20 : Int), cellH w19.heap b17 0 = some (.int .i64 n20) ∧ Cl Try.prog f4 (fi4.toList ++ [.int .i64 n20] ++ cp4.toList) w19 (retG (fun (r23 : Value) (w22 : World) => ∃ (a21 : Option Addr), ∃ (l21 : Nat), ∃ (c21 : Nat), r23 = .slice a21 l21 c21 ∧ ∃ (I24 : Nat → Int → World → Prop), (∃ (k26 : Nat), I24 k26 0 w22) ∧ ∀ (k25 : Nat) (d28 : Nat → Value) (n29 : Int) (w27 : World), I24 k25 n29 w27 → (((decide ((n29 : Int) < ((l21 : Nat) : Int))) = true → ∃ (b30 : Nat) (o31 : Nat), ((a21 : Option Addr) = some ⟨b30, o31, none⟩ ∧ 0 ≤ (n29 : Int) ∧ (n29 : Int) < ((l21 : Nat) : Int)) ∧ ∃ (n32 : Int), cellH w27.heap b30 (o31 + (Int.toNat n29) * 21) = some (.int .i64 n32) ∧ ∃ (g33 : Nat → Int), intsAt w27.heap b30 (o31 + (Int.toNat n29) * 21 + 1) 20 g33 ∧ newC [.int .i64 0, .int .i64 0, .int .i64 0, .int .i64 0, .int .i64 0, .int .i64 0, .int .i64 0, .int .i64 0, .int .i64 0, .int .i64 0, .int .i64 0, .int .i64 0, .int .i64 0, .int .i64 0, .int .i64 0, .int .i64 0, .int .i64 0, .int .i64 0, .int .i64 0, .int .i64 0, .int .i64 0] 142 (fun (b34 : Nat) (w35 : World) => stW b34 0 [.int .i64 n32, .int .i64 (g33 0), .int .i64 (g33 1), .int .i64 (g33 2), .int .i64 (g33 3), .int .i64 (g33 4), .int .i64 (g33 5), .int .i64 (g33 6), .int .i64 (g33 7), .int .i64 (g33 8), .int .i64 (g33 9), .int .i64 (g33 10), .int .i64 (g33 11), .int .i64 (g33 12), .int .i64 (g33 13), .int .i64 (g33 14), .int .i64 (g33 15), .int .i64 (g33 16), .int .i64 (g33 17), .int .i64 (g33 18), .int .i64 (g33 19)] (fun (w36 : World) => drw (fun (w37 : World) => ∃ (n38 : Int), cellH w37.heap b34 0 = some (.int .i64 n38) ∧ ∃ (g39 : Nat → Int), intsAt w37.heap b17 1 20 g39 ∧ ∃ (g40 : Nat → Int), intsAt w37.heap b34 1 20 g40 ∧ Cl Try.prog 151 ([.agg #[.int .i64 (g39 0), .int .i64 (g39 1), .int .i64 (g39 2), .int .i64 (g39 3), .int .i64 (g39 4), .int .i64 (g39 5), .int .i64 (g39 6), .int .i64 (g39 7), .int .i64 (g39 8), .int .i64 (g39 9), .int .i64 (g39 10), .int .i64 (g39 11), .int .i64 (g39 12), .int .i64 (g39 13), .int .i64 (g39 14), .int .i64 (g39 15), .int .i64 (g39 16), .int .i64 (g39 17), .int .i64 (g39 18), .int .i64 (g39 19)], .agg #[.int .i64 (g40 0), .int .i64 (g40 1), .int .i64 (g40 2), .int .i64 (g40 3), .int .i64 (g40 4), .int .i64 (g40 5), .int .i64 (g40 6), .int .i64 (g40 7), .int .i64 (g40 8), .int .i64 (g40 9), .int .i64 (g40 10), .int .i64 (g40 11), .int .i64 (g40 12), .int .i64 (g40 13), .int .i64 (g40 14), .int .i64 (g40 15), .int .i64 (g40 16), .int .i64 (g40 17), .int .i64 (g40 18), .int .i64 (g40 19)]]) w37 (retG (fun (r43 : Value) (w42 : World) => ∃ (g41 : Nat → Int), r43 = .agg #[.int .i64 (g41 0), .int .i64 (g41 1), .int .i64 (g41 2), .int .i64 (g41 3), .int .i64 (g41 4), .int .i64 (g41 5), .int .i64 (g41 6), .int .i64 (g41 7), .int .i64 (g41 8), .int .i64 (g41 9), .int .i64 (g41 10), .int .i64 (g41 11), .int .i64 (g41 12), .int .i64 (g41 13), .int .i64 (g41 14), .int .i64 (g41 15), .int .i64 (g41 16), .int .i64 (g41 17), .int .i64 (g41 18), .int .i64 (g41 19)] ∧ cellH w42.heap b34 0 = some (.int .i64 n38) ∧ Cl Try.prog 129 ([.pointer (some ⟨b5, 0, none⟩), .agg #[.int .i64 n38, .int .i64 (g41 0), .int .i64 (g41 1), .int .i64 (g41 2), .int .i64 (g41 3), .int .i64 (g41 4), .int .i64 (g41 5), .int .i64 (g41 6), .int .i64 (g41 7), .int .i64 (g41 8), .int .i64 (g41 9), .int .i64 (g41 10), .int .i64 (g41 11), .int .i64 (g41 12), .int .i64 (g41 13), .int .i64 (g41 14), .int .i64 (g41 15), .int .i64 (g41 16), .int .i64 (g41 17), .int .i64 (g41 18), .int .i64 (g41 19)]]) w42 (retG (fun (r45 : Value) (w44 : World) => r45 = .tuple #[] ∧ (∃ (m46 : Nat), m46 < k25 ∧ I24 m46 (IntKind.wrap .i64 (n29 + 1)) w44)) (fun c w => R (.panicked c) w))) (fun c w => R (.panicked c) w))) w36) w35) w27) ∧ ((decide ((n29 : Int) < ((l21 : Nat) : Int))) = false → (∃ (m47 : Nat), m47 < k8 ∧ I7 m47 (IntKind.wrap .i64 (n12 + 1)) w27)))) (fun c w => R (.panicked c) w))) w18) w10) ∧ ((decide ((n12 : Int) < ((l3 : Nat) : Int))) = false → ∃ (a48 : Option Addr), ∃ (l48 : Nat), ∃ (c48 : Nat), cellH w10.heap b5 0 = some (.slice a48 l48 c48) ∧ R (.returned (.slice a48 l48 c48)) w10))) w
def scr131 : Scr := (.run [0] (.close (.run [0] (.close (.run [0, 1, 2] (.close (.loop [(14, some (.int .i64)), (9, none), (11, none), (15, none), (16, none), (17, none), (18, none), (19, none), (20, none), (21, none), (22, none), (23, none), (24, none), (25, none), (26, none), (27, none), (28, none), (29, none), (30, none), (31, none), (32, none), (33, none), (34, none), (35, none), (36, none), (37, none)] (.run [0] (.close (.cond (.run [0, 1, 2, 3] (.close (.run [0, 1, 2, 3, 4, 5] (.close (.loop [(23, some (.int .i64)), (11, none), (24, none), (25, none), (26, none), (27, none), (28, none), (29, none), (30, none), (31, none), (32, none), (33, none), (34, none), (35, none), (36, none)] (.run [0] (.close (.cond (.run [0, 1, 2, 3] (.close (.run [0, 1, 2, 3, 4, 5, 6, 7, 8] (.close (.run [0, 1] (.close .nil)))))) (.run [0, 1] (.close .nil)))))))))) (.run [0, 1, 2] (.close .nil))))))))))))
theorem vc131 {b1 : Nat} {o2 : Nat} {a3 : Option Addr} {l3 : Nat} {c3 : Nat} {f4 : Nat} {fi4 cp4 : Array Value} {R : Ending → World → Prop} {w : World} (h : V131 b1 o2 a3 l3 c3 f4 fi4 cp4 R w) : Cl Try.prog 131 [.pointer (some ⟨b1, o2, none⟩), .slice a3 l3 c3, .func (.func f4) fi4 cp4] w R :=
  cl_of scr131 Try.func131 (by kernel_rfl) [.pointer (some ⟨b1, o2, none⟩), .slice a3 l3 c3, .func (.func f4) fi4 cp4] (V131 b1 o2 a3 l3 c3 f4 fi4 cp4 R) (by kernel_rfl) h
/-- (*impl.finder).ways$1 -/
def V132 (n1 : Int) (b2 : Nat) (o3 : Nat) (b4 : Nat) (o5 : Nat) (R : Ending → World → Prop) : World → Prop := fun w =>
  ∃ (b6 : Nat), ∃ (o7 : Nat), cellH w.heap b2 o3 = some (.pointer (some ⟨b6, o7, none⟩)) ∧ ∃ (n8 : Int), cellH w.heap b4 o5 = some (.int .i64 n8) ∧ Cl Try.prog 114 ([.pointer (some ⟨b6, o7, none⟩), .int .i64 n8, .int .i64 n1]) w (retG (fun (r11 : Value) (w10 : World) => ∃ (a9 : Option Addr), ∃ (l9 : Nat), ∃ (c9 : Nat), r11 = .slice a9 l9 c9 ∧ R (.returned (.slice a9 l9 c9)) w10) (fun c w => R (.panicked c) w))
def scr132 : Scr := (.run [0] (.close (.run [0, 1, 2, 3, 4] (.close .nil))))
theorem vc132 {n1 : Int} {b2 : Nat} {o3 : Nat} {b4 : Nat} {o5 : Nat} {R : Ending → World → Prop} {w : World} (h : V132 n1 b2 o3 b4 o5 R w) : Cl Try.prog 132 [.int .i64 n1, .pointer (some ⟨b2, o3, none⟩), .pointer (some ⟨b4, o5, none⟩)] w R :=
  cl_of scr132 Try.func132 (by kernel_rfl) [.int .i64 n1, .pointer (some ⟨b2, o3, none⟩), .pointer (some ⟨b4, o5, none⟩)] (V132 n1 b2 o3 b4 o5 R) (by kernel_rfl) h
/-- (*impl.finder).ways$2 -/
def V133 (n1 : Int) (b2 : Nat) (o3 : Nat) (b4 : Nat) (o5 : Nat) (R : Ending → World → Prop) : World → Prop := fun w =>
  drw (fun (w6 : World) => ∃ (b7 : Nat), ∃ (o8 : Nat), cellH w6.heap b2 o3 = some (.pointer (some ⟨b7, o8, none⟩)) ∧ ∃ (a9 : Option Addr), ∃ (l9 : Nat), ∃ (c9 : Nat), cellH w6.heap b4 (o5 + 6) = some (.slice a9 l9 c9) ∧ ∃ (b10 : Nat) (o11 : Nat), ((a9 : Option Addr) = some ⟨b10, o11, none⟩ ∧ 0 ≤ (0 : Int) ∧ (0 : Int) < ((l9 : Nat) : Int)) ∧ ∃ (n12 : Int), cellH w6.heap b10 o11 = some (.int .i64 n12) ∧ Cl Try.prog 114 ([.pointer (some ⟨b7, o8, none⟩), .int .i64 n12, .int .i64 n1]) w6 (retG (fun (r15 : Value) (w14 : World) => ∃ (a13 : Option Addr), ∃ (l13 : Nat), ∃ (c13 : Nat), r15 = .slice a13 l13 c13 ∧ R (.returned (.slice a13 l13 c13)) w14) (fun c w => R (.panicked c) w))) w
def scr133 : Scr := (.run [0] (.close (.run [0, 1, 2, 3, 4, 5, 6, 7] (.close .nil))))
theorem vc133 {n1 : Int} {b2 : Nat} {o3 : Nat} {b4 : Nat} {o5 : Nat} {R : Ending → World → Prop} {w : World} (h : V133 n1 b2 o3 b4 o5 R w) : Cl Try.prog 133 [.int .i64 n1, .pointer (some ⟨b2, o3, none⟩), .pointer (some ⟨b4, o5, none⟩)] w R :=
  cl_of scr133 Try.func133 (by kernel_rfl) [.int .i64 n1, .pointer (some ⟨b2, o3, none⟩), .pointer (some ⟨b4, o5, none⟩)] (V133 n1 b2 o3 b4 o5 R) (by kernel_rfl) h
/-- (*impl.finder).ways$3 -/
def V134 (n1 : Int) (b2 : Nat) (o3 : Nat) (b4 : Nat) (o5 : Nat) (b6 : Nat) (o7 : Nat) (R : Ending → World → Prop) : World → Prop := fun w =>
  ∃ (b8 : Nat), ∃ (o9 : Nat), cellH w.heap b2 o3 = some (.pointer (some ⟨b8, o9, none⟩)) ∧ ∃ (n10 : Int), cellH w.heap b4 o5 = some (.int .i64 n10) ∧ ∃ (n11 : Int), cellH w.heap b6 o7 = some (.int .i64 n11) ∧ Cl Try.prog 135 ([.pointer (some ⟨b8, o9, none⟩), .int .i64 n10, .int .i64 n1, .int .i64 n11]) w (retG (fun (r14 : Value) (w13 : World) => ∃ (a12 : Option Addr), ∃ (l12 : Nat), ∃ (c12 : Nat), r14 = .slice a12 l12 c12 ∧ R (.returned (.slice a12 l12 c12)) w13) (fun c w => R (.panicked c) w))
def scr134 : Scr := (.run [0] (.close (.run [0, 1, 2, 3, 4, 5] (.close .nil))))
theorem vc134 {n1 : Int} {b2 : Nat} {o3 : Nat} {b4 : Nat} {o5 : Nat} {b6 : Nat} {o7 : Nat} {R : Ending → World → Prop} {w : World} (h : V134 n1 b2 o3 b4 o5 b6 o7 R w) : Cl Try.prog 134 [.int .i64 n1, .pointer (some ⟨b2, o3, none⟩), .pointer (some ⟨b4, o5, none⟩), .pointer (some ⟨b6, o7, none⟩)] w R :=
  cl_of scr134 Try.func134 (by kernel_rfl) [.int .i64 n1, .pointer (some ⟨b2, o3, none⟩), .pointer (some ⟨b4, o5, none⟩), .pointer (some ⟨b6, o7, none⟩)] (V134 n1 b2 o3 b4 o5 b6 o7 R) (by kernel_rfl) h
/-- (*impl.finder).more -/
def V135 (b1 : Nat) (o2 : Nat) (n3 : Int) (n4 : Int) (n5 : Int) (R : Ending → World → Prop) : World → Prop := fun w =>
  newC [.int .i64 0, .int .i64 0, .int .i64 0] 159 (fun (b6 : Nat) (w7 : World) => stW b6 0 [.int .i64 n3, .int .i64 n4, .int .i64 n5] (fun (w8 : World) => drw (fun (w9 : World) => ∃ (m10 : Option Nat), cellH w9.heap b1 (o2 + 5) = some (.map m10) ∧ ∃ (n11 : Int), cellH w9.heap b6 0 = some (.int .i64 n11) ∧ ∃ (n12 : Int), cellH w9.heap b6 1 = some (.int .i64 n12) ∧ ∃ (n13 : Int), cellH w9.heap b6 2 = some (.int .i64 n13) ∧ ∃ (a14 : Option Addr), ∃ (l14 : Nat), ∃ (c14 : Nat), ∃ (t15 : Bool), (Instr.lookup 126 (.map m10) (.agg #[.int .i64 n11, .int .i64 n12, .int .i64 n13]) true).run Try.prog w9 = .ok (.tuple #[.slice a14 l14 c14, .bool t15]) w9 ∧ ((t15 = true → R (.returned (.slice a14 l14 c14)) w9) ∧ (t15 = false → ∃ (a16 : Option Addr), ∃ (l16 : Nat), ∃ (c16 : Nat), cellH w9.heap b1 (o2 + 3) = some (.slice a16 l16 c16) ∧ ∃ (b17 : Nat) (o18 : Nat), ((a16 : Option Addr) = some ⟨b17, o18, none⟩ ∧ 0 ≤ (n3 : Int) ∧ (n3 : Int) < ((l16 : Nat) : Int)) ∧ ∃ (n19 : Int), cellH w9.heap b17 (o18 + (Int.toNat n3) * 7) = some (.int .i64 n19) ∧ ∃ (a20 : Option Addr), ∃ (l20 : Nat), ∃ (c20 : Nat), cellH w9.heap b17 (o18 + (Int.toNat n3) * 7 + 1) = some (.slice a20 l20 c20) ∧ ∃ (n21 : Int), cellH w9.heap b17 (o18 + (Int.toNat n3) * 7 + 2) = some (.int .i64 n21) ∧ ∃ (n22 : Int), cellH w9.heap b17 (o18 + (Int.toNat n3) * 7 + 3) = some (.int .i64 n22) ∧ ∃ (t23 : Bool), cellH w9.heap b17 (o18 + (Int.toNat n3) * 7 + 4) = some (.bool t23) ∧ ∃ (n24 : Int), cellH w9.heap b17 (o18 + (Int.toNat n3) * 7 + 5) = some (.int .i64 n24) ∧ ∃ (a25 : Option Addr), ∃ (l25 : Nat), ∃ (c25 : Nat), cellH w9.heap b17 (o18 + (Int.toNat n3) * 7 + 6) = some (.slice a25 l25 c25) ∧ newC [.int .i64 0, .slice none 0 0, .int .i64 0, .int .i64 0, .bool false, .int .i64 0, .slice none 0 0] 111 (fun (b26 : Nat) (w27 : World) => stW b26 0 [.int .i64 n19, .slice a20 l20 c20, .int .i64 n21, .int .i64 n22, .bool t23, .int .i64 n24, .slice a25 l25 c25] (fun (w28 : World) => newC ([.slice none 0 0] ++ List.replicate 201 (.bool false)) 163 (fun (b29 : Nat) (w30 : World) => ∃ (t31 : Bool), cellH w30.heap b26 4 = some (.bool t31) ∧ ∃ (J32 : World → Prop), (((t31 = true → Cl Try.prog 130 ([]) w30 (retG (fun (r35 : Value) (w34 : World) => ∃ (g33 : Nat → Int), r35 = .agg #[.int .i64 (g33 0), .int .i64 (g33 1), .int .i64 (g33 2), .int .i64 (g33 3), .int .i64 (g33 4), .int .i64 (g33 5), .int .i64 (g33 6), .int .i64 (g33 7), .int .i64 (g33 8), .int .i64 (g33 9), .int .i64 (g33 10), .int .i64 (g33 11), .int .i64 (g33 12), .int .i64 (g33 13), .int .i64 (g33 14), .int .i64 (g33 15), .int .i64 (g33 16), .int .i64 (g33 17), .int .i64 (g33 18), .int .i64 (g33 19)] ∧ Cl Try.prog 129 ([.pointer (some ⟨b29, 0, none⟩), .agg #[.int .i64 n4, .int .i64 (g33 0), .int .i64 (g33 1), .int .i64 (g33 2), .int .i64 (g33 3), .int .i64 (g33 4), .int .i64 (g33 5), .int .i64 (g33 6), .int .i64 (g33 7), .int .i64 (g33 8), .int .i64 (g33 9), .int .i64 (g33 10), .int .i64 (g33 11), .int .i64 (g33 12), .int .i64 (g33 13), .int .i64 (g33 14), .int .i64 (g33 15), .int .i64 (g33 16), .int .i64 (g33 17), .int .i64 (g33 18), .int .i64 (g33 19)]]) w34 (retG (fun (r37 : Value) (w36 : World) => r37 = .tuple #[] ∧ J32  w36) (fun c w => R (.panicked c) w))) (fun c w => R (.panicked c) w))) ∧ (t31 = false → J32  w30))) ∧ ∀ (d38 : Nat → Value) (w39 : World), J32  w39 → ((((n5 : Int) != 0) = true → ∃ (J40 : Int → World → Prop), ((((decide ((n5 : Int) > 0)) = true → J40 (IntKind.wrap .i64 (n5 - 1)) w39) ∧ ((decide ((n5 : Int) > 0)) = false → J40 (-1) w39))) ∧ ∀ (d41 : Nat → Value) (n42 : Int) (w43 : World), J40 n42 w43 → ∃ (a44 : Option Addr), ∃ (l44 : Nat), ∃ (c44 : Nat), cellH w43.heap b26 6 = some (.slice a44 l44 c44) ∧ ∃ (b45 : Nat) (o46 : Nat), ((a44 : Option Addr) = some ⟨b45, o46, none⟩ ∧ 0 ≤ (0 : Int) ∧ (0 : Int) < ((l44 : Nat) : Int)) ∧ ∃ (n47 : Int), cellH w43.heap b45 o46 = some (.int .i64 n47) ∧ Cl Try.prog 114 ([.pointer (some ⟨b1, o2, none⟩), .int .i64 n47, .int .i64 n4]) w43 (retG (fun (r50 : Value) (w49 : World) => ∃ (a48 : Option Addr), ∃ (l48 : Nat), ∃ (c48 : Nat), r50 = .slice a48 l48 c48 ∧ ∃ (I51 : Nat → Int → World → Prop), (∃ (k53 : Nat), I51 k53 0 w49) ∧ ∀ (k52 : Nat) (d55 : Nat → Value) (n56 : Int) (w54 : World), I51 k52 n56 w54 → (((decide ((n56 : Int) < ((l48 : Nat) : Int))) = true → ∃ (b57 : Nat) (o58 : Nat), ((a48 : Option Addr) = some ⟨b57, o58, none⟩ ∧ 0 ≤ (n56 : Int) ∧ (n56 : Int) < ((l48 : Nat) : Int)) ∧ ∃ (n59 : Int), cellH w54.heap b57 (o58 + (Int.toNat n56) * 21) = some (.int .i64 n59) ∧ ∃ (g60 : Nat → Int), intsAt w54.heap b57 (o58 + (Int.toNat n56) * 21 + 1) 20 g60 ∧ newC [.int .i64 0, .int .i64 0, .int .i64 0, .int .i64 0, .int .i64 0, .int .i64 0, .int .i64 0, .int .i64 0, .int .i64 0, .int .i64 0, .int .i64 0, .int .i64 0, .int .i64 0, .int .i64 0, .int .i64 0, .int .i64 0, .int .i64 0, .int .i64 0, .int .i64 0, .int .i64 0, .int .i64 0] 142 (fun (b61 : Nat) (w62 : World) => stW b61 0 [.int .i64 n59, .int .i64 (g60 0), .int .i64 (g60 1), .int .i64 (g60 2), .int .i64 (g60 3), .int .i64 (g60 4), .int .i64 (g60 5), .int .i64 (g60 6), .int .i64 (g60 7), .int .i64 (g60 8), .int .i64 (g60 9), .int .i64 (g60 10), .int .i64 (g60 11), .int .i64 (g60 12), .int .i64 (g60 13), .int .i64 (g60 14), .int .i64 (g60 15), .int .i64 (g60 16), .int .i64 (g60 17), .int .i64 (g60 18), .int .i64 (g60 19)] (fun (w63 : World) => ∃ (n64 : Int), cellH w63.heap b61 0 = some (.int .i64 n64) ∧ ((((n64 : Int) == n4) = true → (∃ (m65 : Nat), m65 < k52 ∧ I51 m65 (IntKind.wrap .i64 (n56 + 1)) w63)) ∧ (((n64 : Int) == n4) = false → ∃ (n66 : Int), cellH w63.heap b61 0 = some (.int .i64 n66) ∧ Cl Try.prog 135 ([.pointer (some ⟨b1, o2, none⟩), .int .i64 n3, .int .i64 n66, .int .i64 n42]) w63 (retG (fun (r69 : Value) (w68 : World) => ∃ (a67 : Option Addr), ∃ (l67 : Nat), ∃ (c67 : Nat), r69 = .slice a67 l67 c67 ∧ ∃ (I70 : Nat → Int → World → Prop), (∃ (k72 : Nat), I70 k72 0 w68) ∧ ∀ (k71 : Nat) (d74 : Nat → Value) (n75 : Int) (w73 : World), I70 k71 n75 w73 → (((decide ((n75 : Int) < ((l67 : Nat) : Int))) = true → ∃ (b76 : Nat) (o77 : Nat), ((a67 : Option Addr) = some ⟨b76, o77, none⟩ ∧ 0 ≤ (n75 : Int) ∧ (n75 : Int) < ((l67 : Nat) : Int)) ∧ ∃ (n78 : Int), cellH w73.heap b76 (o77 + (Int.toNat n75) * 21) = some (.int .i64 n78) ∧ ∃ (g79 : Nat → Int), intsAt w73.heap b76 (o77 + (Int.toNat n75) * 21 + 1) 20 g79 ∧ newC [.int .i64 0, .int .i64 0, .int .i64 0, .int .i64 0, .int .i64 0, .int .i64 0, .int .i64 0, .int .i64 0, .int .i64 0, .int .i64 0, .int .i64 0, .int .i64 0, .int .i64 0, .int .i64 0, .int .i64 0, .int .i64 0, .int .i64 0, .int .i64 0, .int .i64 0, .int .i64 0, .int .i64 0] 142 (fun (b80 : Nat) (w81 : World) => stW b80 0 [.int .i64 n78, .int .i64 (g79 0), .int .i64 (g79 1), .int .i64 (g79 2), .int .i64 (g79 3), .int .i64 (g79 4), .int .i64 (g79 5), .int .i64 (g79 6), .int .i64 (g79 7), .int .i64 (g79 8), .int .i64 (g79 9), .int .i64 (g79 10), .int .i64 (g79 11), .int .i64 (g79 12), .int .i64 (g79 13), .int .i64 (g79 14), .int .i64 (g79 15), .int .i64 (g79 16), .int .i64 (g79 17), .int .i64 (g79 18), .int .i64 (g79 19)] (fun (w82 : World) => drw (fun (w83 : World) => ∃ (n84 : Int), cellH w83.heap b80 0 = some (.int .i64 n84) ∧ ∃ (g85 : Nat → Int), intsAt w83.heap b61 1 20 g85 ∧ ∃ (g86 : Nat → Int), intsAt w83.heap b80 1 20 g86 ∧ Cl Try.prog 151 ([.agg #[.int .i64 (g85 0), .int .i64 (g85 1), .int .i64 (g85 2), .int .i64 (g85 3), .int .i64 (g85 4), .int .i64 (g85 5), .int .i64 (g85 6), .int .i64 (g85 7), .int .i64 (g85 8), .int .i64 (g85 9), .int .i64 (g85 10), .int .i64 (g85 11), .int .i64 (g85 12), .int .i64 (g85 13), .int .i64 (g85 14), .int .i64 (g85 15), .int .i64 (g85 16), .int .i64 (g85 17), .int .i64 (g85 18), .int .i64 (g85 19)], .agg #[.int .i64 (g86 0), .int .i64 (g86 1), .int .i64 (g86 2), .int .i64 (g86 3), .int .i64 (g86 4), .int .i64 (g86 5), .int .i64 (g86 6), .int .i64 (g86 7), .int .i64 (g86 8), .int .i64 (g86 9), .int .i64 (g86 10), .int .i64 (g86 11), .int .i64 (g86 12), .int .i64 (g86 13), .int .i64 (g86 14), .int .i64 (g86 15), .int .i64 (g86 16), .int .i64 (g86 17), .int .i64 (g86 18), .int .i64 (g86 19)]]) w83 (retG (fun (r89 : Value) (w88 : World) => ∃ (g87 : Nat → Int), r89 = .agg #[.int .i64 (g87 0), .int .i64 (g87 1), .int .i64 (g87 2), .int .i64 (g87 3), .int .i64 (g87 4), .int .i64 (g87 5), .int .i64 (g87 6), .int .i64 (g87 7), .int .i64 (g87 8), .int .i64 (g87 9), .int .i64 (g87 10), .int .i64 (g87 11), .int .i64 (g87 12), .int .i64 (g87 13), .int .i64 (g87 14), .int .i64 (g87 15), .int .i64 (g87 16), .int .i64 (g87 17), .int .i64 (g87 18), .int .i64 (g87 19)] ∧ cellH w88.heap b80 0 = some (.int .i64 n84) ∧ Cl Try.prog 129 ([.pointer (some ⟨b29, 0, none⟩), .agg #[.int .i64 n84, .int .i64 (g87 0), .int .i64 (g87 1), .int .i64 (g87 2), .int .i64 (g87 3), .int .i64 (g87 4), .int .i64 (g87 5), .int .i64 (g87 6), .int .i64 (g87 7), .int .i64 (g87 8), .int .i64 (g87 9), .int .i64 (g87 10), .int .i64 (g87 11), .int .i64 (g87 12), .int .i64 (g87 13), .int .i64 (g87 14), .int .i64 (g87 15), .int .i64 (g87 16), .int .i64 (g87 17), .int .i64 (g87 18), .int .i64 (g87 19)]]) w88 (retG (fun (r91 : Value) (w90 : World) => r91 = .tuple #[] ∧ (∃ (m92 : Nat), m92 < k71 ∧ I70 m92 (IntKind.wrap .i64 (n75 + 1)) w90)) (fun c w => R (.panicked c) w))) (fun c w => R (.panicked c) w))) w82) w81) w73) ∧ ((decide ((n75 : Int) < ((l67 : Nat) : Int))) = false → (∃ (m93 : Nat), m93 < k52 ∧ I51 m93 (IntKind.wrap .i64 (n56 + 1)) w73)))) (fun c w => R (.panicked c) w))))) w62) w54) ∧ ((decide ((n56 : Int) < ((l48 : Nat) : Int))) = false → Cl Try.prog 130 ([]) w54 (retG (fun (r96 : Value) (w95 : World) => ∃ (g94 : Nat → Int), r96 = .agg #[.int .i64 (g94 0), .int .i64 (g94 1), .int .i64 (g94 2), .int .i64 (g94 3), .int .i64 (g94 4), .int .i64 (g94 5), .int .i64 (g94 6), .int .i64 (g94 7), .int .i64 (g94 8), .int .i64 (g94 9), .int .i64 (g94 10), .int .i64 (g94 11), .int .i64 (g94 12), .int .i64 (g94 13), .int .i64 (g94 14), .int .i64 (g94 15), .int .i64 (g94 16), .int .i64 (g94 17), .int .i64 (g94 18), .int .i64 (g94 19)] ∧ Cl Try.prog 129 ([.pointer (some ⟨b29, 0, none⟩), .agg #[.int .i64 n4, .int .i64 (g94 0), .int .i64 (g94 1), .int .i64 (g94 2), .int .i64 (g94 3), .int .i64 (g94 4), .int .i64 (g94 5), .int .i64 (g94 6), .int .i64 (g94 7), .int .i64 (g94 8), .int .i64 (g94 9), .int .i64 (g94 10), .int .i64 (g94 11), .int .i64 (g94 12), .int .i64 (g94 13), .int .i64 (g94 14), .int .i64 (g94 15), .int .i64 (g94 16), .int .i64 (g94 17), .int .i64 (g94 18), .int .i64 (g94 19)]]) w95 (retG (fun (r98 : Value) (w97 : World) => r98 = .tuple #[] ∧ drw (fun (w99 : World) => ∃ (m100 : Option Nat), cellH w99.heap b1 (o2 + 5) = some (.map m100) ∧ ∃ (n101 : Int), cellH w99.heap b6 0 = some (.int .i64 n101) ∧ ∃ (n102 : Int), cellH w99.heap b6 1 = some (.int .i64 n102) ∧ ∃ (n103 : Int), cellH w99.heap b6 2 = some (.int .i64 n103) ∧ ∃ (a104 : Option Addr), ∃ (l104 : Nat), ∃ (c104 : Nat), cellH w99.heap b29 0 = some (.slice a104 l104 c104) ∧ ∃ (w105 : World), (Instr.mapUpdate 126 (.map m100) (.agg #[.int .i64 n101, .int .i64 n102, .int .i64 n103]) (.slice a104 l104 c104)).run Try.prog w99 = .ok () w105 ∧ ∃ (a106 : Option Addr), ∃ (l106 : Nat), ∃ (c106 : Nat), cellH w105.heap b29 0 = some (.slice a106 l106 c106) ∧ R (.returned (.slice a106 l106 c106)) w105) w97) (fun c w => R (.panicked c) w))) (fun c w => R (.panicked c) w))))) (fun c w => R (.panicked c) w))) ∧ (((n5 : Int) != 0) = false → Cl Try.prog 130 ([]) w39 (retG (fun (r109 : Value) (w108 : World) => ∃ (g107 : Nat → Int), r109 = .agg #[.int .i64 (g107 0), .int .i64 (g107 1), .int .i64 (g107 2), .int .i64 (g107 3), .int .i64 (g107 4), .int .i64 (g107 5), .int .i64 (g107 6), .int .i64 (g107 7), .int .i64 (g107 8), .int .i64 (g107 9), .int .i64 (g107 10), .int .i64 (g107 11), .int .i64 (g107 12), .int .i64 (g107 13), .int .i64 (g107 14), .int .i64 (g107 15), .int .i64 (g107 16), .int .i64 (g107 17), .int .i64 (g107 18), .int .i64 (g107 19)] ∧ Cl Try.prog 129 ([.pointer (some ⟨b29, 0, none⟩), .agg #[.int .i64 n4, .int .i64 (g107 0), .int .i64 (g107 1), .int .i64 (g107 2), .int .i64 (g107 3), .int .i64 (g107 4), .int .i64 (g107 5), .int .i64 (g107 6), .int .i64 (g107 7), .int .i64 (g107 8), .int .i64 (g107 9), .int .i64 (g107 10), .int .i64 (g107 11), .int .i64 (g107 12), .int .i64 (g107 13), .int .i64 (g107 14), .int .i64 (g107 15), .int .i64 (g107 16), .int .i64 (g107 17), .int .i64 (g107 18), .int .i64 (g107 19)]]) w108 (retG (fun (r111 : Value) (w110 : World) => r111 = .tuple #[] ∧ drw (fun (w112 : World) => ∃ (m113 : Option Nat), cellH w112.heap b1 (o2 + 5) = some (.map m113) ∧ ∃ (n114 : Int), cellH w112.heap b6 0 = some (.int .i64 n114) ∧ ∃ (n115 : Int), cellH w112.heap b6 1 = some (.int .i64 n115) ∧ ∃ (n116 : Int), cellH w112.heap b6 2 = some (.int .i64 n116) ∧ ∃ (a117 : Option Addr), ∃ (l117 : Nat), ∃ (c117 : Nat), cellH w112.heap b29 0 = some (.slice a117 l117 c117) ∧ ∃ (w118 : World), (Instr.mapUpdate 126 (.map m113) (.agg #[.int .i64 n114, .int .i64 n115, .int .i64 n116]) (.slice a117 l117 c117)).run Try.prog w112 = .ok () w118 ∧ ∃ (a119 : Option Addr), ∃ (l119 : Nat), ∃ (c119 : Nat), cellH w118.heap b29 0 = some (.slice a119 l119 c119) ∧ R (.returned (.slice a119 l119 c119)) w118) w110) (fun c w => R (.panicked c) w))) (fun c w => R (.panicked c) w))))) w28) w27) w9))) w8) w7) w
def scr135 : Scr := (.run [0] (.close (.run [0, 1, 2, 3, 4, 5] (.close (.run [0, 1, 2, 3, 4, 5, 6, 7, 8, 9, 10] (.close (.run [0] (.close (.cond (.run [0, 1] (.close .nil)) (.run [0, 1, 2, 3, 4, 5, 6, 7, 8, 9] (.close (.run [0] (.close (.run [0, 1] (.close (.cut [(44, none), (45, none), (46, none), (47, none)] (.cond (.run [0, 1, 2, 3] (.close .nil)) .nil) (.run [0, 1] (.close (.cond (.run [0] (.close (.run [0, 1] (.close (.cut [(14, some (.int .i64)), (52, none), (53, none)] (.cond (.run [0, 1, 2] (.close .nil)) .nil) (.run [0, 1, 2, 3, 4, 5, 6, 7, 8] (.close (.loop [(62, some (.int .i64)), (16, none), (18, none), (63, none), (64, none), (65, none), (66, none), (67, none), (68, none), (69, none), (70, none), (71, none), (72, none), (73, none), (74, none), (75, none), (76, none), (77, none), (78, none), (79, none), (80, none), (81, none), (82, none), (83, none), (84, none), (85, none), (86, none), (87, none), (88, none), (89, none), (90, none), (91, none)] (.run [0] (.close (.cond (.run [0, 1, 2, 3] (.close (.run [0, 1, 2, 3] (.close (.cond (.run [0, 1] (.close .nil)) (.run [0, 1, 2, 3, 4, 5, 6, 7] (.close (.loop [(77, some (.int .i64)), (18, none), (78, none), (79, none), (80, none), (81, none), (82, none), (83, none), (84, none), (85, none), (86, none), (87, none), (88, none), (89, none), (90, none)] (.run [0] (.close (.cond (.run [0, 1, 2, 3] (.close (.run [0, 1, 2, 3, 4, 5, 6, 7, 8] (.close (.run [0, 1] (.close .nil)))))) (.run [0, 1] (.close .nil))))))))))))) (.run [0, 1, 2, 3] (.close (.run [0, 1, 2, 3, 4, 5, 6, 7] (.close (.run [0, 1, 2] (.close .nil))))))))))))))))) (.run [0, 1, 2, 3] (.close (.run [0, 1, 2, 3, 4, 5, 6, 7] (.close (.run [0, 1, 2] (.close .nil)))))))))))))))))))))))))
theorem vc135 {b1 : Nat} {o2 : Nat} {n3 : Int} {n4 : Int} {n5 : Int} {R : Ending → World → Prop} {w : World} (h : V135 b1 o2 n3 n4 n5 R w) : Cl Try.prog 135 [.pointer (some ⟨b1, o2, none⟩), .int .i64 n3, .int .i64 n4, .int .i64 n5] w R :=
  cl_of scr135 Try.func135 (by kernel_rfl) [.pointer (some ⟨b1, o2, none⟩), .int .i64 n3, .int .i64 n4, .int .i64 n5] (V135 b1 o2 n3 n4 n5 R) (by kernel_rfl) h
/-- (*impl.finder).ways -/
def V114 (b1 : Nat) (o2 : Nat) (n3 : Int) (n4 : Int) (R : Ending → World → Prop) : World → Prop := fun w =>
  newC [.pointer (some ⟨b1, o2, none⟩)] 82 (fun (b5 : Nat) (w6 : World) => newC [.int .i64 n3] 3 (fun (b7 : Nat) (w8 : World) => ∃ (n9 : Int), cellH w8.heap b7 0 = some (.int .i64 n9) ∧ newC [.int .i64 0, .int .i64 0, .int .i64 0] 159 (fun (b10 : Nat) (w11 : World) => stW b10 0 [.int .i64 n9, .int .i64 n4, .int .i64 (-2)] (fun (w12 : World) => drw (fun (w13 : World) => ∃ (b14 : Nat), ∃ (o15 : Nat), cellH w13.heap b5 0 = some (.pointer (some ⟨b14, o15, none⟩)) ∧ ∃ (m16 : Option Nat), cellH w13.heap b14 (o15 + 5) = some (.map m16) ∧ ∃ (n17 : Int), cellH w13.heap b10 0 = some (.int .i64 n17) ∧ ∃ (n18 : Int), cellH w13.heap b10 1 = some (.int .i64 n18) ∧ ∃ (n19 : Int), cellH w13.heap b10 2 = some (.int .i64 n19) ∧ ∃ (a20 : Option Addr), ∃ (l20 : Nat), ∃ (c20 : Nat), ∃ (t21 : Bool), (Instr.lookup 126 (.map m16) (.agg #[.int .i64 n17, .int .i64 n18, .int .i64 n19]) true).run Try.prog w13 = .ok (.tuple #[.slice a20 l20 c20, .bool t21]) w13 ∧ ((t21 = true → R (.returned (.slice a20 l20 c20)) w13) ∧ (t21 = false → drw (fun (w22 : World) => ∃ (b23 : Nat), ∃ (o24 : Nat), cellH w22.heap b5 0 = some (.pointer (some ⟨b23, o24, none⟩)) ∧ ∃ (a25 : Option Addr), ∃ (l25 : Nat), ∃ (c25 : Nat), cellH w22.heap b23 (o24 + 3) = some (.slice a25 l25 c25) ∧ ∃ (n26 : Int), cellH w22.heap b7 0 = some (.int .i64 n26) ∧ ∃ (b27 : Nat) (o28 : Nat), ((a25 : Option Addr) = some ⟨b27, o28, none⟩ ∧ 0 ≤ (n26 : Int) ∧ (n26 : Int) < ((l25 : Nat) : Int)) ∧ ∃ (n29 : Int), cellH w22.heap b27 (o28 + (Int.toNat n26) * 7) = some (.int .i64 n29) ∧ ∃ (a30 : Option Addr), ∃ (l30 : Nat), ∃ (c30 : Nat), cellH w22.heap b27 (o28 + (Int.toNat n26) * 7 + 1) = some (.slice a30 l30 c30) ∧ ∃ (n31 : Int), cellH w22.heap b27 (o28 + (Int.toNat n26) * 7 + 2) = some (.int .i64 n31) ∧ ∃ (n32 : Int), cellH w22.heap b27 (o28 + (Int.toNat n26) * 7 + 3) = some (.int .i64 n32) ∧ ∃ (t33 : Bool), cellH w22.heap b27 (o28 + (Int.toNat n26) * 7 + 4) = some (.bool t33) ∧ ∃ (n34 : Int), cellH w22.heap b27 (o28 + (Int.toNat n26) * 7 + 5) = some (.int .i64 n34) ∧ ∃ (a35 : Option Addr), ∃ (l35 : Nat), ∃ (c35 : Nat), cellH w22.heap b27 (o28 + (Int.toNat n26) * 7 + 6) = some (.slice a35 l35 c35) ∧ newC [.int .i64 0, .slice none 0 0, .int .i64 0, .int .i64 0, .bool false, .int .i64 0, .slice none 0 0] 111 (fun (b36 : Nat) (w37 : World) => cellsAt w37.heap b27 (o28 + (Int.toNat n26) * 7) [.int .i64 n29, .slice a30 l30 c30, .int .i64 n31, .int .i64 n32, .bool t33, .int .i64 n34, .slice a35 l35 c35] ∧ cellH w37.heap b7 0 = some (.int .i64 n26) ∧ cellH w37.heap b23 (o24 + 3) = some (.slice a25 l25 c25) ∧ cellH w37.heap b5 0 = some (.pointer (some ⟨b23, o24, none⟩)) ∧ stW b36 0 [.int .i64 n29, .slice a30 l30 c30, .int .i64 n31, .int .i64 n32, .bool t33, .int .i64 n34, .slice a35 l35 c35] (fun (w38 : World) => newC ([.slice none 0 0] ++ List.replicate 201 (.bool false)) 163 (fun (b39 : Nat) (w40 : World) => ∃ (n41 : Int), cellH w40.heap b36 0 = some (.int .i64 n41) ∧ ∃ (J42 : World → Prop), (((((n41 : Int) == 1) = true → ∃ (b43 : Nat), ∃ (o44 : Nat), cellH w40.heap b5 0 = some (.pointer (some ⟨b43, o44, none⟩)) ∧ ∃ (s45 : ByteArray), cellH w40.heap b43 (o44 + 4) = some (.string s45) ∧ (((decide ((n4 : Int) < ((ByteArray.size s45 : Nat) : Int))) = true → ∃ (b46 : Nat), ∃ (o47 : Nat), cellH w40.heap b5 0 = some (.pointer (some ⟨b46, o47, none⟩)) ∧ ∃ (s48 : ByteArray), cellH w40.heap b46 (o47 + 4) = some (.string s48) ∧ (0 ≤ (n4 : Int) ∧ (n4 : Int) < ((ByteArray.size s48 : Nat) : Int)) ∧ ∃ (a49 : Option Addr), ∃ (l49 : Nat), ∃ (c49 : Nat), cellH w40.heap b36 1 = some (.slice a49 l49 c49) ∧ ∃ (I50 : Nat → Int → World → Prop), (∃ (k52 : Nat), I50 k52 0 w40) ∧ ∀ (k51 : Nat) (d54 : Nat → Value) (n55 : Int) (w53 : World), I50 k51 n55 w53 → (((decide ((n55 : Int) < ((l49 : Nat) : Int))) = true → ∃ (b56 : Nat) (o57 : Nat), ((a49 : Option Addr) = some ⟨b56, o57, none⟩ ∧ 0 ≤ (n55 : Int) ∧ (n55 : Int) < ((l49 : Nat) : Int)) ∧ ∃ (n58 : Int), cellH w53.heap b56 (o57 + (Int.toNat n55) * 2) = some (.int .i64 n58) ∧ ∃ (n59 : Int), cellH w53.heap b56 (o57 + (Int.toNat n55) * 2 + 1) = some (.int .i64 n59) ∧ newC [.int .i64 0, .int .i64 0] 134 (fun (b60 : Nat) (w61 : World) => stW b60 0 [.int .i64 n58, .int .i64 n59] (fun (w62 : World) => ∃ (n63 : Int), cellH w62.heap b60 0 = some (.int .i64 n63) ∧ (((decide ((n63 : Int) ≤ (IntKind.wrap .i64 (byteAt s48 (Int.toNat n4))))) = true → ∃ (n64 : Int), cellH w62.heap b60 1 = some (.int .i64 n64) ∧ (((decide ((IntKind.wrap .i64 (byteAt s48 (Int.toNat n4)) : Int) ≤ n64)) = true → Cl Try.prog 130 ([]) w62 (retG (fun (r67 : Value) (w66 : World) => ∃ (g65 : Nat → Int), r67 = .agg #[.int .i64 (g65 0), .int .i64 (g65 1), .int .i64 (g65 2), .int .i64 (g65 3), .int .i64 (g65 4), .int .i64 (g65 5), .int .i64 (g65 6), .int .i64 (g65 7), .int .i64 (g65 8), .int .i64 (g65 9), .int .i64 (g65 10), .int .i64 (g65 11), .int .i64 (g65 12), .int .i64 (g65 13), .int .i64 (g65 14), .int .i64 (g65 15), .int .i64 (g65 16), .int .i64 (g65 17), .int .i64 (g65 18), .int .i64 (g65 19)] ∧ Cl Try.prog 129 ([.pointer (some ⟨b39, 0, none⟩), .agg #[.int .i64 (IntKind.wrap .i64 (n4 + 1)), .int .i64 (g65 0), .int .i64 (g65 1), .int .i64 (g65 2), .int .i64 (g65 3), .int .i64 (g65 4), .int .i64 (g65 5), .int .i64 (g65 6), .int .i64 (g65 7), .int .i64 (g65 8), .int .i64 (g65 9), .int .i64 (g65 10), .int .i64 (g65 11), .int .i64 (g65 12), .int .i64 (g65 13), .int .i64 (g65 14), .int .i64 (g65 15), .int .i64 (g65 16), .int .i64 (g65 17), .int .i64 (g65 18), .int .i64 (g65 19)]]) w66 (retG (fun (r69 : Value) (w68 : World) => r69 = .tuple #[] ∧ (∃ (m70 : Nat), m70 < k51 ∧ I50 m70 (IntKind.wrap .i64 (n55 + 1)) w68)) (fun c w => R (.panicked c) w))) (fun c w => R (.panicked c) w))) ∧ ((decide ((IntKind.wrap .i64 (byteAt s48 (Int.toNat n4)) : Int) ≤ n64)) = false → (∃ (m71 : Nat), m71 < k51 ∧ I50 m71 (IntKind.wrap .i64 (n55 + 1)) w62)))) ∧ ((decide ((n63 : Int) ≤ (IntKind.wrap .i64 (byteAt s48 (Int.toNat n4))))) = false → (∃ (m72 : Nat), m72 < k51 ∧ I50 m72 (IntKind.wrap .i64 (n55 + 1)) w62)))) w61) w53) ∧ ((decide ((n55 : Int) < ((l49 : Nat) : Int))) = false → J42  w53))) ∧ ((decide ((n4 : Int) < ((ByteArray.size s45 : Nat) : Int))) = false → J42  w40))) ∧ (((n41 : Int) == 1) = false → ((((n41 : Int) == 6) = true → ((((n4 : Int) == 0) = true → Cl Try.prog 130 ([]) w40 (retG (fun (r75 : Value) (w74 : World) => ∃ (g73 : Nat → Int), r75 = .agg #[.int .i64 (g73 0), .int .i64 (g73 1), .int .i64 (g73 2), .int .i64 (g73 3), .int .i64 (g73 4), .int .i64 (g73 5), .int .i64 (g73 6), .int .i64 (g73 7), .int .i64 (g73 8), .int .i64 (g73 9), .int .i64 (g73 10), .int .i64 (g73 11), .int .i64 (g73 12), .int .i64 (g73 13), .int .i64 (g73 14), .int .i64 (g73 15), .int .i64 (g73 16), .int .i64 (g73 17), .int .i64 (g73 18), .int .i64 (g73 19)] ∧ Cl Try.prog 129 ([.pointer (some ⟨b39, 0, none⟩), .agg #[.int .i64 n4, .int .i64 (g73 0), .int .i64 (g73 1), .int .i64 (g73 2), .int .i64 (g73 3), .int .i64 (g73 4), .int .i64 (g73 5), .int .i64 (g73 6), .int .i64 (g73 7), .int .i64 (g73 8), .int .i64 (g73 9), .int .i64 (g73 10), .int .i64 (g73 11), .int .i64 (g73 12), .int .i64 (g73 13), .int .i64 (g73 14), .int .i64 (g73 15), .int .i64 (g73 16), .int .i64 (g73 17), .int .i64 (g73 18), .int .i64 (g73 19)]]) w74 (retG (fun (r77 : Value) (w76 : World) => r77 = .tuple #[] ∧ J42  w76) (fun c w => R (.panicked c) w))) (fun c w => R (.panicked c) w))) ∧ (((n4 : Int) == 0) = false → J42  w40))) ∧ (((n41 : Int) == 6) = false → ((((n41 : Int) == 7) = true → ∃ (b78 : Nat), ∃ (o79 : Nat), cellH w40.heap b5 0 = some (.pointer (some ⟨b78, o79, none⟩)) ∧ ∃ (s80 : ByteArray), cellH w40.heap b78 (o79 + 4) = some (.string s80) ∧ ((((n4 : Int) == ((ByteArray.size s80 : Nat) : Int)) = true → Cl Try.prog 130 ([]) w40 (retG (fun (r83 : Value) (w82 : World) => ∃ (g81 : Nat → Int), r83 = .agg #[.int .i64 (g81 0), .int .i64 (g81 1), .int .i64 (g81 2), .int .i64 (g81 3), .int .i64 (g81 4), .int .i64 (g81 5), .int .i64 (g81 6), .int .i64 (g81 7), .int .i64 (g81 8), .int .i64 (g81 9), .int .i64 (g81 10), .int .i64 (g81 11), .int .i64 (g81 12), .int .i64 (g81 13), .int .i64 (g81 14), .int .i64 (g81 15), .int .i64 (g81 16), .int .i64 (g81 17), .int .i64 (g81 18), .int .i64 (g81 19)] ∧ Cl Try.prog 129 ([.pointer (some ⟨b39, 0, none⟩), .agg #[.int .i64 n4, .int .i64 (g81 0), .int .i64 (g81 1), .int .i64 (g81 2), .int .i64 (g81 3), .int .i64 (g81 4), .int .i64 (g81 5), .int .i64 (g81 6), .int .i64 (g81 7), .int .i64 (g81 8), .int .i64 (g81 9), .int .i64 (g81 10), .int .i64 (g81 11), .int .i64 (g81 12), .int .i64 (g81 13), .int .i64 (g81 14), .int .i64 (g81 15), .int .i64 (g81 16), .int .i64 (g81 17), .int .i64 (g81 18), .int .i64 (g81 19)]]) w82 (retG (fun (r85 : Value) (w84 : World) => r85 = .tuple #[] ∧ J42  w84) (fun c w => R (.panicked c) w))) (fun c w => R (.panicked c) w))) ∧ (((n4 : Int) == ((ByteArray.size s80 : Nat) : Int)) = false → J42  w40))) ∧ (((n41 : Int) == 7) = false → ((((n41 : Int) == 2) = true → Cl Try.prog 130 ([]) w40 (retG (fun (r88 : Value) (w87 : World) => ∃ (g86 : Nat → Int), r88 = .agg #[.int .i64 (g86 0), .int .i64 (g86 1), .int .i64 (g86 2), .int .i64 (g86 3), .int .i64 (g86 4), .int .i64 (g86 5), .int .i64 (g86 6), .int .i64 (g86 7), .int .i64 (g86 8), .int .i64 (g86 9), .int .i64 (g86 10), .int .i64 (g86 11), .int .i64 (g86 12), .int .i64 (g86 13), .int .i64 (g86 14), .int .i64 (g86 15), .int .i64 (g86 16), .int .i64 (g86 17), .int .i64 (g86 18), .int .i64 (g86 19)] ∧ newC [.int .i64 n4, .int .i64 (g86 0), .int .i64 (g86 1), .int .i64 (g86 2), .int .i64 (g86 3), .int .i64 (g86 4), .int .i64 (g86 5), .int .i64 (g86 6), .int .i64 (g86 7), .int .i64 (g86 8), .int .i64 (g86 9), .int .i64 (g86 10), .int .i64 (g86 11), .int .i64 (g86 12), .int .i64 (g86 13), .int .i64 (g86 14), .int .i64 (g86 15), .int .i64 (g86 16), .int .i64 (g86 17), .int .i64 (g86 18), .int .i64 (g86 19)] 142 (fun (b89 : Nat) (w90 : World) => ∃ (a91 : Option Addr), ∃ (l91 : Nat), ∃ (c91 : Nat), cellH w90.heap b36 6 = some (.slice a91 l91 c91) ∧ ∃ (I92 : Nat → Option Addr → Nat → Nat → Int → World → Prop), (∃ (k94 : Nat), I92 k94 (some ⟨b89, 0, none⟩) 1 1 0 w90) ∧ ∀ (k93 : Nat) (d96 : Nat → Value) (a97 : Option Addr) (l97 : Nat) (c97 : Nat) (n98 : Int) (w95 : World), I92 k93 a97 l97 c97 n98 w95 → (((decide ((n98 : Int) < ((l91 : Nat) : Int))) = true → ∃ (b99 : Nat) (o100 : Nat), ((a91 : Option Addr) = some ⟨b99, o100, none⟩ ∧ 0 ≤ (n98 : Int) ∧ (n98 : Int) < ((l91 : Nat) : Int)) ∧ ∃ (n101 : Int), cellH w95.heap b99 (o100 + (Int.toNat n98) * 1) = some (.int .i64 n101) ∧ newC [.int .i64 0] 3 (fun (b102 : Nat) (w103 : World) => stW b102 0 [.int .i64 n101] (fun (w104 : World) => ∃ (b105 : Nat), ∃ (o106 : Nat), cellH w104.heap b5 0 = some (.pointer (some ⟨b105, o106, none⟩)) ∧ Cl Try.prog 131 ([.pointer (some ⟨b105, o106, none⟩), .slice a97 l97 c97, .func (.func 132) #[] #[.pointer (some ⟨b5, 0, none⟩), .pointer (some ⟨b102, 0, none⟩)]]) w104 (retG (fun (r109 : Value) (w108 : World) => ∃ (a107 : Option Addr), ∃ (l107 : Nat), ∃ (c107 : Nat), r109 = .slice a107 l107 c107 ∧ (∃ (m110 : Nat), m110 < k93 ∧ I92 m110 a107 l107 c107 (IntKind.wrap .i64 (n98 + 1)) w108)) (fun c w => R (.panicked c) w))) w103) w95) ∧ ((decide ((n98 : Int) < ((l91 : Nat) : Int))) = false → ∃ (I111 : Nat → Int → World → Prop), (∃ (k113 : Nat), I111 k113 0 w95) ∧ ∀ (k112 : Nat) (d115 : Nat → Value) (n116 : Int) (w114 : World), I111 k112 n116 w114 → (((decide ((n116 : Int) < ((l97 : Nat) : Int))) = true → ∃ (b117 : Nat) (o118 : Nat), ((a97 : Option Addr) = some ⟨b117, o118, none⟩ ∧ 0 ≤ (n116 : Int) ∧ (n116 : Int) < ((l97 : Nat) : Int)) ∧ ∃ (n119 : Int), cellH w114.heap b117 (o118 + (Int.toNat n116) * 21) = some (.int .i64 n119) ∧ ∃ (g120 : Nat → Int), intsAt w114.heap b117 (o118 + (Int.toNat n116) * 21 + 1) 20 g120 ∧ newC [.int .i64 0, .int .i64 0, .int .i64 0, .int .i64 0, .int .i64 0, .int .i64 0, .int .i64 0, .int .i64 0, .int .i64 0, .int .i64 0, .int .i64 0, .int .i64 0, .int .i64 0, .int .i64 0, .int .i64 0, .int .i64 0, .int .i64 0, .int .i64 0, .int .i64 0, .int .i64 0, .int .i64 0] 142 (fun (b121 : Nat) (w122 : World) => stW b121 0 [.int .i64 n119, .int .i64 (g120 0), .int .i64 (g120 1), .int .i64 (g120 2), .int .i64 (g120 3), .int .i64 (g120 4), .int .i64 (g120 5), .int .i64 (g120 6), .int .i64 (g120 7), .int .i64 (g120 8), .int .i64 (g120 9), .int .i64 (g120 10), .int .i64 (g120 11), .int .i64 (g120 12), .int .i64 (g120 13), .int .i64 (g120 14), .int .i64 (g120 15), .int .i64 (g120 16), .int .i64 (g120 17), .int .i64 (g120 18), .int .i64 (g120 19)] (fun (w123 : World) => ∃ (n124 : Int), cellH w123.heap b121 0 = some (.int .i64 n124) ∧ ∃ (g125 : Nat → Int), intsAt w123.heap b121 1 20 g125 ∧ Cl Try.prog 129 ([.pointer (some ⟨b39, 0, none⟩), .agg #[.int .i64 n124, .int .i64 (g125 0), .int .i64 (g125 1), .int .i64 (g125 2), .int .i64 (g125 3), .int .i64 (g125 4), .int .i64 (g125 5), .int .i64 (g125 6), .int .i64 (g125 7), .int .i64 (g125 8), .int .i64 (g125 9), .int .i64 (g125 10), .int .i64 (g125 11), .int .i64 (g125 12), .int .i64 (g125 13), .int .i64 (g125 14), .int .i64 (g125 15), .int .i64 (g125 16), .int .i64 (g125 17), .int .i64 (g125 18), .int .i64 (g125 19)]]) w123 (retG (fun (r127 : Value) (w126 : World) => r127 = .tuple #[] ∧ (∃ (m128 : Nat), m128 < k112 ∧ I111 m128 (IntKind.wrap .i64 (n116 + 1)) w126)) (fun c w => R (.panicked c) w))) w122) w114) ∧ ((decide ((n116 : Int) < ((l97 : Nat) : Int))) = false → J42  w114))))) w87) (fun c w => R (.panicked c) w))) ∧ (((n41 : Int) == 2) = false → ((((n41 : Int) == 3) = true → ∃ (a129 : Option Addr), ∃ (l129 : Nat), ∃ (c129 : Nat), cellH w40.heap b36 6 = some (.slice a129 l129 c129) ∧ ∃ (I130 : Nat → Int → World → Prop), (∃ (k132 : Nat), I130 k132 0 w40) ∧ ∀ (k131 : Nat) (d134 : Nat → Value) (n135 : Int) (w133 : World), I130 k131 n135 w133 → (((decide ((n135 : Int) < ((l129 : Nat) : Int))) = true → ∃ (b136 : Nat) (o137 : Nat), ((a129 : Option Addr) = some ⟨b136, o137, none⟩ ∧ 0 ≤ (n135 : Int) ∧ (n135 : Int) < ((l129 : Nat) : Int)) ∧ ∃ (n138 : Int), cellH w133.heap b136 (o137 + (Int.toNat n135) * 1) = some (.int .i64 n138) ∧ ∃ (b139 : Nat), ∃ (o140 : Nat), cellH w133.heap b5 0 = some (.pointer (some ⟨b139, o140, none⟩)) ∧ Cl Try.prog 114 ([.pointer (some ⟨b139, o140, none⟩), .int .i64 n138, .int .i64 n4]) w133 (retG (fun (r143 : Value) (w142 : World) => ∃ (a141 : Option Addr), ∃ (l141 : Nat), ∃ (c141 : Nat), r143 = .slice a141 l141 c141 ∧ ∃ (I144 : Nat → Int → World → Prop), (∃ (k146 : Nat), I144 k146 0 w142) ∧ ∀ (k145 : Nat) (d148 : Nat → Value) (n149 : Int) (w147 : World), I144 k145 n149 w147 → (((decide ((n149 : Int) < ((l141 : Nat) : Int))) = true → ∃ (b150 : Nat) (o151 : Nat), ((a141 : Option Addr) = some ⟨b150, o151, none⟩ ∧ 0 ≤ (n149 : Int) ∧ (n149 : Int) < ((l141 : Nat) : Int)) ∧ ∃ (n152 : Int), cellH w147.heap b150 (o151 + (Int.toNat n149) * 21) = some (.int .i64 n152) ∧ ∃ (g153 : Nat → Int), intsAt w147.heap b150 (o151 + (Int.toNat n149) * 21 + 1) 20 g153 ∧ newC [.int .i64 0, .int .i64 0, .int .i64 0, .int .i64 0, .int .i64 0, .int .i64 0, .int .i64 0, .int .i64 0, .int .i64 0, .int .i64 0, .int .i64 0, .int .i64 0, .int .i64 0, .int .i64 0, .int .i64 0, .int .i64 0, .int .i64 0, .int .i64 0, .int .i64 0, .int .i64 0, .int .i64 0] 142 (fun (b154 : Nat) (w155 : World) => stW b154 0 [.int .i64 n152, .int .i64 (g153 0), .int .i64 (g153 1), .int .i64 (g153 2), .int .i64 (g153 3), .int .i64 (g153 4), .int .i64 (g153 5), .int .i64 (g153 6), .int .i64 (g153 7), .int .i64 (g153 8), .int .i64 (g153 9), .int .i64 (g153 10), .int .i64 (g153 11), .int .i64 (g153 12), .int .i64 (g153 13), .int .i64 (g153 14), .int .i64 (g153 15), .int .i64 (g153 16), .int .i64 (g153 17), .int .i64 (g153 18), .int .i64 (g153 19)] (fun (w156 : World) => ∃ (n157 : Int), cellH w156.heap b154 0 = some (.int .i64 n157) ∧ ∃ (g158 : Nat → Int), intsAt w156.heap b154 1 20 g158 ∧ Cl Try.prog 129 ([.pointer (some ⟨b39, 0, none⟩), .agg #[.int .i64 n157, .int .i64 (g158 0), .int .i64 (g158 1), .int .i64 (g158 2), .int .i64 (g158 3), .int .i64 (g158 4), .int .i64 (g158 5), .int .i64 (g158 6), .int .i64 (g158 7), .int .i64 (g158 8), .int .i64 (g158 9), .int .i64 (g158 10), .int .i64 (g158 11), .int .i64 (g158 12), .int .i64 (g158 13), .int .i64 (g158 14), .int .i64 (g158 15), .int .i64 (g158 16), .int .i64 (g158 17), .int .i64 (g158 18), .int .i64 (g158 19)]]) w156 (retG (fun (r160 : Value) (w159 : World) => r160 = .tuple #[] ∧ (∃ (m161 : Nat), m161 < k145 ∧ I144 m161 (IntKind.wrap .i64 (n149 + 1)) w159)) (fun c w => R (.panicked c) w))) w155) w147) ∧ ((decide ((n149 : Int) < ((l141 : Nat) : Int))) = false → (∃ (m162 : Nat), m162 < k131 ∧ I130 m162 (IntKind.wrap .i64 (n135 + 1)) w147)))) (fun c w => R (.panicked c) w))) ∧ ((decide ((n135 : Int) < ((l129 : Nat) : Int))) = false → J42  w133))) ∧ (((n41 : Int) == 3) = false → ((((n41 : Int) == 5) = true → drw (fun (w163 : World) => ∃ (b164 : Nat), ∃ (o165 : Nat), cellH w163.heap b5 0 = some (.pointer (some ⟨b164, o165, none⟩)) ∧ ∃ (a166 : Option Addr), ∃ (l166 : Nat), ∃ (c166 : Nat), cellH w163.heap b36 6 = some (.slice a166 l166 c166) ∧ ∃ (b167 : Nat) (o168 : Nat), ((a166 : Option Addr) = some ⟨b167, o168, none⟩ ∧ 0 ≤ (0 : Int) ∧ (0 : Int) < ((l166 : Nat) : Int)) ∧ ∃ (n169 : Int), cellH w163.heap b167 o168 = some (.int .i64 n169) ∧ Cl Try.prog 114 ([.pointer (some ⟨b164, o165, none⟩), .int .i64 n169, .int .i64 n4]) w163 (retG (fun (r172 : Value) (w171 : World) => ∃ (a170 : Option Addr), ∃ (l170 : Nat), ∃ (c170 : Nat), r172 = .slice a170 l170 c170 ∧ ∃ (I173 : Nat → Int → World → Prop), (∃ (k175 : Nat), I173 k175 0 w171) ∧ ∀ (k174 : Nat) (d177 : Nat → Value) (n178 : Int) (w176 : World), I173 k174 n178 w176 → (((decide ((n178 : Int) < ((l170 : Nat) : Int))) = true → ∃ (b179 : Nat) (o180 : Nat), ((a170 : Option Addr) = some ⟨b179, o180, none⟩ ∧ 0 ≤ (n178 : Int) ∧ (n178 : Int) < ((l170 : Nat) : Int)) ∧ ∃ (n181 : Int), cellH w176.heap b179 (o180 + (Int.toNat n178) * 21) = some (.int .i64 n181) ∧ ∃ (g182 : Nat → Int), intsAt w176.heap b179 (o180 + (Int.toNat n178) * 21 + 1) 20 g182 ∧ newC [.int .i64 0, .int .i64 0, .int .i64 0, .int .i64 0, .int .i64 0, .int .i64 0, .int .i64 0, .int .i64 0, .int .i64 0, .int .i64 0, .int .i64 0, .int .i64 0, .int .i64 0, .int .i64 0, .int .i64 0, .int .i64 0, .int .i64 0, .int .i64 0, .int .i64 0, .int .i64 0, .int .i64 0] 142 (fun (b183 : Nat) (w184 : World) => stW b183 0 [.int .i64 n181, .int .i64 (g182 0), .int .i64 (g182 1), .int .i64 (g182 2), .int .i64 (g182 3), .int .i64 (g182 4), .int .i64 (g182 5), .int .i64 (g182 6), .int .i64 (g182 7), .int .i64 (g182 8), .int .i64 (g182 9), .int .i64 (g182 10), .int .i64 (g182 11), .int .i64 (g182 12), .int .i64 (g182 13), .int .i64 (g182 14), .int .i64 (g182 15), .int .i64 (g182 16), .int .i64 (g182 17), .int .i64 (g182 18), .int .i64 (g182 19)] (fun (w185 : World) => ∃ (n186 : Int), cellH w185.heap b36 5 = some (.int .i64 n186) ∧ ∃ (n187 : Int), cellH w185.heap b183 0 = some (.int .i64 n187) ∧ (0 ≤ (n186 : Int) ∧ (n186 : Int) < ((10 : Nat) : Int)) ∧ stW b183 (1 + (Int.toNat n186) * 2) [.int .i64 n4, .int .i64 n187] (fun (w188 : World) => ∃ (n189 : Int), cellH w188.heap b183 0 = some (.int .i64 n189) ∧ ∃ (g190 : Nat → Int), intsAt w188.heap b183 1 20 g190 ∧ Cl Try.prog 129 ([.pointer (some ⟨b39, 0, none⟩), .agg #[.int .i64 n189, .int .i64 (g190 0), .int .i64 (g190 1), .int .i64 (g190 2), .int .i64 (g190 3), .int .i64 (g190 4), .int .i64 (g190 5), .int .i64 (g190 6), .int .i64 (g190 7), .int .i64 (g190 8), .int .i64 (g190 9), .int .i64 (g190 10), .int .i64 (g190 11), .int .i64 (g190 12), .int .i64 (g190 13), .int .i64 (g190 14), .int .i64 (g190 15), .int .i64 (g190 16), .int .i64 (g190 17), .int .i64 (g190 18), .int .i64 (g190 19)]]) w188 (retG (fun (r192 : Value) (w191 : World) => r192 = .tuple #[] ∧ (∃ (m193 : Nat), m193 < k174 ∧ I173 m193 (IntKind.wrap .i64 (n178 + 1)) w191)) (fun c w => R (.panicked c) w))) w185) w184) w176) ∧ ((decide ((n178 : Int) < ((l170 : Nat) : Int))) = false → J42  w176))) (fun c w => R (.panicked c) w))) w40) ∧ (((n41 : Int) == 5) = false → ((((n41 : Int) == 4) = true → Cl Try.prog 130 ([]) w40 (retG (fun (r196 : Value) (w195 : World) => ∃ (g194 : Nat → Int), r196 = .agg #[.int .i64 (g194 0), .int .i64 (g194 1), .int .i64 (g194 2), .int .i64 (g194 3), .int .i64 (g194 4), .int .i64 (g194 5), .int .i64 (g194 6), .int .i64 (g194 7), .int .i64 (g194 8), .int .i64 (g194 9), .int .i64 (g194 10), .int .i64 (g194 11), .int .i64 (g194 12), .int .i64 (g194 13), .int .i64 (g194 14), .int .i64 (g194 15), .int .i64 (g194 16), .int .i64 (g194 17), .int .i64 (g194 18), .int .i64 (g194 19)] ∧ newC [.int .i64 n4, .int .i64 (g194 0), .int .i64 (g194 1), .int .i64 (g194 2), .int .i64 (g194 3), .int .i64 (g194 4), .int .i64 (g194 5), .int .i64 (g194 6), .int .i64 (g194 7), .int .i64 (g194 8), .int .i64 (g194 9), .int .i64 (g194 10), .int .i64 (g194 11), .int .i64 (g194 12), .int .i64 (g194 13), .int .i64 (g194 14), .int .i64 (g194 15), .int .i64 (g194 16), .int .i64 (g194 17), .int .i64 (g194 18), .int .i64 (g194 19)] 142 (fun (b197 : Nat) (w198 : World) => ∃ (n199 : Int), cellH w198.heap b36 2 = some (.int .i64 n199) ∧ ∃ (I200 : Nat → Option Addr → Nat → Nat → Int → World → Prop), (∃ (k202 : Nat), I200 k202 (some ⟨b197, 0, none⟩) 1 1 0 w198) ∧ ∀ (k201 : Nat) (d204 : Nat → Value) (a205 : Option Addr) (l205 : Nat) (c205 : Nat) (n206 : Int) (w203 : World), I200 k201 a205 l205 c205 n206 w203 → (((decide ((n206 : Int) < n199)) = true → ∃ (b207 : Nat), ∃ (o208 : Nat), cellH w203.heap b5 0 = some (.pointer (some ⟨b207, o208, none⟩)) ∧ Cl Try.prog 131 ([.pointer (some ⟨b207, o208, none⟩), .slice a205 l205 c205, .func (.func 133) #[] #[.pointer (some ⟨b5, 0, none⟩), .pointer (some ⟨b36, 0, none⟩)]]) w203 (retG (fun (r211 : Value) (w210 : World) => ∃ (a209 : Option Addr), ∃ (l209 : Nat), ∃ (c209 : Nat), r211 = .slice a209 l209 c209 ∧ (∃ (m212 : Nat), m212 < k201 ∧ I200 m212 a209 l209 c209 (IntKind.wrap .i64 (n206 + 1)) w210)) (fun c w => R (.panicked c) w))) ∧ ((decide ((n206 : Int) < n199)) = false → newC [.int .i64 0] 3 (fun (b213 : Nat) (w214 : World) => stW b213 0 [.int .i64 (-1)] (fun (w215 : World) => ∃ (n216 : Int), cellH w215.heap b36 3 = some (.int .i64 n216) ∧ (((decide ((n216 : Int) ≥ 0)) = true → ∃ (n217 : Int), cellH w215.heap b36 3 = some (.int .i64 n217) ∧ ∃ (n218 : Int), cellH w215.heap b36 2 = some (.int .i64 n218) ∧ stW b213 0 [.int .i64 (IntKind.wrap .i64 (n217 - n218))] (fun (w219 : World) => ∃ (b220 : Nat), ∃ (o221 : Nat), cellH w219.heap b5 0 = some (.pointer (some ⟨b220, o221, none⟩)) ∧ Cl Try.prog 131 ([.pointer (some ⟨b220, o221, none⟩), .slice a205 l205 c205, .func (.func 134) #[] #[.pointer (some ⟨b5, 0, none⟩), .pointer (some ⟨b7, 0, none⟩), .pointer (some ⟨b213, 0, none⟩)]]) w219 (retG (fun (r224 : Value) (w223 : World) => ∃ (a222 : Option Addr), ∃ (l222 : Nat), ∃ (c222 : Nat), r224 = .slice a222 l222 c222 ∧ ∃ (I225 : Nat → Int → World → Prop), (∃ (k227 : Nat), I225 k227 0 w223) ∧ ∀ (k226 : Nat) (d229 : Nat → Value) (n230 : Int) (w228 : World), I225 k226 n230 w228 → (((decide ((n230 : Int) < ((l222 : Nat) : Int))) = true → ∃ (b231 : Nat) (o232 : Nat), ((a222 : Option Addr) = some ⟨b231, o232, none⟩ ∧ 0 ≤ (n230 : Int) ∧ (n230 : Int) < ((l222 : Nat) : Int)) ∧ ∃ (n233 : Int), cellH w228.heap b231 (o232 + (Int.toNat n230) * 21) = some (.int .i64 n233) ∧ ∃ (g234 : Nat → Int), intsAt w228.heap b231 (o232 + (Int.toNat n230) * 21 + 1) 20 g234 ∧ newC [.int .i64 0, .int .i64 0, .int .i64 0, .int .i64 0, .int .i64 0, .int .i64 0, .int .i64 0, .int .i64 0, .int .i64 0, .int .i64 0, .int .i64 0, .int .i64 0, .int .i64 0, .int .i64 0, .int .i64 0, .int .i64 0, .int .i64 0, .int .i64 0, .int .i64 0, .int .i64 0, .int .i64 0] 142 (fun (b235 : Nat) (w236 : World) => stW b235 0 [.int .i64 n233, .int .i64 (g234 0), .int .i64 (g234 1), .int .i64 (g234 2), .int .i64 (g234 3), .int .i64 (g234 4), .int .i64 (g234 5), .int .i64 (g234 6), .int .i64 (g234 7), .int .i64 (g234 8), .int .i64 (g234 9), .int .i64 (g234 10), .int .i64 (g234 11), .int .i64 (g234 12), .int .i64 (g234 13), .int .i64 (g234 14), .int .i64 (g234 15), .int .i64 (g234 16), .int .i64 (g234 17), .int .i64 (g234 18), .int .i64 (g234 19)] (fun (w237 : World) => ∃ (n238 : Int), cellH w237.heap b235 0 = some (.int .i64 n238) ∧ ∃ (g239 : Nat → Int), intsAt w237.heap b235 1 20 g239 ∧ Cl Try.prog 129 ([.pointer (some ⟨b39, 0, none⟩), .agg #[.int .i64 n238, .int .i64 (g239 0), .int .i64 (g239 1), .int .i64 (g239 2), .int .i64 (g239 3), .int .i64 (g239 4), .int .i64 (g239 5), .int .i64 (g239 6), .int .i64 (g239 7), .int .i64 (g239 8), .int .i64 (g239 9), .int .i64 (g239 10), .int .i64 (g239 11), .int .i64 (g239 12), .int .i64 (g239 13), .int .i64 (g239 14), .int .i64 (g239 15), .int .i64 (g239 16), .int .i64 (g239 17), .int .i64 (g239 18), .int .i64 (g239 19)]]) w237 (retG (fun (r241 : Value) (w240 : World) => r241 = .tuple #[] ∧ (∃ (m242 : Nat), m242 < k226 ∧ I225 m242 (IntKind.wrap .i64 (n230 + 1)) w240)) (fun c w => R (.panicked c) w))) w236) w228) ∧ ((decide ((n230 : Int) < ((l222 : Nat) : Int))) = false → J42  w228))) (fun c w => R (.panicked c) w))) w215) ∧ ((decide ((n216 : Int) ≥ 0)) = false → ∃ (b243 : Nat), ∃ (o244 : Nat), cellH w215.heap b5 0 = some (.pointer (some ⟨b243, o244, none⟩)) ∧ Cl Try.prog 131 ([.pointer (some ⟨b243, o244, none⟩), .slice a205 l205 c205, .func (.func 134) #[] #[.pointer (some ⟨b5, 0, none⟩), .pointer (some ⟨b7, 0, none⟩), .pointer (some ⟨b213, 0, none⟩)]]) w215 (retG (fun (r247 : Value) (w246 : World) => ∃ (a245 : Option Addr), ∃ (l245 : Nat), ∃ (c245 : Nat), r247 = .slice a245 l245 c245 ∧ ∃ (I248 : Nat → Int → World → Prop), (∃ (k250 : Nat), I248 k250 0 w246) ∧ ∀ (k249 : Nat) (d252 : Nat → Value) (n253 : Int) (w251 : World), I248 k249 n253 w251 → (((decide ((n253 : Int) < ((l245 : Nat) : Int))) = true → ∃ (b254 : Nat) (o255 : Nat), ((a245 : Option Addr) = some ⟨b254, o255, none⟩ ∧ 0 ≤ (n253 : Int) ∧ (n253 : Int) < ((l245 : Nat) : Int)) ∧ ∃ (n256 : Int), cellH w251.heap b254 (o255 + (Int.toNat n253) * 21) = some (.int .i64 n256) ∧ ∃ (g257 : Nat → Int), intsAt w251.heap b254 (o255 + (Int.toNat n253) * 21 + 1) 20 g257 ∧ newC [.int .i64 0, .int .i64 0, .int .i64 0, .int .i64 0, .int .i64 0, .int .i64 0, .int .i64 0, .int .i64 0, .int .i64 0, .int .i64 0, .int .i64 0, .int .i64 0, .int .i64 0, .int .i64 0, .int .i64 0, .int .i64 0, .int .i64 0, .int .i64 0, .int .i64 0, .int .i64 0, .int .i64 0] 142 (fun (b258 : Nat) (w259 : World) => stW b258 0 [.int .i64 n256, .int .i64 (g257 0), .int .i64 (g257 1), .int .i64 (g257 2), .int .i64 (g257 3), .int .i64 (g257 4), .int .i64 (g257 5), .int .i64 (g257 6), .int .i64 (g257 7), .int .i64 (g257 8), .int .i64 (g257 9), .int .i64 (g257 10), .int .i64 (g257 11), .int .i64 (g257 12), .int .i64 (g257 13), .int .i64 (g257 14), .int .i64 (g257 15), .int .i64 (g257 16), .int .i64 (g257 17), .int .i64 (g257 18), .int .i64 (g257 19)] (fun (w260 : World) => ∃ (n261 : Int), cellH w260.heap b258 0 = some (.int .i64 n261) ∧ ∃ (g262 : Nat → Int), intsAt w260.heap b258 1 20 g262 ∧ Cl Try.prog 129 ([.pointer (some ⟨b39, 0, none⟩), .agg #[.int .i64 n261, .int .i64 (g262 0), .int .i64 (g262 1), .int .i64 (g262 2), .int .i64 (g262 3), .int .i64 (g262 4), .int .i64 (g262 5), .int .i64 (g262 6), .int .i64 (g262 7), .int .i64 (g262 8), .int .i64 (g262 9), .int .i64 (g262 10), .int .i64 (g262 11), .int .i64 (g262 12), .int .i64 (g262 13), .int .i64 (g262 14), .int .i64 (g262 15), .int .i64 (g262 16), .int .i64 (g262 17), .int .i64 (g262 18), .int .i64 (g262 19)]]) w260 (retG (fun (r264 : Value) (w263 : World) => r264 = .tuple #[] ∧ (∃ (m265 : Nat), m265 < k249 ∧ I248 m265 (IntKind.wrap .i64 (n253 + 1)) w263)) (fun c w => R (.panicked c) w))) w259) w251) ∧ ((decide ((n253 : Int) < ((l245 : Nat) : Int))) = false → J42  w251))) (fun c w => R (.panicked c) w))))) w214) w203))) w195) (fun c w => R (.panicked c) w))) ∧ (((n41 : Int) == 4) = false → J42  w40))))))))))))))) ∧ ∀ (d266 : Nat → Value) (w267 : World), J42  w267 → drw (fun (w268 : World) => ∃ (b269 : Nat), ∃ (o270 : Nat), cellH w268.heap b5 0 = some (.pointer (some ⟨b269, o270, none⟩)) ∧ ∃ (m271 : Option Nat), cellH w268.heap b269 (o270 + 5) = some (.map m271) ∧ ∃ (n272 : Int), cellH w268.heap b10 0 = some (.int .i64 n272) ∧ ∃ (n273 : Int), cellH w268.heap b10 1 = some (.int .i64 n273) ∧ ∃ (n274 : Int), cellH w268.heap b10 2 = some (.int .i64 n274) ∧ ∃ (a275 : Option Addr), ∃ (l275 : Nat), ∃ (c275 : Nat), cellH w268.heap b39 0 = some (.slice a275 l275 c275) ∧ ∃ (w276 : World), (Instr.mapUpdate 126 (.map m271) (.agg #[.int .i64 n272, .int .i64 n273, .int .i64 n274]) (.slice a275 l275 c275)).run Try.prog w268 = .ok () w276 ∧ ∃ (a277 : Option Addr), ∃ (l277 : Nat), ∃ (c277 : Nat), cellH w276.heap b39 0 = some (.slice a277 l277 c277) ∧ R (.returned (.slice a277 l277 c277)) w276) w267) w38) w37) w22) w13))) w12) w11) w8) w6) w
def scr114 : Scr := (.run [0, 1, 2] (.close (.run [0, 1, 2, 3, 4] (.close (.run [0, 1, 2, 3, 4, 5, 6, 7, 8, 9, 10] (.close (.run [0] (.close (.cond (.run [0, 1] (.close .nil)) (.run [0, 1, 2, 3, 4, 5, 6, 7, 8, 9] (.close (.run [0] (.close (.run [0, 1] (.close (.run [0, 1] (.close (.cut [(12, none), (14, none), (15, none), (17, none), (19, none), (21, none), (23, none), (25, none), (26, none), (27, none), (29, none), (56, none), (57, none), (58, none), (59, none), (60, none), (61, none), (62, none), (63, none), (64, none), (65, none), (66, none), (67, none), (68, none), (69, none), (70, none), (71, none), (72, none), (73, none), (74, none), (75, none), (76, none), (77, none), (78, none), (79, none), (80, none), (81, none), (82, none), (83, none), (84, none), (85, none), (86, none), (87, none), (88, none), (89, none), (90, none), (91, none), (92, none), (93, none), (94, none), (95, none), (96, none), (97, none), (98, none), (99, none), (100, none), (101, none), (102, none), (103, none), (104, none), (105, none), (106, none), (107, none), (108, none), (109, none), (110, none), (111, none), (112, none), (113, none), (114, none), (115, none), (116, none), (117, none), (118, none), (119, none), (120, none), (121, none), (122, none), (123, none), (124, none), (125, none), (126, none), (127, none), (128, none), (129, none), (130, none), (131, none), (132, none), (133, none), (134, none), (135, none), (136, none), (137, none), (138, none), (139, none), (140, none), (141, none), (142, none), (143, none), (144, none), (145, none), (146, none), (147, none), (148, none), (149, none), (150, none), (151, none), (152, none), (153, none), (154, none), (155, none), (156, none), (157, none), (158, none), (159, none), (160, none), (161, none), (162, none), (163, none), (164, none), (165, none), (166, none), (167, none), (168, none), (169, none), (170, none), (171, none), (172, none), (173, none), (174, none), (175, none), (176, none), (177, none), (178, none), (179, none), (180, none), (181, none), (182, none), (183, none), (184, none), (185, none), (186, none), (187, none), (188, none), (189, none), (190, none), (191, none), (192, none), (193, none), (194, none), (195, none), (196, none), (197, none), (198, none), (199, none), (200, none), (201, none), (202, none), (203, none), (204, none), (205, none), (206, none), (207, none), (208, none), (209, none), (210, none), (211, none), (212, none), (213, none), (214, none), (215, none), (216, none), (217, none), (218, none), (219, none), (220, none), (221, none), (222, none)] (.cond (.run [0, 1, 2, 3, 4, 5, 6] (.close (.cond (.run [0, 1, 2, 3, 4, 5, 6, 7] (.close (.run [0, 1, 2, 3] (.close (.loop [(73, some (.int .i64)), (14, none), (74, none), (75, none), (76, none), (77, none), (78, none), (79, none), (80, none), (81, none), (82, none), (83, none), (84, none), (85, none), (86, none), (87, none), (88, none), (89, none), (90, none), (91, none), (92, none)] (.run [0] (.close (.cond (.run [0, 1, 2, 3] (.close (.run [0, 1, 2, 3, 4] (.split 81 (.run [5, 6, 7, 8, 9] (.close (.cond (.run [0, 1, 2, 3, 4] (.close (.run [0, 1] (.close .nil)))) (.run [0, 1] (.close .nil))))) (.run [5, 6, 7, 8, 9] (.close (.lit (.run [0, 1] (.close .nil))))))))) .nil)))))))) .nil))) (.run [0, 1] (.close (.cond (.run [0, 1] (.close (.cond (.run [0, 1, 2, 3] (.close .nil)) .nil))) (.run [0, 1] (.close (.cond (.run [0, 1, 2, 3, 4, 5, 6] (.close (.cond (.run [0, 1, 2, 3] (.close .nil)) .nil))) (.run [0, 1] (.close (.cond (.run [0, 1, 2, 3, 4] (.close (.run [0, 1, 2, 3] (.close (.loop [(15, some .slice), (123, some (.int .i64)), (17, none), (124, none), (125, none), (126, none), (127, none), (128, none), (129, none), (130, none), (131, none)] (.run [0] (.close (.cond (.run [0, 1, 2, 3] (.close (.run [0, 1, 2, 3, 4] (.close (.run [0, 1] (.close .nil)))))) (.run [0, 1, 2] (.close (.loop [(134, some (.int .i64)), (19, none), (135, none), (136, none), (137, none), (138, none), (139, none), (140, none)] (.run [0] (.close (.cond (.run [0, 1, 2, 3] (.close (.run [0, 1] (.close (.run [0, 1] (.close .nil)))))) .nil)))))))))))))) (.run [0, 1] (.close (.cond (.run [0, 1, 2, 3] (.close (.loop [(146, some (.int .i64)), (21, none), (23, none), (147, none), (148, none), (149, none), (150, none), (151, none), (152, none), (153, none), (154, none), (155, none), (156, none), (157, none), (158, none), (159, none), (160, none), (161, none), (162, none)] (.run [0] (.close (.cond (.run [0, 1, 2] (.close (.run [0, 1, 2, 3, 4, 5] (.close (.loop [(155, some (.int .i64)), (23, none), (156, none), (157, none), (158, none), (159, none), (160, none), (161, none)] (.run [0] (.close (.cond (.run [0, 1, 2, 3] (.close (.run [0, 1] (.close (.run [0, 1] (.close .nil)))))) (.run [0, 1] (.close .nil)))))))))) .nil)))))) (.run [0, 1] (.close (.cond (.run [0, 1, 2, 3, 4, 5, 8, 6, 7] (.close (.loop [(173, some (.int .i64)), (25, none), (174, none), (175, none), (176, none), (177, none), (178, none), (179, none), (180, none), (181, none), (182, none), (183, none), (184, none), (185, none), (186, none), (187, none)] (.run [0] (.close (.cond (.run [0, 1, 2, 3] (.close (.run [0, 1, 2, 3, 4, 5, 6, 7, 8] (.close (.run [0, 1] (.close (.run [0, 1] (.close .nil)))))))) .nil)))))) (.run [0, 1] (.close (.cond (.run [0, 1, 2, 3, 4] (.close (.run [0, 1, 2] (.close (.loop [(26, some .slice), (196, some (.int .i64)), (197, none), (198, none), (199, none), (200, none), (201, none), (202, none)] (.run [0] (.close (.cond (.run [0, 1, 2, 3, 4] (.close (.run [0, 1] (.close .nil)))) (.run [0, 1] (.close (.run [0, 1, 2] (.close (.cond (.run [0, 1, 2, 3, 4, 5] (.close (.run [0, 1, 2, 3, 4, 5] (.close (.loop [(216, some (.int .i64)), (29, none), (217, none), (218, none), (219, none), (220, none), (221, none), (222, none)] (.run [0] (.close (.cond (.run [0, 1, 2, 3] (.close (.run [0, 1] (.close (.run [0, 1] (.close .nil)))))) .nil)))))))) (.run [0, 1, 2, 3, 4, 5] (.close (.loop [(216, some (.int .i64)), (29, none), (217, none), (218, none), (219, none), (220, none), (221, none), (222, none)] (.run [0] (.close (.cond (.run [0, 1, 2, 3] (.close (.run [0, 1] (.close (.run [0, 1] (.close .nil)))))) .nil))))))))))))))))))) .nil))))))))))))))))))) (.run [0, 1, 2, 3, 4, 5, 6, 7] (.close (.run [0, 1, 2] (.close .nil))))))))))))))))))))))
theorem vc114 {b1 : Nat} {o2 : Nat} {n3 : Int} {n4 : Int} {R : Ending → World → Prop} {w : World} (h : V114 b1 o2 n3 n4 R w) : Cl Try.prog 114 [.pointer (some ⟨b1, o2, none⟩), .int .i64 n3, .int .i64 n4] w R :=
  cl_of scr114 Try.func114 (by kernel_rfl) [.pointer (some ⟨b1, o2, none⟩), .int .i64 n3, .int .i64 n4] (V114 b1 o2 n3 n4 R) (by kernel_rfl) h
end Go.Proofs.Ytngbiaeliphdjaa.V

/- Parts of a proof, put together: definitions, formulas of Go functions and lemmas. No statement of the seat is proved here. -/
import Derived.ChangeOld
import Derived.ChangeReads
import Derived.ChangeSlices
import Derived.OpenShut
import Derived.ReadAgain
import Derived.Test.YtngbiaeliphdjaaRbE
/- The reference's ReadTemplate. No statement of the seat is proved here. -/
namespace Go.Proofs.Ytngbiaeliphdjaa.V
open Go.Vc Go.Proofs Go.RowKit
set_option linter.unusedVariables false
set_option linter.unusedSimpArgs false

def SS (w w' : World) (bs : Bits) (a : Option Addr) (c : Nat) : Prop :=
  Blk w'.heap w.heap.size 118 [.bool false, .int .i64 0, .slice none 0 0] ∧ Blk w'.heap (w.heap.size + 1) 118 [.bool true, .int .i64 0, .slice a bs.length c] ∧
    Row (w.heap.size + 2) w' 121 2 a bs.length c (bitsC bs) ∧ Below w.heap.size w w'
theorem SS.app {w w' : World} {bs : Bits} {a : Option Addr} {c : Nat} (h : SS w w' bs a c) (hl : bs.length ≤ 1000) (b : Int × Bytes) {F : World → Prop} (hF : ∀ w2 a2 c2, SS w w2 (bs ++ [b]) a2 c2 → F w2) :
    ∃ (a3 : Option Addr), ∃ (l3 : Nat), ∃ (c3 : Nat), ∃ (w3 : World), (Builtin.append_ #[116, 116] 116 #[.slice a bs.length c, .slice (some ⟨w'.heap.size, 0, none⟩) 1 1]).run Try.prog (newW w' (.cells ⟨bitC b⟩ 121)) = .ok (.slice a3 l3 c3) w3 ∧ stW (w.heap.size + 1) 2 [.slice a3 l3 c3] F w3 := by
  obtain ⟨h2, h8, hR, hb⟩ := h
  obtain ⟨a3, c3, w3, r1, r2, r3⟩ := hR.app1 elemBit (ys := bitC b) (n := 1) rfl rfl (by omega) (by omega)
  refine ⟨a3, _, c3, w3, r1, ?_⟩
  refine stW_in (h8.stay r3 (by omega)) (by show 2 + 1 ≤ 3; decide) fun w4 s4 k4 e4 => ?_
  refine hF w4 a3 c3 ⟨(h2.stay r3 (by omega)).keep e4 (by omega), by rw [List.length_append]; exact k4, ?_, Ext.to (Ext.to hb r3 fun i (h : _ ≤ i) => by omega) e4 (fun i h => by omega)⟩
  rw [bitsC_append, bitsC_one, List.length_append]; exact r2.keep e4 (fun b hb => by omega)
theorem SS.ext {w w' w2 : World} {bs : Bits} {a : Option Addr} {c : Nat} (h : SS w w' bs a c) (e : Ext (fun _ => False) w' w2) : SS w w2 bs a c :=
  ⟨h.1.keep e fun h => h, h.2.1.keep e fun h => h, h.2.2.1.keep e fun _ _ h => h, Ext.to h.2.2.2 e fun _ h => h.elim⟩
/-- The copy of what was read, into the result. -/
theorem copy_end {w w' : World} {bs : Bits} {a : Option Addr} {c : Nat} {r : Bool × Nat × Bits} (hr : r = (true, 0, bs)) (h : SS w w' bs a c) :
    ∃ (t60 : Bool), cellH w'.heap (w.heap.size + 1) 0 = some (.bool t60) ∧ ∃ (n61 : Int), cellH w'.heap (w.heap.size + 1) 1 = some (.int .i64 n61) ∧ ∃ (a62 : Option Addr), ∃ (l62 : Nat), ∃ (c62 : Nat), cellH w'.heap (w.heap.size + 1) 2 = some (.slice a62 l62 c62) ∧
      stW w.heap.size 0 [.bool t60, .int .i64 n61, .slice a62 l62 c62] (fun w4 => ∃ (t5 : Bool), cellH w4.heap w.heap.size 0 = some (.bool t5) ∧ ∃ (n6 : Int), cellH w4.heap w.heap.size 1 = some (.int .i64 n6) ∧ ∃ (a7 : Option Addr), ∃ (l7 : Nat), ∃ (c7 : Nat), cellH w4.heap w.heap.size 2 = some (.slice a7 l7 c7) ∧
        RetT r w (.returned (.agg #[.bool t5, .int .i64 n6, .slice a7 l7 c7])) w4) w' :=
  ⟨true, h.2.1.cell 0, 0, h.2.1.cell 1, a, bs.length, c, h.2.1.cell 2, good_end hr h.1 (h.2.2.1.mono (by omega)) h.2.2.2⟩

theorem specTemplate_ok (s : ByteArray) (w : World) : Cl Try.prog 102 [.string s] w (RetT (tplT (L s)) w) := by
  apply vc102
  unfold V102
  have hsz : s.size = (L s).length := size_L s
  refine newC_in fun w3 s3 k2 e3 => ?_
  have hb3 : Below w.heap.size w w3 := e3.below fun _ _ h => h
  refine ⟨fun g => ?_, fun g => ?_⟩
  · have g' := of_decide_eq_true g
    exact bad_end (i := 100) (by unfold tplT; rw [if_pos (by omega)]) rfl k2 hb3
  have g' := of_decide_eq_false g
  have hT : tplT (L s) = tpl (L s) 0 [] [] := by unfold tplT; rw [if_neg (by omega)]
  rw [hT]
  refine newC_in fun w9 s9 k8 e9 => ?_
  refine stW_in k8 (by show 0 + 3 ≤ 3; decide) fun w12 s12 k8' e12 => ?_
  rw [s3] at k8' e12 s9
  rw [show w3.heap.size = w.heap.size + 1 from s3]
  have t0 : SS w w12 [] none 0 := by
    refine ⟨(k2.keep e9 fun h => h).keep e12 (by omega), k8', Row.nil _ _ (by omega), ?_⟩
    exact Ext.to (Ext.to hb3 e9 (fun _ h => h.elim)) e12 (fun i h => by omega)
  refine ⟨fun k sp n w' => ∃ (i : Nat) (pl : Bytes) (bs : Bits) (a : Option Addr) (c : Nat), n = i ∧ sp = B pl ∧ i ≤ s.size ∧ k = s.size - i ∧ tpl (L s) i pl bs = tpl (L s) 0 [] [] ∧ bs.length ≤ i ∧ pl.length ≤ i ∧ SS w w' bs a c, ⟨s.size, 0, [], [], none, 0, rfl, rfl, by omega, rfl, rfl, by simp, by simp, t0⟩, ?_⟩
  rintro k d sp n w1 ⟨i, pl, bs, a, c, rfl, rfl, hi, rfl, hu, hbl, hpl, hS⟩
  have e0 : Int.toNat (i : Int) = i := by omega
  have e1 : IntKind.wrap .i64 ((i : Int) + 1) = ((i + 1 : Nat) : Int) := by rw [w64 (by omega)]; omega
  have e2 : IntKind.wrap .i64 (((i + 1 : Nat) : Int) + 1) = ((i + 2 : Nat) : Int) := by rw [w64 (by omega)]; omega
  have e3' : Int.toNat ((i + 1 : Nat) : Int) = i + 1 := by omega
  rw [e0, e1, e2, e3']
  have hne : ∀ {x : Bool}, (!((B pl).toList == (⟨#[]⟩ : ByteArray).toList)) = x → (x = true ↔ pl ≠ []) := by
    rintro x rfl; simp [toList_eq, L_empty]
  refine ⟨fun g0 => ?_, fun g0 => ?_⟩
  · have g0' : i < s.size := by have := of_decide_eq_true g0; omega
    refine ⟨⟨by omega, by omega⟩, fun g1 => ?_, fun g1 => ?_⟩
    · have g1' : at_ (L s) i ≠ 36 := by
        rw [byteAt_at] at g1
        have : ((at_ (L s) i : Nat) : Int) ≠ 36 := by simpa using g1
        omega
      rw [extract_one s g0']
      refine ⟨⟨by omega, by omega, by omega⟩, by rw [size_B, size_B]; simp; omega, ?_⟩
      rw [B_append]
      refine ⟨s.size - (i + 1), by omega, i + 1, pl ++ [(L s).getD i 0], bs, a, c, rfl, rfl, by omega, rfl, ?_, by omega, by simp; omega, hS⟩
      rw [← hu]
      exact (show tpl (L s) i pl bs = tpl (L s) (i + 1) (pl ++ [(L s).getD i 0]) bs from by rw [tpl, dif_pos (by omega), if_pos g1']).symm
    have g1' : at_ (L s) i = 36 := by
      rw [byteAt_at] at g1
      have : ((at_ (L s) i : Nat) : Int) = 36 := by simpa using g1
      omega
    refine ⟨fun g2 => ?_, fun g2 => ?_⟩
    · have g2' : ((i + 1 : Nat) : Int) = s.size := by simpa using g2
      refine bad_end (i := i + 1) ?_ rfl hS.1 hS.2.2.2
      rw [← hu, tpl, dif_pos (by omega), if_neg (by omega), if_pos (by omega)]
    have g2' : ¬ ((i + 1 : Nat) : Int) = s.size := by simpa using g2
    refine ⟨⟨by omega, by omega⟩, fun g3 => ?_, fun g3 => ⟨⟨by omega, by omega⟩, fun g4 => ?_, fun g4 => ⟨⟨by omega, by omega⟩, fun g5 => ?_, fun g5 => ?_⟩⟩⟩
    · have g3' : at_ (L s) (i + 1) = 36 := by
        rw [byteAt_at] at g3
        have : ((at_ (L s) (i + 1) : Nat) : Int) = 36 := by simpa using g3
        omega
      refine ⟨by rw [size_B]; show pl.length + 1 ≤ _; omega, ?_⟩
      refine ⟨s.size - (i + 2), by omega, i + 2, pl ++ [36], bs, a, c, rfl, by rw [← B_append]; rfl, by omega, rfl, ?_, by omega, by simp; omega, hS⟩
      rw [← hu]
      exact (show tpl (L s) i pl bs = tpl (L s) (i + 2) (pl ++ [36]) bs from by rw [tpl, dif_pos (by omega), if_neg (by omega), if_neg (by omega), if_pos g3']).symm
    all_goals have g3' : ¬ at_ (L s) (i + 1) = 36 := by
                rw [byteAt_at] at g3
                have : ¬ ((at_ (L s) (i + 1) : Nat) : Int) = 36 := by simpa using g3
                omega
    · have g4' := of_decide_eq_true g4
      rw [byteAt_at] at g4'
      refine bad_end (i := i + 1) ?_ rfl hS.1 hS.2.2.2
      rw [← hu, tpl, dif_pos (by omega), if_neg (by omega), if_neg (by omega), if_neg g3', if_pos (by omega)]
    · have g5' := of_decide_eq_true g5
      rw [byteAt_at] at g5'
      refine bad_end (i := i + 1) ?_ rfl hS.1 hS.2.2.2
      rw [← hu, tpl, dif_pos (by omega), if_neg (by omega), if_neg (by omega), if_neg g3', if_pos (by omega)]
    · have g4' := of_decide_eq_false g4
      have g5' := of_decide_eq_false g5
      rw [byteAt_at] at g4' g5'
      rw [byte_dig s (by omega)]
      have hstep : tpl (L s) i pl bs = tpl (L s) (i + 2) [] (fl pl bs ++ [(((at_ (L s) (i + 1) : Nat) : Int) - 48, [])]) := by rw [tpl, dif_pos (by omega), if_neg (by omega), if_neg (by omega), if_neg g3', if_neg (by omega)]
      refine ⟨fun g6 => ?_, fun g6 => ?_⟩
      · have hf : fl pl bs = bs ++ [(-1, pl)] := by unfold fl; rw [if_neg ((hne g6).1 rfl)]
        refine ⟨a, _, c, hS.2.1.cell 2, ?_⟩
        refine SS.app hS (by omega) (-1, pl) fun w2 a2 c2 h2 => ?_
        refine drw_in fun w38 q38 e38 => ?_
        have h3 := h2.ext e38
        refine ⟨a2, _, c2, h3.2.1.cell 2, ⟨by omega, by omega⟩, ?_, ?_⟩
        · exact (h3.2.1.vnew _).cell 2
        refine SS.app h3 (by rw [List.length_append]; simp; omega) (((at_ (L s) (i + 1) : Nat) : Int) - 48, []) fun w4 a4 c4 h4 => ?_
        refine ⟨s.size - (i + 2), by omega, i + 2, [], _, a4, c4, rfl, rfl, by omega, rfl, ?_, ?_, by simp, h4⟩
        · rw [← hu, hstep, hf]
        · simp; omega
      · have hp : pl = [] := by
          by_cases hp : pl = []
          · exact hp
          · exact absurd ((hne g6).2 hp) (by simp)
        subst hp
        refine drw_in fun w38 q38 e38 => ?_
        have h3 := hS.ext e38
        refine ⟨a, _, c, h3.2.1.cell 2, ⟨by omega, by omega⟩, ?_, ?_⟩
        · exact (h3.2.1.vnew _).cell 2
        refine SS.app h3 (by omega) (((at_ (L s) (i + 1) : Nat) : Int) - 48, []) fun w4 a4 c4 h4 => ?_
        refine ⟨s.size - (i + 2), by omega, i + 2, [], _, a4, c4, rfl, rfl, by omega, rfl, ?_, ?_, by simp, h4⟩
        · rw [← hu, hstep]; rfl
        · simp; omega
  · have g0' := of_decide_eq_false g0
    have hend : tpl (L s) 0 [] [] = (true, 0, fl pl bs) := by rw [← hu, tpl, dif_neg (by omega)]
    rw [hend]
    refine ⟨fun g6 => ?_, fun g6 => ?_⟩
    · have hf : fl pl bs = bs ++ [(-1, pl)] := by unfold fl; rw [if_neg ((hne g6).1 rfl)]
      refine ⟨a, _, c, hS.2.1.cell 2, ?_⟩
      refine SS.app hS (by omega) (-1, pl) fun w2 a2 c2 h2 => ?_
      exact copy_end (by rw [hf]) h2
    · have hp : pl = [] := by
        by_cases hp : pl = []
        · exact hp
        · exact absurd ((hne g6).2 hp) (by simp)
      subst hp
      exact copy_end rfl hS
end Go.Proofs.Ytngbiaeliphdjaa.V
/- Printed by vcgen.py, a program of this session: formulas of Go functions, each with the proof that it gives the function's contract. No statement of the seat is proved here. -/
namespace Go.Proofs.Ytngbiaeliphdjaa.V
open Go.Vc Go.Proofs
set_option linter.unusedVariables false
set_option maxRecDepth 100000
/-- laws.FnExactReplace -/
def V17 (s1 s2 s3 : ByteArray) (n4 : Int) (R : Rt) : Pred := fun w =>
  (cB (decide (((ByteArray.size s1 : Nat) : Int) > 1048576)) (R (.returned (.bool true)) w) ((cB (decide (((ByteArray.size s2 : Nat) : Int) > 1048576)) (R (.returned (.bool true)) w) ((cB (decide (((ByteArray.size s3 : Nat) : Int) > 1048576)) (R (.returned (.bool true)) w) (clV 61 ([.string s1, .string s2, .string s3, .int .i64 n4]) w R fun r9 w8 => ∃ t5, ∃ s6, ∃ n7, r9 = .agg #[.bool t5, .string s6, .int .i64 n7] ∧ newC [.bool false, .string (⟨#[]⟩ : ByteArray), .int .i64 0] 68 (fun b10 w11 => stW b10 0 [.bool t5, .string s6, .int .i64 n7] (fun w12 => clV 62 ([.string s1, .string s2, .string s3, .int .i64 n4]) w12 R fun r17 w16 => ∃ t13, ∃ s14, ∃ n15, r17 = .agg #[.bool t13, .string s14, .int .i64 n15] ∧ newC [.bool false, .string (⟨#[]⟩ : ByteArray), .int .i64 0] 68 (fun b18 w19 => stW b18 0 [.bool t13, .string s14, .int .i64 n15] (fun w20 => lB w20 b18 0 fun t21 => lS w20 b18 1 fun s22 => lI w20 b18 2 fun n23 => lB w20 b10 0 fun t24 => lS w20 b10 1 fun s25 => lI w20 b10 2 fun n26 => clB 63 ([.agg #[.bool t21, .string s22, .int .i64 n23], .agg #[.bool t24, .string s25, .int .i64 n26]]) w20 R fun t27 w28 => (cB (!t27) (R (.returned (.bool false)) w28) (R (.returned (.bool true)) w28))) w19) w16) w11) w8))))))
def scr17 : Scr := (.q 1 (.q 3 (.cond (.q 1 .nil) (.q 3 (.cond (.q 1 .nil) (.q 3 (.cond (.q 1 .nil) (.q 7 (.q 7 (.q 4 (.cond (.q 1 .nil) (.q 1 .nil))))))))))))
theorem vc17 {s1 s2 s3 n4} {R w} (h : V17 s1 s2 s3 n4 R w) : Cl Try.prog 17 [.string s1, .string s2, .string s3, .int .i64 n4] w R :=
  cl_of scr17 Try.func17 (by kernel_rfl) _ _ (by kernel_rfl) h
/-- spec.Replace -/
def V61 (s1 s2 s3 : ByteArray) (n4 : Int) (R : Rt) : Pred := fun w =>
  newC [.bool false, .string (⟨#[]⟩ : ByteArray), .int .i64 0] 68 (fun b5 w6 => clV 68 ([.string s1, .string s2]) w6 R fun r11 w10 => ∃ b7, ∃ o8, ∃ t9, r11 = .tuple #[.pointer (some ⟨b7, o8, none⟩), .bool t9] ∧ clV 102 ([.string s3]) w10 R fun r16 w15 => ∃ t12, ∃ n13, ∃ a14 l14 c14, r16 = .agg #[.bool t12, .int .i64 n13, .slice a14 l14 c14] ∧ newC [.bool false, .int .i64 0, .slice none 0 0] 118 (fun b17 w18 => stW b17 0 [.bool t12, .int .i64 n13, .slice a14 l14 c14] (fun w19 => (cB (!t9) (stW b5 0 [.bool false, .string (⟨#[]⟩ : ByteArray), .int .i64 0] (fun w20 => lB w20 b5 0 fun t21 => lS w20 b5 1 fun s22 => lI w20 b5 2 fun n23 => R (.returned (.agg #[.bool t21, .string s22, .int .i64 n23])) w20) w19) (lB w19 b17 0 fun t24 => (cB (!t24) (stW b5 0 [.bool false, .string (⟨#[]⟩ : ByteArray), .int .i64 0] (fun w25 => lB w25 b5 0 fun t26 => lS w25 b5 1 fun s27 => lI w25 b5 2 fun n28 => R (.returned (.agg #[.bool t26, .string s27, .int .i64 n28])) w25) w19) ((cB (decide (n4 < 0)) (stW b5 0 [.bool false, .string (⟨#[]⟩ : ByteArray), .int .i64 0] (fun w29 => lB w29 b5 0 fun t30 => lS w29 b5 1 fun s31 => lI w29 b5 2 fun n32 => R (.returned (.agg #[.bool t30, .string s31, .int .i64 n32])) w29) w19) (lL w19 b17 2 fun a33 l33 c33 => ∃ (I34 : Nat → Int → World → Prop), (∃ k36, I34 k36 0 w19) ∧ ∀ k35 (d38 : Nat → Value) n39 w37, I34 k35 n39 w37 → (cB (decide (n39 < ((l33 : Nat) : Int))) (ixS a33 l33 n39 fun b40 o41 => lI w37 b40 (o41 + (Int.toNat n39) * 2) fun n42 => lS w37 b40 (o41 + (Int.toNat n39) * 2 + 1) fun s43 => newC [.int .i64 0, .string (⟨#[]⟩ : ByteArray)] 121 (fun b44 w45 => stW b44 0 [.int .i64 n42, .string s43] (fun w46 => drw (fun w47 => lI w47 b44 0 fun n48 => lI w47 b7 (o8 + 2) fun n49 => (cB (decide (n48 > n49)) (stW b5 0 [.bool false, .string (⟨#[]⟩ : ByteArray), .int .i64 0] (fun w50 => lB w50 b5 0 fun t51 => lS w50 b5 1 fun s52 => lI w50 b5 2 fun n53 => R (.returned (.agg #[.bool t51, .string s52, .int .i64 n53])) w50) w47) ((∃ m54, m54 < k35 ∧ I34 m54 (IntKind.wrap .i64 (n39 + 1)) w47)))) w46) w45) w37) (newC [.bool false, .string (⟨#[]⟩ : ByteArray), .int .i64 0] 68 (fun b55 w56 => stW b55 0 [.bool true, .string (⟨#[]⟩ : ByteArray), .int .i64 0] (fun w57 => clL 69 ([.pointer (some ⟨b7, o8, none⟩)]) w57 R fun a58 l58 c58 w59 => ∃ (I61 : Nat → Option Addr → Nat → Nat → Int → Int → World → Prop), (∃ k63, I61 k63 none 0 0 0 0 w59) ∧ ∀ k62 (d65 : Nat → Value) a66 l66 c66 n67 n68 w64, I61 k62 a66 l66 c66 n67 n68 w64 → (cB (decide (n68 < ((l58 : Nat) : Int))) (ixS a58 l58 n68 fun b69 o70 => lB w64 b69 (o70 + (Int.toNat n68) * 4) fun t71 => lI w64 b69 (o70 + (Int.toNat n68) * 4 + 1) fun n72 => lI w64 b69 (o70 + (Int.toNat n68) * 4 + 2) fun n73 => lL w64 b69 (o70 + (Int.toNat n68) * 4 + 3) fun a74 l74 c74 => newC [.bool false, .int .i64 0, .int .i64 0, .slice none 0 0] 29 (fun b75 w76 => stW b75 0 [.bool t71, .int .i64 n72, .int .i64 n73, .slice a74 l74 c74] (fun w77 => lI w77 b55 2 fun n78 => (cB (n78 == n4) ((slA s2 n67) ∧ ∃ a79 l79 c79, ∃ w80, (Builtin.append_ #[22, 9] 22 #[.slice a66 l66 c66, .string (ByteArray.extract s2 (Int.toNat n67) (ByteArray.size s2))]).run Try.prog w77 = .ok (.slice a79 l79 c79) w80 ∧ ∃ s81, (convert 22 9 (.slice a79 l79 c79)).run Try.prog w80 = .ok (.string s81) w80 ∧ stW b55 1 [.string s81] (fun w82 => lB w82 b55 0 fun t83 => lS w82 b55 1 fun s84 => lI w82 b55 2 fun n85 => stW b5 0 [.bool t83, .string s84, .int .i64 n85] (fun w86 => lB w86 b5 0 fun t87 => lS w86 b5 1 fun s88 => lI w86 b5 2 fun n89 => R (.returned (.agg #[.bool t87, .string s88, .int .i64 n89])) w86) w82) w80) (lI w77 b55 2 fun n90 => stW b55 2 [.int .i64 (IntKind.wrap .i64 (n90 + 1))] (fun w91 => lI w91 b75 1 fun n92 => (slT s2 n67 n92) ∧ ∃ a93 l93 c93, ∃ w94, (Builtin.append_ #[22, 9] 22 #[.slice a66 l66 c66, .string (ByteArray.extract s2 (Int.toNat n67) (Int.toNat n92))]).run Try.prog w91 = .ok (.slice a93 l93 c93) w94 ∧ lB w94 b17 0 fun t95 => lI w94 b17 1 fun n96 => lL w94 b17 2 fun a97 l97 c97 => lB w94 b75 0 fun t98 => lI w94 b75 1 fun n99 => lI w94 b75 2 fun n100 => lL w94 b75 3 fun a101 l101 c101 => clS 103 ([.agg #[.bool t95, .int .i64 n96, .slice a97 l97 c97], .string s2, .agg #[.bool t98, .int .i64 n99, .int .i64 n100, .slice a101 l101 c101]]) w94 R fun s102 w103 => ∃ a105 l105 c105, ∃ w106, (Builtin.append_ #[22, 9] 22 #[.slice a93 l93 c93, .string s102]).run Try.prog w103 = .ok (.slice a105 l105 c105) w106 ∧ lI w106 b75 2 fun n107 => (∃ m108, m108 < k62 ∧ I61 m108 a105 l105 c105 n107 (IntKind.wrap .i64 (n68 + 1)) w106)) w77))) w76) w64) ((slA s2 n67) ∧ ∃ a109 l109 c109, ∃ w110, (Builtin.append_ #[22, 9] 22 #[.slice a66 l66 c66, .string (ByteArray.extract s2 (Int.toNat n67) (ByteArray.size s2))]).run Try.prog w64 = .ok (.slice a109 l109 c109) w110 ∧ ∃ s111, (convert 22 9 (.slice a109 l109 c109)).run Try.prog w110 = .ok (.string s111) w110 ∧ stW b55 1 [.string s111] (fun w112 => lB w112 b55 0 fun t113 => lS w112 b55 1 fun s114 => lI w112 b55 2 fun n115 => stW b5 0 [.bool t113, .string s114, .int .i64 n115] (fun w116 => lB w116 b5 0 fun t117 => lS w116 b5 1 fun s118 => lI w116 b5 2 fun n119 => R (.returned (.agg #[.bool t117, .string s118, .int .i64 n119])) w116) w112) w110))) w56) w37))))))))) w18) w15) w
def scr61 : Scr := (.q 1 (.q 8 (.q 4 (.run [0,1,2] (.split 29 (.r [3,4,5,6,7,8,9,10] (.lit (.q 2 .nil))) (.run [3,4,5,6,7] (.split 34 (.r [8,9,10] (.lit (.q 2 .nil))) (.r [8,9,10] (.cond (.q 2 .nil) (.q 4 (.loop [(42, some (.int .i64)), (13, none), (43, none), (44, none), (45, none), (46, none), (47, none), (48, none), (49, none), (50, none), (51, none), (52, none), (53, none), (54, none), (55, none)] (.q 1 (.cond (.q 4 (.q 8 (.cond (.q 2 .nil) (.q 2 .nil)))) (.q 3 (.q 1 (.q 1 (.q 4 (.loop [(15, some .slice), (16, some (.int .i64)), (60, some (.int .i64)), (18, none), (61, none), (62, none), (63, none), (64, none), (65, none), (66, none), (67, none), (68, none), (69, none), (70, none), (71, none), (72, none), (73, none), (74, none), (75, none), (76, none), (77, none), (78, none), (79, none), (80, none), (81, none), (82, none), (83, none), (84, none), (85, none), (86, none), (87, none)] (.q 1 (.cond (.q 4 (.q 4 (.cond (.q 6 (.q 4 (.q 2 .nil))) (.q 5 (.q 8 (.q 7 (.q 3 (.q 2 .nil)))))))) (.q 6 (.q 4 (.q 2 .nil)))))))))))))))))))))))
theorem vc61 {s1 s2 s3 n4} {R w} (h : V61 s1 s2 s3 n4 R w) : Cl Try.prog 61 [.string s1, .string s2, .string s3, .int .i64 n4] w R :=
  cl_of scr61 Try.func61 (by kernel_rfl) _ _ (by kernel_rfl) h
/-- impl.Replace -/
def V62 (s1 s2 s3 : ByteArray) (n4 : Int) (R : Rt) : Pred := fun w =>
  newC [.bool false, .string (⟨#[]⟩ : ByteArray), .int .i64 0] 68 (fun b5 w6 => clV 70 ([.string s1, .string s2]) w6 R fun r11 w10 => ∃ b7, ∃ o8, ∃ t9, r11 = .tuple #[.pointer (some ⟨b7, o8, none⟩), .bool t9] ∧ clV 104 ([.string s3]) w10 R fun r16 w15 => ∃ t12, ∃ n13, ∃ a14 l14 c14, r16 = .agg #[.bool t12, .int .i64 n13, .slice a14 l14 c14] ∧ newC [.bool false, .int .i64 0, .slice none 0 0] 118 (fun b17 w18 => stW b17 0 [.bool t12, .int .i64 n13, .slice a14 l14 c14] (fun w19 => (cB (!t9) (stW b5 0 [.bool false, .string (⟨#[]⟩ : ByteArray), .int .i64 0] (fun w20 => lB w20 b5 0 fun t21 => lS w20 b5 1 fun s22 => lI w20 b5 2 fun n23 => R (.returned (.agg #[.bool t21, .string s22, .int .i64 n23])) w20) w19) (lB w19 b17 0 fun t24 => (cB (!t24) (stW b5 0 [.bool false, .string (⟨#[]⟩ : ByteArray), .int .i64 0] (fun w25 => lB w25 b5 0 fun t26 => lS w25 b5 1 fun s27 => lI w25 b5 2 fun n28 => R (.returned (.agg #[.bool t26, .string s27, .int .i64 n28])) w25) w19) ((cB (decide (n4 < 0)) (stW b5 0 [.bool false, .string (⟨#[]⟩ : ByteArray), .int .i64 0] (fun w29 => lB w29 b5 0 fun t30 => lS w29 b5 1 fun s31 => lI w29 b5 2 fun n32 => R (.returned (.agg #[.bool t30, .string s31, .int .i64 n32])) w29) w19) (lL w19 b17 2 fun a33 l33 c33 => ∃ (I34 : Nat → Int → World → Prop), (∃ k36, I34 k36 0 w19) ∧ ∀ k35 (d38 : Nat → Value) n39 w37, I34 k35 n39 w37 → (cB (decide (n39 < ((l33 : Nat) : Int))) (ixS a33 l33 n39 fun b40 o41 => lI w37 b40 (o41 + (Int.toNat n39) * 2) fun n42 => lS w37 b40 (o41 + (Int.toNat n39) * 2 + 1) fun s43 => newC [.int .i64 0, .string (⟨#[]⟩ : ByteArray)] 121 (fun b44 w45 => stW b44 0 [.int .i64 n42, .string s43] (fun w46 => drw (fun w47 => lI w47 b44 0 fun n48 => lI w47 b7 (o8 + 2) fun n49 => (cB (decide (n48 > n49)) (stW b5 0 [.bool false, .string (⟨#[]⟩ : ByteArray), .int .i64 0] (fun w50 => lB w50 b5 0 fun t51 => lS w50 b5 1 fun s52 => lI w50 b5 2 fun n53 => R (.returned (.agg #[.bool t51, .string s52, .int .i64 n53])) w50) w47) ((∃ m54, m54 < k35 ∧ I34 m54 (IntKind.wrap .i64 (n39 + 1)) w47)))) w46) w45) w37) (clL 22 ([.string s1, .string s2]) w37 R fun a55 l55 c55 w56 => ∃ (I58 : Nat → ByteArray → Int → Int → Int → World → Prop), (∃ k60, I58 k60 (⟨#[]⟩ : ByteArray) 0 0 0 w56) ∧ ∀ k59 (d62 : Nat → Value) s63 n64 n65 n66 w61, I58 k59 s63 n64 n65 n66 w61 → (cB (decide (n66 < ((l55 : Nat) : Int))) (ixS a55 l55 n66 fun b67 o68 => lB w61 b67 (o68 + (Int.toNat n66) * 4) fun t69 => lI w61 b67 (o68 + (Int.toNat n66) * 4 + 1) fun n70 => lI w61 b67 (o68 + (Int.toNat n66) * 4 + 2) fun n71 => lL w61 b67 (o68 + (Int.toNat n66) * 4 + 3) fun a72 l72 c72 => newC [.bool false, .int .i64 0, .int .i64 0, .slice none 0 0] 29 (fun b73 w74 => stW b73 0 [.bool t69, .int .i64 n70, .int .i64 n71, .slice a72 l72 c72] (fun w75 => (cB (n65 == n4) ((slA s2 n64) ∧ (s63.size + (ByteArray.extract s2 (Int.toNat n64) (ByteArray.size s2)).size ≤ 9223372036854775807) ∧ stW b5 0 [.bool true, .string (s63 ++ (ByteArray.extract s2 (Int.toNat n64) (ByteArray.size s2))), .int .i64 n65] (fun w76 => lB w76 b5 0 fun t77 => lS w76 b5 1 fun s78 => lI w76 b5 2 fun n79 => R (.returned (.agg #[.bool t77, .string s78, .int .i64 n79])) w76) w75) (lI w75 b73 1 fun n80 => (slT s2 n64 n80) ∧ (s63.size + (ByteArray.extract s2 (Int.toNat n64) (Int.toNat n80)).size ≤ 9223372036854775807) ∧ lL w75 b17 2 fun a81 l81 c81 => ∃ (I82 : Nat → ByteArray → Int → World → Prop), (∃ k84, I82 k84 (s63 ++ (ByteArray.extract s2 (Int.toNat n64) (Int.toNat n80))) 0 w75) ∧ ∀ k83 (d86 : Nat → Value) s87 n88 w85, I82 k83 s87 n88 w85 → (cB (decide (n88 < ((l81 : Nat) : Int))) (ixS a81 l81 n88 fun b89 o90 => lI w85 b89 (o90 + (Int.toNat n88) * 2) fun n91 => lS w85 b89 (o90 + (Int.toNat n88) * 2 + 1) fun s92 => newC [.int .i64 0, .string (⟨#[]⟩ : ByteArray)] 121 (fun b93 w94 => stW b93 0 [.int .i64 n91, .string s92] (fun w95 => lI w95 b93 0 fun n96 => (cB (decide (n96 < 0)) (lS w95 b93 1 fun s97 => (s87.size + s97.size ≤ 9223372036854775807) ∧ (∃ m98, m98 < k83 ∧ I82 m98 (s87 ++ s97) (IntKind.wrap .i64 (n88 + 1)) w95)) (lI w95 b93 0 fun n99 => (cB (n99 == 0) (lI w95 b73 1 fun n100 => lI w95 b73 2 fun n101 => (slT s2 n100 n101) ∧ (s87.size + (ByteArray.extract s2 (Int.toNat n100) (Int.toNat n101)).size ≤ 9223372036854775807) ∧ (∃ m102, m102 < k83 ∧ I82 m102 (s87 ++ (ByteArray.extract s2 (Int.toNat n100) (Int.toNat n101))) (IntKind.wrap .i64 (n88 + 1)) w95)) (lL w95 b73 3 fun a103 l103 c103 => lI w95 b93 0 fun n104 => ixS a103 l103 (IntKind.wrap .i64 (n104 - 1)) fun b105 o106 => lI w95 b105 (o106 + (Int.toNat (IntKind.wrap .i64 (n104 - 1))) * 2) fun n107 => (cB (decide (n107 ≥ 0)) (lL w95 b73 3 fun a108 l108 c108 => lI w95 b93 0 fun n109 => ixS a108 l108 (IntKind.wrap .i64 (n109 - 1)) fun b110 o111 => lI w95 b110 (o111 + (Int.toNat (IntKind.wrap .i64 (n109 - 1))) * 2) fun n112 => lI w95 b110 (o111 + (Int.toNat (IntKind.wrap .i64 (n109 - 1))) * 2 + 1) fun n113 => newC [.int .i64 0, .int .i64 0] 31 (fun b114 w115 => stW b114 0 [.int .i64 n112, .int .i64 n113] (fun w116 => lI w116 b114 0 fun n117 => lI w116 b114 1 fun n118 => (slT s2 n117 n118) ∧ (s87.size + (ByteArray.extract s2 (Int.toNat n117) (Int.toNat n118)).size ≤ 9223372036854775807) ∧ (∃ m119, m119 < k83 ∧ I82 m119 (s87 ++ (ByteArray.extract s2 (Int.toNat n117) (Int.toNat n118))) (IntKind.wrap .i64 (n88 + 1)) w116)) w115) w95) ((∃ m120, m120 < k83 ∧ I82 m120 s87 (IntKind.wrap .i64 (n88 + 1)) w95)))))))) w94) w85) (lI w85 b73 2 fun n121 => (∃ m122, m122 < k59 ∧ I58 m122 s87 n121 (IntKind.wrap .i64 (n65 + 1)) (IntKind.wrap .i64 (n66 + 1)) w85)))))) w74) w61) ((slA s2 n64) ∧ (s63.size + (ByteArray.extract s2 (Int.toNat n64) (ByteArray.size s2)).size ≤ 9223372036854775807) ∧ stW b5 0 [.bool true, .string (s63 ++ (ByteArray.extract s2 (Int.toNat n64) (ByteArray.size s2))), .int .i64 n65] (fun w123 => lB w123 b5 0 fun t124 => lS w123 b5 1 fun s125 => lI w123 b5 2 fun n126 => R (.returned (.agg #[.bool t124, .string s125, .int .i64 n126])) w123) w61))))))))))) w18) w15) w
def scr62 : Scr := (.q 1 (.q 8 (.q 4 (.run [0,1,2] (.split 32 (.r [3,4,5,6,7,8,9,10] (.lit (.q 2 .nil))) (.run [3,4,5,6,7] (.split 37 (.r [8,9,10] (.lit (.q 2 .nil))) (.r [8,9,10] (.cond (.q 2 .nil) (.q 4 (.loop [(45, some (.int .i64)), (13, none), (46, none), (47, none), (48, none), (49, none), (50, none), (51, none), (52, none), (53, none), (54, none), (55, none), (56, none), (57, none), (58, none)] (.q 1 (.cond (.q 4 (.q 8 (.cond (.q 2 .nil) (.q 2 .nil)))) (.q 3 (.q 5 (.loop [(14, some .str), (15, some (.int .i64)), (16, some (.int .i64)), (63, some (.int .i64)), (18, none), (20, none), (21, none), (64, none), (65, none), (66, none), (67, none), (68, none), (69, none), (70, none), (71, none), (72, none), (73, none), (74, none), (75, none), (76, none), (77, none), (78, none), (79, none), (80, none), (81, none), (82, none), (83, none), (84, none), (85, none), (86, none), (87, none), (88, none), (89, none), (90, none), (91, none), (92, none), (93, none), (94, none), (95, none), (96, none), (97, none), (98, none), (99, none), (100, none), (101, none), (102, none), (103, none), (104, none), (105, none), (106, none), (107, none), (108, none), (109, none), (110, none), (111, none), (112, none), (113, none), (114, none), (115, none), (116, none), (117, none), (118, none), (119, none), (120, none), (121, none), (122, none), (123, none), (124, none), (125, none), (126, none), (127, none), (128, none), (129, none), (130, none), (131, none), (132, none), (133, none), (134, none)] (.q 1 (.cond (.q 4 (.q 3 (.cond (.q 8 .nil) (.q 3 (.q 8 (.q 4 (.loop [(14, some .str), (82, some (.int .i64)), (20, none), (21, none), (83, none), (84, none), (85, none), (86, none), (87, none), (88, none), (89, none), (90, none), (91, none), (92, none), (93, none), (94, none), (95, none), (96, none), (97, none), (98, none), (99, none), (100, none), (101, none), (102, none), (103, none), (104, none), (105, none), (106, none), (107, none), (108, none), (109, none), (110, none), (111, none), (112, none), (113, none), (114, none), (115, none), (116, none), (117, none), (118, none), (119, none), (120, none), (121, none), (122, none), (123, none), (124, none), (125, none), (126, none), (127, none), (128, none), (129, none), (130, none), (131, none)] (.q 1 (.cond (.q 4 (.q 4 (.cond (.q 5 (.q 2 .nil)) (.q 4 (.cond (.q 9 (.q 2 .nil)) (.q 10 (.cond (.q 9 (.q 9 (.q 2 .nil))) (.q 2 .nil)))))))) (.q 3 (.q 2 .nil))))))))))) (.q 8 .nil)))))))))))))))))))
theorem vc62 {s1 s2 s3 n4} {R w} (h : V62 s1 s2 s3 n4 R w) : Cl Try.prog 62 [.string s1, .string s2, .string s3, .int .i64 n4] w R :=
  cl_of scr62 Try.func62 (by kernel_rfl) _ _ (by kernel_rfl) h
/-- laws.eqReplaced -/
def V63 (t1 : Bool) (s2 : ByteArray) (n3 : Int) (t4 : Bool) (s5 : ByteArray) (n6 : Int) (R : Rt) : Pred := fun w =>
  newC [.bool t1, .string s2, .int .i64 n3] 68 (fun b7 w8 => newC [.bool t4, .string s5, .int .i64 n6] 68 (fun b9 w10 => lB w10 b7 0 fun t11 => lB w10 b9 0 fun t12 => (cB (!(t11 == t12)) (R (.returned (.bool false)) w10) (lS w10 b7 1 fun s13 => lS w10 b9 1 fun s14 => (cB (!(s13.toList == s14.toList)) (R (.returned (.bool false)) w10) (lI w10 b7 2 fun n15 => lI w10 b9 2 fun n16 => (cB (n15 != n16) (R (.returned (.bool false)) w10) (R (.returned (.bool true)) w10))))))) w8) w
def scr63 : Scr := (.q 3 (.q 5 (.cond (.q 1 .nil) (.q 5 (.cond (.q 1 .nil) (.q 5 (.cond (.q 1 .nil) (.q 1 .nil))))))))
theorem vc63 {t1 s2 n3 t4 s5 n6} {R w} (h : V63 t1 s2 n3 t4 s5 n6 R w) : Cl Try.prog 63 [.agg #[.bool t1, .string s2, .int .i64 n3], .agg #[.bool t4, .string s5, .int .i64 n6]] w R :=
  cl_of scr63 Try.func63 (by kernel_rfl) _ _ (by kernel_rfl) h
/-- spec.l4fill -/
def V103 (t1 : Bool) (n2 : Int) (a3 : Option Addr) (l3 c3 : Nat) (s4 : ByteArray) (t5 : Bool) (n6 n7 : Int) (a8 : Option Addr) (l8 c8 : Nat) (R : Rt) : Pred := fun w =>
  newC [.bool t1, .int .i64 n2, .slice a3 l3 c3] 118 (fun b9 w10 => newC [.bool t5, .int .i64 n6, .int .i64 n7, .slice a8 l8 c8] 29 (fun b11 w12 => lL w12 b9 2 fun a13 l13 c13 => ∃ (I14 : Nat → ByteArray → Int → World → Prop), (∃ k16, I14 k16 (⟨#[]⟩ : ByteArray) 0 w12) ∧ ∀ k15 (d18 : Nat → Value) s19 n20 w17, I14 k15 s19 n20 w17 → (cB (decide (n20 < ((l13 : Nat) : Int))) (ixS a13 l13 n20 fun b21 o22 => lI w17 b21 (o22 + (Int.toNat n20) * 2) fun n23 => lS w17 b21 (o22 + (Int.toNat n20) * 2 + 1) fun s24 => newC [.int .i64 0, .string (⟨#[]⟩ : ByteArray)] 121 (fun b25 w26 => stW b25 0 [.int .i64 n23, .string s24] (fun w27 => lI w27 b25 0 fun n28 => (cB (decide (n28 < 0)) (lS w27 b25 1 fun s29 => (s19.size + s29.size ≤ 9223372036854775807) ∧ (∃ m30, m30 < k15 ∧ I14 m30 (s19 ++ s29) (IntKind.wrap .i64 (n20 + 1)) w27)) (lI w27 b25 0 fun n31 => (cB (n31 == 0) (lI w27 b11 1 fun n32 => lI w27 b11 2 fun n33 => (slT s4 n32 n33) ∧ (s19.size + (ByteArray.extract s4 (Int.toNat n32) (Int.toNat n33)).size ≤ 9223372036854775807) ∧ (∃ m34, m34 < k15 ∧ I14 m34 (s19 ++ (ByteArray.extract s4 (Int.toNat n32) (Int.toNat n33))) (IntKind.wrap .i64 (n20 + 1)) w27)) (lL w27 b11 3 fun a35 l35 c35 => lI w27 b25 0 fun n36 => ixS a35 l35 (IntKind.wrap .i64 (n36 - 1)) fun b37 o38 => lI w27 b37 (o38 + (Int.toNat (IntKind.wrap .i64 (n36 - 1))) * 2) fun n39 => (cB (decide (n39 ≥ 0)) (drw (fun w40 => lL w40 b11 3 fun a41 l41 c41 => lI w40 b25 0 fun n42 => ixS a41 l41 (IntKind.wrap .i64 (n42 - 1)) fun b43 o44 => lI w40 b43 (o44 + (Int.toNat (IntKind.wrap .i64 (n42 - 1))) * 2) fun n45 => lL w40 b11 3 fun a46 l46 c46 => lI w40 b25 0 fun n47 => ixS a46 l46 (IntKind.wrap .i64 (n47 - 1)) fun b48 o49 => lI w40 b48 (o49 + (Int.toNat (IntKind.wrap .i64 (n47 - 1))) * 2 + 1) fun n50 => (slT s4 n45 n50) ∧ (s19.size + (ByteArray.extract s4 (Int.toNat n45) (Int.toNat n50)).size ≤ 9223372036854775807) ∧ (∃ m51, m51 < k15 ∧ I14 m51 (s19 ++ (ByteArray.extract s4 (Int.toNat n45) (Int.toNat n50))) (IntKind.wrap .i64 (n20 + 1)) w40)) w27) ((∃ m52, m52 < k15 ∧ I14 m52 s19 (IntKind.wrap .i64 (n20 + 1)) w27)))))))) w26) w17) (R (.returned (.string s19)) w17))) w10) w
def scr103 : Scr := (.q 3 (.q 1 (.q 4 (.loop [(7, some .str), (13, some (.int .i64)), (9, none), (14, none), (15, none), (16, none), (17, none), (18, none), (19, none), (20, none), (21, none), (22, none), (23, none), (24, none), (25, none), (26, none), (27, none), (28, none), (29, none), (30, none), (31, none), (32, none), (33, none), (34, none), (35, none), (36, none), (37, none), (38, none), (39, none), (40, none), (41, none), (42, none), (43, none), (44, none), (45, none), (46, none), (47, none), (48, none), (49, none), (50, none), (51, none), (52, none), (53, none), (54, none), (55, none), (56, none), (57, none), (58, none), (59, none), (60, none), (61, none), (62, none), (63, none), (64, none)] (.q 1 (.cond (.q 4 (.q 3 (.cond (.q 5 (.q 2 .nil)) (.q 3 (.cond (.q 9 (.q 2 .nil)) (.q 9 (.cond (.q 21 (.q 2 .nil)) (.q 2 .nil)))))))) (.q 2 .nil)))))))
theorem vc103 {t1 n2 a3 l3 c3 s4 t5 n6 n7 a8 l8 c8} {R w} (h : V103 t1 n2 a3 l3 c3 s4 t5 n6 n7 a8 l8 c8 R w) : Cl Try.prog 103 [.agg #[.bool t1, .int .i64 n2, .slice a3 l3 c3], .string s4, .agg #[.bool t5, .int .i64 n6, .int .i64 n7, .slice a8 l8 c8]] w R :=
  cl_of scr103 Try.func103 (by kernel_rfl) _ _ (by kernel_rfl) h
end Go.Proofs.Ytngbiaeliphdjaa.V
/- append of a string to a row of bytes. No statement of the seat is proved here. -/
namespace Go.Vc
open Go.RowKit
set_option linter.unusedVariables false
set_option linter.unusedSimpArgs false
theorem u8s_scal' (l : Bytes) : (u8s l).all scal = true := by simp [u8s, scal]
theorem u8s_append' (l m : Bytes) : u8s (l ++ m) = u8s l ++ u8s m := by simp [u8s]
theorem u8s_length' (l : Bytes) : (u8s l).length = l.length := by simp [u8s]
/-- append of a string's bytes to a row of bytes of our own. -/
theorem appendS_run {P : Program} {T T' T'' e : TypeId} {sz by_ : Nat} (hT : P.underlying T = some (.slice e)) (hT' : P.underlying T' = some .string) (hsz : sizeP P e = some sz)
    (hby : bytesP P e = some by_) (hz : zeroL P e ≠ none) (hzl : ∀ z, zeroL P e = some z → z.length = sz) {w : World} {a : Option Addr} {l c : Nat} {xs ys : List Value} {n : Nat} (hv : Vec w.heap e sz a l c xs)
    {s : ByteArray} (hn : n = s.size) (hsz1 : sz = 1) (hys : ys = u8s (L s))
    (hbd : (l + n) * by_ ≤ 70368744177664) (hln : l + n ≤ 70368744177664) :
    ∃ a2 c2 w', (Builtin.append_ #[T, T'] T'' #[.slice a l c, .string s]).run P w = .ok (.slice a2 (l + n) c2) w' ∧ Vec w'.heap e sz a2 (l + n) c2 (xs ++ ys) ∧
      Ext (fun k => blkOf a = some k) w w' ∧ (a2 = a ∨ a2 = some ⟨w.heap.size, 0, none⟩) := by
  obtain ⟨hxl, hlc, hrow⟩ := hv
  obtain ⟨i, hi, hib⟩ : ∃ i, P.info? e = some i ∧ i.bytes = by_ := by
    unfold bytesP at hby
    cases hp : P.info? e with
    | none => simp [hp] at hby
    | some i => exact ⟨i, rfl, by simpa [hp] using hby⟩
  obtain ⟨z, hz'⟩ : ∃ z, zeroL P e = some z := Option.ne_none_iff_exists'.1 hz
  obtain ⟨v, hv1, hv2⟩ := zero_run hz'
  have hzl' := hzl z hz'
  -- what is appended
  have hy : ys.length = n * sz := by rw [hys, hsz1, hn, Nat.mul_one, size_L]; simp [u8s]
  have hs : ys.all scal = true := by rw [hys]; exact u8s_scal' _
  have hnew : ∀ w' : World, (Builtin.firstCells sz n (.string s)).run P w' = .ok ⟨ys⟩ w' := by
    intro w'
    rw [hys, hn]
    have he : s.extract 0 s.size = s := L_inj (by rw [L_extract, List.drop_zero, Nat.sub_zero, size_L, List.take_length])
    have h1 : (Builtin.firstCells sz s.size (.string s)).run P w' = .ok ((s.extract 0 s.size).data.map fun b => .int .u8 b.toNat) w' := rfl
    rw [h1, he]
    congr 1
    apply Array.ext'
    simp [u8s, L]
  unfold Builtin.append_
  simp only [List.getElem?_toArray, List.getElem?_cons_zero, List.getElem?_cons_succ]
  rw [bind_run (underlying_run hT w)]
  simp only []
  rw [bind_run (sizeOf_run hsz w)]
  rw [bind_run (underlying_run hT' w)]
  simp only []
  rw [bind_run (run_pure P false w)]
  simp only [Bool.false_eq_true, if_false]
  rw [bind_run (show (Builtin.lenOf (.string s)).run P w = .ok n w from by rw [hn]; rfl)]
  simp only [Bool.not_false, if_true]
  by_cases hfit : l + n ≤ c
  · rw [if_pos hfit]
    rw [bind_run (hnew w)]
    rcases hrow with ⟨rfl, rfl⟩ | ⟨b, cs, rfl, hb, h4, h5⟩
    · have : l = 0 ∧ n = 0 := by omega
      obtain ⟨rfl, rfl⟩ := this
      have : ys = [] := by have := hy; simp at this; exact this
      subst this
      refine ⟨none, 0, w, rfl, ?_, Ext.refl _ _, .inl rfl⟩
      exact ⟨by simpa using hxl, Nat.le_refl _, .inl ⟨rfl, rfl⟩⟩
    · have hle : l * sz + ys.length ≤ cs.length := by
        rw [hy, h4, ← Nat.add_mul]; exact Nat.mul_le_mul_right _ hfit
      refine ⟨some ⟨b, 0, none⟩, c, setsW w b (l * sz) ys, ?_, ?_, ?_, .inl rfl⟩
      · simp only [add_spot, Nat.zero_add]
        rw [bind_run (storeCells_run ys 0 w hs (by rw [Nat.add_zero]; exact hb.wrL hle))]
        rfl
      · refine ⟨by rw [List.length_append, hxl, hy, Nat.add_mul], hfit, .inr ⟨b, segSet cs (l * sz) ys, rfl, hb.sets, by rw [segSet_length, h4], ?_⟩⟩
        rw [segSet_eq ys cs _ hle, h5, Nat.add_mul, ← hy, ← hxl]
        rw [← List.length_append, List.take_left']
        simp
      · exact Ext.vsets (S := fun k => blkOf (some ⟨b, 0, none⟩) = some k) (b := b) (.inl rfl) (Ext.refl _ _)
  · rw [if_neg hfit]
    have h1 : ¬ (((l + n : Nat) : Int) > IntKind.i64.max ∧ (False ∨ i.bytes = 0)) := by
      rw [i64_max]; omega
    rw [bind_run (bytes_le hi w)]
    simp only [h1, if_false]
    have h2 : ¬ (Builtin.nextslicecap (l + n) c * i.bytes > 2 ^ 48) := by
      have := nextslicecap_le (show c < l + n by omega)
      have h3 : Builtin.nextslicecap (l + n) c * i.bytes ≤ 2 * (l + n) * i.bytes := Nat.mul_le_mul_right _ this
      have h4 : 2 * (l + n) * i.bytes = 2 * ((l + n) * by_) := by rw [hib, Nat.mul_assoc]
      omega
    rw [bind_run (bytes_le hi w)]
    simp only [h2, if_false]
    obtain ⟨nc, hnc⟩ : ∃ nc, nc = (Question.appendCap (l + n) c e).cut (w.tape w.drawn (.appendCap (l + n) c e)) := ⟨_, rfl⟩
    have hch : (choose (.appendCap (l + n) c e)).run P w = .ok nc (drewW w) := by
      rw [hnc]; rfl
    have hge : l + n ≤ nc := by rw [hnc]; simp only [Question.cut]; omega
    rw [bind_run hch, bind_run (bytes_le hi (drewW w))]
    rw [bind_run (run_askRoom (w := drewW w) (P := P) (nc * i.bytes))]
    have hold : (Builtin.firstCells sz l (.slice a l c)).run P (drewW w) = .ok ⟨xs⟩ (drewW w) := by
      rcases hrow with ⟨rfl, rfl⟩ | ⟨b, cs, rfl, hb, h4, h5⟩
      · have : l = 0 := by omega
        subst this
        have : xs = [] := by have := hxl; simp at this; exact this
        subst this; rfl
      · have := loadCells_run (P := P) (w := drewW w) (b := b) (o := 0) (vs := xs) (hb.cellsAt (n := l * sz) (by simpa using h5) hxl.symm)
        rw [hxl] at this
        exact this
    rw [bind_run hold, bind_run (hnew (drewW w)), bind_run (hv2 (drewW w))]
    have hrest : Builtin.zeroCells v.cells (nc - (l + n)) = ⟨(Builtin.zeroCells v.cells (nc - (l + n))).toList⟩ := rfl
    have hrl : (Builtin.zeroCells v.cells (nc - (l + n))).toList.length = (nc - (l + n)) * sz := by
      simp [Builtin.zeroCells, hv1, hzl']
    generalize hr : (Builtin.zeroCells v.cells (nc - (l + n))).toList = rest at *
    have happ : (⟨xs⟩ ++ ⟨ys⟩ ++ Builtin.zeroCells v.cells (nc - (l + n)) : Array Value) = ⟨xs ++ ys ++ rest⟩ := by
      apply Array.toList_inj.1; simp [hr]
    rw [happ]
    refine ⟨some ⟨w.heap.size, 0, none⟩, nc, newW (drewW w) (.cells ⟨xs ++ ys ++ rest⟩ e), rfl, ?_, ?_, .inr rfl⟩
    · refine ⟨by rw [List.length_append, hxl, hy, Nat.add_mul], hge, .inr ⟨_, xs ++ ys ++ rest, rfl, Blk.new (drewW w) e _, ?_, ?_⟩⟩
      · rw [List.length_append, List.length_append, hxl, hy, hrl, ← Nat.add_mul, ← Nat.add_mul]; congr 1; omega
      · rw [Nat.add_mul, ← hxl, ← hy, ← List.length_append, List.take_left']; rfl
    · exact (Ext.refl _ w).vdrew.vnew _
end Go.Vc
/- Filling a template, on both sides; are its groups there? No statement of the seat is proved here. -/
namespace Go.Proofs.Ytngbiaeliphdjaa.V
open Go.Vc Go.Proofs Go.RowKit
set_option linter.unusedVariables false
set_option linter.unusedSimpArgs false
theorem fillLoopS {G b : Nat} {w1 : World} {t : ByteArray} {a : Option Addr} {l c : Nat} {bits : Bits} {m : Mt} {g : G3'} {out : Bytes} {s0 : ByteArray} (hs0 : s0 = B out) (hv : Vec w1.heap 121 2 a l c (bitsC bits)) (hbit : ∀ x ∈ bits, BitOk x ∧ x.1 ≤ (G : Int)) (hm : MtOk G (L t).length m.fr m) (hg : MOk w1 (m, g)) (hb : Blk w1.heap b 29 (mC (m, g))) (hl : bits.length ≤ 101) (hn : (L t).length ≤ 200) (ho : out.length ≤ 1000000000) {KK : ByteArray → World → Prop} (hK : ∀ w', Below w1.heap.size w1 w' → KK (B (out ++ fillP (L t) bits m)) w') :
    ∃ (I14 : Nat → ByteArray → Int → World → Prop), (∃ (k16 : Nat), I14 k16 s0 0 w1) ∧ ∀ (k15 : Nat) (d18 : Nat → Value) (s19 : ByteArray) (n20 : Int) (w17 : World), I14 k15 s19 n20 w17 → (((decide ((n20 : Int) < ((l : Nat) : Int))) = true → ∃ (b21 : Nat) (o22 : Nat), ((a : Option Addr) = some ⟨b21, o22, none⟩ ∧ 0 ≤ (n20 : Int) ∧ (n20 : Int) < ((l : Nat) : Int)) ∧ ∃ (n23 : Int), cellH w17.heap b21 (o22 + (Int.toNat n20) * 2) = some (.int .i64 n23) ∧ ∃ (s24 : ByteArray), cellH w17.heap b21 (o22 + (Int.toNat n20) * 2 + 1) = some (.string s24) ∧ newC [.int .i64 0, .string (⟨#[]⟩ : ByteArray)] 121 (fun (b25 : Nat) (w26 : World) => stW b25 0 [.int .i64 n23, .string s24] (fun (w27 : World) => ∃ (n28 : Int), cellH w27.heap b25 0 = some (.int .i64 n28) ∧ (((decide ((n28 : Int) < 0)) = true → ∃ (s29 : ByteArray), cellH w27.heap b25 1 = some (.string s29) ∧ (s19.size + s29.size ≤ 9223372036854775807) ∧ (∃ (m30 : Nat), m30 < k15 ∧ I14 m30 (s19 ++ s29) (IntKind.wrap .i64 (n20 + 1)) w27)) ∧ ((decide ((n28 : Int) < 0)) = false → ∃ (n31 : Int), cellH w27.heap b25 0 = some (.int .i64 n31) ∧ ((((n31 : Int) == 0) = true → ∃ (n32 : Int), cellH w27.heap b 1 = some (.int .i64 n32) ∧ ∃ (n33 : Int), cellH w27.heap b 2 = some (.int .i64 n33) ∧ (0 ≤ (n32 : Int) ∧ (n32 : Int) ≤ n33 ∧ (n33 : Int) ≤ ((ByteArray.size t : Nat) : Int)) ∧ (s19.size + (ByteArray.extract t (Int.toNat n32) (Int.toNat n33)).size ≤ 9223372036854775807) ∧ (∃ (m34 : Nat), m34 < k15 ∧ I14 m34 (s19 ++ (ByteArray.extract t (Int.toNat n32) (Int.toNat n33))) (IntKind.wrap .i64 (n20 + 1)) w27)) ∧ (((n31 : Int) == 0) = false → ∃ (a35 : Option Addr), ∃ (l35 : Nat), ∃ (c35 : Nat), cellH w27.heap b 3 = some (.slice a35 l35 c35) ∧ ∃ (n36 : Int), cellH w27.heap b25 0 = some (.int .i64 n36) ∧ ∃ (b37 : Nat) (o38 : Nat), ((a35 : Option Addr) = some ⟨b37, o38, none⟩ ∧ 0 ≤ (IntKind.wrap .i64 (n36 - 1) : Int) ∧ (IntKind.wrap .i64 (n36 - 1) : Int) < ((l35 : Nat) : Int)) ∧ ∃ (n39 : Int), cellH w27.heap b37 (o38 + (Int.toNat (IntKind.wrap .i64 (n36 - 1))) * 2) = some (.int .i64 n39) ∧ (((decide ((n39 : Int) ≥ 0)) = true → drw (fun (w40 : World) => ∃ (a41 : Option Addr), ∃ (l41 : Nat), ∃ (c41 : Nat), cellH w40.heap b 3 = some (.slice a41 l41 c41) ∧ ∃ (n42 : Int), cellH w40.heap b25 0 = some (.int .i64 n42) ∧ ∃ (b43 : Nat) (o44 : Nat), ((a41 : Option Addr) = some ⟨b43, o44, none⟩ ∧ 0 ≤ (IntKind.wrap .i64 (n42 - 1) : Int) ∧ (IntKind.wrap .i64 (n42 - 1) : Int) < ((l41 : Nat) : Int)) ∧ ∃ (n45 : Int), cellH w40.heap b43 (o44 + (Int.toNat (IntKind.wrap .i64 (n42 - 1))) * 2) = some (.int .i64 n45) ∧ ∃ (a46 : Option Addr), ∃ (l46 : Nat), ∃ (c46 : Nat), cellH w40.heap b 3 = some (.slice a46 l46 c46) ∧ ∃ (n47 : Int), cellH w40.heap b25 0 = some (.int .i64 n47) ∧ ∃ (b48 : Nat) (o49 : Nat), ((a46 : Option Addr) = some ⟨b48, o49, none⟩ ∧ 0 ≤ (IntKind.wrap .i64 (n47 - 1) : Int) ∧ (IntKind.wrap .i64 (n47 - 1) : Int) < ((l46 : Nat) : Int)) ∧ ∃ (n50 : Int), cellH w40.heap b48 (o49 + (Int.toNat (IntKind.wrap .i64 (n47 - 1))) * 2 + 1) = some (.int .i64 n50) ∧ (0 ≤ (n45 : Int) ∧ (n45 : Int) ≤ n50 ∧ (n50 : Int) ≤ ((ByteArray.size t : Nat) : Int)) ∧ (s19.size + (ByteArray.extract t (Int.toNat n45) (Int.toNat n50)).size ≤ 9223372036854775807) ∧ (∃ (m51 : Nat), m51 < k15 ∧ I14 m51 (s19 ++ (ByteArray.extract t (Int.toNat n45) (Int.toNat n50))) (IntKind.wrap .i64 (n20 + 1)) w40)) w27) ∧ ((decide ((n39 : Int) ≥ 0)) = false → (∃ (m52 : Nat), m52 < k15 ∧ I14 m52 s19 (IntKind.wrap .i64 (n20 + 1)) w27)))))))) w26) w17) ∧ ((decide ((n20 : Int) < ((l : Nat) : Int))) = false → KK s19 w17)) := by
  subst hs0
  have hsz := size_L t
  have hlen : l = bits.length := by have := hv.1; rw [bitsC_length] at this; omega
  have hfr := hm.lo
  have hto := hm.hi
  have hgl := hm.gs
  refine ⟨fun k s n w' => ∃ (A D : Bits), bits = A ++ D ∧ n = A.length ∧ k = D.length ∧ s = B (out ++ A.flatMap (fillB (L t) m)) ∧ Below w1.heap.size w1 w', ⟨_, [], bits, rfl, rfl, rfl, by simp, Below.refl _ _⟩, ?_⟩
  rintro k dd s n w2 ⟨A, D, hes, rfl, rfl, rfl, B2⟩
  have hel : bits.length = A.length + D.length := by rw [hes]; simp
  have e0 : Int.toNat (A.length : Int) = A.length := by omega
  have e1 : IntKind.wrap .i64 ((A.length : Int) + 1) = ((A.length + 1 : Nat) : Int) := by rw [w64 (by omega)]; omega
  rw [e0, e1]
  refine ⟨fun g1 => ?_, fun g1 => ?_⟩
  · have g' : A.length < l := by have := of_decide_eq_true g1; omega
    obtain ⟨x, D', rfl⟩ : ∃ x B', D = x :: B' := by
      cases D with
      | nil => simp only [List.length_nil] at hel; omega
      | cons x B' => exact ⟨x, B', rfl⟩
    have hx := hbit x (by rw [hes]; simp)
    have hA : ∀ y ∈ A, BitOk y := fun y hy => (hbit y (by rw [hes]; exact List.mem_append_left _ hy)).1
    have hfl := flat_len hn m hA
    have hfx := fillB_len hn hx.1 m
    have hat := bitsC_at bits A.length (by omega)
    have hbx : ∀ h, bits[A.length]'h = x := by intro h; rw [List.getElem_of_eq hes]; simp
    rw [hbx] at hat
    have v2 := hv.keep (S := fun _ => False) (Ext.of_below B2) fun _ _ h => h
    obtain ⟨ba, hba, hc⟩ := v2.open (by omega)
    refine ⟨ba, 0, ⟨hba, by omega, by omega⟩, x.1, by rw [Nat.zero_add, hc _ (by omega)]; exact hat.1, B x.2, by rw [Nat.zero_add, hc _ (by omega)]; exact hat.2, ?_⟩
    refine newC_in fun w3 s3 k3 e3 => ?_
    refine stW_in k3 (by show 0 + 2 ≤ 2; decide) fun w4 s4 k4 e4 => ?_
    have k4' : Blk w4.heap w2.heap.size 121 [.int .i64 x.1, .string (B x.2)] := k4
    have hz2 := B2.size
    have B4 : Below w1.heap.size w1 w4 := Ext.to (Ext.to B2 e3 fun _ h => h.elim) e4 fun i hi => by omega
    have kb4 := hb.below B4
    have hstep : ∀ {y : Bytes} {s : ByteArray}, fillB (L t) m x = y → s = B y → ((B (out ++ A.flatMap (fillB (L t) m))).size + s.size ≤ 9223372036854775807) ∧ (((A.length + 1 : Nat) : Int) = (A ++ [x]).length ∧ B (out ++ A.flatMap (fillB (L t) m)) ++ s = B (out ++ (A ++ [x]).flatMap (fillB (L t) m))) := by
      intro y s hy hs
      subst hs
      refine ⟨?_, by simp, ?_⟩
      · rw [size_B, size_B, List.length_append, ← hy]; omega
      · rw [B_append, List.flatMap_append, List.flatMap_cons, List.flatMap_nil, List.append_nil, hy, List.append_assoc]
    refine ⟨_, k4'.cell 0, fun g2 => ?_, fun g2 => ⟨_, k4'.cell 0, fun g3 => ?_, fun g3 => ?_⟩⟩
    · have g2' : x.1 < 0 := of_decide_eq_true g2
      have h := hstep (y := x.2) (by unfold fillB; rw [if_pos g2']) rfl
      exact ⟨_, k4'.cell 1, h.1, D'.length, by simp, A ++ [x], D', by rw [hes]; simp, h.2.1, rfl, h.2.2, B4⟩
    · have g3' : x.1 = 0 := by simpa using g3
      have h := hstep (y := sub_ (L t) m.fr m.to) (s := t.extract m.fr m.to) (by unfold fillB; rw [if_neg (by omega), if_pos g3']) (ext_B _ _ _)
      have hb1 : (0 : Int) ≤ (m.fr : Int) ∧ (m.fr : Int) ≤ (m.to : Int) ∧ (m.to : Int) ≤ ((ByteArray.size t : Nat) : Int) := ⟨by omega, by omega, by omega⟩
      have hb2 : (B (out ++ A.flatMap (fillB (L t) m))).size + (t.extract (Int.toNat (m.fr : Int)) (Int.toNat (m.to : Int))).size ≤ 9223372036854775807 := h.1
      have hb3 : B (out ++ A.flatMap (fillB (L t) m)) ++ t.extract (Int.toNat (m.fr : Int)) (Int.toNat (m.to : Int)) = B (out ++ (A ++ [x]).flatMap (fillB (L t) m)) := h.2.2
      exact ⟨_, kb4.cell 1, _, kb4.cell 2, hb1, hb2, D'.length, by simp, A ++ [x], D', by rw [hes]; simp, h.2.1, rfl, hb3, B4⟩
    · have g2' : ¬ x.1 < 0 := of_decide_eq_false g2
      have g3' : ¬ x.1 = 0 := by simpa using g3
      have hx2 := hx.2
      have ej : IntKind.wrap .i64 (x.1 - 1) = (((x.1 - 1).toNat : Nat) : Int) := by rw [w64 (by have := hx.1; unfold BitOk at this; omega)]; omega
      have hj : (x.1 - 1).toNat < m.gs.length := by omega
      have hfB : fillB (L t) m x = if 0 ≤ (m.gs.getD (x.1 - 1).toNat (-1, -1)).1 then sub_ (L t) (m.gs.getD (x.1 - 1).toNat (-1, -1)).1.toNat (m.gs.getD (x.1 - 1).toNat (-1, -1)).2.toNat else [] := by unfold fillB; rw [if_neg g2', if_neg g3']
      generalize (x.1 - 1).toNat = j at *
      have hgd : m.gs.getD j (-1, -1) = m.gs[j] := by rw [List.getD_eq_getElem?_getD, List.getElem?_eq_getElem hj]; rfl
      rw [hgd] at hfB
      have hgr := hm.gr _ (List.getElem_mem hj)
      have hgl2 : g.2.1 = m.gs.length := by have := hg.1; rw [rngC_length] at this; change m.gs.length * 2 = g.2.1 * 2 at this; omega
      have hix : Int.toNat (IntKind.wrap .i64 (x.1 - 1)) = j := by rw [ej]; omega
      have hib : 0 ≤ IntKind.wrap .i64 (x.1 - 1) ∧ IntKind.wrap .i64 (x.1 - 1) < ((g.2.1 : Nat) : Int) := by rw [ej]; omega
      have hgc : ∀ {w' : World}, Below w1.heap.size w1 w' → ∃ bg, g.1 = some ⟨bg, 0, none⟩ ∧ cellH w'.heap bg (0 + Int.toNat (IntKind.wrap .i64 (x.1 - 1)) * 2) = some (.int .i64 m.gs[j].1) ∧ cellH w'.heap bg (0 + Int.toNat (IntKind.wrap .i64 (x.1 - 1)) * 2 + 1) = some (.int .i64 m.gs[j].2) := fun {w'} B' => by
        rw [hix]
        have hg' : Vec w'.heap 31 2 g.1 g.2.1 g.2.2 (rngC m.gs) := hg.below B'
        obtain ⟨bg, hbg, hcg⟩ := hg'.open (by omega)
        have hr := rngC_at m.gs j hj
        exact ⟨bg, hbg, by rw [Nat.zero_add, hcg _ (by omega)]; exact hr.1, by rw [Nat.zero_add, hcg _ (by omega)]; exact hr.2⟩
      obtain ⟨bg, hbg, hc1, hc2⟩ := hgc B4
      refine ⟨_, _, _, kb4.cell 3, _, k4'.cell 0, bg, 0, ⟨hbg, hib.1, hib.2⟩, _, hc1, fun g4 => ?_, fun g4 => ?_⟩
      · have g4' : 0 ≤ m.gs[j].1 := of_decide_eq_true g4
        rcases hgr with hgr | ⟨f, e, hgr, h1, h2, h3⟩
        · rw [hgr] at g4'; simp at g4'
        · have ef : m.gs[j].1 = (f : Int) := by rw [hgr]
          have ee : m.gs[j].2 = (e : Int) := by rw [hgr]
          have h := hstep (y := sub_ (L t) f e) (s := t.extract f e) (by rw [hfB, if_pos g4', ef, ee]; rfl) (ext_B _ _ _)
          have hbnd : (0 ≤ m.gs[j].1 ∧ m.gs[j].1 ≤ m.gs[j].2 ∧ m.gs[j].2 ≤ ((ByteArray.size t : Nat) : Int)) ∧ ((B (out ++ A.flatMap (fillB (L t) m))).size + (t.extract (Int.toNat m.gs[j].1) (Int.toNat m.gs[j].2)).size ≤ 9223372036854775807) := by
            rw [ef, ee]
            exact ⟨⟨by omega, by omega, by omega⟩, h.1⟩
          have hnext : ((A.length + 1 : Nat) : Int) = (A ++ [x]).length ∧ B (out ++ A.flatMap (fillB (L t) m)) ++ t.extract (Int.toNat m.gs[j].1) (Int.toNat m.gs[j].2) = B (out ++ (A ++ [x]).flatMap (fillB (L t) m)) := by
            rw [ef, ee]; exact h.2
          refine drw_in fun w40 q40 e40 => ?_
          have k40 := k4'.keep e40 fun h => h
          have kb40 := kb4.keep e40 fun h => h
          have B40 : Below w1.heap.size w1 w40 := Ext.to B4 e40 fun _ h => h.elim
          obtain ⟨bg', hbg', hc1', hc2'⟩ := hgc B40
          exact ⟨_, _, _, kb40.cell 3, _, k40.cell 0, bg', 0, ⟨hbg', hib.1, hib.2⟩, _, hc1', _, _, _, kb40.cell 3, _, k40.cell 0, bg', 0, ⟨hbg', hib.1, hib.2⟩, _, hc2', hbnd.1, hbnd.2, D'.length, by simp, A ++ [x], D', by rw [hes]; simp, hnext.1, rfl, hnext.2, B40⟩
      · have g4' : ¬ 0 ≤ m.gs[j].1 := of_decide_eq_false g4
        have h := hstep (y := []) (s := B []) (by rw [hfB, if_neg g4']) rfl
        refine ⟨D'.length, by simp, A ++ [x], D', by rw [hes]; simp, h.2.1, rfl, ?_, B4⟩
        rw [← h.2.2, B_append, List.append_nil]
  · have g' : ¬ A.length < l := by have := of_decide_eq_false g1; omega
    have : D = [] := by
      cases D with
      | nil => rfl
      | cons x r => simp only [List.length_cons] at hel; omega
    subst this
    rw [List.append_nil] at hes
    subst hes
    exact hK w2 B2
theorem fillLoopI {G b : Nat} {w1 : World} {t : ByteArray} {a : Option Addr} {l c : Nat} {bits : Bits} {m : Mt} {g : G3'} {out : Bytes} {s0 : ByteArray} (hs0 : s0 = B out) (hv : Vec w1.heap 121 2 a l c (bitsC bits)) (hbit : ∀ x ∈ bits, BitOk x ∧ x.1 ≤ (G : Int)) (hm : MtOk G (L t).length m.fr m) (hg : MOk w1 (m, g)) (hb : Blk w1.heap b 29 (mC (m, g))) (hl : bits.length ≤ 101) (hn : (L t).length ≤ 200) (ho : out.length ≤ 1000000000) {KK : ByteArray → World → Prop} (hK : ∀ w', Below w1.heap.size w1 w' → KK (B (out ++ fillP (L t) bits m)) w') :
    ∃ (I82 : Nat → ByteArray → Int → World → Prop), (∃ (k84 : Nat), I82 k84 s0 0 w1) ∧ ∀ (k83 : Nat) (d86 : Nat → Value) (s87 : ByteArray) (n88 : Int) (w85 : World), I82 k83 s87 n88 w85 → (((decide ((n88 : Int) < ((l : Nat) : Int))) = true → ∃ (b89 : Nat) (o90 : Nat), ((a : Option Addr) = some ⟨b89, o90, none⟩ ∧ 0 ≤ (n88 : Int) ∧ (n88 : Int) < ((l : Nat) : Int)) ∧ ∃ (n91 : Int), cellH w85.heap b89 (o90 + (Int.toNat n88) * 2) = some (.int .i64 n91) ∧ ∃ (s92 : ByteArray), cellH w85.heap b89 (o90 + (Int.toNat n88) * 2 + 1) = some (.string s92) ∧ newC [.int .i64 0, .string (⟨#[]⟩ : ByteArray)] 121 (fun (b93 : Nat) (w94 : World) => stW b93 0 [.int .i64 n91, .string s92] (fun (w95 : World) => ∃ (n96 : Int), cellH w95.heap b93 0 = some (.int .i64 n96) ∧ (((decide ((n96 : Int) < 0)) = true → ∃ (s97 : ByteArray), cellH w95.heap b93 1 = some (.string s97) ∧ (s87.size + s97.size ≤ 9223372036854775807) ∧ (∃ (m98 : Nat), m98 < k83 ∧ I82 m98 (s87 ++ s97) (IntKind.wrap .i64 (n88 + 1)) w95)) ∧ ((decide ((n96 : Int) < 0)) = false → ∃ (n99 : Int), cellH w95.heap b93 0 = some (.int .i64 n99) ∧ ((((n99 : Int) == 0) = true → ∃ (n100 : Int), cellH w95.heap b 1 = some (.int .i64 n100) ∧ ∃ (n101 : Int), cellH w95.heap b 2 = some (.int .i64 n101) ∧ (0 ≤ (n100 : Int) ∧ (n100 : Int) ≤ n101 ∧ (n101 : Int) ≤ ((ByteArray.size t : Nat) : Int)) ∧ (s87.size + (ByteArray.extract t (Int.toNat n100) (Int.toNat n101)).size ≤ 9223372036854775807) ∧ (∃ (m102 : Nat), m102 < k83 ∧ I82 m102 (s87 ++ (ByteArray.extract t (Int.toNat n100) (Int.toNat n101))) (IntKind.wrap .i64 (n88 + 1)) w95)) ∧ (((n99 : Int) == 0) = false → ∃ (a103 : Option Addr), ∃ (l103 : Nat), ∃ (c103 : Nat), cellH w95.heap b 3 = some (.slice a103 l103 c103) ∧ ∃ (n104 : Int), cellH w95.heap b93 0 = some (.int .i64 n104) ∧ ∃ (b105 : Nat) (o106 : Nat), ((a103 : Option Addr) = some ⟨b105, o106, none⟩ ∧ 0 ≤ (IntKind.wrap .i64 (n104 - 1) : Int) ∧ (IntKind.wrap .i64 (n104 - 1) : Int) < ((l103 : Nat) : Int)) ∧ ∃ (n107 : Int), cellH w95.heap b105 (o106 + (Int.toNat (IntKind.wrap .i64 (n104 - 1))) * 2) = some (.int .i64 n107) ∧ (((decide ((n107 : Int) ≥ 0)) = true → ∃ (a108 : Option Addr), ∃ (l108 : Nat), ∃ (c108 : Nat), cellH w95.heap b 3 = some (.slice a108 l108 c108) ∧ ∃ (n109 : Int), cellH w95.heap b93 0 = some (.int .i64 n109) ∧ ∃ (b110 : Nat) (o111 : Nat), ((a108 : Option Addr) = some ⟨b110, o111, none⟩ ∧ 0 ≤ (IntKind.wrap .i64 (n109 - 1) : Int) ∧ (IntKind.wrap .i64 (n109 - 1) : Int) < ((l108 : Nat) : Int)) ∧ ∃ (n112 : Int), cellH w95.heap b110 (o111 + (Int.toNat (IntKind.wrap .i64 (n109 - 1))) * 2) = some (.int .i64 n112) ∧ ∃ (n113 : Int), cellH w95.heap b110 (o111 + (Int.toNat (IntKind.wrap .i64 (n109 - 1))) * 2 + 1) = some (.int .i64 n113) ∧ newC [.int .i64 0, .int .i64 0] 31 (fun (b114 : Nat) (w115 : World) => stW b114 0 [.int .i64 n112, .int .i64 n113] (fun (w116 : World) => ∃ (n117 : Int), cellH w116.heap b114 0 = some (.int .i64 n117) ∧ ∃ (n118 : Int), cellH w116.heap b114 1 = some (.int .i64 n118) ∧ (0 ≤ (n117 : Int) ∧ (n117 : Int) ≤ n118 ∧ (n118 : Int) ≤ ((ByteArray.size t : Nat) : Int)) ∧ (s87.size + (ByteArray.extract t (Int.toNat n117) (Int.toNat n118)).size ≤ 9223372036854775807) ∧ (∃ (m119 : Nat), m119 < k83 ∧ I82 m119 (s87 ++ (ByteArray.extract t (Int.toNat n117) (Int.toNat n118))) (IntKind.wrap .i64 (n88 + 1)) w116)) w115) w95) ∧ ((decide ((n107 : Int) ≥ 0)) = false → (∃ (m120 : Nat), m120 < k83 ∧ I82 m120 s87 (IntKind.wrap .i64 (n88 + 1)) w95)))))))) w94) w85) ∧ ((decide ((n88 : Int) < ((l : Nat) : Int))) = false → KK s87 w85)) := by
  subst hs0
  have hsz := size_L t
  have hlen : l = bits.length := by have := hv.1; rw [bitsC_length] at this; omega
  have hfr := hm.lo
  have hto := hm.hi
  have hgl := hm.gs
  refine ⟨fun k s n w' => ∃ (A D : Bits), bits = A ++ D ∧ n = A.length ∧ k = D.length ∧ s = B (out ++ A.flatMap (fillB (L t) m)) ∧ Below w1.heap.size w1 w', ⟨_, [], bits, rfl, rfl, rfl, by simp, Below.refl _ _⟩, ?_⟩
  rintro k dd s n w2 ⟨A, D, hes, rfl, rfl, rfl, B2⟩
  have hel : bits.length = A.length + D.length := by rw [hes]; simp
  have e0 : Int.toNat (A.length : Int) = A.length := by omega
  have e1 : IntKind.wrap .i64 ((A.length : Int) + 1) = ((A.length + 1 : Nat) : Int) := by rw [w64 (by omega)]; omega
  rw [e0, e1]
  refine ⟨fun g1 => ?_, fun g1 => ?_⟩
  · have g' : A.length < l := by have := of_decide_eq_true g1; omega
    obtain ⟨x, D', rfl⟩ : ∃ x B', D = x :: B' := by
      cases D with
      | nil => simp only [List.length_nil] at hel; omega
      | cons x B' => exact ⟨x, B', rfl⟩
    have hx := hbit x (by rw [hes]; simp)
    have hA : ∀ y ∈ A, BitOk y := fun y hy => (hbit y (by rw [hes]; exact List.mem_append_left _ hy)).1
    have hfl := flat_len hn m hA
    have hfx := fillB_len hn hx.1 m
    have hat := bitsC_at bits A.length (by omega)
    have hbx : ∀ h, bits[A.length]'h = x := by intro h; rw [List.getElem_of_eq hes]; simp
    rw [hbx] at hat
    have v2 := hv.keep (S := fun _ => False) (Ext.of_below B2) fun _ _ h => h
    obtain ⟨ba, hba, hc⟩ := v2.open (by omega)
    refine ⟨ba, 0, ⟨hba, by omega, by omega⟩, x.1, by rw [Nat.zero_add, hc _ (by omega)]; exact hat.1, B x.2, by rw [Nat.zero_add, hc _ (by omega)]; exact hat.2, ?_⟩
    refine newC_in fun w3 s3 k3 e3 => ?_
    refine stW_in k3 (by show 0 + 2 ≤ 2; decide) fun w4 s4 k4 e4 => ?_
    have k4' : Blk w4.heap w2.heap.size 121 [.int .i64 x.1, .string (B x.2)] := k4
    have hz2 := B2.size
    have B4 : Below w1.heap.size w1 w4 := Ext.to (Ext.to B2 e3 fun _ h => h.elim) e4 fun i hi => by omega
    have kb4 := hb.below B4
    have hstep : ∀ {y : Bytes} {s : ByteArray}, fillB (L t) m x = y → s = B y → ((B (out ++ A.flatMap (fillB (L t) m))).size + s.size ≤ 9223372036854775807) ∧ (((A.length + 1 : Nat) : Int) = (A ++ [x]).length ∧ B (out ++ A.flatMap (fillB (L t) m)) ++ s = B (out ++ (A ++ [x]).flatMap (fillB (L t) m))) := by
      intro y s hy hs
      subst hs
      refine ⟨?_, by simp, ?_⟩
      · rw [size_B, size_B, List.length_append, ← hy]; omega
      · rw [B_append, List.flatMap_append, List.flatMap_cons, List.flatMap_nil, List.append_nil, hy, List.append_assoc]
    refine ⟨_, k4'.cell 0, fun g2 => ?_, fun g2 => ⟨_, k4'.cell 0, fun g3 => ?_, fun g3 => ?_⟩⟩
    · have g2' : x.1 < 0 := of_decide_eq_true g2
      have h := hstep (y := x.2) (by unfold fillB; rw [if_pos g2']) rfl
      exact ⟨_, k4'.cell 1, h.1, D'.length, by simp, A ++ [x], D', by rw [hes]; simp, h.2.1, rfl, h.2.2, B4⟩
    · have g3' : x.1 = 0 := by simpa using g3
      have h := hstep (y := sub_ (L t) m.fr m.to) (s := t.extract m.fr m.to) (by unfold fillB; rw [if_neg (by omega), if_pos g3']) (ext_B _ _ _)
      have hb1 : (0 : Int) ≤ (m.fr : Int) ∧ (m.fr : Int) ≤ (m.to : Int) ∧ (m.to : Int) ≤ ((ByteArray.size t : Nat) : Int) := ⟨by omega, by omega, by omega⟩
      have hb2 : (B (out ++ A.flatMap (fillB (L t) m))).size + (t.extract (Int.toNat (m.fr : Int)) (Int.toNat (m.to : Int))).size ≤ 9223372036854775807 := h.1
      have hb3 : B (out ++ A.flatMap (fillB (L t) m)) ++ t.extract (Int.toNat (m.fr : Int)) (Int.toNat (m.to : Int)) = B (out ++ (A ++ [x]).flatMap (fillB (L t) m)) := h.2.2
      exact ⟨_, kb4.cell 1, _, kb4.cell 2, hb1, hb2, D'.length, by simp, A ++ [x], D', by rw [hes]; simp, h.2.1, rfl, hb3, B4⟩
    · have g2' : ¬ x.1 < 0 := of_decide_eq_false g2
      have g3' : ¬ x.1 = 0 := by simpa using g3
      have hx2 := hx.2
      have ej : IntKind.wrap .i64 (x.1 - 1) = (((x.1 - 1).toNat : Nat) : Int) := by rw [w64 (by have := hx.1; unfold BitOk at this; omega)]; omega
      have hj : (x.1 - 1).toNat < m.gs.length := by omega
      have hfB : fillB (L t) m x = if 0 ≤ (m.gs.getD (x.1 - 1).toNat (-1, -1)).1 then sub_ (L t) (m.gs.getD (x.1 - 1).toNat (-1, -1)).1.toNat (m.gs.getD (x.1 - 1).toNat (-1, -1)).2.toNat else [] := by unfold fillB; rw [if_neg g2', if_neg g3']
      generalize (x.1 - 1).toNat = j at *
      have hgd : m.gs.getD j (-1, -1) = m.gs[j] := by rw [List.getD_eq_getElem?_getD, List.getElem?_eq_getElem hj]; rfl
      rw [hgd] at hfB
      have hgr := hm.gr _ (List.getElem_mem hj)
      have hgl2 : g.2.1 = m.gs.length := by have := hg.1; rw [rngC_length] at this; change m.gs.length * 2 = g.2.1 * 2 at this; omega
      have hix : Int.toNat (IntKind.wrap .i64 (x.1 - 1)) = j := by rw [ej]; omega
      have hib : 0 ≤ IntKind.wrap .i64 (x.1 - 1) ∧ IntKind.wrap .i64 (x.1 - 1) < ((g.2.1 : Nat) : Int) := by rw [ej]; omega
      have hgc : ∀ {w' : World}, Below w1.heap.size w1 w' → ∃ bg, g.1 = some ⟨bg, 0, none⟩ ∧ cellH w'.heap bg (0 + Int.toNat (IntKind.wrap .i64 (x.1 - 1)) * 2) = some (.int .i64 m.gs[j].1) ∧ cellH w'.heap bg (0 + Int.toNat (IntKind.wrap .i64 (x.1 - 1)) * 2 + 1) = some (.int .i64 m.gs[j].2) := fun {w'} B' => by
        rw [hix]
        have hg' : Vec w'.heap 31 2 g.1 g.2.1 g.2.2 (rngC m.gs) := hg.below B'
        obtain ⟨bg, hbg, hcg⟩ := hg'.open (by omega)
        have hr := rngC_at m.gs j hj
        exact ⟨bg, hbg, by rw [Nat.zero_add, hcg _ (by omega)]; exact hr.1, by rw [Nat.zero_add, hcg _ (by omega)]; exact hr.2⟩
      obtain ⟨bg, hbg, hc1, hc2⟩ := hgc B4
      refine ⟨_, _, _, kb4.cell 3, _, k4'.cell 0, bg, 0, ⟨hbg, hib.1, hib.2⟩, _, hc1, fun g4 => ?_, fun g4 => ?_⟩
      · have g4' : 0 ≤ m.gs[j].1 := of_decide_eq_true g4
        rcases hgr with hgr | ⟨f, e, hgr, h1, h2, h3⟩
        · rw [hgr] at g4'; simp at g4'
        · have ef : m.gs[j].1 = (f : Int) := by rw [hgr]
          have ee : m.gs[j].2 = (e : Int) := by rw [hgr]
          have h := hstep (y := sub_ (L t) f e) (s := t.extract f e) (by rw [hfB, if_pos g4', ef, ee]; rfl) (ext_B _ _ _)
          have hbnd : (0 ≤ m.gs[j].1 ∧ m.gs[j].1 ≤ m.gs[j].2 ∧ m.gs[j].2 ≤ ((ByteArray.size t : Nat) : Int)) ∧ ((B (out ++ A.flatMap (fillB (L t) m))).size + (t.extract (Int.toNat m.gs[j].1) (Int.toNat m.gs[j].2)).size ≤ 9223372036854775807) := by
            rw [ef, ee]
            exact ⟨⟨by omega, by omega, by omega⟩, h.1⟩
          have hnext : ((A.length + 1 : Nat) : Int) = (A ++ [x]).length ∧ B (out ++ A.flatMap (fillB (L t) m)) ++ t.extract (Int.toNat m.gs[j].1) (Int.toNat m.gs[j].2) = B (out ++ (A ++ [x]).flatMap (fillB (L t) m)) := by
            rw [ef, ee]; exact h.2
          refine ⟨_, _, _, kb4.cell 3, _, k4'.cell 0, bg, 0, ⟨hbg, hib.1, hib.2⟩, _, hc1, _, hc2, ?_⟩
          refine newC_in fun w5 s5 k5 e5 => ?_
          refine stW_in k5 (by show 0 + 2 ≤ 2; decide) fun w6 s6 k6 e6 => ?_
          have hz4 := B4.size
          have B6 : Below w1.heap.size w1 w6 := Ext.to (Ext.to B4 e5 fun _ h => h.elim) e6 fun i hi => by omega
          exact ⟨_, k6.cell 0, _, k6.cell 1, hbnd.1, hbnd.2, D'.length, by simp, A ++ [x], D', by rw [hes]; simp, hnext.1, rfl, hnext.2, B6⟩
      · have g4' : ¬ 0 ≤ m.gs[j].1 := of_decide_eq_false g4
        have h := hstep (y := []) (s := B []) (by rw [hfB, if_neg g4']) rfl
        refine ⟨D'.length, by simp, A ++ [x], D', by rw [hes]; simp, h.2.1, rfl, ?_, B4⟩
        rw [← h.2.2, B_append, List.append_nil]
  · have g' : ¬ A.length < l := by have := of_decide_eq_false g1; omega
    have : D = [] := by
      cases D with
      | nil => rfl
      | cons x r => simp only [List.length_cons] at hel; omega
    subst this
    rw [List.append_nil] at hes
    subst hes
    exact hK w2 B2
theorem l4fill_ok {G : Nat} {w : World} {t : ByteArray} {t1 : Bool} {n2 : Int} {a : Option Addr} {l c : Nat} {bits : Bits} {m : Mt} {g : G3'} (hv : Vec w.heap 121 2 a l c (bitsC bits)) (hbit : ∀ x ∈ bits, BitOk x ∧ x.1 ≤ (G : Int)) (hm : MtOk G (L t).length m.fr m) (hg : MOk w (m, g)) (hl : bits.length ≤ 101) (hn : (L t).length ≤ 200) :
    Cl Try.prog 103 [.agg #[.bool t1, .int .i64 n2, .slice a l c], .string t, .agg ⟨mC (m, g)⟩] w (RetB (.string (B (fillP (L t) bits m))) w) := by
  refine vc103 (t1 := t1) (n2 := n2) (a3 := a) (l3 := l) (c3 := c) (s4 := t) (t5 := m.ok) (n6 := m.fr) (n7 := m.to) (a8 := g.1) (l8 := g.2.1) (c8 := g.2.2) ?_
  unfold V103
  refine newC_in fun w1 s1 k1 e1 => newC_in fun w2 s2 k2 e2 => ?_
  have B2 : Below w.heap.size w w2 := Ext.to (Ext.to (Below.refl _ _) e1 fun _ h => h.elim) e2 fun _ h => h.elim
  refine ⟨_, _, _, (k1.keep e2 fun h => h).cell 2, fillLoopS (out := []) rfl (hv.keep (S := fun _ => False) (Ext.of_below B2) fun _ _ h => h) hbit hm (hg.below B2) k2 hl hn (by simp) fun w' B' => ⟨?_, B2.vstep B'⟩⟩
  rw [List.nil_append]
/-- Are the groups there that a template asks for? -/
theorem checkLoop {G bm b : Nat} {w1 : World} {a : Option Addr} {l c : Nat} {bits : Bits} (hv : Vec w1.heap 121 2 a l c (bitsC bits)) (hl : bits.length ≤ 101) (hG : ∀ w', Below w1.heap.size w1 w' → cellH w'.heap bm (0 + 2) = some (.int .i64 (G : Int))) {R : Ending → World → Prop} {KK : World → Prop}
    (hno : ∀ w', Below w1.heap.size w1 w' → ¬ (∀ x ∈ bits, x.1 ≤ (G : Int)) → stW b 0 [.bool false, .string (⟨#[]⟩ : ByteArray), .int .i64 0] (fun (w50 : World) => ∃ (t51 : Bool), cellH w50.heap b 0 = some (.bool t51) ∧ ∃ (s52 : ByteArray), cellH w50.heap b 1 = some (.string s52) ∧ ∃ (n53 : Int), cellH w50.heap b 2 = some (.int .i64 n53) ∧ R (.returned (.agg #[.bool t51, .string s52, .int .i64 n53])) w50) w')
    (hK : ∀ w', Below w1.heap.size w1 w' → (∀ x ∈ bits, x.1 ≤ (G : Int)) → KK w') :
    ∃ (I34 : Nat → Int → World → Prop), (∃ (k36 : Nat), I34 k36 0 w1) ∧ ∀ (k35 : Nat) (d38 : Nat → Value) (n39 : Int) (w37 : World), I34 k35 n39 w37 → (((decide ((n39 : Int) < ((l : Nat) : Int))) = true → ∃ (b40 : Nat) (o41 : Nat), ((a : Option Addr) = some ⟨b40, o41, none⟩ ∧ 0 ≤ (n39 : Int) ∧ (n39 : Int) < ((l : Nat) : Int)) ∧ ∃ (n42 : Int), cellH w37.heap b40 (o41 + (Int.toNat n39) * 2) = some (.int .i64 n42) ∧ ∃ (s43 : ByteArray), cellH w37.heap b40 (o41 + (Int.toNat n39) * 2 + 1) = some (.string s43) ∧ newC [.int .i64 0, .string (⟨#[]⟩ : ByteArray)] 121 (fun (b44 : Nat) (w45 : World) => stW b44 0 [.int .i64 n42, .string s43] (fun (w46 : World) => drw (fun (w47 : World) => ∃ (n48 : Int), cellH w47.heap b44 0 = some (.int .i64 n48) ∧ ∃ (n49 : Int), cellH w47.heap bm (0 + 2) = some (.int .i64 n49) ∧ (((decide ((n48 : Int) > n49)) = true → stW b 0 [.bool false, .string (⟨#[]⟩ : ByteArray), .int .i64 0] (fun (w50 : World) => ∃ (t51 : Bool), cellH w50.heap b 0 = some (.bool t51) ∧ ∃ (s52 : ByteArray), cellH w50.heap b 1 = some (.string s52) ∧ ∃ (n53 : Int), cellH w50.heap b 2 = some (.int .i64 n53) ∧ R (.returned (.agg #[.bool t51, .string s52, .int .i64 n53])) w50) w47) ∧ ((decide ((n48 : Int) > n49)) = false → (∃ (m54 : Nat), m54 < k35 ∧ I34 m54 (IntKind.wrap .i64 (n39 + 1)) w47)))) w46) w45) w37) ∧ ((decide ((n39 : Int) < ((l : Nat) : Int))) = false → KK w37)) := by
  have hlen : l = bits.length := by have := hv.1; rw [bitsC_length] at this; omega
  refine ⟨fun k n w' => ∃ (A D : Bits), bits = A ++ D ∧ n = A.length ∧ k = D.length ∧ (∀ x ∈ A, x.1 ≤ (G : Int)) ∧ Below w1.heap.size w1 w', ⟨_, [], bits, rfl, rfl, rfl, by simp, Below.refl _ _⟩, ?_⟩
  rintro k dd n w2 ⟨A, D, hes, rfl, rfl, hA, B2⟩
  have hel : bits.length = A.length + D.length := by rw [hes]; simp
  have e0 : Int.toNat (A.length : Int) = A.length := by omega
  have e1 : IntKind.wrap .i64 ((A.length : Int) + 1) = ((A.length + 1 : Nat) : Int) := by rw [w64 (by omega)]; omega
  rw [e0, e1]
  refine ⟨fun g1 => ?_, fun g1 => ?_⟩
  · have g' : A.length < l := by have := of_decide_eq_true g1; omega
    obtain ⟨x, D', rfl⟩ : ∃ x B', D = x :: B' := by
      cases D with
      | nil => simp only [List.length_nil] at hel; omega
      | cons x B' => exact ⟨x, B', rfl⟩
    have hat := bitsC_at bits A.length (by omega)
    have hbx : ∀ h, bits[A.length]'h = x := by intro h; rw [List.getElem_of_eq hes]; simp
    rw [hbx] at hat
    have v2 := hv.keep (S := fun _ => False) (Ext.of_below B2) fun _ _ h => h
    obtain ⟨ba, hba, hc⟩ := v2.open (by omega)
    refine ⟨ba, 0, ⟨hba, by omega, by omega⟩, x.1, by rw [Nat.zero_add, hc _ (by omega)]; exact hat.1, B x.2, by rw [Nat.zero_add, hc _ (by omega)]; exact hat.2, ?_⟩
    refine newC_in fun w3 s3 k3 e3 => ?_
    refine stW_in k3 (by show 0 + 2 ≤ 2; decide) fun w4 s4 k4 e4 => ?_
    have k4' : Blk w4.heap w2.heap.size 121 [.int .i64 x.1, .string (B x.2)] := k4
    have hz2 := B2.size
    refine drw_in fun w5 q5 e5 => ?_
    have B5 : Below w1.heap.size w1 w5 := Ext.to (Ext.to (Ext.to B2 e3 fun _ h => h.elim) e4 fun i hi => by omega) e5 fun _ h => h.elim
    refine ⟨_, (k4'.keep e5 fun h => h).cell 0, _, hG w5 B5, fun g2 => ?_, fun g2 => ?_⟩
    · have g2' : x.1 > (G : Int) := of_decide_eq_true g2
      exact hno w5 B5 fun h => by have := h x (by rw [hes]; simp); omega
    · have g2' : ¬ x.1 > (G : Int) := of_decide_eq_false g2
      refine ⟨D'.length, by simp, A ++ [x], D', by rw [hes]; simp, by simp, rfl, fun y hy => ?_, B5⟩
      rcases List.mem_append.1 hy with hy | hy
      · exact hA y hy
      · rw [List.mem_singleton.1 hy]; omega
  · have g' : ¬ A.length < l := by have := of_decide_eq_false g1; omega
    have : D = [] := by
      cases D with
      | nil => rfl
      | cons x r => simp only [List.length_cons] at hel; omega
    subst this
    rw [List.append_nil] at hes
    subst hes
    exact hK w2 B2 hA
end Go.Proofs.Ytngbiaeliphdjaa.V
/- Replace on both sides gives one answer; the law. No statement of the seat is proved here. -/
namespace Go.Proofs.Ytngbiaeliphdjaa.V
open Go.Vc Go.Proofs Go.RowKit
set_option linter.unusedVariables false
set_option linter.unusedSimpArgs false
theorem seg3 {z : List Value} (hz : z.length = 3) (a b c : Value) : segSet z 0 [a, b, c] = [a, b, c] := by
  rw [segSet_eq _ _ _ (by rw [hz]; show 0 + 3 ≤ 3; decide), List.drop_of_length_le (by rw [hz]; show 3 ≤ 0 + 3; decide)]
  simp
/-- An answer is stored, and read. -/
theorem retRp_store {w w1 : World} {b : Nat} {z : List Value} (hz : z.length = 3) (k : Blk w1.heap b 68 z) (hb : w.heap.size ≤ b) (B1 : Below w.heap.size w w1) {r : Rp} {t : Bool} {s : ByteArray} {n : Int} (ht : t = r.ok) (hs : s = B r.text) (hn : n = (r.count : Int)) {R : Ending → World → Prop} (hR : ∀ e w', RetB r.val w e w' → R e w') :
    stW b 0 [.bool t, .string s, .int .i64 n] (fun (w50 : World) => ∃ (t51 : Bool), cellH w50.heap b 0 = some (.bool t51) ∧ ∃ (s52 : ByteArray), cellH w50.heap b 1 = some (.string s52) ∧ ∃ (n53 : Int), cellH w50.heap b 2 = some (.int .i64 n53) ∧ R (.returned (.agg #[.bool t51, .string s52, .int .i64 n53])) w50) w1 := by
  subst ht hs hn
  refine stW_in k (by rw [hz]; show 0 + 3 ≤ 3; decide) fun w2 s2 k2 e2 => ?_
  rw [seg3 hz] at k2
  exact ⟨_, k2.cell 0, _, k2.cell 1, _, k2.cell 2, hR _ _ ⟨rfl, Ext.to B1 e2 fun i hi => by omega⟩⟩
/-- A row of bytes becomes a string. -/
theorem conv_vec {w : World} {a : Option Addr} {l c : Nat} {out : Bytes} (h : Vec w.heap 5 1 a l c (u8s out)) : (convert 22 9 (.slice a l c)).run Try.prog w = .ok (.string (B out)) w := by
  obtain ⟨h1, h2, h3⟩ := h
  rw [u8s_length'] at h1
  rcases h3 with ⟨rfl, rfl⟩ | ⟨b, cs, rfl, hb, h4, h5⟩
  · have : out = [] := List.length_eq_zero_iff.1 (by omega)
    subst this
    exact conv_nil Try.underlying22 Try.underlying9 Try.underlying5
  · have hc : cellsAt w.heap b 0 (u8s out) := hb.cellsAt (n := l * 1) (by rw [List.drop_zero]; exact h5) (by rw [u8s_length']; omega)
    exact conv_run Try.underlying22 Try.underlying9 Try.underlying5 (by omega) hc
theorem appS {w : World} {a : Option Addr} {l c : Nat} {out : Bytes} {s : ByteArray} {y : Bytes} (hs : s = B y) (h : Vec w.heap 5 1 a l c (u8s out)) (hl : out.length + y.length ≤ 1000000000) :
    ∃ a2 c2 w', (Builtin.append_ #[22, 9] 22 #[.slice a l c, .string s]).run Try.prog w = .ok (.slice a2 (l + y.length) c2) w' ∧ Vec w'.heap 5 1 a2 (l + y.length) c2 (u8s (out ++ y)) ∧ Ext (fun k => blkOf a = some k) w w' ∧ (a2 = a ∨ a2 = some ⟨w.heap.size, 0, none⟩) := by
  have hll := h.1
  rw [u8s_length'] at hll
  have := appendS_run (P := Try.prog) (T := 22) (T' := 9) (T'' := 22) (e := 5) (sz := 1) (by_ := 1) (ys := u8s y) (n := y.length) Try.underlying22 Try.underlying9 (by kernel_rfl) (by kernel_rfl) (by rw [show zeroL Try.prog 5 = some [.int .u8 0] from by kernel_rfl]; simp) (by intro z hz; rw [show zeroL Try.prog 5 = some [.int .u8 0] from by kernel_rfl] at hz; cases hz; rfl) h (s := s) (by rw [hs, size_B]) rfl (by rw [hs, L_B]) (by omega) (by omega)
  rw [← u8s_append'] at this
  exact this
theorem implReplLoop {G N b bt : Nat} {w0 w1 : World} {t : ByteArray} {a : Option Addr} {l c : Nat} {es : List ME} {bits : Bits} {ta : Option Addr} {tl tc : Nat} {t1 : Bool} {n2 most : Int} {z : List Value} (hM : Ms N w1 a l c es) (B0 : Below w0.heap.size w0 w1) (hC : Chain G (L t).length 0 (es.map (·.1))) (hl : es.length ≤ 201) (hn : (L t).length ≤ 200)
    (kt : Blk w1.heap bt 118 [.bool t1, .int .i64 n2, .slice ta tl tc]) (hv : Vec w1.heap 121 2 ta tl tc (bitsC bits)) (hbit : ∀ x ∈ bits, BitOk x ∧ x.1 ≤ (G : Int)) (hbl : bits.length ≤ 101) (hz : z.length = 3) (kb : Blk w1.heap b 68 z) (hb : w0.heap.size ≤ b) {R : Ending → World → Prop}
    (hR : ∀ e w', RetB (Rp.val ⟨true, (replL (L t) bits most 0 0 [] (es.map (·.1))).1, (replL (L t) bits most 0 0 [] (es.map (·.1))).2⟩) w0 e w' → R e w') :
    ∃ (I58 : Nat → ByteArray → Int → Int → Int → World → Prop), (∃ (k60 : Nat), I58 k60 (⟨#[]⟩ : ByteArray) 0 0 0 w1) ∧ ∀ (k59 : Nat) (d62 : Nat → Value) (s63 : ByteArray) (n64 : Int) (n65 : Int) (n66 : Int) (w61 : World), I58 k59 s63 n64 n65 n66 w61 → (((decide ((n66 : Int) < ((l : Nat) : Int))) = true → ∃ (b67 : Nat) (o68 : Nat), ((a : Option Addr) = some ⟨b67, o68, none⟩ ∧ 0 ≤ (n66 : Int) ∧ (n66 : Int) < ((l : Nat) : Int)) ∧ ∃ (t69 : Bool), cellH w61.heap b67 (o68 + (Int.toNat n66) * 4) = some (.bool t69) ∧ ∃ (n70 : Int), cellH w61.heap b67 (o68 + (Int.toNat n66) * 4 + 1) = some (.int .i64 n70) ∧ ∃ (n71 : Int), cellH w61.heap b67 (o68 + (Int.toNat n66) * 4 + 2) = some (.int .i64 n71) ∧ ∃ (a72 : Option Addr), ∃ (l72 : Nat), ∃ (c72 : Nat), cellH w61.heap b67 (o68 + (Int.toNat n66) * 4 + 3) = some (.slice a72 l72 c72) ∧ newC [.bool false, .int .i64 0, .int .i64 0, .slice none 0 0] 29 (fun (b73 : Nat) (w74 : World) => stW b73 0 [.bool t69, .int .i64 n70, .int .i64 n71, .slice a72 l72 c72] (fun (w75 : World) => ((((n65 : Int) == most) = true → (0 ≤ (n64 : Int) ∧ (n64 : Int) ≤ ((ByteArray.size t : Nat) : Int)) ∧ (s63.size + (ByteArray.extract t (Int.toNat n64) (ByteArray.size t)).size ≤ 9223372036854775807) ∧ stW b 0 [.bool true, .string (s63 ++ (ByteArray.extract t (Int.toNat n64) (ByteArray.size t))), .int .i64 n65] (fun (w76 : World) => ∃ (t77 : Bool), cellH w76.heap b 0 = some (.bool t77) ∧ ∃ (s78 : ByteArray), cellH w76.heap b 1 = some (.string s78) ∧ ∃ (n79 : Int), cellH w76.heap b 2 = some (.int .i64 n79) ∧ R (.returned (.agg #[.bool t77, .string s78, .int .i64 n79])) w76) w75) ∧ (((n65 : Int) == most) = false → ∃ (n80 : Int), cellH w75.heap b73 1 = some (.int .i64 n80) ∧ (0 ≤ (n64 : Int) ∧ (n64 : Int) ≤ n80 ∧ (n80 : Int) ≤ ((ByteArray.size t : Nat) : Int)) ∧ (s63.size + (ByteArray.extract t (Int.toNat n64) (Int.toNat n80)).size ≤ 9223372036854775807) ∧ ∃ (a81 : Option Addr), ∃ (l81 : Nat), ∃ (c81 : Nat), cellH w75.heap bt 2 = some (.slice a81 l81 c81) ∧ ∃ (I82 : Nat → ByteArray → Int → World → Prop), (∃ (k84 : Nat), I82 k84 (s63 ++ (ByteArray.extract t (Int.toNat n64) (Int.toNat n80))) 0 w75) ∧ ∀ (k83 : Nat) (d86 : Nat → Value) (s87 : ByteArray) (n88 : Int) (w85 : World), I82 k83 s87 n88 w85 → (((decide ((n88 : Int) < ((l81 : Nat) : Int))) = true → ∃ (b89 : Nat) (o90 : Nat), ((a81 : Option Addr) = some ⟨b89, o90, none⟩ ∧ 0 ≤ (n88 : Int) ∧ (n88 : Int) < ((l81 : Nat) : Int)) ∧ ∃ (n91 : Int), cellH w85.heap b89 (o90 + (Int.toNat n88) * 2) = some (.int .i64 n91) ∧ ∃ (s92 : ByteArray), cellH w85.heap b89 (o90 + (Int.toNat n88) * 2 + 1) = some (.string s92) ∧ newC [.int .i64 0, .string (⟨#[]⟩ : ByteArray)] 121 (fun (b93 : Nat) (w94 : World) => stW b93 0 [.int .i64 n91, .string s92] (fun (w95 : World) => ∃ (n96 : Int), cellH w95.heap b93 0 = some (.int .i64 n96) ∧ (((decide ((n96 : Int) < 0)) = true → ∃ (s97 : ByteArray), cellH w95.heap b93 1 = some (.string s97) ∧ (s87.size + s97.size ≤ 9223372036854775807) ∧ (∃ (m98 : Nat), m98 < k83 ∧ I82 m98 (s87 ++ s97) (IntKind.wrap .i64 (n88 + 1)) w95)) ∧ ((decide ((n96 : Int) < 0)) = false → ∃ (n99 : Int), cellH w95.heap b93 0 = some (.int .i64 n99) ∧ ((((n99 : Int) == 0) = true → ∃ (n100 : Int), cellH w95.heap b73 1 = some (.int .i64 n100) ∧ ∃ (n101 : Int), cellH w95.heap b73 2 = some (.int .i64 n101) ∧ (0 ≤ (n100 : Int) ∧ (n100 : Int) ≤ n101 ∧ (n101 : Int) ≤ ((ByteArray.size t : Nat) : Int)) ∧ (s87.size + (ByteArray.extract t (Int.toNat n100) (Int.toNat n101)).size ≤ 9223372036854775807) ∧ (∃ (m102 : Nat), m102 < k83 ∧ I82 m102 (s87 ++ (ByteArray.extract t (Int.toNat n100) (Int.toNat n101))) (IntKind.wrap .i64 (n88 + 1)) w95)) ∧ (((n99 : Int) == 0) = false → ∃ (a103 : Option Addr), ∃ (l103 : Nat), ∃ (c103 : Nat), cellH w95.heap b73 3 = some (.slice a103 l103 c103) ∧ ∃ (n104 : Int), cellH w95.heap b93 0 = some (.int .i64 n104) ∧ ∃ (b105 : Nat) (o106 : Nat), ((a103 : Option Addr) = some ⟨b105, o106, none⟩ ∧ 0 ≤ (IntKind.wrap .i64 (n104 - 1) : Int) ∧ (IntKind.wrap .i64 (n104 - 1) : Int) < ((l103 : Nat) : Int)) ∧ ∃ (n107 : Int), cellH w95.heap b105 (o106 + (Int.toNat (IntKind.wrap .i64 (n104 - 1))) * 2) = some (.int .i64 n107) ∧ (((decide ((n107 : Int) ≥ 0)) = true → ∃ (a108 : Option Addr), ∃ (l108 : Nat), ∃ (c108 : Nat), cellH w95.heap b73 3 = some (.slice a108 l108 c108) ∧ ∃ (n109 : Int), cellH w95.heap b93 0 = some (.int .i64 n109) ∧ ∃ (b110 : Nat) (o111 : Nat), ((a108 : Option Addr) = some ⟨b110, o111, none⟩ ∧ 0 ≤ (IntKind.wrap .i64 (n109 - 1) : Int) ∧ (IntKind.wrap .i64 (n109 - 1) : Int) < ((l108 : Nat) : Int)) ∧ ∃ (n112 : Int), cellH w95.heap b110 (o111 + (Int.toNat (IntKind.wrap .i64 (n109 - 1))) * 2) = some (.int .i64 n112) ∧ ∃ (n113 : Int), cellH w95.heap b110 (o111 + (Int.toNat (IntKind.wrap .i64 (n109 - 1))) * 2 + 1) = some (.int .i64 n113) ∧ newC [.int .i64 0, .int .i64 0] 31 (fun (b114 : Nat) (w115 : World) => stW b114 0 [.int .i64 n112, .int .i64 n113] (fun (w116 : World) => ∃ (n117 : Int), cellH w116.heap b114 0 = some (.int .i64 n117) ∧ ∃ (n118 : Int), cellH w116.heap b114 1 = some (.int .i64 n118) ∧ (0 ≤ (n117 : Int) ∧ (n117 : Int) ≤ n118 ∧ (n118 : Int) ≤ ((ByteArray.size t : Nat) : Int)) ∧ (s87.size + (ByteArray.extract t (Int.toNat n117) (Int.toNat n118)).size ≤ 9223372036854775807) ∧ (∃ (m119 : Nat), m119 < k83 ∧ I82 m119 (s87 ++ (ByteArray.extract t (Int.toNat n117) (Int.toNat n118))) (IntKind.wrap .i64 (n88 + 1)) w116)) w115) w95) ∧ ((decide ((n107 : Int) ≥ 0)) = false → (∃ (m120 : Nat), m120 < k83 ∧ I82 m120 s87 (IntKind.wrap .i64 (n88 + 1)) w95)))))))) w94) w85) ∧ ((decide ((n88 : Int) < ((l81 : Nat) : Int))) = false → ∃ (n121 : Int), cellH w85.heap b73 2 = some (.int .i64 n121) ∧ (∃ (m122 : Nat), m122 < k59 ∧ I58 m122 s87 n121 (IntKind.wrap .i64 (n65 + 1)) (IntKind.wrap .i64 (n66 + 1)) w85)))))) w74) w61) ∧ ((decide ((n66 : Int) < ((l : Nat) : Int))) = false → (0 ≤ (n64 : Int) ∧ (n64 : Int) ≤ ((ByteArray.size t : Nat) : Int)) ∧ (s63.size + (ByteArray.extract t (Int.toNat n64) (ByteArray.size t)).size ≤ 9223372036854775807) ∧ stW b 0 [.bool true, .string (s63 ++ (ByteArray.extract t (Int.toNat n64) (ByteArray.size t))), .int .i64 n65] (fun (w123 : World) => ∃ (t124 : Bool), cellH w123.heap b 0 = some (.bool t124) ∧ ∃ (s125 : ByteArray), cellH w123.heap b 1 = some (.string s125) ∧ ∃ (n126 : Int), cellH w123.heap b 2 = some (.int .i64 n126) ∧ R (.returned (.agg #[.bool t124, .string s125, .int .i64 n126])) w123) w61)) := by
  have hsz := size_L t
  have hlen := hM.len
  refine ⟨fun k s p q m w' => ∃ (A D : List ME) (p' q' i : Nat) (out : Bytes), es = A ++ D ∧ m = A.length ∧ k = D.length ∧ p = p' ∧ q = q' ∧ s = B out ∧ q' ≤ A.length ∧ p' ≤ i ∧ p' ≤ (L t).length ∧ out.length ≤ 30000 * A.length ∧ Chain G (L t).length i (D.map (·.1)) ∧ replL (L t) bits most p' q' out (D.map (·.1)) = replL (L t) bits most 0 0 [] (es.map (·.1)) ∧ Below w1.heap.size w1 w', ⟨_, [], es, 0, 0, 0, [], rfl, rfl, rfl, rfl, rfl, rfl, Nat.le_refl _, Nat.le_refl _, Nat.zero_le _, by simp, hC, rfl, Below.refl _ _⟩, ?_⟩
  rintro k dd s p q m w2 ⟨A, D, p, q, i, out, hes, rfl, rfl, rfl, rfl, rfl, hqA, hpi, hpn, hout, hD, hsp, B2⟩
  have hel : es.length = A.length + D.length := by rw [hes]; simp
  have e0 : Int.toNat (A.length : Int) = A.length := by omega
  have e1 : IntKind.wrap .i64 ((A.length : Int) + 1) = ((A.length + 1 : Nat) : Int) := by rw [w64 (by omega)]; omega
  have eq1 : IntKind.wrap .i64 ((q : Int) + 1) = ((q + 1 : Nat) : Int) := by rw [w64 (by omega)]; omega
  have ep : Int.toNat (p : Int) = p := by omega
  rw [e0, e1, ep, eq1]
  have hsub := sub_len (L t)
  have hrest : ∀ {w' : World}, Below w1.heap.size w1 w' → (replL (L t) bits most 0 0 [] (es.map (·.1))) = (out ++ sub_ (L t) p (L t).length, q) → (0 ≤ (p : Int) ∧ (p : Int) ≤ ((ByteArray.size t : Nat) : Int)) ∧ ((B out).size + (ByteArray.extract t p (ByteArray.size t)).size ≤ 9223372036854775807) ∧ stW b 0 [.bool true, .string (B out ++ (ByteArray.extract t p (ByteArray.size t))), .int .i64 (q : Int)] (fun (w50 : World) => ∃ (t51 : Bool), cellH w50.heap b 0 = some (.bool t51) ∧ ∃ (s52 : ByteArray), cellH w50.heap b 1 = some (.string s52) ∧ ∃ (n53 : Int), cellH w50.heap b 2 = some (.int .i64 n53) ∧ R (.returned (.agg #[.bool t51, .string s52, .int .i64 n53])) w50) w' := by
    intro w' B' he
    rw [he] at hR
    refine ⟨⟨by omega, by omega⟩, ?_, retRp_store hz (kb.below B') hb (B0.vstep B') (r := ⟨true, out ++ sub_ (L t) p (L t).length, q⟩) rfl ?_ rfl hR⟩
    · rw [ext_B, size_B, size_B]; have := hsub p t.size; omega
    · rw [ext_B, B_append, hsz]
  refine ⟨fun g => ?_, fun g => ?_⟩
  · have g' : A.length < l := by have := of_decide_eq_true g; omega
    obtain ⟨e, D', rfl⟩ : ∃ x B', D = x :: B' := by
      cases D with
      | nil => simp only [List.length_nil] at hel; omega
      | cons x B' => exact ⟨x, B', rfl⟩
    rw [List.map_cons] at hD hsp
    obtain ⟨hi, hm, hr⟩ : i ≤ e.1.fr ∧ MtOk G (L t).length e.1.fr e.1 ∧ Chain G (L t).length (nextM e.1) (D'.map (·.1)) := by
      cases hD with
      | cons h1 h2 h3 => exact ⟨h1, h2, h3⟩
    have hlo := hm.lo
    have hhi := hm.hi
    have hnx : e.1.to ≤ nextM e.1 := by unfold nextM; split <;> omega
    have M2 := hM.below B2
    rw [hes] at M2
    obtain ⟨ba, hba, hc⟩ := M2.cells (i := A.length) (by simp)
    have hge : ∀ h, (A ++ e :: D')[A.length]'h = e := by intro h; simp
    rw [hge] at hc
    refine ⟨ba, 0, ⟨hba, by omega, by omega⟩, _, hc 0 (by decide), _, hc 1 (by decide), _, hc 2 (by decide), _, _, _, hc 3 (by decide), ?_⟩
    refine newC_in fun w3 s3 k3 e3 => ?_
    refine stW_in k3 (by show 0 + 4 ≤ 4; decide) fun w4 s4 k4 e4 => ?_
    have k4' : Blk w4.heap w2.heap.size 29 (mC e) := k4
    have hz2 := B2.size
    have B4 : Below w1.heap.size w1 w4 := Ext.to (Ext.to B2 e3 fun _ h => h.elim) e4 fun i hi => by omega
    have hm4 : MOk w4 e := by
      have M4 := hM.below B4
      exact M4.all e (by rw [hes]; simp)
    refine ⟨fun g2 => ?_, fun g2 => ?_⟩
    · have g2' : (q : Int) = most := by simpa using g2
      exact hrest B4 (by rw [← hsp, replL, if_pos g2'])
    · have g2' : ¬ (q : Int) = most := by simpa using g2
      refine ⟨_, k4'.cell 1, ⟨by omega, by omega, by omega⟩, ?_⟩
      rw [show Int.toNat (e.1.fr : Int) = e.1.fr from by omega, ext_B]
      have h1 := hsub p e.1.fr
      refine ⟨by rw [size_B, size_B]; omega, _, _, _, (kt.below B4).cell 2, ?_⟩
      have hfl := flat_len hn e.1 (bits := bits) fun b hb => (hbit b hb).1
      refine fillLoopI (G := G) (out := out ++ sub_ (L t) p e.1.fr) (g := e.2) (B_append _ _) (hv.keep (S := fun _ => False) (Ext.of_below B4) fun _ _ h => h) hbit hm hm4 k4' hbl hn (by rw [List.length_append]; omega) fun w' B' => ⟨_, (k4'.below B').cell 2, D'.length, by simp, A ++ [e], D', e.1.to, q + 1, nextM e.1, _, by rw [hes]; simp, by simp, rfl, rfl, rfl, rfl, by simp; omega, hnx, hhi, ?_, hr, ?_, B4.vstep B'⟩
      · unfold fillP
        rw [List.length_append, List.length_append, List.length_append]
        simp only [List.length_cons, List.length_nil]
        omega
      · rw [← hsp, replL, if_neg g2']
  · have g' : ¬ A.length < l := by have := of_decide_eq_false g; omega
    have : D = [] := by
      cases D with
      | nil => rfl
      | cons x r => simp only [List.length_cons] at hel; omega
    subst this
    exact hrest B2 (by rw [← hsp]; rfl)
theorem specReplLoop {G N b bt br : Nat} {w0 w1 : World} {t : ByteArray} {a : Option Addr} {l c : Nat} {es : List ME} {bits : Bits} {ta : Option Addr} {tl tc : Nat} {t1 : Bool} {n2 most : Int} {z : List Value} (hM : Ms N w1 a l c es) (B0 : Below w0.heap.size w0 w1) (hC : Chain G (L t).length 0 (es.map (·.1))) (hl : es.length ≤ 201) (hn : (L t).length ≤ 200)
    (kt : Blk w1.heap bt 118 [.bool t1, .int .i64 n2, .slice ta tl tc]) (hv : Vec w1.heap 121 2 ta tl tc (bitsC bits)) (hbit : ∀ x ∈ bits, BitOk x ∧ x.1 ≤ (G : Int)) (hbl : bits.length ≤ 101) (hz : z.length = 3) (kb : Blk w1.heap b 68 z) (hb : w0.heap.size ≤ b) (kr : Blk w1.heap br 68 [.bool true, .string (⟨#[]⟩ : ByteArray), .int .i64 0]) (hbr : w0.heap.size ≤ br) (hbb : b ≠ br) (hbt : bt ≠ br) (hbM : br ∉ mblks a es) (hbv : blkOf ta ≠ some br) {R : Ending → World → Prop}
    (hR : ∀ e w', RetB (Rp.val ⟨true, (replL (L t) bits most 0 0 [] (es.map (·.1))).1, (replL (L t) bits most 0 0 [] (es.map (·.1))).2⟩) w0 e w' → R e w') :
    ∃ (I61 : Nat → Option Addr → Nat → Nat → Int → Int → World → Prop), (∃ (k63 : Nat), I61 k63 none 0 0 0 0 w1) ∧ ∀ (k62 : Nat) (d65 : Nat → Value) (a66 : Option Addr) (l66 : Nat) (c66 : Nat) (n67 : Int) (n68 : Int) (w64 : World), I61 k62 a66 l66 c66 n67 n68 w64 → (((decide ((n68 : Int) < ((l : Nat) : Int))) = true → ∃ (b69 : Nat) (o70 : Nat), ((a : Option Addr) = some ⟨b69, o70, none⟩ ∧ 0 ≤ (n68 : Int) ∧ (n68 : Int) < ((l : Nat) : Int)) ∧ ∃ (t71 : Bool), cellH w64.heap b69 (o70 + (Int.toNat n68) * 4) = some (.bool t71) ∧ ∃ (n72 : Int), cellH w64.heap b69 (o70 + (Int.toNat n68) * 4 + 1) = some (.int .i64 n72) ∧ ∃ (n73 : Int), cellH w64.heap b69 (o70 + (Int.toNat n68) * 4 + 2) = some (.int .i64 n73) ∧ ∃ (a74 : Option Addr), ∃ (l74 : Nat), ∃ (c74 : Nat), cellH w64.heap b69 (o70 + (Int.toNat n68) * 4 + 3) = some (.slice a74 l74 c74) ∧ newC [.bool false, .int .i64 0, .int .i64 0, .slice none 0 0] 29 (fun (b75 : Nat) (w76 : World) => stW b75 0 [.bool t71, .int .i64 n72, .int .i64 n73, .slice a74 l74 c74] (fun (w77 : World) => ∃ (n78 : Int), cellH w77.heap br 2 = some (.int .i64 n78) ∧ ((((n78 : Int) == most) = true → (0 ≤ (n67 : Int) ∧ (n67 : Int) ≤ ((ByteArray.size t : Nat) : Int)) ∧ ∃ (a79 : Option Addr), ∃ (l79 : Nat), ∃ (c79 : Nat), ∃ (w80 : World), (Builtin.append_ #[22, 9] 22 #[.slice a66 l66 c66, .string (ByteArray.extract t (Int.toNat n67) (ByteArray.size t))]).run Try.prog w77 = .ok (.slice a79 l79 c79) w80 ∧ ∃ (s81 : ByteArray), (convert 22 9 (.slice a79 l79 c79)).run Try.prog w80 = .ok (.string s81) w80 ∧ stW br 1 [.string s81] (fun (w82 : World) => ∃ (t83 : Bool), cellH w82.heap br 0 = some (.bool t83) ∧ ∃ (s84 : ByteArray), cellH w82.heap br 1 = some (.string s84) ∧ ∃ (n85 : Int), cellH w82.heap br 2 = some (.int .i64 n85) ∧ stW b 0 [.bool t83, .string s84, .int .i64 n85] (fun (w86 : World) => ∃ (t87 : Bool), cellH w86.heap b 0 = some (.bool t87) ∧ ∃ (s88 : ByteArray), cellH w86.heap b 1 = some (.string s88) ∧ ∃ (n89 : Int), cellH w86.heap b 2 = some (.int .i64 n89) ∧ R (.returned (.agg #[.bool t87, .string s88, .int .i64 n89])) w86) w82) w80) ∧ (((n78 : Int) == most) = false → ∃ (n90 : Int), cellH w77.heap br 2 = some (.int .i64 n90) ∧ stW br 2 [.int .i64 (IntKind.wrap .i64 (n90 + 1))] (fun (w91 : World) => ∃ (n92 : Int), cellH w91.heap b75 1 = some (.int .i64 n92) ∧ (0 ≤ (n67 : Int) ∧ (n67 : Int) ≤ n92 ∧ (n92 : Int) ≤ ((ByteArray.size t : Nat) : Int)) ∧ ∃ (a93 : Option Addr), ∃ (l93 : Nat), ∃ (c93 : Nat), ∃ (w94 : World), (Builtin.append_ #[22, 9] 22 #[.slice a66 l66 c66, .string (ByteArray.extract t (Int.toNat n67) (Int.toNat n92))]).run Try.prog w91 = .ok (.slice a93 l93 c93) w94 ∧ ∃ (t95 : Bool), cellH w94.heap bt 0 = some (.bool t95) ∧ ∃ (n96 : Int), cellH w94.heap bt 1 = some (.int .i64 n96) ∧ ∃ (a97 : Option Addr), ∃ (l97 : Nat), ∃ (c97 : Nat), cellH w94.heap bt 2 = some (.slice a97 l97 c97) ∧ ∃ (t98 : Bool), cellH w94.heap b75 0 = some (.bool t98) ∧ ∃ (n99 : Int), cellH w94.heap b75 1 = some (.int .i64 n99) ∧ ∃ (n100 : Int), cellH w94.heap b75 2 = some (.int .i64 n100) ∧ ∃ (a101 : Option Addr), ∃ (l101 : Nat), ∃ (c101 : Nat), cellH w94.heap b75 3 = some (.slice a101 l101 c101) ∧ Cl Try.prog 103 ([.agg #[.bool t95, .int .i64 n96, .slice a97 l97 c97], .string t, .agg #[.bool t98, .int .i64 n99, .int .i64 n100, .slice a101 l101 c101]]) w94 (retG (fun (r104 : Value) (w103 : World) => ∃ (s102 : ByteArray), r104 = .string s102 ∧ ∃ (a105 : Option Addr), ∃ (l105 : Nat), ∃ (c105 : Nat), ∃ (w106 : World), (Builtin.append_ #[22, 9] 22 #[.slice a93 l93 c93, .string s102]).run Try.prog w103 = .ok (.slice a105 l105 c105) w106 ∧ ∃ (n107 : Int), cellH w106.heap b75 2 = some (.int .i64 n107) ∧ (∃ (m108 : Nat), m108 < k62 ∧ I61 m108 a105 l105 c105 n107 (IntKind.wrap .i64 (n68 + 1)) w106)) (fun c1 w1' => R (.panicked c1) w1'))) w77))) w76) w64) ∧ ((decide ((n68 : Int) < ((l : Nat) : Int))) = false → (0 ≤ (n67 : Int) ∧ (n67 : Int) ≤ ((ByteArray.size t : Nat) : Int)) ∧ ∃ (a109 : Option Addr), ∃ (l109 : Nat), ∃ (c109 : Nat), ∃ (w110 : World), (Builtin.append_ #[22, 9] 22 #[.slice a66 l66 c66, .string (ByteArray.extract t (Int.toNat n67) (ByteArray.size t))]).run Try.prog w64 = .ok (.slice a109 l109 c109) w110 ∧ ∃ (s111 : ByteArray), (convert 22 9 (.slice a109 l109 c109)).run Try.prog w110 = .ok (.string s111) w110 ∧ stW br 1 [.string s111] (fun (w112 : World) => ∃ (t113 : Bool), cellH w112.heap br 0 = some (.bool t113) ∧ ∃ (s114 : ByteArray), cellH w112.heap br 1 = some (.string s114) ∧ ∃ (n115 : Int), cellH w112.heap br 2 = some (.int .i64 n115) ∧ stW b 0 [.bool t113, .string s114, .int .i64 n115] (fun (w116 : World) => ∃ (t117 : Bool), cellH w116.heap b 0 = some (.bool t117) ∧ ∃ (s118 : ByteArray), cellH w116.heap b 1 = some (.string s118) ∧ ∃ (n119 : Int), cellH w116.heap b 2 = some (.int .i64 n119) ∧ R (.returned (.agg #[.bool t117, .string s118, .int .i64 n119])) w116) w112) w110)) := by
  have hsz := size_L t
  have hlen := hM.len
  have hbrl := kr.lt
  refine ⟨fun k ma ml mc p m w' => ∃ (A D : List ME) (p' q' i : Nat) (out : Bytes), es = A ++ D ∧ m = A.length ∧ k = D.length ∧ p = p' ∧ q' ≤ A.length ∧ p' ≤ i ∧ p' ≤ (L t).length ∧ out.length ≤ 30000 * A.length ∧ Chain G (L t).length i (D.map (·.1)) ∧ replL (L t) bits most p' q' out (D.map (·.1)) = replL (L t) bits most 0 0 [] (es.map (·.1)) ∧ Vec w'.heap 5 1 ma ml mc (u8s out) ∧ (∀ k, blkOf ma = some k → w1.heap.size ≤ k) ∧ Blk w'.heap br 68 [.bool true, .string (⟨#[]⟩ : ByteArray), .int .i64 (q' : Int)] ∧ Ext (fun x => x = br) w1 w', ⟨_, [], es, 0, 0, 0, [], rfl, rfl, rfl, rfl, Nat.le_refl _, Nat.le_refl _, Nat.zero_le _, by simp, hC, rfl, Vec.nil _ _ _, (by intro k hk; cases hk), kr, Ext.refl _ _⟩, ?_⟩
  rintro k dd ma ml mc p m w2 ⟨A, D, p, q, i, out, hes, rfl, rfl, rfl, hqA, hpi, hpn, hout, hD, hsp, v2, hma, kr2, E2⟩
  have hel : es.length = A.length + D.length := by rw [hes]; simp
  have e0 : Int.toNat (A.length : Int) = A.length := by omega
  have e1 : IntKind.wrap .i64 ((A.length : Int) + 1) = ((A.length + 1 : Nat) : Int) := by rw [w64 (by omega)]; omega
  have eq1 : IntKind.wrap .i64 ((q : Int) + 1) = ((q + 1 : Nat) : Int) := by rw [w64 (by omega)]; omega
  have ep : Int.toNat (p : Int) = p := by omega
  rw [e0, e1, ep]
  have hsub := sub_len (L t)
  have hz0 := B0.size
  have hz2 := E2.size
  have hml : ml = out.length := by have := v2.1; rw [u8s_length'] at this; omega
  have hrest : ∀ {w' : World}, Ext (fun _ => False) w2 w' → (replL (L t) bits most 0 0 [] (es.map (·.1))) = (out ++ sub_ (L t) p (L t).length, q) → (0 ≤ (p : Int) ∧ (p : Int) ≤ ((ByteArray.size t : Nat) : Int)) ∧ ∃ (a109 : Option Addr), ∃ (l109 : Nat), ∃ (c109 : Nat), ∃ (w110 : World), (Builtin.append_ #[22, 9] 22 #[.slice ma ml mc, .string (ByteArray.extract t p (ByteArray.size t))]).run Try.prog w' = .ok (.slice a109 l109 c109) w110 ∧ ∃ (s111 : ByteArray), (convert 22 9 (.slice a109 l109 c109)).run Try.prog w110 = .ok (.string s111) w110 ∧ stW br 1 [.string s111] (fun (w112 : World) => ∃ (t113 : Bool), cellH w112.heap br 0 = some (.bool t113) ∧ ∃ (s114 : ByteArray), cellH w112.heap br 1 = some (.string s114) ∧ ∃ (n115 : Int), cellH w112.heap br 2 = some (.int .i64 n115) ∧ stW b 0 [.bool t113, .string s114, .int .i64 n115] (fun (w116 : World) => ∃ (t117 : Bool), cellH w116.heap b 0 = some (.bool t117) ∧ ∃ (s118 : ByteArray), cellH w116.heap b 1 = some (.string s118) ∧ ∃ (n119 : Int), cellH w116.heap b 2 = some (.int .i64 n119) ∧ R (.returned (.agg #[.bool t117, .string s118, .int .i64 n119])) w116) w112) w110 := by
    intro w' E' he
    rw [he] at hR
    refine ⟨⟨by omega, by omega⟩, ?_⟩
    have h1 := hsub p t.size
    obtain ⟨a3, c3, w5, q1, q2, q3, _⟩ := appS (ext_B t p t.size) (v2.keep E' fun _ _ h => h) (by omega)
    refine ⟨a3, _, c3, w5, q1, _, conv_vec q2, ?_⟩
    have k5 := (kr2.keep E' fun h => h).keep q3 fun h => by have := hma br h; omega
    refine stW_in k5 (by show 1 + 1 ≤ 3; decide) fun w6 s6 k6 e6 => ?_
    refine ⟨_, k6.cell 0, _, k6.cell 1, _, k6.cell 2, ?_⟩
    have E6 : Ext (fun x => x = br) w1 w6 := ((E2.trans (Ext.mono E' fun _ _ h => h.elim)).step q3 fun i hi hk => by have := hma i hk; omega).trans e6
    exact retRp_store hz (kb.keep E6 hbb) hb (Ext.to B0 E6 fun i hi => by omega) (r := ⟨true, out ++ sub_ (L t) p (L t).length, q⟩) rfl (by rw [hsz]) rfl hR
  refine ⟨fun g => ?_, fun g => ?_⟩
  · have g' : A.length < l := by have := of_decide_eq_true g; omega
    obtain ⟨e, D', rfl⟩ : ∃ x B', D = x :: B' := by
      cases D with
      | nil => simp only [List.length_nil] at hel; omega
      | cons x B' => exact ⟨x, B', rfl⟩
    rw [List.map_cons] at hD hsp
    obtain ⟨hi, hm, hr⟩ : i ≤ e.1.fr ∧ MtOk G (L t).length e.1.fr e.1 ∧ Chain G (L t).length (nextM e.1) (D'.map (·.1)) := by
      cases hD with
      | cons h1 h2 h3 => exact ⟨h1, h2, h3⟩
    have hlo := hm.lo
    have hhi := hm.hi
    have hnx : e.1.to ≤ nextM e.1 := by unfold nextM; split <;> omega
    have M2 : Ms N w2 a l c es := hM.keep E2 fun k hk h => hbM (h ▸ hk)
    rw [hes] at M2
    obtain ⟨ba, hba, hc⟩ := M2.cells (i := A.length) (by simp)
    have hge : ∀ h, (A ++ e :: D')[A.length]'h = e := by intro h; simp
    rw [hge] at hc
    refine ⟨ba, 0, ⟨hba, by omega, by omega⟩, _, hc 0 (by decide), _, hc 1 (by decide), _, hc 2 (by decide), _, _, _, hc 3 (by decide), ?_⟩
    refine newC_in fun w3 s3 k3 e3 => ?_
    refine stW_in k3 (by show 0 + 4 ≤ 4; decide) fun w4 s4 k4 e4 => ?_
    have k4' : Blk w4.heap w2.heap.size 29 (mC e) := k4
    have B4 : Below w2.heap.size w2 w4 := Ext.to (Ext.to (Below.refl _ _) e3 fun _ h => h.elim) e4 fun i hi => by omega
    have kr4 := kr2.below B4
    refine ⟨_, kr4.cell 2, fun g2 => ?_, fun g2 => ?_⟩
    · have g2' : (q : Int) = most := by simpa using g2
      exact hrest (Ext.of_below B4) (by rw [← hsp, replL, if_pos g2'])
    · have g2' : ¬ (q : Int) = most := by simpa using g2
      refine ⟨_, kr4.cell 2, ?_⟩
      rw [eq1]
      refine stW_in kr4 (by show 2 + 1 ≤ 3; decide) fun w5 s5 k5 e5 => ?_
      have k5' : Blk w5.heap br 68 [.bool true, .string (⟨#[]⟩ : ByteArray), .int .i64 ((q + 1 : Nat) : Int)] := k5
      have hkb : w2.heap.size ≠ br := by omega
      have km5 := k4'.keep e5 hkb
      have E5 : Ext (fun x => x = br) w1 w5 := (E2.trans (Ext.of_below B4)).trans e5
      refine ⟨_, km5.cell 1, ⟨by omega, by omega, by omega⟩, ?_⟩
      rw [show Int.toNat (e.1.fr : Int) = e.1.fr from by omega]
      have h1 := hsub p e.1.fr
      have v5 := (v2.keep (S := fun _ => False) (Ext.of_below B4) fun _ _ h => h).keep e5 fun k hk hkb => by have := hma k hk; omega
      obtain ⟨a6, c6, w6, q1, q2, q3, q4⟩ := appS (ext_B t p e.1.fr) v5 (by omega)
      refine ⟨a6, _, c6, w6, q1, ?_⟩
      have hz4 := B4.size
      have hz5 := E5.size
      have hz6 := q3.size
      have hma6 : ∀ k, blkOf a6 = some k → w1.heap.size ≤ k ∧ k ≠ w2.heap.size := by
        intro k hk
        rcases q4 with rfl | rfl
        · exact ⟨hma k hk, by have := v2.lt k hk; omega⟩
        · simp only [blkOf, Option.some.injEq] at hk; have := k4'.lt; exact ⟨by omega, by omega⟩
      have E6 : Ext (fun x => x = br) w1 w6 := E5.step q3 fun i hi hk => by have := hma i hk; omega
      have km6 := km5.keep q3 fun h => by have := v2.lt _ h; omega
      have kr6 := k5'.keep q3 fun h => by have := hma _ h; omega
      have kt6 := kt.keep E6 hbt
      have hv6 := hv.keep E6 fun k hk h => hbv (h ▸ hk)
      have M6 : Ms N w6 a l c es := hM.keep E6 fun k hk h => hbM (h ▸ hk)
      refine ⟨_, kt6.cell 0, _, kt6.cell 1, _, _, _, kt6.cell 2, _, km6.cell 0, _, km6.cell 1, _, km6.cell 2, _, _, _, km6.cell 3, ?_⟩
      have hfl := flat_len hn e.1 (bits := bits) fun b hb => (hbit b hb).1
      refine (l4fill_ok (m := e.1) (g := e.2) hv6 hbit hm (M6.all e (by rw [hes]; simp)) hbl hn).ret fun w7 B7 => ⟨_, rfl, ?_⟩
      have v7 := q2.keep (S := fun _ => False) (Ext.of_below B7) fun _ _ h => h
      obtain ⟨a8, c8, w8, r1, r2, r3, r4⟩ := appS (y := fillP (L t) bits e.1) rfl v7 (by unfold fillP; rw [List.length_append]; omega)
      refine ⟨a8, _, c8, w8, r1, ?_⟩
      have km8 := (km6.below B7).keep r3 fun h => (hma6 _ h).2 rfl
      have kr8 := (kr6.below B7).keep r3 fun h => by have := (hma6 _ h).1; omega
      have E8 : Ext (fun x => x = br) w1 w8 := (E6.trans (Ext.of_below B7)).step r3 fun i hi hk => by have := (hma6 i hk).1; omega
      refine ⟨_, km8.cell 2, D'.length, by simp, A ++ [e], D', e.1.to, q + 1, nextM e.1, _, by rw [hes]; simp, by simp, rfl, rfl, by simp; omega, hnx, hhi, ?_, hr, ?_, r2, fun k hk => ?_, kr8, E8⟩
      · unfold fillP
        rw [List.length_append, List.length_append, List.length_append]
        simp only [List.length_cons, List.length_nil]
        omega
      · rw [← hsp, replL, if_neg g2']
      · rcases r4 with rfl | rfl
        · exact (hma6 k hk).1
        · simp only [blkOf, Option.some.injEq] at hk; have := B7.size; omega
  · have g' : ¬ A.length < l := by have := of_decide_eq_false g; omega
    have : D = [] := by
      cases D with
      | nil => rfl
      | cons x r => simp only [List.length_cons] at hel; omega
    subst this
    exact hrest (Ext.refl _ _) (by rw [← hsp]; rfl)
/-- A template's value as a box on the heap holds it. -/
theorem boxT_in {w : World} {t : Bool} {n : Int} {a : Option Addr} {l c : Nat} {K : Nat → World → Prop} (h : ∀ w2, w2.heap.size = w.heap.size + 1 → Blk w2.heap w.heap.size 118 [.bool t, .int .i64 n, .slice a l c] → Below w.heap.size w w2 → K w.heap.size w2) :
    newC [.bool false, .int .i64 0, .slice none 0 0] 118 (fun b (w8 : World) => stW b 0 [.bool t, .int .i64 n, .slice a l c] (fun w9 => K b w9) w8) w := by
  refine newC_in fun w1 s1 k1 e1 => ?_
  refine stW_in k1 (by show 0 + 3 ≤ 3; decide) fun w2 s2 k2 e2 => ?_
  exact h w2 (by omega) k2 (Ext.to (Ext.to (Below.refl _ _) e1 fun _ h => h.elim) e2 fun i h => by omega)
theorem replA_no {p t w : Bytes} {most : Int} (h : ¬ replOk p t w most) : replA p t w most = ⟨false, [], 0⟩ := by unfold replA; rw [if_neg h]
theorem implReplace_ok (s1 s2 s3 : ByteArray) (most : Int) (w : World) : Cl Try.prog 62 [.string s1, .string s2, .string s3, .int .i64 most] w (RetB (replA (L s1) (L s2) (L s3) most).val w) := by
  apply vc62
  unfold V62
  refine newC_in fun w6 s6 k6 e6 => ?_
  have B6 : Below w.heap.size w w6 := Ext.to (Below.refl _ _) e6 fun _ h => h.elim
  refine (newFinder_ok s1 s2 w6).use fun e w10 he => ?_
  obtain ⟨bf, rfl, B10, hM⟩ := he
  refine ⟨bf, 0, _, rfl, ?_⟩
  have htl := tplT_short (L s3)
  have htb := tplT_bits (L s3)
  refine (implTemplate_ok s3 w10).use fun e w15 he => ?_
  obtain ⟨ta, tc, rfl, R15, B15⟩ := he
  refine ⟨_, _, ta, _, tc, rfl, boxT_in fun w19 s19 k19 B19 => ?_⟩
  have Bw19 := ((B6.vstep B10).vstep B15).vstep B19
  have k6' := ((k6.below B10).below B15).below B19
  have hno : ∀ {w' : World}, Below w19.heap.size w19 w' → ¬ replOk (L s1) (L s2) (L s3) most → stW w.heap.size 0 [.bool false, .string (⟨#[]⟩ : ByteArray), .int .i64 0] (fun (w50 : World) => ∃ (t51 : Bool), cellH w50.heap w.heap.size 0 = some (.bool t51) ∧ ∃ (s52 : ByteArray), cellH w50.heap w.heap.size 1 = some (.string s52) ∧ ∃ (n53 : Int), cellH w50.heap w.heap.size 2 = some (.int .i64 n53) ∧ RetB (replA (L s1) (L s2) (L s3) most).val w (.returned (.agg #[.bool t51, .string s52, .int .i64 n53])) w50) w' := fun B' h => by
    rw [replA_no h]
    exact retRp_store rfl (k6'.below B') (Nat.le_refl _) (Bw19.vstep B') (r := ⟨false, [], 0⟩) rfl rfl rfl fun _ _ h => h
  refine ⟨fun g => hno (Below.refl _ _) ?_, fun g => ⟨_, k19.cell 0, fun g2 => hno (Below.refl _ _) ?_, fun g2 => ⟨fun g3 => hno (Below.refl _ _) ?_, fun g3 => ⟨_, _, _, k19.cell 2, ?_⟩⟩⟩⟩
  · intro h; rw [h.1] at g; simp at g
  · intro h; rw [h.2.1] at g2; simp at g2
  · intro h; have := of_decide_eq_true g3; have := h.2.2.1; omega
  have g' : okA (L s1) (L s2) = true := by simpa using g
  have g2' : (tplT (L s3)).1 = true := by simpa using g2
  have g3' := of_decide_eq_false g3
  obtain ⟨c, rfl, hP, rfl, hpt, hF, hm⟩ := hM g'
  have v19 := (R15.below B19).1
  refine checkLoop (G := c.P.groups) v19 htl.1 (fun w' B' => ((hF.below (B15.vstep B19)).below B').fb.cell 2) (fun w' B' h => hno B' fun h' => h ?_) fun w' B' h => ?_
  · rw [hP]; exact h'.2.2.2
  have hok : replOk (L s1) (L c.t) (L s3) most := ⟨g', g2', by omega, by rw [← hP]; exact h⟩
  have hrA : replA (L s1) (L c.t) (L s3) most = ⟨true, (replL (L c.t) (tplT (L s3)).2.2 most 0 0 [] (allP c.P (L c.t) 0)).1, (replL (L c.t) (tplT (L s3)).2.2 most 0 0 [] (allP c.P (L c.t) 0)).2⟩ := by unfold replA; rw [if_pos hok, hP]
  rw [hrA]
  have hA : allA (L s1) (L c.t) = allP c.P (L c.t) 0 := by unfold allA; rw [if_pos g', hP]
  have hc := hpt.chain _ 0 rfl
  have hl := hpt.allLen
  refine (implAll_ok s1 c.t w').use fun e w56 he => ?_
  obtain ⟨a, l, cp, es, rfl, M56, hes, B56⟩ := he
  rw [hA] at hes
  have hel : es.length = (allP c.P (L c.t) 0).length := by rw [← hes, List.length_map]
  rw [← hes] at hc
  refine ⟨a, l, cp, rfl, implReplLoop (w0 := w) M56 ((Bw19.vstep B').vstep B56) hc (by omega) hpt.n200 ((k19.below B').below B56) ((v19.keep (S := fun _ => False) (Ext.of_below B') fun _ _ h => h).keep (S := fun _ => False) (Ext.of_below B56) fun _ _ h => h) (fun x hx => ⟨htb x hx, h x hx⟩) htl.1 (z := [.bool false, .string (⟨#[]⟩ : ByteArray), .int .i64 0]) rfl ((k6'.below B').below B56) (Nat.le_refl _) fun e w' h => ?_⟩
  rw [hes] at h
  exact h
theorem specReplace_ok (s1 s2 s3 : ByteArray) (most : Int) (w : World) : Cl Try.prog 61 [.string s1, .string s2, .string s3, .int .i64 most] w (RetB (replA (L s1) (L s2) (L s3) most).val w) := by
  apply vc61
  unfold V61
  refine newC_in fun w6 s6 k6 e6 => ?_
  have B6 : Below w.heap.size w w6 := Ext.to (Below.refl _ _) e6 fun _ h => h.elim
  refine (l2of_ok s1 s2 w6).use fun e w10 he => ?_
  obtain ⟨bf, rfl, B10, hM⟩ := he
  refine ⟨bf, 0, _, rfl, ?_⟩
  have htl := tplT_short (L s3)
  have htb := tplT_bits (L s3)
  refine (specTemplate_ok s3 w10).use fun e w15 he => ?_
  obtain ⟨ta, tc, rfl, R15, B15⟩ := he
  refine ⟨_, _, ta, _, tc, rfl, boxT_in fun w19 s19 k19 B19 => ?_⟩
  have Bw19 := ((B6.vstep B10).vstep B15).vstep B19
  have k6' := ((k6.below B10).below B15).below B19
  have hno : ∀ {w' : World}, Below w19.heap.size w19 w' → ¬ replOk (L s1) (L s2) (L s3) most → stW w.heap.size 0 [.bool false, .string (⟨#[]⟩ : ByteArray), .int .i64 0] (fun (w50 : World) => ∃ (t51 : Bool), cellH w50.heap w.heap.size 0 = some (.bool t51) ∧ ∃ (s52 : ByteArray), cellH w50.heap w.heap.size 1 = some (.string s52) ∧ ∃ (n53 : Int), cellH w50.heap w.heap.size 2 = some (.int .i64 n53) ∧ RetB (replA (L s1) (L s2) (L s3) most).val w (.returned (.agg #[.bool t51, .string s52, .int .i64 n53])) w50) w' := fun B' h => by
    rw [replA_no h]
    exact retRp_store rfl (k6'.below B') (Nat.le_refl _) (Bw19.vstep B') (r := ⟨false, [], 0⟩) rfl rfl rfl fun _ _ h => h
  refine ⟨fun g => hno (Below.refl _ _) ?_, fun g => ⟨_, k19.cell 0, fun g2 => hno (Below.refl _ _) ?_, fun g2 => ⟨fun g3 => hno (Below.refl _ _) ?_, fun g3 => ⟨_, _, _, k19.cell 2, ?_⟩⟩⟩⟩
  · intro h; rw [h.1] at g; simp at g
  · intro h; rw [h.2.1] at g2; simp at g2
  · intro h; have := of_decide_eq_true g3; have := h.2.2.1; omega
  have g' : okA (L s1) (L s2) = true := by simpa using g
  have g2' : (tplT (L s3)).1 = true := by simpa using g2
  have g3' := of_decide_eq_false g3
  obtain ⟨s, rfl, hP, rfl, hpt, hF, hm⟩ := hM g'
  have v19 := (R15.below B19).1
  have F19 := hF.below (B15.vstep B19)
  refine checkLoop (G := s.P.groups) v19 htl.1 (fun w' B' => (F19.below B').mb.cell 2) (fun w' B' h => hno B' fun h' => h ?_) fun w' B' h => ?_
  · rw [hP]; exact h'.2.2.2
  have hok : replOk (L s1) (L s.t) (L s3) most := ⟨g', g2', by omega, by rw [← hP]; exact h⟩
  have hrA : replA (L s1) (L s.t) (L s3) most = ⟨true, (replL (L s.t) (tplT (L s3)).2.2 most 0 0 [] (allP s.P (L s.t) 0)).1, (replL (L s.t) (tplT (L s3)).2.2 most 0 0 [] (allP s.P (L s.t) 0)).2⟩ := by unfold replA; rw [if_pos hok, hP]
  rw [hrA]
  have hc := hpt.chain _ 0 rfl
  have hl := hpt.allLen
  refine newC_in fun w56 s56 k56 e56 => ?_
  refine stW_in k56 (by show 0 + 3 ≤ 3; decide) fun w57 s57 k57 e57 => ?_
  have k57' : Blk w57.heap w'.heap.size 68 [.bool true, .string (⟨#[]⟩ : ByteArray), .int .i64 0] := k57
  have B57 : Below w'.heap.size w' w57 := Ext.to (Ext.to (Below.refl _ _) e56 fun _ h => h.elim) e57 fun i hi => by omega
  have hz57 := B57.size
  refine (allS_ok hpt ((F19.below B').below B57)).use fun e w59 he => ?_
  obtain ⟨a, l, cp, es, rfl, M59, hes, _, E59⟩ := he
  have hel : es.length = (allP s.P (L s.t) 0).length := by rw [← hes, List.length_map]
  rw [← hes] at hc
  have hz' := B'.size
  have hz19 := Bw19.size
  have hz15 := B15.size
  have hz10 := B10.size
  have hz6 := B6.size
  have hmd := F19.db.lt
  have hml := F19.lb.lt
  have hk19 := k19.lt
  have hmod : ∀ x, (x = s.bd ∨ x = s.bl) → w6.heap.size ≤ x ∧ x < w'.heap.size ∧ x < w10.heap.size := fun x hx => by
    have h1 := hF.db.lt
    have h2 := hF.lb.lt
    rcases hx with rfl | rfl <;> exact ⟨by omega, by omega, by omega⟩
  have Bw' := Bw19.vstep B'
  have Bw57 := Bw'.vstep B57
  have E59w : Below w.heap.size w w59 := Ext.to Bw57 E59 fun x hx => by have := (hmod x hx).1; omega
  have k6'' := ((k6'.below B').below B57).keep E59 fun hx => by have := (hmod _ hx).1; omega
  have kt := ((k19.below B').below B57).keep E59 fun hx => by have := (hmod _ hx).2.2; omega
  have hvlow : ∀ k, blkOf ta = some k → w10.heap.size ≤ k ∧ k < w19.heap.size := fun k hk => ⟨R15.2.1 k hk, v19.lt k hk⟩
  have vt := ((v19.keep (S := fun _ => False) (Ext.of_below B') fun _ _ h => h).keep (S := fun _ => False) (Ext.of_below B57) fun _ _ h => h).keep E59 fun k hk hx => by have := (hmod _ hx).2.2; have := (hvlow k hk).1; omega
  have kr := k57'.keep E59 fun hx => by have := (hmod _ hx).2.1; omega
  refine ⟨a, l, cp, rfl, specReplLoop (w0 := w) M59 E59w hc (by omega) hpt.n200 kt vt (fun x hx => ⟨htb x hx, h x hx⟩) htl.1 (z := [.bool false, .string (⟨#[]⟩ : ByteArray), .int .i64 0]) rfl k6'' (Nat.le_refl _) kr (by omega) (by omega) (by omega) (fun hb => by have := M59.low _ hb; omega) (fun hb => by have := hvlow _ hb; omega) fun e w' h => ?_⟩
  rw [hes] at h
  exact h
theorem eqReplaced_ok (t : Bool) (s : ByteArray) (n : Int) (w : World) : Cl Try.prog 63 [.agg #[.bool t, .string s, .int .i64 n], .agg #[.bool t, .string s, .int .i64 n]] w (RetB (.bool true) w) := by
  apply vc63
  unfold V63
  refine newC_in fun w1 s1 k1 x1 => newC_in fun w2 s2 k2 x2 => ?_
  have k1' := k1.keep x2 fun h => h
  have hb : Below w.heap.size w w2 := Ext.to (Ext.to (Below.refl _ _) x1 fun _ h => h.elim) x2 fun _ h => h.elim
  exact ⟨_, k1'.cell 0, _, k2.cell 0, fun g => by simp at g, fun _ => ⟨_, k1'.cell 1, _, k2.cell 1, fun g => by simp at g, fun _ => ⟨_, k1'.cell 2, _, k2.cell 2, fun g => by simp at g, fun _ => ⟨rfl, hb⟩⟩⟩⟩
theorem boxR_in {w : World} {t : Bool} {s : ByteArray} {n : Int} {K : Nat → World → Prop} (h : ∀ w2, w2.heap.size = w.heap.size + 1 → Blk w2.heap w.heap.size 68 [.bool t, .string s, .int .i64 n] → Below w.heap.size w w2 → K w.heap.size w2) :
    newC [.bool false, .string (⟨#[]⟩ : ByteArray), .int .i64 0] 68 (fun b (w8 : World) => stW b 0 [.bool t, .string s, .int .i64 n] (fun w9 => K b w9) w8) w := by
  refine newC_in fun w1 s1 k1 e1 => ?_
  refine stW_in k1 (by show 0 + 3 ≤ 3; decide) fun w2 s2 k2 e2 => ?_
  exact h w2 (by omega) k2 (Ext.to (Ext.to (Below.refl _ _) e1 fun _ h => h.elim) e2 fun i h => by omega)
theorem lawReplace_ok (s1 s2 s3 : ByteArray) (most : Int) (w : World) : Cl Try.prog 17 [.string s1, .string s2, .string s3, .int .i64 most] w (RetB (.bool true) w) := by
  apply vc17
  unfold V17
  refine ⟨fun _ => ⟨rfl, Below.refl _ _⟩, fun _ => ⟨fun _ => ⟨rfl, Below.refl _ _⟩, fun _ => ⟨fun _ => ⟨rfl, Below.refl _ _⟩, fun _ => ?_⟩⟩⟩
  have hspec := specReplace_ok s1 s2 s3 most
  have himpl := implReplace_ok s1 s2 s3 most
  generalize replA (L s1) (L s2) (L s3) most = r at *
  refine (hspec w).ret fun w1 B1 => ⟨_, _, _, rfl, boxR_in fun w2 s2 x2 B2 => ?_⟩
  refine (himpl w2).ret fun w3 B3 => ⟨_, _, _, rfl, boxR_in fun w4 s4 x4 B4 => ?_⟩
  have x2' := (x2.below B3).below B4
  refine ⟨_, x4.cell 0, _, x4.cell 1, _, x4.cell 2, _, x2'.cell 0, _, x2'.cell 1, _, x2'.cell 2, ?_⟩
  exact (eqReplaced_ok _ _ _ w4).ret fun w5 B5 => ⟨true, rfl, fun g => by simp at g, fun _ => ⟨rfl, (((B1.vstep B2).vstep B3).vstep B4).vstep B5⟩⟩
end Go.Proofs.Ytngbiaeliphdjaa.V
/- For the rows: what was read stays readable where nothing old has changed; bytes among the arguments. No statement of the seat is proved here. -/
namespace Go.Vc
open Go.RowKit
set_option linter.unusedVariables false
set_option linter.unusedSimpArgs false
theorem trodAll_carry {H : Type} {enc : TypeId × Value → H} {P : Program} {w w' : World} {spare : Nat → Bool} {held : Bool} (hb : Below w.heap.size w w') :
    ∀ {ts : List TypeId} {vs : List Value} {ds : List (DataW H)} {ps : List MemPlace}, DataW.TrodAll enc P w 0 spare held ts vs ds ps → DataW.TrodAll enc P w' 0 spare held ts vs ds ps
  | [], [], [], ps, h => h
  | t :: ts, v :: vs, d :: ds, ps, ⟨p, q, ⟨n, h1⟩, h2, h3⟩ =>
    ⟨p, q, ⟨n, DataW.trod_carry n t v.cells.toList (d, p) h1 fun x hx => hb.same (DataW.trod_lt n t v.cells.toList (d, p) h1 x hx)⟩, trodAll_carry hb h2, h3⟩
  | [], [], _ :: _, _, h => h.elim
  | [], _ :: _, _, _, h => h.elim
  | _ :: _, [], _, _, h => h.elim
  | _ :: _, _ :: _, [], _, h => h.elim
theorem trodAll_back {H : Type} {enc : TypeId × Value → H} {P : Program} {w w' : World} (hb : Below w.heap.size w w') (hl : laidOutB P = true) (hm : mapsRowed P = true)
    (hf : ((List.range P.types.size).all fun t => match P.underlying t with | some (.slice e) => decide (0 < P.cellsOf e) | _ => true) = true) {ts : List TypeId} {vs : List Value} {ds : List (DataW H)} {ps : List MemPlace}
    (ht : (ts.all fun t => decide (t < P.types.size)) = true) (h : DataW.TrodAll enc P w 0 (fun _ => true) true ts vs ds ps) : DataW.TrodAll enc P w' 0 (fun b => decide (b < w.heap.size)) true ts vs ds ps :=
  trodAll_carry hb (DataW.TrodAll.respare (kids_rows hl hm) (fun t e h1 h2 => slices_full_of P hf t e h1 h2) (fun t h1 => of_decide_eq_true (List.all_eq_true.1 ht t h1)) h fun p hp => decide_eq_true (DataW.TrodAll.lt h p hp))

/-- The given bytes: readable, below B. -/
def GBytes (w : World) (B : Nat) (a : Option Addr) (l : Nat) : Prop :=
  l ≤ 1048576 ∧ (l = 0 ∨ ∃ b o, a = some ⟨b, o, none⟩ ∧ b < B ∧ ∀ i, i < l → ∃ n : Int, 0 ≤ n ∧ n ≤ 255 ∧ cellH w.heap b (o + i) = some (.int .u8 n))
theorem open_bytes {H : Type} {enc : TypeId × Value → H} {P : Program} {w : World} {base : Nat} {spare : Nat → Bool} {held : Bool} {r : Reach} {b0 : Nat} {t e : TypeId} {v : Value} {d : DataW H} {ps : List MemPlace}
    (ht : P.underlying t = some (.slice e)) (he : P.underlying e = some (.int .u8)) (hc : P.cellsOf e = 1) (hval : Value.okWide P w r b0 t v) (hd : DataW.Trod enc P w base spare held t v d ps) :
    ∃ a l c, v = .slice a l c ∧ (l ≤ 1048576 → GBytes w w.heap.size a l) := by
  obtain ⟨a0, l0, c0, rfl⟩ := Go.WideShapes.okWide_slice ht hval
  obtain ⟨fuel, hf⟩ := hd
  refine ⟨a0, l0, c0, rfl, fun hl => ⟨hl, ?_⟩⟩
  rcases Go.ChangeShapes.open_ints ht he hc hf with ⟨h1, _⟩ | ⟨a, len, cap, zs, h1, _, hle, _, hlen, _, hcell, hwf⟩
  · simp [Value.cells] at h1
    obtain ⟨rfl, rfl, rfl⟩ := h1
    exact .inl rfl
  · simp [Value.cells] at h1
    obtain ⟨rfl, rfl, rfl⟩ := h1
    by_cases h0 : l0 = 0
    · exact .inl h0
    have hz : l0 ≤ zs.length := by rw [hlen]; split <;> omega
    obtain ⟨b, o, rfl, hcell2⟩ := ints_at hcell (by omega)
    have hcell' : ∀ i, i < zs.length → cellH w.heap b (o + i) = some (.int .u8 (zs.getD i 0)) := fun i hi => by
      rw [← cell?_plain]; exact hcell2 i hi
    refine .inr ⟨b, o, rfl, ?_, fun i hi => ⟨zs.getD i 0, ?_, ?_, hcell' i (by omega)⟩⟩
    · have := hcell' 0 (by omega)
      rcases Nat.lt_or_ge b w.heap.size with h | h
      · exact h
      · unfold cellH at this; rw [Array.getElem?_eq_none h] at this; cases this
    · have := bounds_u8 (hwf (zs.getD i 0) (by rw [List.getD_eq_getElem?_getD, List.getElem?_eq_getElem (by omega)]; exact List.getElem_mem _)); omega
    · have := bounds_u8 (hwf (zs.getD i 0) (by rw [List.getD_eq_getElem?_getD, List.getElem?_eq_getElem (by omega)]; exact List.getElem_mem _)); omega
end Go.Vc

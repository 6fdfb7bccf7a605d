/- The reference's ReadTemplate. No statement of the seat is proved here. -/
import Derived.Test.YtdbhnlelpcoldaaTplW
namespace Go.Proofs.Ytdbhnlelpcoldaa.V
open Go.Vc Go.Proofs Go.RowKit
set_option linter.unusedVariables false
set_option linter.unusedSimpArgs false

def SS (w w' : World) (bs : Bits) (a : Option Addr) (c : Nat) : Prop :=
  Blk w'.heap w.heap.size 29 [.bool false, .int .i64 0, .slice none 0 0] ∧ Blk w'.heap (w.heap.size + 1) 29 [.bool true, .int .i64 0, .slice a bs.length c] ∧
    Row (w.heap.size + 2) w' 32 2 a bs.length c (bitsC bs) ∧ Below w.heap.size w w'
theorem SS.app {w w' : World} {bs : Bits} {a : Option Addr} {c : Nat} (h : SS w w' bs a c) (hl : bs.length ≤ 1000) (b : Int × Bytes) {F : World → Prop} (hF : ∀ w2 a2 c2, SS w w2 (bs ++ [b]) a2 c2 → F w2) :
    ∃ (a3 : Option Addr), ∃ (l3 : Nat), ∃ (c3 : Nat), ∃ (w3 : World), (Builtin.append_ #[27, 27] 27 #[.slice a bs.length c, .slice (some ⟨w'.heap.size, 0, none⟩) 1 1]).run Try.prog (newW w' (.cells ⟨bitC b⟩ 32)) = .ok (.slice a3 l3 c3) w3 ∧ stW (w.heap.size + 1) 2 [.slice a3 l3 c3] F w3 := by
  obtain ⟨h2, h8, hR, hb⟩ := h
  obtain ⟨a3, c3, w3, r1, r2, r3⟩ := hR.app1 elemBit (ys := bitC b) (n := 1) rfl rfl (by omega) (by omega)
  refine ⟨a3, _, c3, w3, r1, ?_⟩
  refine stW_in (h8.stay r3 (by omega)) (by show 2 + 1 ≤ 3; decide) fun w4 s4 k4 e4 => ?_
  refine hF w4 a3 c3 ⟨(h2.stay r3 (by omega)).keep e4 (by omega), by rw [List.length_append]; exact k4, ?_, Ext.to (Ext.to hb r3 fun i (h : _ ≤ i) => by omega) e4 (fun i h => by omega)⟩
  rw [bitsC_append, bitsC_one, List.length_append]; exact r2.keep e4 (fun b hb => by omega)
theorem SS.ext {w w' w2 : World} {bs : Bits} {a : Option Addr} {c : Nat} (h : SS w w' bs a c) (e : Ext (fun _ => False) w' w2) : SS w w2 bs a c :=
  ⟨h.1.keep e fun h => h, h.2.1.keep e fun h => h, h.2.2.1.keep e fun _ _ h => h, Ext.to h.2.2.2 e fun _ h => h.elim⟩
/-- The copy of what was read, into the result. -/
theorem copy_end {w w' : World} {bs : Bits} {a : Option Addr} {c : Nat} {r : Bool × Nat × Bits} (hr : r = (true, 0, bs)) (h : SS w w' bs a c) :
    ∃ (t60 : Bool), cellH w'.heap (w.heap.size + 1) 0 = some (.bool t60) ∧ ∃ (n61 : Int), cellH w'.heap (w.heap.size + 1) 1 = some (.int .i64 n61) ∧ ∃ (a62 : Option Addr), ∃ (l62 : Nat), ∃ (c62 : Nat), cellH w'.heap (w.heap.size + 1) 2 = some (.slice a62 l62 c62) ∧
      stW w.heap.size 0 [.bool t60, .int .i64 n61, .slice a62 l62 c62] (fun w4 => ∃ (t5 : Bool), cellH w4.heap w.heap.size 0 = some (.bool t5) ∧ ∃ (n6 : Int), cellH w4.heap w.heap.size 1 = some (.int .i64 n6) ∧ ∃ (a7 : Option Addr), ∃ (l7 : Nat), ∃ (c7 : Nat), cellH w4.heap w.heap.size 2 = some (.slice a7 l7 c7) ∧
        RetT r w (.returned (.agg #[.bool t5, .int .i64 n6, .slice a7 l7 c7])) w4) w' :=
  ⟨true, h.2.1.cell 0, 0, h.2.1.cell 1, a, bs.length, c, h.2.1.cell 2, good_end hr h.1 (h.2.2.1.mono (by omega)) h.2.2.2⟩

theorem specTemplate_ok (s : ByteArray) (w : World) : Cl Try.prog 16 [.string s] w (RetT (tplT (L s)) w) := by
  apply vc16
  unfold V16
  have hsz : s.size = (L s).length := size_L s
  refine newC_in fun w3 s3 k2 e3 => ?_
  have hb3 : Below w.heap.size w w3 := e3.below fun _ _ h => h
  refine ⟨fun g => ?_, fun g => ?_⟩
  · have g' := of_decide_eq_true g
    exact bad_end (i := 100) (by unfold tplT; rw [if_pos (by omega)]) rfl k2 hb3
  have g' := of_decide_eq_false g
  have hT : tplT (L s) = tpl (L s) 0 [] [] := by unfold tplT; rw [if_neg (by omega)]
  rw [hT]
  refine newC_in fun w9 s9 k8 e9 => ?_
  refine stW_in k8 (by show 0 + 3 ≤ 3; decide) fun w12 s12 k8' e12 => ?_
  rw [s3] at k8' e12 s9
  rw [show w3.heap.size = w.heap.size + 1 from s3]
  have t0 : SS w w12 [] none 0 := by
    refine ⟨(k2.keep e9 fun h => h).keep e12 (by omega), k8', Row.nil _ _ (by omega), ?_⟩
    exact Ext.to (Ext.to hb3 e9 (fun _ h => h.elim)) e12 (fun i h => by omega)
  refine ⟨fun k sp n w' => ∃ (i : Nat) (pl : Bytes) (bs : Bits) (a : Option Addr) (c : Nat), n = i ∧ sp = B pl ∧ i ≤ s.size ∧ k = s.size - i ∧ tpl (L s) i pl bs = tpl (L s) 0 [] [] ∧ bs.length ≤ i ∧ pl.length ≤ i ∧ SS w w' bs a c, ⟨s.size, 0, [], [], none, 0, rfl, rfl, by omega, rfl, rfl, by simp, by simp, t0⟩, ?_⟩
  rintro k d sp n w1 ⟨i, pl, bs, a, c, rfl, rfl, hi, rfl, hu, hbl, hpl, hS⟩
  have e0 : Int.toNat (i : Int) = i := by omega
  have e1 : IntKind.wrap .i64 ((i : Int) + 1) = ((i + 1 : Nat) : Int) := by rw [w64 (by omega)]; omega
  have e2 : IntKind.wrap .i64 (((i + 1 : Nat) : Int) + 1) = ((i + 2 : Nat) : Int) := by rw [w64 (by omega)]; omega
  have e3' : Int.toNat ((i + 1 : Nat) : Int) = i + 1 := by omega
  rw [e0, e1, e2, e3']
  have hne : ∀ {x : Bool}, (!((B pl).toList == (⟨#[]⟩ : ByteArray).toList)) = x → (x = true ↔ pl ≠ []) := by
    rintro x rfl; simp [toList_eq, L_empty]
  refine ⟨fun g0 => ?_, fun g0 => ?_⟩
  · have g0' : i < s.size := by have := of_decide_eq_true g0; omega
    refine ⟨⟨by omega, by omega⟩, fun g1 => ?_, fun g1 => ?_⟩
    · have g1' : at_ (L s) i ≠ 36 := by
        rw [byteAt_at] at g1
        have : ((at_ (L s) i : Nat) : Int) ≠ 36 := by simpa using g1
        omega
      rw [extract_one s g0']
      refine ⟨⟨by omega, by omega, by omega⟩, by rw [size_B, size_B]; simp; omega, ?_⟩
      rw [B_append]
      refine ⟨s.size - (i + 1), by omega, i + 1, pl ++ [(L s).getD i 0], bs, a, c, rfl, rfl, by omega, rfl, ?_, by omega, by simp; omega, hS⟩
      rw [← hu]
      exact (show tpl (L s) i pl bs = tpl (L s) (i + 1) (pl ++ [(L s).getD i 0]) bs from by rw [tpl, dif_pos (by omega), if_pos g1']).symm
    have g1' : at_ (L s) i = 36 := by
      rw [byteAt_at] at g1
      have : ((at_ (L s) i : Nat) : Int) = 36 := by simpa using g1
      omega
    refine ⟨fun g2 => ?_, fun g2 => ?_⟩
    · have g2' : ((i + 1 : Nat) : Int) = s.size := by simpa using g2
      refine bad_end (i := i + 1) ?_ rfl hS.1 hS.2.2.2
      rw [← hu, tpl, dif_pos (by omega), if_neg (by omega), if_pos (by omega)]
    have g2' : ¬ ((i + 1 : Nat) : Int) = s.size := by simpa using g2
    refine ⟨⟨by omega, by omega⟩, fun g3 => ?_, fun g3 => ⟨⟨by omega, by omega⟩, fun g4 => ?_, fun g4 => ⟨⟨by omega, by omega⟩, fun g5 => ?_, fun g5 => ?_⟩⟩⟩
    · have g3' : at_ (L s) (i + 1) = 36 := by
        rw [byteAt_at] at g3
        have : ((at_ (L s) (i + 1) : Nat) : Int) = 36 := by simpa using g3
        omega
      refine ⟨by rw [size_B]; show pl.length + 1 ≤ _; omega, ?_⟩
      refine ⟨s.size - (i + 2), by omega, i + 2, pl ++ [36], bs, a, c, rfl, by rw [← B_append]; rfl, by omega, rfl, ?_, by omega, by simp; omega, hS⟩
      rw [← hu]
      exact (show tpl (L s) i pl bs = tpl (L s) (i + 2) (pl ++ [36]) bs from by rw [tpl, dif_pos (by omega), if_neg (by omega), if_neg (by omega), if_pos g3']).symm
    all_goals have g3' : ¬ at_ (L s) (i + 1) = 36 := by
                rw [byteAt_at] at g3
                have : ¬ ((at_ (L s) (i + 1) : Nat) : Int) = 36 := by simpa using g3
                omega
    · have g4' := of_decide_eq_true g4
      rw [byteAt_at] at g4'
      refine bad_end (i := i + 1) ?_ rfl hS.1 hS.2.2.2
      rw [← hu, tpl, dif_pos (by omega), if_neg (by omega), if_neg (by omega), if_neg g3', if_pos (by omega)]
    · have g5' := of_decide_eq_true g5
      rw [byteAt_at] at g5'
      refine bad_end (i := i + 1) ?_ rfl hS.1 hS.2.2.2
      rw [← hu, tpl, dif_pos (by omega), if_neg (by omega), if_neg (by omega), if_neg g3', if_pos (by omega)]
    · have g4' := of_decide_eq_false g4
      have g5' := of_decide_eq_false g5
      rw [byteAt_at] at g4' g5'
      rw [byte_dig s (by omega)]
      have hstep : tpl (L s) i pl bs = tpl (L s) (i + 2) [] (fl pl bs ++ [(((at_ (L s) (i + 1) : Nat) : Int) - 48, [])]) := by rw [tpl, dif_pos (by omega), if_neg (by omega), if_neg (by omega), if_neg g3', if_neg (by omega)]
      refine ⟨fun g6 => ?_, fun g6 => ?_⟩
      · have hf : fl pl bs = bs ++ [(-1, pl)] := by unfold fl; rw [if_neg ((hne g6).1 rfl)]
        refine ⟨a, _, c, hS.2.1.cell 2, ?_⟩
        refine SS.app hS (by omega) (-1, pl) fun w2 a2 c2 h2 => ?_
        refine drw_in fun w38 q38 e38 => ?_
        have h3 := h2.ext e38
        refine ⟨a2, _, c2, h3.2.1.cell 2, ⟨by omega, by omega⟩, ?_, ?_⟩
        · exact (h3.2.1.vnew _).cell 2
        refine SS.app h3 (by rw [List.length_append]; simp; omega) (((at_ (L s) (i + 1) : Nat) : Int) - 48, []) fun w4 a4 c4 h4 => ?_
        refine ⟨s.size - (i + 2), by omega, i + 2, [], _, a4, c4, rfl, rfl, by omega, rfl, ?_, ?_, by simp, h4⟩
        · rw [← hu, hstep, hf]
        · simp; omega
      · have hp : pl = [] := by
          by_cases hp : pl = []
          · exact hp
          · exact absurd ((hne g6).2 hp) (by simp)
        subst hp
        refine drw_in fun w38 q38 e38 => ?_
        have h3 := hS.ext e38
        refine ⟨a, _, c, h3.2.1.cell 2, ⟨by omega, by omega⟩, ?_, ?_⟩
        · exact (h3.2.1.vnew _).cell 2
        refine SS.app h3 (by omega) (((at_ (L s) (i + 1) : Nat) : Int) - 48, []) fun w4 a4 c4 h4 => ?_
        refine ⟨s.size - (i + 2), by omega, i + 2, [], _, a4, c4, rfl, rfl, by omega, rfl, ?_, ?_, by simp, h4⟩
        · rw [← hu, hstep]; rfl
        · simp; omega
  · have g0' := of_decide_eq_false g0
    have hend : tpl (L s) 0 [] [] = (true, 0, fl pl bs) := by rw [← hu, tpl, dif_neg (by omega)]
    rw [hend]
    refine ⟨fun g6 => ?_, fun g6 => ?_⟩
    · have hf : fl pl bs = bs ++ [(-1, pl)] := by unfold fl; rw [if_neg ((hne g6).1 rfl)]
      refine ⟨a, _, c, hS.2.1.cell 2, ?_⟩
      refine SS.app hS (by omega) (-1, pl) fun w2 a2 c2 h2 => ?_
      exact copy_end (by rw [hf]) h2
    · have hp : pl = [] := by
        by_cases hp : pl = []
        · exact hp
        · exact absurd ((hne g6).2 hp) (by simp)
      subst hp
      exact copy_end rfl hS
end Go.Proofs.Ytdbhnlelpcoldaa.V

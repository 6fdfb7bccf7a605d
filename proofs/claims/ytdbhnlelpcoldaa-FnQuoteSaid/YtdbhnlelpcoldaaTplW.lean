/- The walks of ReadTemplate. No statement of the seat is proved here. -/
import Derived.Test.YtdbhnlelpcoldaaVTpl
import Derived.Test.YtdbhnlelpcoldaaTplP
import Derived.Test.YtdbhnlelpcoldaaOwn
namespace Go.Proofs.Ytdbhnlelpcoldaa.V
open Go.Vc Go.Proofs Go.RowKit
set_option linter.unusedVariables false
set_option linter.unusedSimpArgs false

theorem L_empty : L (⟨#[]⟩ : ByteArray) = [] := rfl
theorem elemBit : Elem Try.prog 27 32 2 24 := ⟨Try.underlying27, by kernel_rfl, by kernel_rfl, ⟨[.int .i64 0, .string ⟨#[]⟩], by kernel_rfl, rfl⟩⟩
/-- A template's value, its row a new one. -/
def RetT (r : Bool × Nat × Bits) (w : World) : Ending → World → Prop := fun e w' => ∃ a c, e = .returned (.agg #[.bool r.1, .int .i64 (r.2.1 : Int), .slice a r.2.2.length c]) ∧ Row w.heap.size w' 32 2 a r.2.2.length c (bitsC r.2.2) ∧ Below w.heap.size w w'

/-- The closure that ends a plain piece. -/
theorem flush_ok (w : World) {N b1 b3 : Nat} {pl : Bytes} {bs : Bits} {a : Option Addr} {l c : Nat} (hl : l = bs.length) (hbd : l ≤ 1000) (h1 : Blk w.heap b1 9 [.string (B pl)]) (h3 : Blk w.heap b3 27 [.slice a l c]) (hR : Row N w 32 2 a l c (bitsC bs)) (hb1 : b1 < N) (hb3 : b3 < N) (hne : b1 ≠ b3)
    {M : Nat} (hM : M ≤ b1) (hM' : M ≤ b3) : Cl Try.prog 28 [.pointer (some ⟨b1, 0, none⟩), .pointer (some ⟨b3, 0, none⟩)] w (fun e w' => e = .returned (.tuple #[]) ∧ ∃ a2 c2, Blk w'.heap b1 9 [.string (B [])] ∧ Blk w'.heap b3 27 [.slice a2 (fl pl bs).length c2] ∧ Row N w' 32 2 a2 (fl pl bs).length c2 (bitsC (fl pl bs)) ∧ Ext (fun k => k = b1 ∨ k = b3 ∨ N ≤ k) w w') := by
  apply vc28
  unfold V28
  subst hl
  refine ⟨B pl, h1.cell 0, fun h => ?_, fun h => ?_⟩
  · have hp : pl ≠ [] := by rintro rfl; simp [toList_eq, L_empty] at h
    have hf : fl pl bs = bs ++ [(-1, pl)] := by unfold fl; rw [if_neg hp]
    obtain ⟨a2, c2, w2, r1, r2, r3⟩ := hR.app1 elemBit (ys := bitC (-1, pl)) (n := 1) rfl rfl (by omega) (by omega)
    refine ⟨a, bs.length, c, h3.cell 0, B pl, h1.cell 0, a2, bs.length + 1, c2, w2, r1, ?_⟩
    have k1 := h1.stay r3 hb1
    have k3 := h3.stay r3 hb3
    refine ⟨k3.wrL (by show 0 + 1 ≤ 1; decide), ?_⟩
    have m3 : Blk (setsW w2 b3 0 [.slice a2 (bs.length + 1) c2]).heap b3 27 [.slice a2 (bs.length + 1) c2] := k3.sets
    have m1 : Blk (setsW w2 b3 0 [.slice a2 (bs.length + 1) c2]).heap b1 9 [.string (B pl)] := k1.vsets hne
    refine ⟨m1.wrL (by show 0 + 1 ≤ 1; decide), ?_⟩
    have n1 : Blk (setsW (setsW w2 b3 0 [.slice a2 (bs.length + 1) c2]) b1 0 [.string ⟨#[]⟩]).heap b1 9 [.string (B [])] := m1.sets
    have n3 : Blk (setsW (setsW w2 b3 0 [.slice a2 (bs.length + 1) c2]) b1 0 [.string ⟨#[]⟩]).heap b3 27 [.slice a2 (bs.length + 1) c2] := m3.vsets (Ne.symm hne)
    refine ⟨rfl, a2, c2, n1, by rw [hf, List.length_append]; exact n3, ?_, ?_⟩
    · rw [hf, bitsC_append, bitsC_one, List.length_append]
      exact (r2.vsets hb3).vsets hb1
    · refine Ext.vsets (.inl (.inl rfl)) (Ext.vsets (.inl (.inr (.inl rfl))) (Ext.mono r3 fun k _ hk => .inr (.inr hk)))
  · have hp : pl = [] := by simpa [toList_eq, L_empty] using h
    subst hp
    exact ⟨rfl, a, c, h1, h3, hR, Ext.refl _ _⟩
def TS (w w' : World) (pl : Bytes) (bs : Bits) (a : Option Addr) (c : Nat) : Prop :=
  Blk w'.heap w.heap.size 29 [.bool false, .int .i64 0, .slice none 0 0] ∧ Blk w'.heap (w.heap.size + 1) 27 [.slice a bs.length c] ∧ Blk w'.heap (w.heap.size + 2) 9 [.string (B pl)] ∧
    Row (w.heap.size + 3) w' 32 2 a bs.length c (bitsC bs) ∧ Below w.heap.size w w'
/-- The end with a failure. -/
theorem bad_end {w w' : World} {n : Int} {i : Nat} {r : Bool × Nat × Bits} (hr : r = (false, i, [])) (hn : n = i) (h2 : Blk w'.heap w.heap.size 29 [.bool false, .int .i64 0, .slice none 0 0]) (hb : Below w.heap.size w w') :
    stW w.heap.size 0 [.bool false, .int .i64 n, .slice none 0 0] (fun w4 => ∃ (t5 : Bool), cellH w4.heap w.heap.size 0 = some (.bool t5) ∧ ∃ (n6 : Int), cellH w4.heap w.heap.size 1 = some (.int .i64 n6) ∧ ∃ (a7 : Option Addr), ∃ (l7 : Nat), ∃ (c7 : Nat), cellH w4.heap w.heap.size 2 = some (.slice a7 l7 c7) ∧
      RetT r w (.returned (.agg #[.bool t5, .int .i64 n6, .slice a7 l7 c7])) w4) w' := by
  subst hr hn
  refine stW_in h2 (by show 0 + 3 ≤ 3; decide) fun w4 s4 k4 e4 => ?_
  exact ⟨false, k4.cell 0, i, k4.cell 1, none, 0, 0, k4.cell 2, none, 0, rfl, Row.nil _ _ (by have := hb.size; omega), Ext.to hb e4 (fun i h => by omega)⟩
theorem good_end {w w' : World} {bs : Bits} {a : Option Addr} {c : Nat} {r : Bool × Nat × Bits} (hr : r = (true, 0, bs)) (h2 : Blk w'.heap w.heap.size 29 [.bool false, .int .i64 0, .slice none 0 0]) (hR : Row (w.heap.size + 1) w' 32 2 a bs.length c (bitsC bs)) (hb : Below w.heap.size w w') :
    stW w.heap.size 0 [.bool true, .int .i64 0, .slice a bs.length c] (fun w4 => ∃ (t5 : Bool), cellH w4.heap w.heap.size 0 = some (.bool t5) ∧ ∃ (n6 : Int), cellH w4.heap w.heap.size 1 = some (.int .i64 n6) ∧ ∃ (a7 : Option Addr), ∃ (l7 : Nat), ∃ (c7 : Nat), cellH w4.heap w.heap.size 2 = some (.slice a7 l7 c7) ∧
      RetT r w (.returned (.agg #[.bool t5, .int .i64 n6, .slice a7 l7 c7])) w4) w' := by
  subst hr
  refine stW_in h2 (by show 0 + 3 ≤ 3; decide) fun w4 s4 k4 e4 => ?_
  exact ⟨true, k4.cell 0, 0, k4.cell 1, a, bs.length, c, k4.cell 2, a, c, rfl, (hR.keep e4 fun b hb => by omega).mono (by omega), Ext.to hb e4 (fun i h => by omega)⟩
theorem byte_dig (s : ByteArray) {i : Nat} (h : 48 ≤ at_ (L s) i ∧ at_ (L s) i ≤ 57) : IntKind.wrap .i64 (IntKind.wrap .u8 (byteAt s i - 48)) = (at_ (L s) i : Int) - 48 := by
  rw [byteAt_at, w8, w64 (by omega)]; omega

theorem implTemplate_ok (s : ByteArray) (w : World) : Cl Try.prog 15 [.string s] w (RetT (tplT (L s)) w) := by
  apply vc15
  unfold V15
  have hsz : s.size = (L s).length := size_L s
  refine newC_in fun w3 s3 k2 e3 => ?_
  have hb3 : Below w.heap.size w w3 := e3.below fun _ _ h => h
  refine ⟨fun g => ?_, fun g => ?_⟩
  · have g' := of_decide_eq_true g
    exact bad_end (i := 100) (by unfold tplT; rw [if_pos (by omega)]) rfl k2 hb3
  have g' := of_decide_eq_false g
  have hT : tplT (L s) = tpl (L s) 0 [] [] := by unfold tplT; rw [if_neg (by omega)]
  rw [hT]
  refine newC_in fun w9 s9 k8 e9 => ?_
  refine newC_in fun w11 s11 k10 e11 => ?_
  refine stW_in k10 (by show 0 + 1 ≤ 1; decide) fun w12 s12 k10' e12 => ?_
  rw [s9, s3] at k10' e12 s11
  rw [s3] at k8 s9
  rw [show w9.heap.size = w.heap.size + 2 from by omega, show w3.heap.size = w.heap.size + 1 from s3]
  have t0 : TS w w12 [] [] none 0 := by
    refine ⟨((k2.keep e9 fun h => h).keep e11 fun h => h).keep e12 (by omega), (k8.keep e11 fun h => h).keep e12 (by omega), k10', Row.nil _ _ (by omega), ?_⟩
    exact Ext.to (Ext.to (Ext.to hb3 e9 (fun _ h => h.elim)) e11 (fun _ h => h.elim)) e12 (fun i h => by omega)
  refine ⟨fun k n w' => ∃ (i : Nat) (pl : Bytes) (bs : Bits) (a : Option Addr) (c : Nat), n = i ∧ i ≤ s.size ∧ k = s.size - i ∧ tpl (L s) i pl bs = tpl (L s) 0 [] [] ∧ bs.length ≤ i ∧ pl.length ≤ i ∧ TS w w' pl bs a c, ⟨s.size, 0, [], [], none, 0, rfl, by omega, rfl, rfl, by simp, by simp, t0⟩, ?_⟩
  rintro k d n w1 ⟨i, pl, bs, a, c, rfl, hi, rfl, hu, hbl, hpl, h2, h8, h10, hR, hb⟩
  have e0 : Int.toNat (i : Int) = i := by omega
  have e1 : IntKind.wrap .i64 ((i : Int) + 1) = ((i + 1 : Nat) : Int) := by rw [w64 (by omega)]; omega
  have e2 : IntKind.wrap .i64 (((i + 1 : Nat) : Int) + 1) = ((i + 2 : Nat) : Int) := by rw [w64 (by omega)]; omega
  have e3' : Int.toNat ((i + 1 : Nat) : Int) = i + 1 := by omega
  rw [e0, e1, e2, e3']
  refine ⟨fun g0 => ?_, fun g0 => ?_⟩
  · have g0' : i < s.size := by have := of_decide_eq_true g0; omega
    refine ⟨⟨by omega, by omega⟩, fun g1 => ?_, fun g1 => ?_⟩
    · have g1' : at_ (L s) i ≠ 36 := by
        rw [byteAt_at] at g1
        have : ((at_ (L s) i : Nat) : Int) ≠ 36 := by simpa using g1
        omega
      have hx := extract_one s g0'
      refine drw_in fun w19 q19 e19 => ?_
      refine ⟨B pl, by rw [q19]; exact h10.cell 0, ⟨by omega, by omega, by omega⟩, ?_, ?_⟩
      · rw [hx, size_B, size_B]; simp; omega
      · rw [hx, B_append]
        refine stW_in (h10.keep e19 fun h => h) (by show 0 + 1 ≤ 1; decide) fun w21 s21 k21 e21 => ?_
        refine ⟨s.size - (i + 1), by omega, i + 1, pl ++ [(L s).getD i 0], bs, a, c, rfl, by omega, rfl, ?_, by omega, by simp; omega, ?_⟩
        · rw [← hu]
          exact (show tpl (L s) i pl bs = tpl (L s) (i + 1) (pl ++ [(L s).getD i 0]) bs from by rw [tpl, dif_pos (by omega), if_pos g1']).symm
        · exact ⟨(h2.keep e19 fun h => h).keep e21 (by omega), (h8.keep e19 fun h => h).keep e21 (by omega), k21, (hR.keep e19 fun _ _ h => h).keep e21 (fun b hb => by omega), Ext.to (Ext.to hb e19 fun _ h => h.elim) e21 (fun i h => by omega)⟩
    have g1' : at_ (L s) i = 36 := by
      rw [byteAt_at] at g1
      have : ((at_ (L s) i : Nat) : Int) = 36 := by simpa using g1
      omega
    refine ⟨fun g2 => ?_, fun g2 => ?_⟩
    · have g2' : ((i + 1 : Nat) : Int) = s.size := by simpa using g2
      refine bad_end (i := i + 1) ?_ rfl h2 hb
      rw [← hu, tpl, dif_pos (by omega), if_neg (by omega), if_pos (by omega)]
    have g2' : ¬ ((i + 1 : Nat) : Int) = s.size := by simpa using g2
    refine ⟨⟨by omega, by omega⟩, fun g3 => ?_, fun g3 => ⟨⟨by omega, by omega⟩, fun g4 => ⟨⟨by omega, by omega⟩, fun g5 => ?_, fun g5 => ?_⟩, fun g4 => ?_⟩⟩
    · have g3' : at_ (L s) (i + 1) = 36 := by
        rw [byteAt_at] at g3
        have : ((at_ (L s) (i + 1) : Nat) : Int) = 36 := by simpa using g3
        omega
      refine ⟨B pl, h10.cell 0, by rw [size_B]; show pl.length + 1 ≤ _; omega, ?_⟩
      refine stW_in h10 (by show 0 + 1 ≤ 1; decide) fun w28 s28 k28 e28 => ?_
      refine ⟨s.size - (i + 2), by omega, i + 2, pl ++ [36], bs, a, c, rfl, by omega, rfl, ?_, by omega, by simp; omega, ?_⟩
      · rw [← hu]
        exact (show tpl (L s) i pl bs = tpl (L s) (i + 2) (pl ++ [36]) bs from by rw [tpl, dif_pos (by omega), if_neg (by omega), if_neg (by omega), if_pos g3']).symm
      · refine ⟨h2.keep e28 (by omega), h8.keep e28 (by omega), ?_, hR.keep e28 (fun b hb => by omega), Ext.to hb e28 (fun i h => by omega)⟩
        rw [← B_append]; exact k28
    all_goals have g3' : ¬ at_ (L s) (i + 1) = 36 := by
                rw [byteAt_at] at g3
                have : ¬ ((at_ (L s) (i + 1) : Nat) : Int) = 36 := by simpa using g3
                omega
    · have g4' := of_decide_eq_true g4
      have g5' := of_decide_eq_true g5
      rw [byteAt_at] at g4' g5'
      have hf : (fl pl bs).length ≤ bs.length + 1 := by unfold fl; split <;> simp
      refine (flush_ok w1 rfl (by omega) h10 h8 hR (by omega) (by omega) (by omega) (M := 0) (by omega) (by omega)).use fun e w2 he => ?_
      obtain ⟨rfl, a2, c2, j10, j8, jR, je⟩ := he
      refine ⟨rfl, ?_⟩
      refine drw_in fun w32 q32 e32 => ?_
      have hb2 : Below w.heap.size w w2 := Ext.to hb je (fun i h => by omega)
      refine ⟨a2, _, c2, by rw [q32]; exact j8.cell 0, ⟨by omega, by omega⟩, ?_⟩
      rw [byte_dig s (by omega)]
      refine ⟨?_, ?_⟩
      · rw [(Ext.vnew (Ext.refl (fun _ => False) w32) _).cellH (b := w.heap.size + 1) (by rw [q32]; exact j8.lt) (fun h => h), q32]; exact j8.cell 0
      obtain ⟨a3, c3, w3', r1, r2, r3⟩ := (jR.keep e32 fun _ _ h => h).app1 elemBit (ys := bitC (((at_ (L s) (i + 1) : Nat) : Int) - 48, [])) (n := 1) rfl rfl (by omega) (by omega)
      refine ⟨a3, _, c3, w3', r1, ?_⟩
      have m8 := (j8.keep e32 fun h => h).stay r3 (by omega)
      have m10 := (j10.keep e32 fun h => h).stay r3 (by omega)
      have m2 := ((h2.keep je (by omega)).keep e32 fun h => h).stay r3 (by omega)
      have mb : Below w.heap.size w w3' := Ext.to (Ext.to hb2 e32 fun _ h => h.elim) r3 (fun i (h : _ ≤ i) => by omega)
      refine stW_in m8 (by show 0 + 1 ≤ 1; decide) fun w38 s38 k38 e38 => ?_
      refine ⟨s.size - (i + 2), by omega, i + 2, [], fl pl bs ++ [(((at_ (L s) (i + 1) : Nat) : Int) - 48, [])], a3, c3, rfl, by omega, rfl, ?_, by rw [List.length_append]; simp; omega, by simp, ?_⟩
      · rw [← hu]
        exact (show tpl (L s) i pl bs = tpl (L s) (i + 2) [] (fl pl bs ++ [(((at_ (L s) (i + 1) : Nat) : Int) - 48, [])]) from by rw [tpl, dif_pos (by omega), if_neg (by omega), if_neg (by omega), if_neg g3', if_neg (by omega)]).symm
      · refine ⟨m2.keep e38 (by omega), ?_, m10.keep e38 (by omega), ?_, Ext.to mb e38 (fun i h => by omega)⟩
        · rw [List.length_append]; exact k38
        · rw [bitsC_append, bitsC_one, List.length_append]; exact r2.keep e38 (fun b hb => by omega)
    · have g5' := of_decide_eq_false g5
      rw [byteAt_at] at g5'
      refine bad_end (i := i + 1) ?_ rfl h2 hb
      rw [← hu, tpl, dif_pos (by omega), if_neg (by omega), if_neg (by omega), if_neg g3', if_pos (by omega)]
    · have g4' := of_decide_eq_false g4
      rw [byteAt_at] at g4'
      refine bad_end (i := i + 1) ?_ rfl h2 hb
      rw [← hu, tpl, dif_pos (by omega), if_neg (by omega), if_neg (by omega), if_neg g3', if_pos (by omega)]
  · have g0' := of_decide_eq_false g0
    refine (flush_ok w1 rfl (by omega) h10 h8 hR (by omega) (by omega) (by omega) (M := 0) (by omega) (by omega)).use fun e w2 he => ?_
    obtain ⟨rfl, a2, c2, j10, j8, jR, je⟩ := he
    refine ⟨rfl, a2, _, c2, j8.cell 0, ?_⟩
    refine good_end ?_ (h2.keep je (by omega)) (jR.mono (by omega)) (Ext.to hb je (fun i h => by omega))
    rw [← hu, tpl, dif_neg (by omega)]
end Go.Proofs.Ytdbhnlelpcoldaa.V

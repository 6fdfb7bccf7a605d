/- The walks of Unquote in the reference. No statement of the seat is proved here. -/
import Derived.Test.YtdbhnlelpcoldaaVUnq
import Derived.Test.YtdbhnlelpcoldaaUnqP
import Derived.Test.YtdbhnlelpcoldaaQuoX
namespace Go.Proofs.Ytdbhnlelpcoldaa.V
open Go.Vc Go.Proofs Go.RowKit
set_option linter.unusedVariables false
set_option linter.unusedSimpArgs false

theorem l1hex_ok (n : Int) (h : 0 ≤ n ∧ n ≤ 255) (w : World) : Cl Try.prog 29 [.int .u8 n] w (RetB (.int .i64 (match hexv n.toNat with | some v => (v : Int) | none => -1)) w) := by
  apply vc29
  unfold V29
  have hb : Below w.heap.size w w := Below.refl _ _
  have d1 : 48 ≤ n → n ≤ 57 → RetB (.int .i64 (match hexv n.toNat with | some v => (v : Int) | none => -1)) w (.returned (.int .i64 (IntKind.wrap .i64 (IntKind.wrap .u8 (n - 48))))) w := by
    intro h1 h2
    refine ⟨?_, hb⟩
    rw [w8, w64 (by omega), show hexv n.toNat = some (n.toNat - 48) from by unfold hexv; rw [if_pos (by omega)]]
    simp only []
    congr 2; omega
  have d2 : 97 ≤ n → n ≤ 102 → RetB (.int .i64 (match hexv n.toNat with | some v => (v : Int) | none => -1)) w (.returned (.int .i64 (IntKind.wrap .i64 ((IntKind.wrap .i64 (IntKind.wrap .u8 (n - 97))) + 10)))) w := by
    intro h1 h2
    refine ⟨?_, hb⟩
    rw [w8, w64 (n := (n - 97) % 256) (by omega), w64 (by omega), show hexv n.toNat = some (n.toNat - 87) from by unfold hexv; rw [if_neg (by omega), if_pos (by omega)]]
    simp only []
    congr 2; omega
  have d3 : ¬ (48 ≤ n ∧ n ≤ 57) → ¬ (97 ≤ n ∧ n ≤ 102) → RetB (.int .i64 (match hexv n.toNat with | some v => (v : Int) | none => -1)) w (.returned (.int .i64 (-1))) w := by
    intro h1 h2
    refine ⟨?_, hb⟩
    rw [show hexv n.toNat = none from by unfold hexv; rw [if_neg (by omega), if_neg (by omega)]]
  simp only [decide_eq_true_eq, decide_eq_false_iff_not]
  repeat' (first | exact d1 (by omega) (by omega) | exact d2 (by omega) (by omega) | exact d3 (by omega) (by omega) | apply And.intro | intro _)

def zeroU : List Value := [.bool false, .int .i64 0, .string ⟨#[]⟩]
/-- The world in which the answer's variable has been made. -/
def wU (w : World) : World := newW w (.cells ⟨zeroU⟩ 35)
theorem wU_size (w : World) : (wU w).heap.size = w.heap.size + 1 := by simp [wU, newW]
theorem wU_below {w w1 : World} (h : Below (wU w).heap.size (wU w) w1) : Below w.heap.size w w1 :=
  ((Below.refl _ w).vnew (Nat.le_refl _) _).trans (h.mono (by rw [wU_size]; omega))
theorem resU {w w1 : World} (hb : Below (wU w).heap.size (wU w) w1) {t : Bool} {n : Int} {s : ByteArray} {v : Value} (hv : Value.agg #[.bool t, .int .i64 n, .string s] = v) :
    stW w.heap.size 0 [.bool t, .int .i64 n, .string s] (fun (w4 : World) => ∃ (t5 : Bool), cellH w4.heap w.heap.size 0 = some (.bool t5) ∧ ∃ (n6 : Int), cellH w4.heap w.heap.size 1 = some (.int .i64 n6) ∧ ∃ (s7 : ByteArray), cellH w4.heap w.heap.size 2 = some (.string s7) ∧ RetB v w (.returned (.agg #[.bool t5, .int .i64 n6, .string s7])) w4) w1 := by
  have hB : Blk w1.heap w.heap.size 35 zeroU := by
    unfold Blk; rw [hb.block _ (by rw [wU_size]; omega)]; exact Blk.new w 35 zeroU
  have h2 : Blk (setsW w1 w.heap.size 0 [.bool t, .int .i64 n, .string s]).heap w.heap.size 35 [.bool t, .int .i64 n, .string s] := hB.sets
  refine ⟨hB.wrL (by show 0 + 3 ≤ 3; decide), t, h2.cell 0, n, h2.cell 1, s, h2.cell 2, by rw [hv], (wU_below hb).vsets (Nat.le_refl _)⟩
theorem ofNat_u8 {v : Nat} (h : v < 256) : IntKind.wrap .u8 (v : Int) = ((UInt8.ofNat v).toNat : Int) := by
  rw [w8]; simp
theorem at_u8 (l : Bytes) (i : Nat) : (at_ l i : Int) = ((l.getD i 0).toNat : Int) := rfl

/-- What a search among the first digits finds. -/
def hexU (c : Nat) (j : Nat) : Int := match hexv c with
  | some v => if v < j then (v : Int) else -1
  | none => -1
theorem hexU_zero (c : Nat) : hexU c 0 = -1 := by unfold hexU; split <;> simp
theorem hexd_val {j : Nat} (h : j < 16) : (hexd j).toNat = if j < 10 then 48 + j else 87 + j := by
  have : ∀ k : Fin 16, (hexd k.val).toNat = if k.val < 10 then 48 + k.val else 87 + k.val := by decide +kernel
  exact this ⟨j, h⟩
theorem hexU_hit {c j : Nat} (h : j < 16) (hc : (hexd j).toNat = c) : (j : Int) = hexU c (j + 1) := by
  rw [hexd_val h] at hc
  have : hexv c = some j := by
    unfold hexv
    by_cases h10 : j < 10
    · rw [if_pos h10] at hc; rw [if_pos (by omega)]; congr 1; omega
    · rw [if_neg h10] at hc; rw [if_neg (by omega), if_pos (by omega)]; congr 1; omega
  unfold hexU; rw [this]; simp
theorem hexU_miss {c j : Nat} (h : j < 16) (hc : ¬ (hexd j).toNat = c) : hexU c j = hexU c (j + 1) := by
  rw [hexd_val h] at hc
  unfold hexU
  cases hv : hexv c with
  | none => rfl
  | some v =>
    simp only []
    have : v ≠ j := by
      rintro rfl
      unfold hexv at hv
      split at hv
      · cases hv; split at hc <;> omega
      · split at hv
        · cases hv; split at hc <;> omega
        · cases hv
    by_cases h1 : v < j
    · rw [if_pos h1, if_pos (by omega)]
    · rw [if_neg h1, if_neg (by omega)]
theorem hexU_end (c : Nat) : hexU c 16 = match hexv c with | some v => (v : Int) | none => -1 := by
  unfold hexU
  cases hv : hexv c with
  | none => rfl
  | some v => simp only []; rw [if_pos (hexv_lt hv)]

theorem specUnquote_ok (s : ByteArray) (w : World) : Cl Try.prog 17 [.string s] w (RetB (unqV (unqT (L s))) w) := by
  apply vc17
  unfold V17
  have hsz : s.size = (L s).length := size_L s
  have hb0 : Below (wU w).heap.size (wU w) (wU w) := Below.refl _ _
  refine ⟨fun h1 => ?_, fun h1 => ⟨fun h2 => ?_, fun h2 => ⟨⟨by omega, ?_⟩, fun h3 => ?_, fun h3 => ?_⟩⟩⟩
  · have h1' := of_decide_eq_true h1
    refine resU hb0 ?_
    unfold unqT; rw [if_pos (by omega)]; rfl
  · have h1' := of_decide_eq_false h1
    have h2' : ((s.size : Nat) : Int) = 0 := by simpa using h2
    refine resU hb0 ?_
    unfold unqT; rw [if_neg (by omega), if_pos (by omega)]; rfl
  · have h2' : ¬ ((s.size : Nat) : Int) = 0 := by simpa using h2
    omega
  · have h1' := of_decide_eq_false h1
    have h3' : byteAt s (Int.toNat 0) ≠ 34 := by simpa using h3
    rw [show Int.toNat 0 = 0 from rfl, byteAt_at] at h3'
    refine resU hb0 ?_
    unfold unqT; rw [if_neg (by omega), if_pos (by omega)]; rfl
  have h1' := of_decide_eq_false h1
  have h2' : ¬ ((s.size : Nat) : Int) = 0 := by simpa using h2
  have h3' : byteAt s (Int.toNat 0) = 34 := by simpa using h3
  rw [show Int.toNat 0 = 0 from rfl, byteAt_at] at h3'
  have hT : unqT (L s) = unq (L s) 1 [] := by
    unfold unqT; rw [if_neg (by omega), if_neg (by omega)]
  rw [hT]
  refine ⟨fun k a l c n w' => ∃ (i : Nat) (out : Bytes), n = i ∧ i ≤ s.size ∧ k = s.size - i ∧ out.length ≤ i ∧ unq (L s) i out = unq (L s) 1 [] ∧ Own8 (wU w) w' a l c out, ⟨s.size - 1, 1, [], rfl, by omega, rfl, by simp, rfl, ⟨Vec.nil _ _ _, rfl, by simp [blkOf], hb0⟩⟩, ?_⟩
  rintro k d a l c0 n w1 ⟨i, out, rfl, hi, rfl, hol, hu, hO⟩
  have hlb : l = out.length := hO.2.1
  have hb := hO.2.2.2
  have e0 : Int.toNat (i : Int) = i := by omega
  have e1 : IntKind.wrap .i64 ((i : Int) + 1) = ((i + 1 : Nat) : Int) := by rw [w64 (by omega)]; omega
  have e2 : IntKind.wrap .i64 (((i + 1 : Nat) : Int) + 1) = ((i + 2 : Nat) : Int) := by rw [w64 (by omega)]; omega
  have e3 : Int.toNat ((i + 1 : Nat) : Int) = i + 1 := by omega
  rw [e0, e1, e2, e3, byteAt_at, byteAt_at]
  refine ⟨fun g0 => ?_, fun g0 => ?_⟩
  · have g0' : i < s.size := by have := of_decide_eq_true g0; omega
    refine ⟨⟨by omega, by omega⟩, fun g1 => ?_, fun g1 => ⟨fun g2 => ?_, fun g2 => ⟨fun g3 => ?_, fun g3 => ⟨fun g4 => ?_, fun g4 => ?_⟩⟩⟩⟩
    · have g1' : at_ (L s) i = 34 := by have : ((at_ (L s) i : Nat) : Int) = 34 := by simpa using g1
                                        omega
      refine ⟨fun g2 => ?_, fun g2 => ?_⟩
      · have g2' := of_decide_eq_true g2
        refine resU hb ?_
        rw [← hu, unq, dif_pos (by omega), if_pos g1', if_pos (by omega)]; rfl
      · have g2' := of_decide_eq_false g2
        refine ⟨B out, hO.str, resU hb ?_⟩
        rw [← hu, unq, dif_pos (by omega), if_pos g1', if_neg (by omega)]; rfl
    all_goals have g1' : ¬ at_ (L s) i = 34 := by
                have : ¬ ((at_ (L s) i : Nat) : Int) = 34 := by simpa using g1
                omega
    · have g2' := of_decide_eq_true g2
      refine resU hb ?_
      rw [← hu, unq, dif_pos (by omega), if_neg g1', if_pos (by omega)]; rfl
    all_goals have g2' := of_decide_eq_false g2
    · have g3' := of_decide_eq_true g3
      refine resU hb ?_
      rw [← hu, unq, dif_pos (by omega), if_neg g1', if_pos (by omega)]; rfl
    all_goals have g3' := of_decide_eq_false g3
    · have g4' : at_ (L s) i ≠ 92 := by
        have : ((at_ (L s) i : Nat) : Int) ≠ 92 := by simpa using g4
        omega
      refine app8 [(L s).getD i 0] (n := 1) rfl rfl hO (by omega) fun a2 c2 w' h2 => ⟨s.size - (i + 1), by omega, i + 1, _, rfl, by omega, rfl, by simp; omega, ?_, h2⟩
      rw [← hu]
      exact (show unq (L s) i out = unq (L s) (i + 1) (out ++ [(L s).getD i 0]) from by rw [unq, dif_pos (by omega), if_neg g1', if_neg (by omega), if_pos g4']).symm
    have g4' : at_ (L s) i = 92 := by
      have : ((at_ (L s) i : Nat) : Int) = 92 := by simpa using g4
      omega
    have hU := unq_esc (out := out) (by omega : i < (L s).length) g4'
    rw [hU] at hu
    unfold unqE at hu hU
    refine ⟨fun g5 => ?_, fun g5 => ⟨⟨by omega, ?_⟩, ?_⟩⟩
    · have g5' : ((i + 1 : Nat) : Int) = s.size := by simpa using g5
      refine resU hb ?_
      rw [← hu, if_pos (by omega)]; rfl
    · have g5' : ¬ ((i + 1 : Nat) : Int) = s.size := by simpa using g5
      omega
    have g5' : ¬ ((i + 1 : Nat) : Int) = s.size := by simpa using g5
    rw [if_neg (by omega)] at hu
    have hn : ∀ {x : Nat}, (((at_ (L s) (i + 1) : Nat) : Int) == (x : Int)) = true → at_ (L s) (i + 1) = x := by
      intro x hx
      have : ((at_ (L s) (i + 1) : Nat) : Int) = (x : Int) := by simpa using hx
      omega
    have hn' : ∀ {x : Nat}, (((at_ (L s) (i + 1) : Nat) : Int) == (x : Int)) = false → ¬ at_ (L s) (i + 1) = x := by
      intro x hx
      have : ¬ ((at_ (L s) (i + 1) : Nat) : Int) = (x : Int) := by simpa using hx
      omega
    refine ⟨fun g6 => ?_, fun g6 => ⟨fun g7 => ?_, fun g7 => ⟨fun g8 => ?_, fun g8 => ⟨fun g9 => ?_, fun g9 => ⟨fun g10 => ?_, fun g10 => ?_⟩⟩⟩⟩⟩
    · rw [if_pos (hn (x := 110) g6)] at hu
      exact app8 [10] (n := 1) rfl rfl hO (by omega) fun a2 c2 w' h2 => ⟨s.size - (i + 2), by omega, i + 2, _, rfl, by omega, rfl, by simp; omega, hu, h2⟩
    all_goals rw [if_neg (hn' (x := 110) g6)] at hu
    · rw [if_pos (hn (x := 116) g7)] at hu
      exact app8 [9] (n := 1) rfl rfl hO (by omega) fun a2 c2 w' h2 => ⟨s.size - (i + 2), by omega, i + 2, _, rfl, by omega, rfl, by simp; omega, hu, h2⟩
    all_goals rw [if_neg (hn' (x := 116) g7)] at hu
    · rw [if_pos (.inl (hn (x := 34) g8))] at hu
      exact ⟨⟨by omega, by omega⟩, app8 [(L s).getD (i + 1) 0] (n := 1) rfl rfl hO (by omega) fun a2 c2 w' h2 => ⟨s.size - (i + 2), by omega, i + 2, _, rfl, by omega, rfl, by simp; omega, hu, h2⟩⟩
    · rw [if_pos (.inr (hn (x := 92) g9))] at hu
      exact ⟨⟨by omega, by omega⟩, app8 [(L s).getD (i + 1) 0] (n := 1) rfl rfl hO (by omega) fun a2 c2 w' h2 => ⟨s.size - (i + 2), by omega, i + 2, _, rfl, by omega, rfl, by simp; omega, hu, h2⟩⟩
    all_goals rw [if_neg (by have := hn' (x := 34) g8; have := hn' (x := 92) g9; omega)] at hu
    · have h120 := hn (x := 120) g10
      have hu0 : unq (L s) i out = unq (L s) 1 [] := by rw [hU, if_neg (by omega), if_neg (hn' (x := 110) g6), if_neg (hn' (x := 116) g7), if_neg (by have := hn' (x := 34) g8; have := hn' (x := 92) g9; omega)]; exact hu
      refine ⟨fun k n v m w' => ∃ kk vv : Nat, m = kk ∧ v = vv ∧ n = ((i + 1 + kk : Nat) : Int) ∧ kk ≤ 2 ∧ k = 2 - kk ∧ i + 1 + kk < s.size ∧ Hx (L s) (i + 2) kk vv ∧ Own8 (wU w) w' a l c0 out, ⟨2, 0, 0, rfl, rfl, rfl, by omega, rfl, by omega, .inl ⟨rfl, rfl⟩, hO⟩, ?_⟩
      rintro _ d2 n v m w2 ⟨kk, vv, rfl, rfl, rfl, hk2, rfl, hkl, hx, hO2⟩
      have hxl := hx.lt
      have f1 : IntKind.wrap .i64 (((i + 1 + kk : Nat) : Int) + 1) = ((i + 2 + kk : Nat) : Int) := by rw [w64 (by omega)]; omega
      have f2 : Int.toNat ((i + 2 + kk : Nat) : Int) = i + 2 + kk := by omega
      rw [f1, f2]
      refine ⟨fun q0 => ?_, fun q0 => ?_⟩
      · have q0' : kk < 2 := by have := of_decide_eq_true q0; omega
        refine ⟨fun q1 => ?_, fun q1 => ⟨⟨by omega, ?_⟩, ?_⟩⟩
        · have q1' : ((i + 2 + kk : Nat) : Int) = s.size := by simpa using q1
          refine resU hO2.2.2.2 ?_
          rw [← hu0, unq_x_end (by omega) g4' h120 hx q0' (by omega)]
          have : i + 2 + kk = (L s).length := by omega
          rw [this]; rfl
        · have q1' : ¬ ((i + 2 + kk : Nat) : Int) = s.size := by simpa using q1
          omega
        have q1' : ¬ ((i + 2 + kk : Nat) : Int) = s.size := by simpa using q1
        have hbr := byte_rng' s (i + 2 + kk)
        have htn : (byteAt s (i + 2 + kk)).toNat = at_ (L s) (i + 2 + kk) := by rw [byteAt_at]; omega
        refine (l1hex_ok _ hbr w2).ret fun w3 hb3 => ⟨_, rfl, fun q2 => ?_, fun q2 => ⟨⟨by omega, by omega⟩, (l1hex_ok _ hbr w3).ret fun w4 hb4 => ⟨_, rfl, ?_⟩⟩⟩
        · have q2' := of_decide_eq_true q2
          rw [htn] at q2'
          have hnone : hexv (at_ (L s) (i + 2 + kk)) = none := by
            cases hh : hexv (at_ (L s) (i + 2 + kk)) with
            | none => rfl
            | some v => rw [hh] at q2'; simp only [] at q2'; omega
          refine resU (hO2.2.2.2.vstep hb3) ?_
          rw [← hu0, unq_x_bad (by omega) g4' h120 hx q0' (by omega) hnone]; rfl
        · have q2' := of_decide_eq_false q2
          rw [htn] at q2' ⊢
          cases hh : hexv (at_ (L s) (i + 2 + kk)) with
          | none => rw [hh] at q2'; simp only [] at q2'; omega
          | some dv =>
            have hdv := hexv_lt hh
            have := hxl.2 q0'
            refine ⟨2 - (kk + 1), by omega, kk + 1, 16 * vv + dv, ?_, ?_, ?_, by omega, rfl, by omega, hx.step q0' (by exact hh), ?_⟩
            · rw [w64 (by omega)]; omega
            · simp only []
              rw [w64 (n := (vv : Int) * 16) (by omega), w64 (by omega)]; omega
            · omega
            · exact ⟨hO2.1.keep (Ext.of_below (S := fun _ => False) (hb3.vstep hb4)) (fun _ _ h => h), hO2.2.1, hO2.2.2.1, hO2.2.2.2.vstep (hb3.vstep hb4)⟩
      · have q0' : kk = 2 := by have := of_decide_eq_false q0; omega
        subst q0'
        refine app8 [UInt8.ofNat vv] (n := 1) rfl ?_ hO2 (by omega) fun a2 c2 w' h2 => ⟨s.size - (i + 4), by omega, i + 4, _, by omega, by omega, rfl, by simp; omega, ?_, h2⟩
        · rw [ofNat_u8 hxl.1]; rfl
        · rw [← hu0, unq_x_ok (by omega) g4' h120 hx]
    · rw [if_neg (hn' (x := 120) g10)] at hu
      refine resU hb ?_
      rw [← hu]; rfl
  · have g0' := of_decide_eq_false g0
    have : i = s.size := by omega
    refine resU hb ?_
    rw [← hu, unq, dif_neg (by omega)]; rfl
theorem implUnquote_ok (s : ByteArray) (w : World) : Cl Try.prog 18 [.string s] w (RetB (unqV (unqT (L s))) w) := by
  apply vc18
  unfold V18
  have hsz : s.size = (L s).length := size_L s
  have hb0 : Below (wU w).heap.size (wU w) (wU w) := Below.refl _ _
  refine ⟨fun h1 => ?_, fun h1 => ⟨fun h2 => ?_, fun h2 => ⟨⟨by omega, ?_⟩, fun h3 => ?_, fun h3 => ?_⟩⟩⟩
  · have h1' := of_decide_eq_true h1
    refine resU hb0 ?_
    unfold unqT; rw [if_pos (by omega)]; rfl
  · have h1' := of_decide_eq_false h1
    have h2' : ((s.size : Nat) : Int) = 0 := by simpa using h2
    refine resU hb0 ?_
    unfold unqT; rw [if_neg (by omega), if_pos (by omega)]; rfl
  · have h2' : ¬ ((s.size : Nat) : Int) = 0 := by simpa using h2
    omega
  · have h1' := of_decide_eq_false h1
    have h3' : byteAt s (Int.toNat 0) ≠ 34 := by simpa using h3
    rw [show Int.toNat 0 = 0 from rfl, byteAt_at] at h3'
    refine resU hb0 ?_
    unfold unqT; rw [if_neg (by omega), if_pos (by omega)]; rfl
  have h1' := of_decide_eq_false h1
  have h2' : ¬ ((s.size : Nat) : Int) = 0 := by simpa using h2
  have h3' : byteAt s (Int.toNat 0) = 34 := by simpa using h3
  rw [show Int.toNat 0 = 0 from rfl, byteAt_at] at h3'
  have hT : unqT (L s) = unq (L s) 1 [] := by
    unfold unqT; rw [if_neg (by omega), if_neg (by omega)]
  rw [hT]
  refine ⟨fun k a l c n w' => ∃ (i : Nat) (out : Bytes), n = i ∧ i ≤ s.size ∧ k = s.size - i ∧ out.length ≤ i ∧ unq (L s) i out = unq (L s) 1 [] ∧ Own8 (wU w) w' a l c out, ⟨s.size - 1, 1, [], rfl, by omega, rfl, by simp, rfl, ⟨Vec.nil _ _ _, rfl, by simp [blkOf], hb0⟩⟩, ?_⟩
  rintro k d a l c0 n w1 ⟨i, out, rfl, hi, rfl, hol, hu, hO⟩
  have hlb : l = out.length := hO.2.1
  have hb := hO.2.2.2
  have e0 : Int.toNat (i : Int) = i := by omega
  have e1 : IntKind.wrap .i64 ((i : Int) + 1) = ((i + 1 : Nat) : Int) := by rw [w64 (by omega)]; omega
  have e2 : IntKind.wrap .i64 (((i + 1 : Nat) : Int) + 1) = ((i + 2 : Nat) : Int) := by rw [w64 (by omega)]; omega
  have e3 : Int.toNat ((i + 1 : Nat) : Int) = i + 1 := by omega
  rw [e0, e1, e2, e3, byteAt_at, byteAt_at]
  refine ⟨fun g0 => ?_, fun g0 => ?_⟩
  · have g0' : i < s.size := by have := of_decide_eq_true g0; omega
    refine ⟨⟨by omega, by omega⟩, fun g1 => ?_, fun g1 => ⟨fun g2 => ?_, fun g2 => ⟨fun g3 => ?_, fun g3 => ⟨fun g4 => ?_, fun g4 => ?_⟩⟩⟩⟩
    · have g1' : at_ (L s) i = 34 := by have : ((at_ (L s) i : Nat) : Int) = 34 := by simpa using g1
                                        omega
      refine ⟨fun g2 => ?_, fun g2 => ?_⟩
      · have g2' := of_decide_eq_true g2
        refine resU hb ?_
        rw [← hu, unq, dif_pos (by omega), if_pos g1', if_pos (by omega)]; rfl
      · have g2' := of_decide_eq_false g2
        refine ⟨B out, hO.str, resU hb ?_⟩
        rw [← hu, unq, dif_pos (by omega), if_pos g1', if_neg (by omega)]; rfl
    all_goals have g1' : ¬ at_ (L s) i = 34 := by
                have : ¬ ((at_ (L s) i : Nat) : Int) = 34 := by simpa using g1
                omega
    · have g2' := of_decide_eq_true g2
      refine resU hb ?_
      rw [← hu, unq, dif_pos (by omega), if_neg g1', if_pos (by omega)]; rfl
    all_goals have g2' := of_decide_eq_false g2
    · have g3' := of_decide_eq_true g3
      refine resU hb ?_
      rw [← hu, unq, dif_pos (by omega), if_neg g1', if_pos (by omega)]; rfl
    all_goals have g3' := of_decide_eq_false g3
    · have g4' : at_ (L s) i ≠ 92 := by
        have : ((at_ (L s) i : Nat) : Int) ≠ 92 := by simpa using g4
        omega
      refine app8 [(L s).getD i 0] (n := 1) rfl rfl hO (by omega) fun a2 c2 w' h2 => ⟨s.size - (i + 1), by omega, i + 1, _, rfl, by omega, rfl, by simp; omega, ?_, h2⟩
      rw [← hu]
      exact (show unq (L s) i out = unq (L s) (i + 1) (out ++ [(L s).getD i 0]) from by rw [unq, dif_pos (by omega), if_neg g1', if_neg (by omega), if_pos g4']).symm
    have g4' : at_ (L s) i = 92 := by
      have : ((at_ (L s) i : Nat) : Int) = 92 := by simpa using g4
      omega
    have hU := unq_esc (out := out) (by omega : i < (L s).length) g4'
    rw [hU] at hu
    unfold unqE at hu hU
    refine ⟨fun g5 => ?_, fun g5 => ⟨⟨by omega, ?_⟩, ?_⟩⟩
    · have g5' : ((i + 1 : Nat) : Int) = s.size := by simpa using g5
      refine resU hb ?_
      rw [← hu, if_pos (by omega)]
      have : i + 1 = (L s).length := by omega
      rw [hsz, this]; rfl
    · have g5' : ¬ ((i + 1 : Nat) : Int) = s.size := by simpa using g5
      omega
    have g5' : ¬ ((i + 1 : Nat) : Int) = s.size := by simpa using g5
    rw [if_neg (by omega)] at hu
    have hn : ∀ {x : Nat}, (((at_ (L s) (i + 1) : Nat) : Int) == (x : Int)) = true → at_ (L s) (i + 1) = x := by
      intro x hx
      have : ((at_ (L s) (i + 1) : Nat) : Int) = (x : Int) := by simpa using hx
      omega
    have hn' : ∀ {x : Nat}, (((at_ (L s) (i + 1) : Nat) : Int) == (x : Int)) = false → ¬ at_ (L s) (i + 1) = x := by
      intro x hx
      have : ¬ ((at_ (L s) (i + 1) : Nat) : Int) = (x : Int) := by simpa using hx
      omega
    refine ⟨fun g6 => ?_, fun g6 => ⟨fun g7 => ?_, fun g7 => ⟨fun g8 => ?_, fun g8 => ⟨fun g9 => ?_, fun g9 => ⟨fun g10 => ?_, fun g10 => ?_⟩⟩⟩⟩⟩
    · rw [if_pos (hn (x := 110) g6)] at hu
      exact app8 [10] (n := 1) rfl rfl hO (by omega) fun a2 c2 w' h2 => ⟨s.size - (i + 2), by omega, i + 2, _, rfl, by omega, rfl, by simp; omega, hu, h2⟩
    all_goals rw [if_neg (hn' (x := 110) g6)] at hu
    · rw [if_pos (hn (x := 116) g7)] at hu
      exact app8 [9] (n := 1) rfl rfl hO (by omega) fun a2 c2 w' h2 => ⟨s.size - (i + 2), by omega, i + 2, _, rfl, by omega, rfl, by simp; omega, hu, h2⟩
    all_goals rw [if_neg (hn' (x := 116) g7)] at hu
    · rw [if_pos (.inl (hn (x := 34) g8))] at hu
      exact ⟨⟨by omega, by omega⟩, app8 [(L s).getD (i + 1) 0] (n := 1) rfl rfl hO (by omega) fun a2 c2 w' h2 => ⟨s.size - (i + 2), by omega, i + 2, _, rfl, by omega, rfl, by simp; omega, hu, h2⟩⟩
    · rw [if_pos (.inr (hn (x := 92) g9))] at hu
      exact ⟨⟨by omega, by omega⟩, app8 [(L s).getD (i + 1) 0] (n := 1) rfl rfl hO (by omega) fun a2 c2 w' h2 => ⟨s.size - (i + 2), by omega, i + 2, _, rfl, by omega, rfl, by simp; omega, hu, h2⟩⟩
    all_goals rw [if_neg (by have := hn' (x := 34) g8; have := hn' (x := 92) g9; omega)] at hu
    · have h120 := hn (x := 120) g10
      have hu0 : unq (L s) i out = unq (L s) 1 [] := by rw [hU, if_neg (by omega), if_neg (hn' (x := 110) g6), if_neg (hn' (x := 116) g7), if_neg (by have := hn' (x := 34) g8; have := hn' (x := 92) g9; omega)]; exact hu
      refine ⟨fun k n v m w' => ∃ kk vv : Nat, m = kk ∧ v = vv ∧ n = ((i + 1 + kk : Nat) : Int) ∧ kk ≤ 2 ∧ k = 2 - kk ∧ i + 1 + kk < s.size ∧ Hx (L s) (i + 2) kk vv ∧ Own8 (wU w) w' a l c0 out, ⟨2, 0, 0, rfl, rfl, rfl, by omega, rfl, by omega, .inl ⟨rfl, rfl⟩, hO⟩, ?_⟩
      rintro _ d2 n v m w2 ⟨kk, vv, rfl, rfl, rfl, hk2, rfl, hkl, hx, hO2⟩
      have hxl := hx.lt
      have f1 : IntKind.wrap .i64 (((i + 1 + kk : Nat) : Int) + 1) = ((i + 2 + kk : Nat) : Int) := by rw [w64 (by omega)]; omega
      have f2 : Int.toNat ((i + 2 + kk : Nat) : Int) = i + 2 + kk := by omega
      rw [f1, f2]
      refine ⟨fun q0 => ?_, fun q0 => ?_⟩
      · have q0' : kk < 2 := by have := of_decide_eq_true q0; omega
        refine ⟨fun q1 => ?_, fun q1 => ?_⟩
        · have q1' : ((i + 2 + kk : Nat) : Int) = s.size := by simpa using q1
          refine resU hO2.2.2.2 ?_
          rw [← hu0, unq_x_end (by omega) g4' h120 hx q0' (by omega)]
          have : i + 2 + kk = (L s).length := by omega
          rw [this]; rfl
        have q1' : ¬ ((i + 2 + kk : Nat) : Int) = s.size := by simpa using q1
        have hbr := byte_rng' s (i + 2 + kk)
        have htn : (byteAt s (i + 2 + kk)).toNat = at_ (L s) (i + 2 + kk) := by rw [byteAt_at]; omega
        refine ⟨fun k dd j w' => ∃ jj : Nat, j = jj ∧ jj ≤ 16 ∧ k = 16 - jj ∧ dd = hexU (at_ (L s) (i + 2 + kk)) jj ∧ Own8 (wU w) w' a l c0 out, ⟨16, 0, rfl, by omega, rfl, (hexU_zero _).symm, hO2⟩, ?_⟩
        rintro _ d3 dd j w3 ⟨jj, rfl, hj, rfl, rfl, hO3⟩
        have k0 : Int.toNat (jj : Int) = jj := by omega
        have k1 : IntKind.wrap .i64 ((jj : Int) + 1) = ((jj + 1 : Nat) : Int) := by rw [w64 (by omega)]; omega
        rw [k0, k1]
        refine ⟨fun q3 => ?_, fun q3 => ⟨fun q4 => ?_, fun q4 => ?_⟩⟩
        · have q3' : jj < 16 := by have := of_decide_eq_true q3; omega
          have hs16 : ((ByteArray.size hexS : Nat) : Int) = 16 := hexS_size
          have hd : byteAt hexS jj = ((hexd jj).toNat : Int) := hex_at jj q3'
          have hlt16 : (jj : Int) < ((ByteArray.size hexS : Nat) : Int) := by rw [hs16]; omega
          refine ⟨⟨by omega, hlt16⟩, ⟨by omega, by omega⟩, fun q4 => ?_, fun q4 => ?_⟩
          · have q4' : byteAt hexS jj = byteAt s (i + 2 + kk) := eq_of_beq q4
            rw [hd, byteAt_at] at q4'
            exact ⟨16 - (jj + 1), by omega, jj + 1, rfl, by omega, rfl, hexU_hit q3' (by omega), hO3.drew⟩
          · have q4' : ¬ byteAt hexS jj = byteAt s (i + 2 + kk) := by
              intro hc; have : (byteAt hexS jj == byteAt s (i + 2 + kk)) = false := q4
              rw [hc] at this; simp at this
            rw [hd, byteAt_at] at q4'
            exact ⟨16 - (jj + 1), by omega, jj + 1, rfl, by omega, rfl, hexU_miss q3' (by omega), hO3.drew⟩
        · have q3' : jj = 16 := by have := of_decide_eq_false q3; omega
          subst q3'
          have q4' := of_decide_eq_true q4
          rw [hexU_end] at q4'
          have hnone : hexv (at_ (L s) (i + 2 + kk)) = none := by
            cases hh : hexv (at_ (L s) (i + 2 + kk)) with
            | none => rfl
            | some v => rw [hh] at q4'; simp only [] at q4'; omega
          refine resU hO3.2.2.2 ?_
          rw [← hu0, unq_x_bad (by omega) g4' h120 hx q0' (by omega) hnone]; rfl
        · have q3' : jj = 16 := by have := of_decide_eq_false q3; omega
          subst q3'
          have q4' := of_decide_eq_false q4
          rw [hexU_end] at q4' ⊢
          cases hh : hexv (at_ (L s) (i + 2 + kk)) with
          | none => rw [hh] at q4'; simp only [] at q4'; omega
          | some dv =>
            have hdv := hexv_lt hh
            have := hxl.2 q0'
            refine ⟨2 - (kk + 1), by omega, kk + 1, 16 * vv + dv, ?_, ?_, ?_, by omega, rfl, by omega, hx.step q0' (by exact hh), hO3⟩
            · rw [w64 (by omega)]; omega
            · simp only []
              rw [w64 (n := 16 * (vv : Int)) (by omega), w64 (by omega)]; omega
            · omega
      · have q0' : kk = 2 := by have := of_decide_eq_false q0; omega
        subst q0'
        refine app8 [UInt8.ofNat vv] (n := 1) rfl ?_ hO2 (by omega) fun a2 c2 w' h2 => ⟨s.size - (i + 4), by omega, i + 4, _, by omega, by omega, rfl, by simp; omega, ?_, h2⟩
        · rw [ofNat_u8 hxl.1]; rfl
        · rw [← hu0, unq_x_ok (by omega) g4' h120 hx]
    · rw [if_neg (hn' (x := 120) g10)] at hu
      refine resU hb ?_
      rw [← hu]; rfl
  · have g0' := of_decide_eq_false g0
    have : i = s.size := by omega
    refine resU hb ?_
    rw [← hu, unq, dif_neg (by omega), this]; rfl
end Go.Proofs.Ytdbhnlelpcoldaa.V

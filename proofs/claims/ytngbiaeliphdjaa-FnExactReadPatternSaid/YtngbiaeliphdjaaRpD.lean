/- Parts of a proof, put together: definitions, formulas of Go functions and lemmas. No statement of the seat is proved here. -/
import Derived.Defers
import Derived.Recover
import Derived.Test.YtngbiaeliphdjaaProg
import Derived.ChangeOld
import Derived.ChangeReads
import Derived.ChangeSlices
import Derived.OpenShut
import Derived.ReadAgain
import Derived.Test.YtngbiaeliphdjaaRpC
/- An atom in the program's reader. No statement of the seat is proved here. -/
namespace Go.Proofs.Ytngbiaeliphdjaa.V
open Go.Vc Go.Proofs Go.RowKit
set_option linter.unusedVariables false
set_option linter.unusedSimpArgs false

def subP (l : Bytes) : Nat → St → Pr (St × Int)
  | 0 => fun _ => .bad 0
  | d + 1 => patP l d
/-- The contract of pattern, at most d groups deep. -/
def PatC (d : Nat) : Prop := ∀ (N : Nat) (w : World) (b : Nat) (s : ByteArray) (i g : Nat) (dp : Int) (a : Option Addr) (ln c : Nat) (rs : List Raw) (ps : List Pc), PSt N w b s i g dp a ln c rs ps → s.size ≤ 120 → i ≤ s.size → g ≤ 9 → dp = 6 - (d : Int) → d ≤ 6 → ln + 4 * (s.size - i) + 4 * d ≤ 900 →
  Cl Try.prog 74 [.pointer (some ⟨b, 0, none⟩)] w (ResI N w b s dp (blks a rs) (patP (L s) d (i, g, ps)))

section
variable {N : Nat} {w : World} {b : Nat} {s : ByteArray} {i g : Nat} {dp : Int} {a : Option Addr} {ln c : Nat} {rs : List Raw} {ps : List Pc}
theorem PSt.mv {K : World → Prop} {n : Int} (h : PSt N w b s i g dp a ln c rs ps) (hj : i ≤ 1000) (hn : n = i) (hK : ∀ w', PSt N w' b s (i + 1) g dp a ln c rs ps → Ext (fun k => k = b) w w' → K w') : stW b (0 + 1) [.int .i64 (IntKind.wrap .i64 (n + 1))] K w := by
  subst hn
  exact h.rd.mv (j := i + 1) (by rw [w64 (by omega)]; omega) fun w'' s'' k'' e'' => hK w'' (h.upd e'' k'') e''
/-- A piece of a set is put, its ranges being a new row. -/
theorem putSet {w0 : World} (h : PSt N w b s i g dp a ln c rs ps) (E : Ext (fun k => k = b) w0 w) (hB0 : ∀ k ∈ blks a rs, k < w0.heap.size) {sa : Option Addr} {sc sl : Nat} {set : List (Int × Int)} (hsl : sl = set.length) (hv : Vec w.heap 134 2 sa sl sc (rngC set)) (hf : ∀ k, blkOf sa = some k → w0.heap.size ≤ k) (hN0 : N ≤ w0.heap.size) (hl : ln ≤ 1000) {r : Pr (St × Int)}
    (hr : r = .ok ((i, g, ps ++ [pSet set]), (ps.length : Int))) : Cl Try.prog 110 [.pointer (some ⟨b, 0, none⟩), .agg #[.int .i64 1, .slice sa sl sc, .int .i64 0, .int .i64 0, .bool false, .int .i64 0, .slice none 0 0]] w
      (retG (fun (r112 : Value) (w111 : World) => ∃ (n110 : Int), r112 = .int .i64 n110 ∧ ResI N w0 b s dp (blks a rs) r (.returned (.int .i64 n110)) w111) fun c1 w1 => ResI N w0 b s dp (blks a rs) r (.panicked c1) w1) := by
  have hok : RawOk w ⟨1, sa, sl, sc, 0, 0, false, 0, none, 0, 0⟩ (pSet set) := ⟨rfl, rfl, rfl, rfl, rfl, hv, Vec.nil _ _ _⟩
  have hblk : (Raw.mk 1 sa sl sc 0 0 false 0 none 0 0).blocks = ob sa := by simp [Raw.blocks, ob, blkOf]
  refine (put_ok (r := ⟨1, sa, sl, sc, 0, 0, false, 0, none, 0, 0⟩) h hok (by rw [hblk]; unfold ob; cases blkOf sa <;> simp) (fun k hk => ?_) hl).use fun e w8 he => ?_
  · rw [hblk] at hk
    have := hf k (mem_ob.1 hk)
    exact ⟨fun hm => by have := hB0 _ hm; omega, by omega⟩
  · obtain ⟨rfl, a2, c2, p8, e8, hb8⟩ := he
    refine ⟨_, rfl, ?_⟩
    subst hr
    refine ⟨by rw [h.pcs.len'], a2, ln + 1, c2, _, p8, ?_, fun k hk => ?_⟩
    · exact (Ext.mono E fun _ _ hk => .inl hk).trans e8
    · rcases hb8 k hk with h1 | h1 | h1
      · exact .inl h1
      · rw [hblk] at h1; exact .inr (hf k (mem_ob.1 h1))
      · exact .inr (Nat.le_trans E.size h1)
/-- A piece without rows is put. -/
theorem putBare {w0 : World} (h : PSt N w b s i g dp a ln c rs ps) (E : Ext (fun k => k = b) w0 w) (kind : Int) {p : Pc} (hp : p = ⟨kind, [], 0, 0, false, 0, []⟩) (hl : ln ≤ 1000) {r : Pr (St × Int)}
    (hr : r = .ok ((i, g, ps ++ [p]), (ps.length : Int))) : Cl Try.prog 110 [.pointer (some ⟨b, 0, none⟩), .agg #[.int .i64 kind, .slice none 0 0, .int .i64 0, .int .i64 0, .bool false, .int .i64 0, .slice none 0 0]] w
      (retG (fun (r112 : Value) (w111 : World) => ∃ (n110 : Int), r112 = .int .i64 n110 ∧ ResI N w0 b s dp (blks a rs) r (.returned (.int .i64 n110)) w111) fun c1 w1 => ResI N w0 b s dp (blks a rs) r (.panicked c1) w1) := by
  subst hp
  have hok : RawOk w ⟨kind, none, 0, 0, 0, 0, false, 0, none, 0, 0⟩ ⟨kind, [], 0, 0, false, 0, []⟩ := ⟨rfl, rfl, rfl, rfl, rfl, Vec.nil _ _ _, Vec.nil _ _ _⟩
  have hblk : (Raw.mk kind none 0 0 0 0 false 0 none 0 0).blocks = [] := by simp [Raw.blocks, ob, blkOf]
  refine (put_ok (r := ⟨kind, none, 0, 0, 0, 0, false, 0, none, 0, 0⟩) h hok (by rw [hblk]; simp) (fun k hk => by rw [hblk] at hk; cases hk) hl).use fun e w8 he => ?_
  obtain ⟨rfl, a2, c2, p8, e8, hb8⟩ := he
  refine ⟨_, rfl, ?_⟩
  subst hr
  refine ⟨by rw [h.pcs.len'], a2, ln + 1, c2, _, p8, ?_, fun k hk => ?_⟩
  · exact (Ext.mono E fun _ _ hk => .inl hk).trans e8
  · rcases hb8 k hk with h1 | h1 | h1
    · exact .inl h1
    · rw [hblk] at h1; cases h1
    · exact .inr (Nat.le_trans E.size h1)
end

theorem atom_ok {N : Nat} {w : World} {b : Nat} {s : ByteArray} {i g : Nat} {dp : Int} {a : Option Addr} {ln c : Nat} {rs : List Raw} {ps : List Pc} (d : Nat) (hsub : ∀ d', d = d' + 1 → PatC d') (h : PSt N w b s i g dp a ln c rs ps) (hs : s.size ≤ 120) (hi : i < s.size) (hg : g ≤ 9) (hdp : dp = 6 - (d : Int)) (hd6 : d ≤ 6) (hbd : ln + 4 * (s.size - i) + 4 * d ≤ 900) :
    Cl Try.prog 126 [.pointer (some ⟨b, 0, none⟩), .int .u8 (at_ (L s) i)] w (ResI N w b s dp (blks a rs) (atomP (subP (L s) d) (decide (d = 0)) (L s) i g ps)) := by
  apply vc126
  unfold V126
  have hsz := size_L s
  have hlen' := h.pcs.len'
  have hB := h.pcs.lt
  have hbl := h.rd.lt
  have hc := at_lt (L s) i
  have hl : ln ≤ 1000 := by omega
  generalize hR : atomP (subP (L s) d) (decide (d = 0)) (L s) i g ps = R
  unfold atomP at hR
  refine ⟨fun g1 => ?_, fun g1 => ⟨fun g2 => ?_, fun g2 => ⟨fun g3 => ?_, fun g3 => ⟨fun g4 => ?_, fun g4 => ⟨fun g5 => ?_, fun g5 => ⟨fun g6 => ?_, fun g6 => ?_⟩⟩⟩⟩⟩⟩
  all_goals try simp only [beq_iff_eq, beq_eq_false_iff_ne, ne_eq] at g1
  all_goals try simp only [beq_iff_eq, beq_eq_false_iff_ne, ne_eq] at g2
  all_goals try simp only [beq_iff_eq, beq_eq_false_iff_ne, ne_eq] at g3
  all_goals try simp only [beq_iff_eq, beq_eq_false_iff_ne, ne_eq] at g4
  all_goals try simp only [beq_iff_eq, beq_eq_false_iff_ne, ne_eq] at g5
  all_goals try simp only [beq_iff_eq, beq_eq_false_iff_ne, ne_eq] at g6
  · rw [if_pos (by omega)] at hR
    refine ⟨fun w' => w' = w ∧ g ≠ 9 ∧ d ≠ 0, ?_, ?_⟩
    · refine ⟨_, h.rd.cell 2, fun g2 => ?_, fun g2 => ⟨_, h.rd.cell 3, fun g3 => ?_, fun g3 => ?_⟩⟩
      · simp only [beq_iff_eq] at g2
        rw [if_pos (.inl (by omega))] at hR
        refine ⟨_, h.rd.cell 1, (fail_ok b i rfl w).use fun e w2 he => ?_⟩
        obtain ⟨rfl, rfl⟩ := he
        exact ResI.bad hR.symm (Ext.refl _ _)
      · simp only [beq_iff_eq] at g3
        rw [if_pos (.inr (decide_eq_true (by omega)))] at hR
        refine ⟨_, h.rd.cell 1, (fail_ok b i rfl w).use fun e w2 he => ?_⟩
        obtain ⟨rfl, rfl⟩ := he
        exact ResI.bad hR.symm (Ext.refl _ _)
      · simp only [beq_eq_false_iff_ne, ne_eq] at g2 g3
        exact ⟨rfl, by omega, by omega⟩
    rintro - w1 ⟨rfl, hg9, hd0⟩
    obtain ⟨d', rfl⟩ : ∃ d', d = d' + 1 := ⟨d - 1, by omega⟩
    rw [if_neg (by simp; omega)] at hR
    refine ⟨_, h.rd.cell 2, ?_⟩
    rw [show IntKind.wrap .i64 ((g : Int) + 1) = ((g + 1 : Nat) : Int) from by rw [w64 (by omega)]; omega]
    refine stW_in h.rd (by show 0 + 2 + 1 ≤ 5; decide) fun w2 s2 k2 e2 => ?_
    have p2 : PSt N w2 b s i (g + 1) dp a ln c rs ps := h.upd e2 k2
    refine ⟨_, p2.rd.cell 3, ?_⟩
    rw [show IntKind.wrap .i64 (dp + 1) = dp + 1 from w64 (by omega)]
    refine stW_in p2.rd (by show 0 + 3 + 1 ≤ 5; decide) fun w3 s3 k3 e3 => ?_
    have p3 : PSt N w3 b s i (g + 1) (dp + 1) a ln c rs ps := p2.upd e3 k3
    refine ⟨_, p3.rd.cell 2, _, p3.rd.cell 1, p3.mv (by omega) rfl fun w4 p4 e4 => ?_⟩
    have E4 : Ext (fun k => k = b) w1 w4 := (e2.trans e3).trans e4
    refine (hsub d' rfl N w4 b s (i + 1) (g + 1) (dp + 1) a ln c rs ps p4 hs (by omega) (by omega) (by omega) (by omega) (by omega)).use fun e w5 he => ?_
    have hsubP : subP (L s) (d' + 1) (i + 1, g + 1, ps) = patP (L s) d' (i + 1, g + 1, ps) := rfl
    rw [hsubP] at hR
    cases hq : patP (L s) d' (i + 1, g + 1, ps) with
    | bad n =>
      rw [hq] at he hR
      obtain ⟨rfl, e5⟩ := he
      exact ResI.bad hR.symm ((Ext.mono E4 fun _ _ hk => .inl hk).trans e5)
    | ok y =>
    obtain ⟨⟨j, g', out'⟩, x⟩ := y
    have hlen := patP_len (L s) d' _ _ _ _ _ _ _ (by omega) hq
    rw [hq] at he hR
    simp only [] at hR
    obtain ⟨rfl, a5, ln5, c5, rs5, p5, st5⟩ := he
    have hln5 := p5.pcs.len'
    refine ⟨x, rfl, ?_⟩
    have st5' : Step b (blks a rs) w1 w5 (blks a5 rs5) := Step.trans (Step.of_ext E4) st5
    by_cases hjl : j < s.size
    case neg =>
      rw [if_pos (by omega)] at hR
      refine (need_bad p5.rd hjl).use fun e w6 he => ?_
      obtain ⟨rfl, b6⟩ := he
      rw [hsz]
      exact ResI.bad hR.symm (st5'.1.trans (Ext.of_below b6))
    rw [if_neg (by omega)] at hR
    refine (need_ret p5.rd hjl).ret fun w6 b6 => ⟨_, rfl, fun g2 => ?_, fun g2 => ?_⟩
    · have g2' : ¬ at_ (L s) j = 41 := by have : ¬ ((at_ (L s) j : Nat) : Int) = 41 := by simpa using g2
                                          omega
      rw [if_neg g2'] at hR
      refine ⟨_, (p5.below b6).rd.cell 1, (fail_ok b j rfl w6).use fun e w7 he => ?_⟩
      obtain ⟨rfl, rfl⟩ := he
      exact ResI.bad hR.symm (st5'.1.trans (Ext.of_below b6))
    · have g2' : at_ (L s) j = 41 := by have : ((at_ (L s) j : Nat) : Int) = 41 := by simpa using g2
                                        omega
      rw [if_pos g2'] at hR
      have p6 := p5.below b6
      refine ⟨_, p6.rd.cell 1, p6.mv (by omega) rfl fun w7 p7 e7 => ?_⟩
      refine ⟨_, p7.rd.cell 3, ?_⟩
      rw [show IntKind.wrap .i64 (dp + 1 - 1) = dp from by rw [w64 (by omega)]; omega]
      refine stW_in p7.rd (by show 0 + 3 + 1 ≤ 5; decide) fun w8 s8 k8 e8 => ?_
      have p8 : PSt N w8 b s (j + 1) g' dp a5 ln5 c5 rs5 out' := p7.upd e8 k8
      refine newC_in fun w9 s9 k9 e9 => ?_
      have p9 : PSt N w9 b s (j + 1) g' dp a5 ln5 c5 rs5 out' := p8.other e9 (fun h => h) fun _ _ h => h
      have st9 : Step b (blks a rs) w1 w9 (blks a5 rs5) := Step.trans st5' (Step.trans (Step.of_below b6) (Step.of_ext ((e7.trans e8).trans (Ext.mono e9 fun _ _ h => h.elim))))
      have z58 : w5.heap.size ≤ w8.heap.size := Nat.le_trans b6.size (Nat.le_trans e7.size e8.size)
      have z18 : w1.heap.size ≤ w8.heap.size := Nat.le_trans st5'.1.size z58
      have hok : RawOk w9 ⟨5, none, 0, 0, 0, 0, false, ((g + 1 : Nat) : Int), some ⟨w8.heap.size, 0, none⟩, 1, 1⟩ (pGrp ((g + 1 : Nat) : Int) x) := ⟨rfl, rfl, rfl, rfl, rfl, Vec.nil _ _ _, ⟨rfl, Nat.le_refl _, .inr ⟨_, _, rfl, k9, rfl, rfl⟩⟩⟩
      refine (put_ok (r := ⟨5, none, 0, 0, 0, 0, false, ((g + 1 : Nat) : Int), some ⟨w8.heap.size, 0, none⟩, 1, 1⟩) p9 hok (by simp [Raw.blocks, ob, blkOf]) (fun k hk => ?_) (by omega)).use fun e w10 he => ?_
      · have hk' : k = w8.heap.size := by simpa [Raw.blocks, ob, blkOf] using hk
        subst hk'
        exact ⟨fun hm => by have := p8.pcs.lt _ hm; omega, p8.hN⟩
      · obtain ⟨rfl, a2, c2, p10, e10, hb10⟩ := he
        refine ⟨_, rfl, ?_⟩
        rw [← hR]
        refine ⟨by rw [hln5], a2, ln5 + 1, c2, _, p10, st9.1.step e10 fun k hk hk' => ?_, fun k hk => ?_⟩
        · rcases hk' with h1 | h1
          · exact .inl h1
          · rcases st9.2 k h1 with h2 | h2
            · exact .inr h2
            · omega
        · rcases hb10 k hk with h1 | h1 | h1
          · exact st9.2 k h1
          · have hk' : k = w8.heap.size := by simpa [Raw.blocks, ob, blkOf] using h1
            exact .inr (by omega)
          · exact .inr (Nat.le_trans st9.1.size h1)
  · -- a set
    rw [if_neg (by omega), if_pos (by omega)] at hR
    refine (set_ok h.rd hs hi).use fun e w1 he => ?_
    obtain ⟨e1, he⟩ := he
    cases hq : setP (L s) i with
    | bad n => rw [hq] at he hR; subst he; exact ResI.bad hR.symm (Ext.mono e1 fun _ _ hk => .inl hk)
    | ok y =>
      obtain ⟨j, set⟩ := y
      rw [hq] at he hR
      obtain ⟨a', c', rfl, hRow, hRd⟩ := he
      exact ⟨_, _, _, rfl, putSet (h.upd e1 hRd) e1 hB rfl hRow.1 hRow.2.1 h.hN hl hR.symm⟩
  · -- the dot
    rw [if_neg (by omega), if_neg (by omega), if_pos (by omega)] at hR
    refine ⟨_, h.rd.cell 1, h.mv (by omega) rfl fun w1 p1 e1 => ?_⟩
    refine newC_in fun w2 s2 k2 e2 => ?_
    rw [← b256_false, ← inR_nil] at k2
    refine (addR_ok k2 0 9 (by decide) rfl rfl).use fun e w3 he => ?_
    obtain ⟨rfl, k3, e3⟩ := he
    refine ⟨rfl, (addR_ok k3 11 255 (by decide) rfl rfl).use fun e w4 he => ?_⟩
    obtain ⟨rfl, k4, e4⟩ := he
    refine ⟨rfl, (ranges_ok k4).use fun e w5 he => ?_⟩
    obtain ⟨a', c', rfl, hRow, b5⟩ := he
    have z1 := e1.size
    have E5 : Ext (fun k => k = b) w w5 := ((e1.trans (Ext.mono e2 fun _ _ h => h.elim)).step (e3.trans e4) fun k hk h => by omega).trans (Ext.of_below b5)
    have e34 := (Ext.mono e2 (T := fun k => k = w1.heap.size) fun _ _ h => h.elim).trans (e3.trans e4)
    have p5 : PSt N w5 b s (i + 1) g dp a ln c rs ps := (p1.other e34 (by have := p1.rd.lt; omega) fun k hk hk' => by have := hB k hk; omega).below b5
    have z4 := e34.size
    exact ⟨_, _, _, rfl, putSet p5 E5 hB rfl hRow.1 (fun k hk => Nat.le_trans (Nat.le_trans z1 z4) (hRow.2.1 k hk)) h.hN hl hR.symm⟩
  · rw [if_neg (by omega), if_neg (by omega), if_neg (by omega), if_pos (by omega)] at hR
    exact ⟨_, h.rd.cell 1, h.mv (by omega) rfl fun w1 p1 e1 => putBare p1 e1 6 (p := pSta) rfl hl hR.symm⟩
  · rw [if_neg (by omega), if_neg (by omega), if_neg (by omega), if_neg (by omega), if_pos (by omega)] at hR
    exact ⟨_, h.rd.cell 1, h.mv (by omega) rfl fun w1 p1 e1 => putBare p1 e1 7 (p := pEnd) rfl hl hR.symm⟩
  · -- an escape
    rw [if_neg (by omega), if_neg (by omega), if_neg (by omega), if_neg (by omega), if_neg (by omega), if_pos (by omega)] at hR
    refine (escape_ok h.rd (by omega)).use fun e w1 he => ?_
    obtain ⟨e1, he⟩ := he
    cases hq : escP (L s) (i + 1) with
    | bad n => rw [hq] at he hR; subst he; exact ResI.bad hR.symm (Ext.mono e1 fun _ _ hk => .inl hk)
    | ok y =>
      obtain ⟨j, r, o⟩ := y
      rw [hq] at he hR
      obtain ⟨rfl, hRd⟩ := he
      have p1 := h.upd e1 hRd
      have z1 := e1.size
      refine ⟨_, _, rfl, newC_in fun w2 s2 k2 e2 => stA_in k2 (b256_length _) List.length_replicate (b256_scal _) fun w3 s3 k3 e3 => ?_⟩
      refine (ranges_ok k3).use fun e w5 he => ?_
      obtain ⟨a', c', rfl, hRow, b5⟩ := he
      have e23 := (Ext.mono e2 (T := fun k => k = w1.heap.size) fun _ _ h => h.elim).trans e3
      have E5 : Ext (fun k => k = b) w w5 := (e1.step e23 fun k hk h => by omega).trans (Ext.of_below b5)
      have p5 : PSt N w5 b s j g dp a ln c rs ps := (p1.other e23 (by have := p1.rd.lt; omega) fun k hk hk' => by have := hB k hk; omega).below b5
      have z4 := e23.size
      exact ⟨_, _, _, rfl, putSet p5 E5 hB rfl hRow.1 (fun k hk => Nat.le_trans (Nat.le_trans z1 z4) (hRow.2.1 k hk)) h.hN hl hR.symm⟩
  · rw [if_neg (by omega), if_neg (by omega), if_neg (by omega), if_neg (by omega), if_neg (by omega), if_neg (by omega)] at hR
    refine ⟨fun t w' => w' = w ∧ (t = true ↔ (at_ (L s) i = 41 ∨ at_ (L s) i = 93 ∨ at_ (L s) i = 123 ∨ at_ (L s) i = 125 ∨ at_ (L s) i = 42 ∨ at_ (L s) i = 43 ∨ at_ (L s) i = 63 ∨ at_ (L s) i = 124)), ?_, ?_⟩
    · repeat' (apply And.intro <;> intro g)
      all_goals refine ⟨rfl, ?_⟩
      all_goals simp only [beq_iff_eq, beq_eq_false_iff_ne, ne_eq, true_iff] at *
      all_goals omega
    · rintro - t w1 ⟨rfl, ht⟩
      refine ⟨fun g7 => ?_, fun g7 => ?_⟩
      · rw [if_pos (ht.1 g7)] at hR
        refine ⟨_, h.rd.cell 1, (fail_ok b i rfl w1).use fun e w2 he => ?_⟩
        obtain ⟨rfl, rfl⟩ := he
        exact ResI.bad hR.symm (Ext.refl _ _)
      · rw [if_neg (fun hc => by have := ht.2 hc; rw [g7] at this; cases this)] at hR
        refine ⟨_, h.rd.cell 1, h.mv (by omega) rfl fun w2 p2 e2 => ?_⟩
        rw [show IntKind.wrap .i64 ((at_ (L s) i : Nat) : Int) = ((at_ (L s) i : Nat) : Int) from w64 (by omega)]
        refine newC_in fun w3 s3 k3 e3 => ?_
        have z2 := e2.size
        have E3 : Ext (fun k => k = b) w1 w3 := e2.trans (Ext.mono e3 fun _ _ h => h.elim)
        have p3 : PSt N w3 b s (i + 1) g dp a ln c rs ps := p2.other e3 (fun h => h) fun _ _ h => h
        exact putSet p3 E3 hB (set := [((at_ (L s) i : Int), (at_ (L s) i : Int))]) rfl ⟨rfl, Nat.le_refl _, .inr ⟨_, _, rfl, k3, rfl, rfl⟩⟩ (fun k hk => by simp [blkOf] at hk; omega) h.hN hl hR.symm
end Go.Proofs.Ytngbiaeliphdjaa.V
/- A sequence in the program's reader. No statement of the seat is proved here. -/
namespace Go.Proofs.Ytngbiaeliphdjaa.V
open Go.Vc Go.Proofs Go.RowKit
set_option linter.unusedVariables false
set_option linter.unusedSimpArgs false

/-- The row of a sequence's or an alternative's kids: of the call's own, none of the pieces' blocks. -/
def Kids (w0 w : World) (B : List Nat) (a : Option Addr) (l c : Nat) (kids : List Int) : Prop := Vec w.heap 3 1 a l c (intC kids) ∧ l = kids.length ∧ ∀ k, blkOf a = some k → w0.heap.size ≤ k ∧ k ∉ B
theorem Kids.step {w0 w w' : World} {b : Nat} {B B' : List Nat} {a : Option Addr} {l c : Nat} {kids : List Int} (h : Kids w0 w B a l c kids) (hb : b < w0.heap.size) (e : Step b B w w' B') : Kids w0 w' B' a l c kids := by
  refine ⟨h.1.keep e.1 fun k hk hk' => ?_, h.2.1, fun k hk => ⟨(h.2.2 k hk).1, fun hB' => ?_⟩⟩
  · have := h.2.2 k hk
    rcases hk' with h1 | h1
    · omega
    · exact this.2 h1
  · have h1 := h.2.2 k hk
    have h2 := h.1.lt k hk
    rcases e.2 k hB' with h3 | h3
    · exact h1.2 h3
    · omega
theorem Kids.below {w0 w w' : World} {B : List Nat} {a : Option Addr} {l c : Nat} {kids : List Int} (h : Kids w0 w B a l c kids) (e : Below w.heap.size w w') : Kids w0 w' B a l c kids :=
  ⟨h.1.keep (S := fun _ => False) (Ext.of_below e) fun _ _ h => h, h.2⟩
/-- One kid more. -/
theorem Kids.app {w0 w : World} {B : List Nat} {a : Option Addr} {l c : Nat} {kids : List Int} (h : Kids w0 w B a l c kids) (hB : ∀ k ∈ B, k < w.heap.size) (hw : w0.heap.size ≤ w.heap.size) (hl : l ≤ 1000) (x : Int) :
    ∃ a2 c2 w', (Builtin.append_ #[109, 109] 109 #[.slice a l c, .slice (some ⟨w.heap.size, 0, none⟩) 1 1]).run Try.prog (newW w (.cells ⟨[.int .i64 x]⟩ 3)) = .ok (.slice a2 (l + 1) c2) w' ∧ Kids w0 w' B a2 (l + 1) c2 (kids ++ [x]) ∧ Ext (fun k => blkOf a = some k) w w' := by
  have E1 : Ext (fun _ => False) w (newW w (.cells ⟨[.int .i64 x]⟩ 3)) := (Ext.refl _ w).vnew _
  obtain ⟨a2, c2, w', h1, h2, h3, h4⟩ := append_run (P := Try.prog) (T := 109) (T' := 109) (T'' := 109) elemInt.und elemInt.und elemInt.size elemInt.bytes (by rw [show zeroL Try.prog 3 = some _ from elemInt.zero.choose_spec.1]; simp)
    (by rw [show zeroL Try.prog 3 = some _ from elemInt.zero.choose_spec.1]; intro y hy; cases hy; exact elemInt.zero.choose_spec.2) (h.1.keep E1 fun _ _ h => h) (a' := some ⟨w.heap.size, 0, none⟩) (n := 1) (c' := 1) (ys := [.int .i64 x]) rfl rfl (.inr ⟨_, _, rfl, cellsAt_newW w _ _⟩) (fun h => by cases h) (by omega) (by omega)
  rw [size_newW] at h4
  refine ⟨a2, c2, w', h1, ⟨by rw [intC_append]; exact h2, by rw [List.length_append, h.2.1]; rfl, fun k hk => ?_⟩, (Ext.mono E1 fun _ _ h => h.elim).trans h3⟩
  rcases h4 with rfl | rfl
  · exact h.2.2 k hk
  · simp only [blkOf, Option.some.injEq] at hk
    exact ⟨by omega, fun hm => by have := hB k hm; omega⟩
/-- A piece with kids is put. -/
theorem putKids {N : Nat} {w0 w : World} {b : Nat} {s : ByteArray} {i g : Nat} {dp : Int} {a : Option Addr} {ln c : Nat} {rs : List Raw} {ps : List Pc} {B0 : List Nat} (h : PSt N w b s i g dp a ln c rs ps) (st : Step b B0 w0 w (blks a rs)) {ka : Option Addr} {kl kc : Nat} {kids : List Int} (hk : Kids w0 w (blks a rs) ka kl kc kids) (hN0 : N ≤ w0.heap.size) (hl : ln ≤ 1000)
    {n : Int} {p : Pc} (hp : p = ⟨n, [], 0, 0, false, 0, kids⟩) {r : Pr (St × Int)} (hr : r = .ok ((i, g, ps ++ [p]), (ps.length : Int))) :
    Cl Try.prog 110 [.pointer (some ⟨b, 0, none⟩), .agg #[.int .i64 n, .slice none 0 0, .int .i64 0, .int .i64 0, .bool false, .int .i64 0, .slice ka kl kc]] w
      (retG (fun (r112 : Value) (w111 : World) => ∃ (n110 : Int), r112 = .int .i64 n110 ∧ ResI N w0 b s dp B0 r (.returned (.int .i64 n110)) w111) fun c1 w1 => ResI N w0 b s dp B0 r (.panicked c1) w1) := by
  subst hp
  have hok : RawOk w ⟨n, none, 0, 0, 0, 0, false, 0, ka, kl, kc⟩ ⟨n, [], 0, 0, false, 0, kids⟩ := ⟨rfl, rfl, rfl, rfl, rfl, Vec.nil _ _ _, hk.1⟩
  have hblk : (Raw.mk n none 0 0 0 0 false 0 ka kl kc).blocks = ob ka := by simp [Raw.blocks, ob, blkOf]
  refine (put_ok (r := ⟨n, none, 0, 0, 0, 0, false, 0, ka, kl, kc⟩) h hok (by rw [hblk]; unfold ob; cases blkOf ka <;> simp) (fun k hm => ?_) hl).use fun e w8 he => ?_
  · rw [hblk] at hm
    have := hk.2.2 k (mem_ob.1 hm)
    exact ⟨this.2, by omega⟩
  · obtain ⟨rfl, a2, c2, p8, e8, hb8⟩ := he
    refine ⟨_, rfl, ?_⟩
    subst hr
    refine ⟨by rw [h.pcs.len'], a2, ln + 1, c2, _, p8, st.1.step e8 fun k hk hk' => ?_, fun k hk' => ?_⟩
    · rcases hk' with h1 | h1
      · exact .inl h1
      · rcases st.2 k h1 with h2 | h2
        · exact .inr h2
        · omega
    · rcases hb8 k hk' with h1 | h1 | h1
      · exact st.2 k h1
      · rw [hblk] at h1; exact .inr (hk.2.2 k (mem_ob.1 h1)).1
      · exact .inr (Nat.le_trans st.1.size h1)

theorem seq_ok {N : Nat} {w : World} {b : Nat} {s : ByteArray} {i g : Nat} {dp : Int} {a : Option Addr} {ln c : Nat} {rs : List Raw} {ps : List Pc} (d : Nat) (hsub : ∀ d', d = d' + 1 → PatC d') (hsl : SubOk (L s) (subP (L s) d)) (h : PSt N w b s i g dp a ln c rs ps) (hs : s.size ≤ 120) (hi : i ≤ s.size) (hg : g ≤ 9) (hdp : dp = 6 - (d : Int)) (hd6 : d ≤ 6) (hbd : ln + 4 * (s.size - i) + 4 * d ≤ 950) (hbd' : i < s.size → ln + 4 * (s.size - i) + 4 * d ≤ 900) :
    Cl Try.prog 109 [.pointer (some ⟨b, 0, none⟩)] w (ResI N w b s dp (blks a rs) (seqL (subP (L s) d) (decide (d = 0)) (L s) i g ps [])) := by
  apply vc109
  unfold V109
  have hsz := size_L s
  have hbl := h.rd.lt
  generalize hR : seqL (subP (L s) d) (decide (d = 0)) (L s) i g ps [] = R
  refine ⟨fun k ka kl kc w' => ∃ (j g' : Nat) (a' : Option Addr) (ln' c' : Nat) (rs' : List Raw) (out : List Pc) (kids : List Int), PSt N w' b s j g' dp a' ln' c' rs' out ∧ seqL (subP (L s) d) (decide (d = 0)) (L s) j g' out kids = R ∧ Kids w w' (blks a' rs') ka kl kc kids ∧ Step b (blks a rs) w w' (blks a' rs') ∧ k = s.size - j ∧ i ≤ j ∧ j ≤ s.size ∧ g' ≤ 9 ∧ ln' + 4 * (s.size - j) + 4 * d ≤ 950 ∧ (j < s.size → ln' + 4 * (s.size - j) + 4 * d ≤ 900) ∧ kids.length ≤ j,
    ⟨_, i, g, a, ln, c, rs, ps, [], h, hR, ⟨Vec.nil _ _ _, rfl, by simp [blkOf]⟩, Step.refl _ _ _, rfl, Nat.le_refl _, hi, hg, hbd, hbd', by simp⟩, ?_⟩
  rintro k dd ka kl kc w1 ⟨j, g', a', ln', c', rs', out, kids, p1, hq, hK, st1, rfl, hij, hj, hg', hb', hb'', hkl⟩
  have hout : ¬ (j < s.size ∧ at_ (L s) j ≠ 124 ∧ at_ (L s) j ≠ 41) → R = .ok ((j, g', out ++ [pSeq kids]), (out.length : Int)) := by
    intro hn
    rw [← hq, seqL, dif_neg (by rw [← hsz]; exact hn)]
  refine (end_ok p1.rd).ret fun w2 b2 => ⟨_, rfl, fun g1 => ?_, fun g1 => ?_⟩
  · have g1' : j < s.size := by
      have : decide (s.size ≤ j) = false := by simpa using g1
      have := of_decide_eq_false this; omega
    have hb900 := hb'' g1'
    refine drw_in fun w3 q3 e3 => ?_
    have b3 : Below w1.heap.size w1 w3 := Ext.to b2 e3 fun _ h => h.elim
    have p3 := p1.below b3
    have K3 := hK.below b3
    have st3 : Step b (blks a rs) w w3 (blks a' rs') := Step.trans st1 (Step.of_below b3)
    refine ⟨s, p3.rd.cell 0, j, p3.rd.cell 1, ⟨by omega, by omega⟩, ?_⟩
    rw [byteI s (j := j) rfl]
    refine ⟨fun g2 => ?_, fun g2 => ⟨fun g3 => ?_, fun g3 => ?_⟩⟩
    · simp only [beq_iff_eq] at g2
      exact putKids p3 st3 K3 h.hN (by omega) rfl (hout (by omega))
    · simp only [beq_iff_eq] at g3
      exact putKids p3 st3 K3 h.hN (by omega) rfl (hout (by omega))
    · simp only [beq_eq_false_iff_ne, ne_eq] at g2 g3
      have hcnd : j < (L s).length ∧ at_ (L s) j ≠ 124 ∧ at_ (L s) j ≠ 41 := ⟨by omega, by omega, by omega⟩
      refine (atom_ok d hsub p3 hs g1' hg' hdp hd6 hb900).use fun e w4 he => ?_
      cases ha : atomP (subP (L s) d) (decide (d = 0)) (L s) j g' out with
      | bad n =>
        rw [ha] at he
        obtain ⟨rfl, e4⟩ := he
        refine ResI.bad (by rw [← hq, seqL_bad hcnd (pieceP_bad ha)]) (st3.1.step e4 fun k hk hk' => ?_)
        rcases hk' with h1 | h1
        · exact .inl h1
        · rcases st3.2 k h1 with h2 | h2
          · exact .inr h2
          · omega
      | ok y =>
      obtain ⟨⟨j1, g1', out1⟩, x1⟩ := y
      have hal := atomP_len hsl (by omega) ha
      have hpe := pieceP_ok ha
      rw [ha] at he
      obtain ⟨rfl, a4, ln4, c4, rs4, p4, s4⟩ := he
      have hl4 := p4.pcs.len'
      have hl1 := p1.pcs.len'
      have st4 := Step.trans st3 s4
      have K4 := K3.step hbl s4
      refine ⟨x1, rfl, ?_⟩
      refine (counts_ok p4 hs (by omega) (by omega) x1).use fun e w5 he => ?_
      cases hc : cntR (L s) j1 g1' out1 x1 with
      | bad n =>
        rw [hc] at he hpe
        obtain ⟨rfl, e5⟩ := he
        refine ResI.bad (by rw [← hq, seqL_bad hcnd hpe]) (st4.1.step e5 fun k hk hk' => ?_)
        rcases hk' with h1 | h1
        · exact .inl h1
        · rcases st4.2 k h1 with h2 | h2
          · exact .inr h2
          · omega
      | ok y =>
      obtain ⟨⟨j2, g2', out2⟩, x2⟩ := y
      rw [hc] at he hpe
      obtain ⟨rfl, a5, ln5, c5, rs5, p5, s5⟩ := he
      have hpl' := pieceP_len hsl (by omega) hpe
      have hstep := seqL_go (kids := kids) hcnd hpe hpl'.1
      have st5 := Step.trans st4 s5
      have K5 := K4.step hbl s5
      have hl5 := p5.pcs.len'
      refine ⟨x2, rfl, ?_⟩
      obtain ⟨ka2, kc2, w6, r1, r2, r3⟩ := K5.app p5.pcs.lt st5.1.size (by rw [K5.2.1]; omega) x2
      have hkb : ∀ k, blkOf ka = some k → k ∉ blks a5 rs5 ∧ k ≠ b ∧ w.heap.size ≤ k := fun k hk => ⟨(K5.2.2 k hk).2, by have := (K5.2.2 k hk).1; omega, (K5.2.2 k hk).1⟩
      refine ⟨ka2, kl + 1, kc2, w6, r1, s.size - j2, by omega, j2, g2', a5, ln5, c5, rs5, out2, kids ++ [x2], p5.other r3 (fun hk => (hkb b hk).2.1 rfl) fun k hk hk' => (hkb k hk').1 hk, by rw [← hstep, hq], r2, ⟨st5.1.step r3 fun k hk hk' => by have := (hkb k hk').2.2; omega, fun k hk => st5.2 k hk⟩, rfl, by omega, by omega, hpl'.2.2.2 hg', by omega, by omega, by simp; omega⟩
  · have g1' : ¬ j < s.size := by
      have : decide (s.size ≤ j) = true := by simpa using g1
      have := of_decide_eq_true this; omega
    exact putKids (p1.below b2) (Step.trans st1 (Step.of_below b2)) (hK.below b2) h.hN (by omega) rfl (hout (by omega))
end Go.Proofs.Ytngbiaeliphdjaa.V
/- The program's reader of patterns. No statement of the seat is proved here. -/
namespace Go.Proofs.Ytngbiaeliphdjaa.V
open Go.Vc Go.Proofs Go.RowKit
set_option linter.unusedVariables false
set_option linter.unusedSimpArgs false

theorem patP_eq (l : Bytes) (d i g : Nat) (out : List Pc) : patP l d (i, g, out) = match seqL (subP l d) (decide (d = 0)) l i g out [] with
    | .bad e => .bad e
    | .ok ((j, g', out'), x) => altL (subP l d) (decide (d = 0)) l j g' out' [x] := by
  cases d <;> rfl
theorem subP_ok (l : Bytes) (d : Nat) : SubOk l (subP l d) := by
  cases d with
  | zero => intro i g out j g' out' k _ h; cases h
  | succ d => exact patP_len l d
theorem stepBad {b : Nat} {B B1 : List Nat} {w w1 w2 : World} (h : Step b B w w1 B1) (e : Ext (fun k => k = b ∨ k ∈ B1) w1 w2) : Ext (fun k => k = b ∨ k ∈ B) w w2 :=
  h.1.step e fun k hk hk' => by
    rcases hk' with h1 | h1
    · exact .inl h1
    · rcases h.2 k h1 with h2 | h2
      · exact .inr h2
      · omega

theorem pattern_ok : ∀ d, PatC d := by
  intro d
  induction d using Nat.strongRecOn with
  | _ d ih =>
  intro N w b s i g dp a ln c rs ps h hs hi hg hdp hd6 hbd
  have hsub : ∀ d', d = d' + 1 → PatC d' := fun d' hd => ih d' (by omega)
  have hsl := subP_ok (L s) d
  apply vc74
  unfold V74
  have hsz := size_L s
  have hbl := h.rd.lt
  have hl0 := h.pcs.len'
  rw [patP_eq]
  refine (seq_ok d hsub hsl h hs hi hg hdp hd6 (by omega) (fun _ => by omega)).use fun e w1 he => ?_
  cases hq : seqL (subP (L s) d) (decide (d = 0)) (L s) i g ps [] with
  | bad n =>
    rw [hq] at he
    obtain ⟨rfl, e1⟩ := he
    exact ResI.bad rfl e1
  | ok y =>
  obtain ⟨⟨j, g', out'⟩, x⟩ := y
  have hlen := seqL_len hsl _ rfl (by omega) hq
  rw [hq] at he
  obtain ⟨rfl, a1, ln1, c1, rs1, p1, st1⟩ := he
  have hl1 := p1.pcs.len'
  refine ⟨x, rfl, ?_⟩
  simp only []
  generalize hR : altL (subP (L s) d) (decide (d = 0)) (L s) j g' out' [x] = R
  refine newC_in fun w2 s2 k2 e2 => ?_
  have p2 : PSt N w2 b s j g' dp a1 ln1 c1 rs1 out' := p1.other e2 (fun h => h) fun _ _ h => h
  have st2 : Step b (blks a rs) w w2 (blks a1 rs1) := Step.trans st1 (Step.of_ext (Ext.mono e2 fun _ _ h => h.elim))
  refine ⟨fun k ka kl kc w' => ∃ (j g' : Nat) (a' : Option Addr) (ln' c' : Nat) (rs' : List Raw) (out : List Pc) (kids : List Int), PSt N w' b s j g' dp a' ln' c' rs' out ∧ altL (subP (L s) d) (decide (d = 0)) (L s) j g' out kids = R ∧ Kids w w' (blks a' rs') ka kl kc kids ∧ Step b (blks a rs) w w' (blks a' rs') ∧ k = s.size - j ∧ i ≤ j ∧ j ≤ s.size ∧ g' ≤ 9 ∧ ln' + 4 * (s.size - j) + 4 * d ≤ 901 ∧ 1 ≤ kids.length ∧ kids.length ≤ j + 1,
    ⟨_, j, g', a1, ln1, c1, rs1, out', [x], p2, hR, ⟨⟨rfl, Nat.le_refl _, .inr ⟨_, _, rfl, k2, rfl, rfl⟩⟩, rfl, fun k hk => ?_⟩, st2, rfl, by omega, by omega, hlen.2.2.2 hg, by omega, by simp, by simp⟩, ?_⟩
  · simp only [blkOf, Option.some.injEq] at hk
    subst hk
    exact ⟨st1.1.size, fun hm => by have := p1.pcs.lt _ hm; omega⟩
  clear hR hq hlen p2 st2 k2 e2 s2 p1 st1 hl1
  rintro k dd ka kl kc w3 ⟨j, g', a', ln', c', rs', out, kids, p3, hq, hK, st3, rfl, hij, hj, hg', hb', hk1, hkl⟩
  have hl3 := p3.pcs.len'
  have hend : ∀ {w' : World}, Below w3.heap.size w3 w' → ¬ (j < s.size ∧ at_ (L s) j = 124) →
      (((((kl : Nat) : Int) == 1) = true → ∃ (b30 : Nat) (o31 : Nat), ((ka : Option Addr) = some ⟨b30, o31, none⟩ ∧ 0 ≤ (0 : Int) ∧ (0 : Int) < ((kl : Nat) : Int)) ∧ ∃ (n32 : Int), cellH w'.heap b30 o31 = some (.int .i64 n32) ∧ ResI N w b s dp (blks a rs) R (.returned (.int .i64 n32)) w') ∧
       ((((kl : Nat) : Int) == 1) = false → Cl Try.prog 110 [.pointer (some ⟨b, 0, none⟩), .agg #[.int .i64 3, .slice none 0 0, .int .i64 0, .int .i64 0, .bool false, .int .i64 0, .slice ka kl kc]] w' (retG (fun (r35 : Value) (w34 : World) => ∃ (n33 : Int), r35 = .int .i64 n33 ∧ ResI N w b s dp (blks a rs) R (.returned (.int .i64 n33)) w34) fun c1 w1 => ResI N w b s dp (blks a rs) R (.panicked c1) w1))) := by
    intro w' hb hn
    have hRe : R = altE j g' out kids := by rw [← hq, altL_out (by rw [← hsz]; exact hn)]
    have hkll := hK.2.1
    refine ⟨fun g1 => ?_, fun g1 => ?_⟩
    · have g1' : kl = 1 := by have : ((kl : Nat) : Int) = 1 := by simpa using g1
                              omega
      obtain ⟨y, rfl⟩ : ∃ y, kids = [y] := by
        match kids, (show kids.length = 1 by omega) with
        | [y], _ => exact ⟨y, rfl⟩
      obtain ⟨kb, hka, hcells, hlt⟩ := (hK.below hb).1.at (by omega)
      refine ⟨kb, 0, ⟨hka, by omega, by omega⟩, y, ?_, ?_⟩
      · exact (cellsAt_iff _ 0).1 hcells 0 (by simp [intC])
      · rw [hRe]
        exact ⟨rfl, a', ln', c', rs', p3.below hb, Step.trans st3 (Step.of_below hb)⟩
    · have g1' : ¬ kl = 1 := by have : ¬ ((kl : Nat) : Int) = 1 := by simpa using g1
                                omega
      refine putKids (p3.below hb) (Step.trans st3 (Step.of_below hb)) (hK.below hb) h.hN (by omega) (p := pAlt kids) rfl ?_
      rw [hRe]
      match kids, hkll, hk1 with
      | [_], hkl, _ => simp at hkl; omega
      | _ :: _ :: _, _, _ => rfl
  refine drw_in fun w4 q4 e4 => ?_
  have b4 : Below w3.heap.size w3 w4 := Ext.to (Below.refl _ _) e4 fun _ h => h.elim
  refine (end_ok (p3.below b4).rd).ret fun w5 b5 => ⟨_, rfl, fun g1 => ?_, fun g1 => ?_⟩
  · have g1' : j < s.size := by
      have : decide (s.size ≤ j) = false := by simpa using g1
      have := of_decide_eq_false this; omega
    have b5' := b4.vstep b5
    have p5 := p3.below b5'
    have K5 := hK.below b5'
    have st5 : Step b (blks a rs) w w5 (blks a' rs') := Step.trans st3 (Step.of_below b5')
    refine ⟨s, p5.rd.cell 0, j, p5.rd.cell 1, ⟨by omega, by omega⟩, ?_⟩
    rw [byteI s (j := j) rfl]
    refine ⟨fun g2 => ?_, fun g2 => ?_⟩
    · simp only [beq_iff_eq] at g2
      have hcnd : j < (L s).length ∧ at_ (L s) j = 124 := ⟨by omega, by omega⟩
      refine ⟨j, p5.rd.cell 1, p5.mv (by omega) rfl fun w6 p6 e6 => ?_⟩
      have st6 := Step.trans st5 (Step.of_ext e6)
      have K6 := K5.step hbl (Step.of_ext e6)
      refine (seq_ok d hsub hsl p6 hs (by omega) hg' hdp hd6 (by omega) (fun _ => by omega)).use fun e w7 he => ?_
      cases hq2 : seqL (subP (L s) d) (decide (d = 0)) (L s) (j + 1) g' out [] with
      | bad n =>
        rw [hq2] at he
        obtain ⟨rfl, e7⟩ := he
        exact ResI.bad (by rw [← hq, altL_bad hcnd hq2]) (stepBad st6 e7)
      | ok y =>
      obtain ⟨⟨j2, g2', out2⟩, x2⟩ := y
      have hlen2 := seqL_len hsl _ rfl (by omega) hq2
      have hgo := altL_go (kids := kids) hcnd hq2 (by omega)
      rw [hq2] at he
      obtain ⟨rfl, a7, ln7, c7, rs7, p7, s7⟩ := he
      have hl7 := p7.pcs.len'
      have st7 := Step.trans st6 s7
      have K7 := K6.step hbl s7
      refine ⟨x2, rfl, ?_⟩
      obtain ⟨ka2, kc2, w8, r1, r2, r3⟩ := K7.app p7.pcs.lt st7.1.size (by rw [K7.2.1]; omega) x2
      have hkb : ∀ k, blkOf ka = some k → k ∉ blks a7 rs7 ∧ k ≠ b ∧ w.heap.size ≤ k := fun k hk => ⟨(K7.2.2 k hk).2, by have := (K7.2.2 k hk).1; omega, (K7.2.2 k hk).1⟩
      refine ⟨ka2, kl + 1, kc2, w8, r1, s.size - j2, by omega, j2, g2', a7, ln7, c7, rs7, out2, kids ++ [x2], p7.other r3 (fun hk => (hkb b hk).2.1 rfl) fun k hk hk' => (hkb k hk').1 hk, by rw [← hgo, hq], r2, ⟨st7.1.step r3 fun k hk hk' => by have := (hkb k hk').2.2; omega, fun k hk => st7.2 k hk⟩, rfl, by omega, by omega, hlen2.2.2.2 hg', by omega, by simp, by simp; omega⟩
    · simp only [beq_eq_false_iff_ne, ne_eq] at g2
      exact hend b5' (by omega)
  · have g1' : ¬ j < s.size := by
      have : decide (s.size ≤ j) = true := by simpa using g1
      have := of_decide_eq_true this; omega
    exact hend (b4.vstep b5) (by omega)
end Go.Proofs.Ytngbiaeliphdjaa.V
/- The reference's reader: pieces are put. No statement of the seat is proved here. -/
namespace Go.Proofs.Ytngbiaeliphdjaa.V
open Go.Vc Go.Proofs Go.RowKit
set_option linter.unusedVariables false
set_option linter.unusedSimpArgs false
/-- The reference's reader, nothing being wrong yet. -/
structure SSt (N : Nat) (w : World) (b : Nat) (s : ByteArray) (i g : Nat) (a : Option Addr) (ln c : Nat) (rs : List Raw) (ps : List Pc) : Prop where
  rd : Sd w b s i (-1) g a ln c
  pcs : Pcs N w a ln c rs ps
  lt : b < N
  hN : N ≤ w.heap.size
theorem SSt.notb {N : Nat} {w : World} {b : Nat} {s : ByteArray} {i g : Nat} {a : Option Addr} {ln c : Nat} {rs : List Raw} {ps : List Pc} (h : SSt N w b s i g a ln c rs ps) : b ∉ blks a rs := fun hb => by have := h.pcs.low b hb; have := h.lt; omega
theorem SSt.below {N : Nat} {w w' : World} {b : Nat} {s : ByteArray} {i g : Nat} {a : Option Addr} {ln c : Nat} {rs : List Raw} {ps : List Pc} (h : SSt N w b s i g a ln c rs ps) (k : Below w.heap.size w w') : SSt N w' b s i g a ln c rs ps :=
  ⟨h.rd.below k, h.pcs.below k, h.lt, Nat.le_trans h.hN k.size⟩
/-- The reader's own block alone has changed. -/
theorem SSt.upd {N : Nat} {w w' : World} {b : Nat} {s : ByteArray} {i g i' g' : Nat} {a : Option Addr} {ln c : Nat} {rs : List Raw} {ps : List Pc} (h : SSt N w b s i g a ln c rs ps) (e : Ext (fun k => k = b) w w') (hr : Sd w' b s i' (-1) g' a ln c) : SSt N w' b s i' g' a ln c rs ps :=
  ⟨hr, h.pcs.keep e fun k hk hb => by subst hb; exact h.notb hk, h.lt, Nat.le_trans h.hN e.size⟩
theorem SSt.other {S : Nat → Prop} {N : Nat} {w w' : World} {b : Nat} {s : ByteArray} {i g : Nat} {a : Option Addr} {ln c : Nat} {rs : List Raw} {ps : List Pc} (h : SSt N w b s i g a ln c rs ps) (e : Ext S w w') (hb : ¬ S b) (hs : ∀ k ∈ blks a rs, ¬ S k) : SSt N w' b s i g a ln c rs ps :=
  ⟨Blk.keep h.rd e hb, h.pcs.keep e hs, h.lt, Nat.le_trans h.hN e.size⟩

/-- What put leaves. -/
def SPutR (N : Nat) (w : World) (b : Nat) (s : ByteArray) (i g : Nat) (a : Option Addr) (ln : Nat) (rs : List Raw) (ps : List Pc) (r : Raw) (p : Pc) : Ending → World → Prop := fun e w' =>
  e = .returned (.int .i64 ln) ∧ ∃ a2 c2, SSt N w' b s i g a2 (ln + 1) c2 (rs ++ [r]) (ps ++ [p]) ∧ Ext (fun k => k = b ∨ k ∈ blks a rs) w w' ∧ ∀ k ∈ blks a2 (rs ++ [r]), k ∈ blks a rs ∨ k ∈ r.blocks ∨ w.heap.size ≤ k
theorem sadd_ok {N : Nat} {w : World} {b : Nat} {s : ByteArray} {i g : Nat} {a : Option Addr} {ln c : Nat} {rs : List Raw} {ps : List Pc} (h : SSt N w b s i g a ln c rs ps) {r : Raw} {p : Pc} (hr : RawOk w r p) (hb : r.blocks.Nodup) (hd : ∀ k ∈ r.blocks, k ∉ blks a rs ∧ N ≤ k) (hl : ln ≤ 1000) :
    Cl Try.prog 113 [.pointer (some ⟨b, 0, none⟩), .agg ⟨r.cells⟩] w (SPutR N w b s i g a ln rs ps r p) := by
  have hbl := h.rd.lt
  refine vc113 (n3 := r.kind) (a4 := r.sa) (l4 := r.sl) (c4 := r.sc) (n5 := r.min) (n6 := r.max) (t7 := r.lazy) (n8 := r.num) (a9 := r.ka) (l9 := r.kl) (c9 := r.kc) ?_
  unfold V113
  refine newC_in fun w1 s1 k1 e1 => ?_
  refine drw_in fun w2 q2 e2 => ?_
  have E2 : Below w.heap.size w w2 := Ext.to (Ext.to (Below.refl _ _) e1 fun _ h => h.elim) e2 fun _ h => h.elim
  have h2 := h.below E2
  have k2 : Blk w2.heap w.heap.size 111 r.cells := k1.keep e2 fun h => h
  have r2 : RawOk w2 r p := hr.keep (S := fun _ => False) (Ext.of_below E2) fun _ _ h => h
  refine ⟨a, ln, c, h2.rd.cell 4, _, k2.cell 0, _, _, _, k2.cell 1, _, k2.cell 2, _, k2.cell 3, _, k2.cell 4, _, k2.cell 5, _, _, _, k2.cell 6, ?_⟩
  obtain ⟨a2, c2, w3, p1, p2, p3, p4⟩ := Pcs_app h2.pcs h2.hN r2 hb hd hl
  refine ⟨?_, a2, ln + 1, c2, w3, p1, ?_⟩
  · exact (Blk.vnew h2.rd _).cell 4
  have hob : ∀ k, k ∈ ob a → k ∈ blks a rs := fun k hk => List.mem_append_left _ hk
  have hR3 : Sd w3 b s i (-1) g a ln c := Blk.keep h2.rd p3 fun hk => h2.notb (hob _ hk)
  refine stW_in hR3 (by show 0 + 4 + 1 ≤ 5; decide) fun w4 s4 k4 e4 => ?_
  have hR4 : Sd w4 b s i (-1) g a2 (ln + 1) c2 := k4
  have hz := E2.size
  have hz3 := p3.size
  have hblk : ∀ k ∈ blks a2 (rs ++ [r]), k ∈ blks a rs ∨ k ∈ r.blocks ∨ w2.heap.size ≤ k := by
    intro k hk
    simp only [blks, List.flatMap_append, List.mem_append, List.flatMap_cons, List.flatMap_nil, List.append_nil] at hk ⊢
    rcases hk with hk | hk | hk
    · rcases p4 with rfl | rfl
      · exact .inl (.inl hk)
      · right; right; rw [mem_ob] at hk; simp [blkOf] at hk; omega
    · exact .inl (.inr hk)
    · exact .inr (.inl hk)
  refine ⟨_, _, _, hR4.cell 4, ?_, a2, c2, ⟨hR4, p2.keep e4 fun k hk hkb => ?_, h.lt, by have := h.hN; omega⟩, ?_, ?_⟩
  · rw [show IntKind.wrap .i64 ((((ln + 1 : Nat) : Int)) - 1) = (ln : Int) from by rw [w64 (by omega)]; omega]
  · subst hkb
    rcases hblk k hk with h1 | h1 | h1
    · exact h.notb h1
    · have := (hd k h1).2; have := h.lt; omega
    · omega
  · exact ((Ext.of_below E2).trans (Ext.mono p3 fun k _ hk => .inr (hob k hk))).trans (Ext.mono e4 fun k _ hk => .inl hk)
  · intro k hk
    rcases hblk k hk with h1 | h1 | h1
    · exact .inl h1
    · exact .inr (.inl h1)
    · exact .inr (.inr (by omega))


/-- The reader, something being wrong. -/
def SBd (N : Nat) (w : World) (b : Nat) (s : ByteArray) (e : Nat) (a : Option Addr) (ln c : Nat) : Prop := (∃ i g, Sd w b s i (e : Int) g a ln c) ∧ (∃ xs, Row N w 111 7 a ln c xs) ∧ b < N
theorem SBd.below {N : Nat} {w w' : World} {b : Nat} {s : ByteArray} {e : Nat} {a : Option Addr} {ln c : Nat} (h : SBd N w b s e a ln c) (k : Below w.heap.size w w') : SBd N w' b s e a ln c := by
  obtain ⟨⟨i, g, h1⟩, ⟨xs, h2⟩, h3⟩ := h
  exact ⟨⟨i, g, h1.below k⟩, ⟨xs, h2.below k⟩, h3⟩
theorem SBd.other {S : Nat → Prop} {N : Nat} {w w' : World} {b : Nat} {s : ByteArray} {e : Nat} {a : Option Addr} {ln c : Nat} (h : SBd N w b s e a ln c) (k : Ext S w w') (hb : ¬ S b) (ha : ∀ x ∈ ob a, ¬ S x) : SBd N w' b s e a ln c := by
  obtain ⟨⟨i, g, h1⟩, ⟨xs, h2⟩, h3⟩ := h
  exact ⟨⟨i, g, Blk.keep h1 k hb⟩, ⟨xs, h2.1.keep k (fun x hx => ha x (mem_ob.2 hx)), h2.2.1, Nat.le_trans h2.2.2 k.size⟩, h3⟩
/-- It goes wrong. -/
theorem SSt.bad {N : Nat} {w w' : World} {b : Nat} {s : ByteArray} {i i' g e : Nat} {a : Option Addr} {ln c : Nat} {rs : List Raw} {ps : List Pc} (h : SSt N w b s i g a ln c rs ps) (hE : Ext (fun x => x = b) w w') (hd : Sd w' b s i' (e : Int) g a ln c) : SBd N w' b s e a ln c := by
  have hv : Vec w'.heap 111 7 a ln c (rawC rs) := h.pcs.row.keep hE fun x hx hxb => h.notb (by rw [← hxb]; exact List.mem_append_left _ (mem_ob.2 hx))
  exact ⟨⟨_, _, hd⟩, ⟨_, hv, fun x hx => h.pcs.low x (List.mem_append_left _ (mem_ob.2 hx)), Nat.le_trans h.hN hE.size⟩, h.lt⟩
theorem sadd_bad {N : Nat} {w : World} {b : Nat} {s : ByteArray} {e : Nat} {a : Option Addr} {ln c : Nat} (h : SBd N w b s e a ln c) (hl : ln ≤ 1000) (n1 : Int) (a2 : Option Addr) (l2 c2 : Nat) (n3 n4 : Int) (t5 : Bool) (n6 : Int) (a7 : Option Addr) (l7 c7 : Nat) :
    Cl Try.prog 113 [.pointer (some ⟨b, 0, none⟩), .agg #[.int .i64 n1, .slice a2 l2 c2, .int .i64 n3, .int .i64 n4, .bool t5, .int .i64 n6, .slice a7 l7 c7]] w (fun en w' => (∃ x, en = .returned (.int .i64 x)) ∧ ∃ a' c', SBd N w' b s e a' (ln + 1) c' ∧ (∀ k ∈ ob a', k ∈ ob a ∨ w.heap.size ≤ k) ∧ Ext (fun k => k = b ∨ k ∈ ob a) w w') := by
  obtain ⟨⟨i, g, h⟩, ⟨xs, hr⟩, hb⟩ := h
  have hbl := h.lt
  refine vc113 ?_
  unfold V113
  refine newC_in fun w1 s1 k1 e1 => ?_
  refine drw_in fun w2 q2 e2 => ?_
  have E2 : Below w.heap.size w w2 := Ext.to (Ext.to (Below.refl _ _) e1 fun _ h => h.elim) e2 fun _ h => h.elim
  have h2 := h.below E2
  have r2 := hr.below E2
  have k2 := k1.keep e2 fun h => h
  refine ⟨a, ln, c, h2.cell 4, _, k2.cell 0, _, _, _, k2.cell 1, _, k2.cell 2, _, k2.cell 3, _, k2.cell 4, _, k2.cell 5, _, _, _, k2.cell 6, ?_⟩
  have E1 : Ext (fun _ => False) w2 (newW w2 (.cells ⟨[.int .i64 n1, .slice a2 l2 c2, .int .i64 n3, .int .i64 n4, .bool t5, .int .i64 n6, .slice a7 l7 c7]⟩ 111)) := (Ext.refl _ w2).vnew _
  obtain ⟨a3, c3, w3, p1, p2, p3, p4⟩ := append_run (P := Try.prog) (T := 35) (T' := 35) (T'' := 35) elemPc.und elemPc.und elemPc.size elemPc.bytes (by rw [show zeroL Try.prog 111 = some _ from elemPc.zero.choose_spec.1]; simp)
    (by rw [show zeroL Try.prog 111 = some _ from elemPc.zero.choose_spec.1]; intro y hy; cases hy; exact elemPc.zero.choose_spec.2) (r2.1.keep E1 fun _ _ h => h) (a' := some ⟨w2.heap.size, 0, none⟩) (n := 1) (c' := 1) (ys := [.int .i64 n1, .slice a2 l2 c2, .int .i64 n3, .int .i64 n4, .bool t5, .int .i64 n6, .slice a7 l7 c7]) rfl rfl (.inr ⟨_, _, rfl, cellsAt_newW w2 _ _⟩) (fun h => by cases h) (by omega) (by omega)
  rw [size_newW] at p4
  have E3 : Ext (fun k => k ∈ ob a) w2 w3 := (Ext.mono E1 fun _ _ h => h.elim).trans (Ext.mono p3 fun k _ hk => mem_ob.2 hk)
  refine ⟨(Blk.vnew h2 _).cell 4, a3, ln + 1, c3, w3, p1, ?_⟩
  have hna : b ∉ ob a := fun hm => by have := hr.2.1 b (mem_ob.1 hm); omega
  have h3 : Sd w3 b s i (e : Int) g a ln c := Blk.keep h2 E3 hna
  refine stW_in h3 (by show 0 + 4 + 1 ≤ 5; decide) fun w4 s4 k4 e4 => ?_
  have h4 : Sd w4 b s i (e : Int) g a3 (ln + 1) c3 := k4
  have hz := E2.size
  have hz3 := E3.size
  have hN := hr.2.2
  have hnew : ∀ k, blkOf a3 = some k → blkOf a = some k ∨ w2.heap.size ≤ k := by
    intro k hk
    rcases p4 with rfl | rfl
    · exact .inl hk
    · simp only [blkOf, Option.some.injEq] at hk; exact .inr (by omega)
  have hlow : ∀ k, blkOf a3 = some k → N ≤ k := fun k hk => by
    rcases hnew k hk with h1 | h1
    · exact hr.2.1 k h1
    · omega
  refine ⟨_, _, _, h4.cell 4, ⟨_, rfl⟩, a3, c3, ⟨⟨i, g, h4⟩, ⟨_, p2.keep e4 fun k hk hkb => ?_, hlow, by omega⟩, hb⟩, fun k hk => ?_, ?_⟩
  · have := hlow k hk; omega
  · rcases hnew k (mem_ob.1 hk) with h1 | h1
    · exact .inl (mem_ob.2 h1)
    · exact .inr (by omega)
  · exact ((Ext.of_below E2).trans (Ext.mono E3 fun k _ hk => .inr hk)).trans (Ext.mono e4 fun k _ hk => .inl hk)

/-- What a reading function leaves; K bounds the pieces when something is wrong. -/
def ResS (N : Nat) (w : World) (b : Nat) (s : ByteArray) (B : List Nat) (K : Nat) (r : Pr (St × Int)) : Ending → World → Prop := fun e w' => match r with
  | .bad n => (∃ x, e = .returned (.int .i64 x)) ∧ (∃ a ln c, SBd N w' b s n a ln c ∧ ln ≤ K ∧ ∀ k ∈ ob a, k ∈ B ∨ w.heap.size ≤ k) ∧ Ext (fun k => k = b ∨ k ∈ B) w w'
  | .ok ((j, g, out), x) => e = .returned (.int .i64 x) ∧ ∃ a ln c rs, SSt N w' b s j g a ln c rs out ∧ Step b B w w' (blks a rs)
/-- A state on the way: right, or wrong. -/
def Mid (N : Nat) (w0 w : World) (b : Nat) (s : ByteArray) (B : List Nat) (K e : Nat) : Prop := Ext (fun k => k = b ∨ k ∈ B) w0 w ∧ ∃ a ln c, SBd N w b s e a ln c ∧ ln ≤ K ∧ ∀ k ∈ ob a, k ∈ B ∨ w0.heap.size ≤ k
theorem Mid.below {N : Nat} {w0 w w' : World} {b : Nat} {s : ByteArray} {B : List Nat} {K e : Nat} (h : Mid N w0 w b s B K e) (k : Below w.heap.size w w') : Mid N w0 w' b s B K e := by
  obtain ⟨h1, a, ln, c, h2, h3, h4⟩ := h
  exact ⟨h1.trans (Ext.of_below k), a, ln, c, h2.below k, h3, h4⟩
theorem Mid.mono {N : Nat} {w0 w : World} {b : Nat} {s : ByteArray} {B : List Nat} {K K' e : Nat} (h : Mid N w0 w b s B K e) (hk : K ≤ K') : Mid N w0 w b s B K' e := by
  obtain ⟨h1, a, ln, c, h2, h3, h4⟩ := h
  exact ⟨h1, a, ln, c, h2, by omega, h4⟩
theorem Mid.res {N : Nat} {w0 w : World} {b : Nat} {s : ByteArray} {B : List Nat} {K e : Nat} (h : Mid N w0 w b s B K e) {r : Pr (St × Int)} (hr : r = .bad e) (x : Int) : ResS N w0 b s B K r (.returned (.int .i64 x)) w := by
  subst hr
  exact ⟨⟨x, rfl⟩, h.2, h.1⟩
theorem Mid.of {N : Nat} {w0 w : World} {b : Nat} {s : ByteArray} {B : List Nat} {K n : Nat} {e : Ending} (h : ResS N w0 b s B K (.bad n) e w) : (∃ x, e = .returned (.int .i64 x)) ∧ Mid N w0 w b s B K n := ⟨h.1, h.2.2, h.2.1⟩
/-- Behind a step that was right. -/
theorem Mid.step {N : Nat} {w0 w1 w : World} {b : Nat} {s : ByteArray} {B B1 : List Nat} {K e : Nat} (st : Step b B w0 w1 B1) (h : Mid N w1 w b s B1 K e) : Mid N w0 w b s B K e := by
  obtain ⟨h1, a, ln, c, h2, h3, h4⟩ := h
  refine ⟨stepBad st h1, a, ln, c, h2, h3, fun k hk => ?_⟩
  rcases h4 k hk with h5 | h5
  · exact st.2 k h5
  · exact .inr (Nat.le_trans st.1.size h5)
theorem Mid.start {N : Nat} {w0 w : World} {b : Nat} {s : ByteArray} {i i' g e : Nat} {a : Option Addr} {ln c : Nat} {rs : List Raw} {ps : List Pc} {w1 : World} {B : List Nat} {K : Nat} (st : Step b B w0 w1 (blks a rs)) (h : SSt N w1 b s i g a ln c rs ps) (hE : Ext (fun x => x = b) w1 w) (hd : Sd w b s i' (e : Int) g a ln c) (hl : ln ≤ K) : Mid N w0 w b s B K e :=
  Mid.step st ⟨Ext.mono hE fun _ _ hk => .inl hk, a, ln, c, h.bad hE hd, hl, fun k hk => .inl (List.mem_append_left _ hk)⟩
/-- Nothing but other blocks has changed. -/
theorem Mid.other {S : Nat → Prop} {N : Nat} {w0 w w' : World} {b : Nat} {s : ByteArray} {B : List Nat} {K e : Nat} (h : Mid N w0 w b s B K e) (k : Ext S w w') (hb : ¬ S b) (hB : ∀ x, S x → w0.heap.size ≤ x) (hS : ∀ a ln c, SBd N w b s e a ln c → ∀ x ∈ ob a, ¬ S x) : Mid N w0 w' b s B K e := by
  obtain ⟨h1, a, ln, c, h2, h3, h4⟩ := h
  exact ⟨h1.step k fun x hx h => by have := hB x h; omega, a, ln, c, h2.other k hb (hS a ln c h2), h3, h4⟩
/-- A piece is put, something being wrong. -/
theorem sput_bad {N : Nat} {w0 w : World} {b : Nat} {s : ByteArray} {B : List Nat} {K e : Nat} {K' : Nat} (h : Mid N w0 w b s B K e) (hK : K + 1 ≤ K') (hK' : K' ≤ 1001) {r : Pr (St × Int)} (hr : r = .bad e) {n1 : Int} {a2 : Option Addr} {l2 c2 : Nat} {n3 n4 : Int} {t5 : Bool} {n6 : Int} {a7 : Option Addr} {l7 c7 : Nat} :
    Cl Try.prog 113 [.pointer (some ⟨b, 0, none⟩), .agg #[.int .i64 n1, .slice a2 l2 c2, .int .i64 n3, .int .i64 n4, .bool t5, .int .i64 n6, .slice a7 l7 c7]] w
      (retG (fun (r112 : Value) (w111 : World) => ∃ (n110 : Int), r112 = .int .i64 n110 ∧ ResS N w0 b s B K' r (.returned (.int .i64 n110)) w111) fun c1 w1 => ResS N w0 b s B K' r (.panicked c1) w1) := by
  obtain ⟨h1, a, ln, c, h2, h3, h4⟩ := h
  refine (sadd_bad h2 (by omega) n1 a2 l2 c2 n3 n4 t5 n6 a7 l7 c7).use fun en w2 he => ?_
  obtain ⟨⟨x, rfl⟩, a', c', h5, h6, h7⟩ := he
  refine ⟨x, rfl, ?_⟩
  subst hr
  refine ⟨⟨x, rfl⟩, ⟨a', ln + 1, c', h5, by omega, fun k hk => ?_⟩, h1.step h7 fun k hk hk' => ?_⟩
  · rcases h6 k hk with h8 | h8
    · exact h4 k h8
    · exact .inr (Nat.le_trans h1.size h8)
  · rcases hk' with h8 | h8
    · exact .inl h8
    · rcases h4 k h8 with h9 | h9
      · exact .inr h9
      · omega
/-- A piece is put. -/
theorem sput_ok {N : Nat} {w0 w : World} {b : Nat} {s : ByteArray} {i g : Nat} {a : Option Addr} {ln c : Nat} {rs : List Raw} {ps : List Pc} {B0 : List Nat} {K : Nat} (h : SSt N w b s i g a ln c rs ps) (st : Step b B0 w0 w (blks a rs)) {q : Raw} {p : Pc} (hok : RawOk w q p) (hnd : q.blocks.Nodup) (hq : ∀ k ∈ q.blocks, w0.heap.size ≤ k ∧ k ∉ blks a rs) (hN0 : N ≤ w0.heap.size) (hl : ln ≤ 1000)
    {r : Pr (St × Int)} (hr : r = .ok ((i, g, ps ++ [p]), (ps.length : Int))) :
    Cl Try.prog 113 [.pointer (some ⟨b, 0, none⟩), .agg ⟨q.cells⟩] w
      (retG (fun (r112 : Value) (w111 : World) => ∃ (n110 : Int), r112 = .int .i64 n110 ∧ ResS N w0 b s B0 K r (.returned (.int .i64 n110)) w111) fun c1 w1 => ResS N w0 b s B0 K r (.panicked c1) w1) := by
  refine (sadd_ok h hok hnd (fun k hm => ⟨(hq k hm).2, by have := (hq k hm).1; omega⟩) hl).use fun e w8 he => ?_
  obtain ⟨rfl, a2, c2, p8, e8, hb8⟩ := he
  refine ⟨_, rfl, ?_⟩
  subst hr
  refine ⟨by rw [h.pcs.len'], a2, ln + 1, c2, _, p8, stepBad st e8, fun k hk' => ?_⟩
  rcases hb8 k hk' with h1 | h1 | h1
  · exact st.2 k h1
  · exact .inr (hq k h1).1
  · exact .inr (Nat.le_trans st.1.size h1)
/-- A piece of a set is put, its ranges being a new row. -/
theorem sputSet {N : Nat} {w0 w : World} {b : Nat} {s : ByteArray} {i g : Nat} {a : Option Addr} {ln c : Nat} {rs : List Raw} {ps : List Pc} {B0 : List Nat} {K : Nat} (h : SSt N w b s i g a ln c rs ps) (st : Step b B0 w0 w (blks a rs)) {sa : Option Addr} {sc sl : Nat} {set : List (Int × Int)} (hsl : sl = set.length) (hv : Vec w.heap 134 2 sa sl sc (rngC set)) (hf : ∀ k, blkOf sa = some k → w0.heap.size ≤ k ∧ k ∉ blks a rs) (hN0 : N ≤ w0.heap.size) (hl : ln ≤ 1000) {r : Pr (St × Int)}
    (hr : r = .ok ((i, g, ps ++ [pSet set]), (ps.length : Int))) : Cl Try.prog 113 [.pointer (some ⟨b, 0, none⟩), .agg #[.int .i64 1, .slice sa sl sc, .int .i64 0, .int .i64 0, .bool false, .int .i64 0, .slice none 0 0]] w
      (retG (fun (r112 : Value) (w111 : World) => ∃ (n110 : Int), r112 = .int .i64 n110 ∧ ResS N w0 b s B0 K r (.returned (.int .i64 n110)) w111) fun c1 w1 => ResS N w0 b s B0 K r (.panicked c1) w1) := by
  have hblk : (Raw.mk 1 sa sl sc 0 0 false 0 none 0 0).blocks = ob sa := by simp [Raw.blocks, ob, blkOf]
  exact sput_ok (q := ⟨1, sa, sl, sc, 0, 0, false, 0, none, 0, 0⟩) h st ⟨rfl, rfl, rfl, rfl, rfl, hv, Vec.nil _ _ _⟩ (by rw [hblk]; unfold ob; cases blkOf sa <;> simp) (fun k hk => by rw [hblk] at hk; exact hf k (mem_ob.1 hk)) hN0 hl hr
/-- A piece without rows is put. -/
theorem sputBare {N : Nat} {w0 w : World} {b : Nat} {s : ByteArray} {i g : Nat} {a : Option Addr} {ln c : Nat} {rs : List Raw} {ps : List Pc} {B0 : List Nat} {K : Nat} (h : SSt N w b s i g a ln c rs ps) (st : Step b B0 w0 w (blks a rs)) (kind : Int) {p : Pc} (hp : p = ⟨kind, [], 0, 0, false, 0, []⟩) (hN0 : N ≤ w0.heap.size) (hl : ln ≤ 1000) {r : Pr (St × Int)}
    (hr : r = .ok ((i, g, ps ++ [p]), (ps.length : Int))) : Cl Try.prog 113 [.pointer (some ⟨b, 0, none⟩), .agg #[.int .i64 kind, .slice none 0 0, .int .i64 0, .int .i64 0, .bool false, .int .i64 0, .slice none 0 0]] w
      (retG (fun (r112 : Value) (w111 : World) => ∃ (n110 : Int), r112 = .int .i64 n110 ∧ ResS N w0 b s B0 K r (.returned (.int .i64 n110)) w111) fun c1 w1 => ResS N w0 b s B0 K r (.panicked c1) w1) := by
  subst hp
  have hblk : (Raw.mk kind none 0 0 0 0 false 0 none 0 0).blocks = [] := by simp [Raw.blocks, ob, blkOf]
  exact sput_ok (q := ⟨kind, none, 0, 0, 0, 0, false, 0, none, 0, 0⟩) h st ⟨rfl, rfl, rfl, rfl, rfl, Vec.nil _ _ _, Vec.nil _ _ _⟩ (by rw [hblk]; simp) (fun k hk => by rw [hblk] at hk; cases hk) hN0 hl hr
/-- A piece with kids is put. -/
theorem sputKids {N : Nat} {w0 w : World} {b : Nat} {s : ByteArray} {i g : Nat} {a : Option Addr} {ln c : Nat} {rs : List Raw} {ps : List Pc} {B0 : List Nat} {K : Nat} (h : SSt N w b s i g a ln c rs ps) (st : Step b B0 w0 w (blks a rs)) {ka : Option Addr} {kl kc : Nat} {kids : List Int} (hk : Kids w0 w (blks a rs) ka kl kc kids) (hN0 : N ≤ w0.heap.size) (hl : ln ≤ 1000)
    {n m1 m2 m3 : Int} {z : Bool} {p : Pc} (hp : p = ⟨n, [], m1, m2, z, m3, kids⟩) {r : Pr (St × Int)} (hr : r = .ok ((i, g, ps ++ [p]), (ps.length : Int))) :
    Cl Try.prog 113 [.pointer (some ⟨b, 0, none⟩), .agg #[.int .i64 n, .slice none 0 0, .int .i64 m1, .int .i64 m2, .bool z, .int .i64 m3, .slice ka kl kc]] w
      (retG (fun (r112 : Value) (w111 : World) => ∃ (n110 : Int), r112 = .int .i64 n110 ∧ ResS N w0 b s B0 K r (.returned (.int .i64 n110)) w111) fun c1 w1 => ResS N w0 b s B0 K r (.panicked c1) w1) := by
  subst hp
  have hblk : (Raw.mk n none 0 0 m1 m2 z m3 ka kl kc).blocks = ob ka := by simp [Raw.blocks, ob, blkOf]
  exact sput_ok (q := ⟨n, none, 0, 0, m1, m2, z, m3, ka, kl, kc⟩) h st ⟨rfl, rfl, rfl, rfl, rfl, Vec.nil _ _ _, hk.1⟩ (by rw [hblk]; unfold ob; cases blkOf ka <;> simp) (fun k hm => by rw [hblk] at hm; exact hk.2.2 k (mem_ob.1 hm)) hN0 hl hr
end Go.Proofs.Ytngbiaeliphdjaa.V
/- The reference's reader: atoms. No statement of the seat is proved here. -/
namespace Go.Vc
set_option linter.unusedVariables false
theorem runsF_skip {f : Nat → Bool} : ∀ (k i j : Nat), k = j - i → i ≤ j → j ≤ 256 → (∀ n, i ≤ n → n < j → f n = false) → runsF f i = runsF f j
  | 0, i, j, hk, hij, _, _ => by rw [show i = j from by omega]
  | k + 1, i, j, hk, hij, hj, h => by
    rw [runsF_no (by omega) (h i (Nat.le_refl _) (by omega))]
    exact runsF_skip k (i + 1) j (by omega) (by omega) hj fun n h1 h2 => h n (by omega) h2
end Go.Vc
namespace Go.Proofs.Ytngbiaeliphdjaa.V
open Go.Vc Go.Proofs Go.RowKit
set_option linter.unusedVariables false
set_option linter.unusedSimpArgs false
theorem runs_one {c : Nat} (hc : c < 256) : runs (inR [(c, c)]) = [((c : Int), (c : Int))] := by
  have hf : ∀ n, inR [(c, c)] n = decide (n = c) := by
    intro n; rw [inR_one]; apply decide_eq_decide.2; omega
  have h1 : runs (inR [(c, c)]) = runsF (inR [(c, c)]) c := runsF_skip c 0 c rfl (by omega) (by omega) fun n _ h => by rw [hf]; exact decide_eq_false (by omega)
  have h2 : runEnd (inR [(c, c)]) c = c := runEnd_no (by rw [hf]; exact decide_eq_false (by omega))
  rw [h1, runsF_yes hc (by rw [hf]; exact decide_eq_true rfl), h2]
  rw [runsF_skip (256 - (c + 1)) (c + 1) 256 rfl (by omega) (Nat.le_refl _) fun n h _ => by rw [hf]; exact decide_eq_false (by omega)]
  rw [runsF_out (by omega)]
/-- The contract of alt, at most d groups deep. -/
def PatS (d : Nat) : Prop := ∀ (N : Nat) (w : World) (b : Nat) (s : ByteArray) (i g : Nat) (a : Option Addr) (ln c : Nat) (rs : List Raw) (ps : List Pc) (dp : Int), SSt N w b s i g a ln c rs ps → s.size ≤ 120 → i ≤ s.size → g ≤ 9 → dp = 6 - (d : Int) → d ≤ 6 → ln + 4 * (s.size - i) + 4 * d ≤ 900 →
  Cl Try.prog 77 [.pointer (some ⟨b, 0, none⟩), .int .i64 dp] w (ResS N w b s (blks a rs) (904 + 4 * d) (patP (L s) d (i, g, ps)))
section
variable {N : Nat} {w0 w : World} {b : Nat} {s : ByteArray} {B : List Nat} {K e : Nat}
theorem mid_is (h : Mid N w0 w b s B K e) (ch : Int) : Cl Try.prog 112 [.pointer (some ⟨b, 0, none⟩), .int .u8 ch] w (RetB (.bool false) w) := by
  obtain ⟨_, a, ln, c, ⟨⟨i, g, h⟩, _⟩, _⟩ := h
  exact is_bad h ch
theorem mid_fail (h : Mid N w0 w b s B K e) : Cl Try.prog 79 [.pointer (some ⟨b, 0, none⟩)] w (RetB (.tuple #[]) w) := by
  obtain ⟨_, a, ln, c, ⟨⟨i, g, h⟩, _⟩, _⟩ := h
  exact sfail_bad h
theorem mid_more (h : Mid N w0 w b s B K e) : Cl Try.prog 78 [.pointer (some ⟨b, 0, none⟩)] w (RetB (.bool false) w) := by
  obtain ⟨_, a, ln, c, ⟨⟨i, g, h⟩, _⟩, _⟩ := h
  exact more_bad h
theorem mid_cell (h : Mid N w0 w b s B K e) : cellH w.heap b 2 = some (.int .i64 (e : Int)) := by
  obtain ⟨_, a, ln, c, ⟨⟨i, g, h⟩, _⟩, _⟩ := h
  exact h.cell 2
end
theorem SSt.mv {N : Nat} {w : World} {b : Nat} {s : ByteArray} {i g : Nat} {a : Option Addr} {ln c : Nat} {rs : List Raw} {ps : List Pc} {K : World → Prop} {n : Int} (h : SSt N w b s i g a ln c rs ps) (hj : i ≤ 1000) (hn : n = i) (hK : ∀ w', SSt N w' b s (i + 1) g a ln c rs ps → Ext (fun k => k = b) w w' → K w') : stW b (0 + 1) [.int .i64 (IntKind.wrap .i64 (n + 1))] K w := by
  subst hn
  exact h.rd.mv (j := i + 1) (by rw [w64 (by omega)]; omega) fun w'' s'' k'' e'' => hK w'' (h.upd e'' k'') e''
/-- A kid alone, as a new row. -/
theorem kidOne {w0 w w' : World} {B : List Nat} (hw : w0.heap.size ≤ w.heap.size) (hB : ∀ k ∈ B, k < w.heap.size) {x : Int} (k : Blk w'.heap w.heap.size 3 [.int .i64 x]) : Kids w0 w' B (some ⟨w.heap.size, 0, none⟩) 1 1 [x] :=
  ⟨⟨rfl, Nat.le_refl _, .inr ⟨_, _, rfl, k, rfl, rfl⟩⟩, rfl, fun q hq => by
    simp only [blkOf, Option.some.injEq] at hq
    subst hq
    exact ⟨hw, fun hm => by have := hB _ hm; omega⟩⟩
theorem satom_ok {N : Nat} {w : World} {b : Nat} {s : ByteArray} {i g : Nat} {a : Option Addr} {ln c : Nat} {rs : List Raw} {ps : List Pc} {dp : Int} (d : Nat) (hsub : ∀ d', d = d' + 1 → PatS d') (h : SSt N w b s i g a ln c rs ps) (hs : s.size ≤ 120) (hi : i < s.size) (hg : g ≤ 9) (hdp : dp = 6 - (d : Int)) (hd6 : d ≤ 6) (hbd : ln + 4 * (s.size - i) + 4 * d ≤ 900) (h124 : at_ (L s) i ≠ 124) (h41 : at_ (L s) i ≠ 41) :
    Cl Try.prog 149 [.pointer (some ⟨b, 0, none⟩), .int .i64 dp] w (ResS N w b s (blks a rs) (901 + 4 * d) (atomP (subP (L s) d) (decide (d = 0)) (L s) i g ps)) := by
  apply vc149
  unfold V149
  have hsz := size_L s
  have hlen' := h.pcs.len'
  have hB := h.pcs.lt
  have hbl := h.rd.lt
  have hc := at_lt (L s) i
  generalize hR : atomP (subP (L s) d) (decide (d = 0)) (L s) i g ps = R
  unfold atomP at hR
  refine drw_in fun w4 q4 e4 => ?_
  have B4 : Below w.heap.size w w4 := Ext.to (Below.refl _ _) e4 fun _ h => h.elim
  have h4 := h.below B4
  refine ⟨s, h4.rd.cell 0, i, h4.rd.cell 1, ⟨by omega, by omega⟩, ?_⟩
  rw [byteI s (j := i) rfl]
  obtain ⟨w8, hr8, s8, k8, e8⟩ := make256 w4
  generalize hkb : w4.heap.size = kb at *
  have B8 : Below w.heap.size w w8 := Ext.to B4 e8 fun _ h => h.elim
  have h8 := h.below B8
  have hkb' : w.heap.size ≤ kb := by have := B4.size; omega
  have hbk : b ≠ kb := by omega
  refine ⟨_, _, _, w8, hr8, ?_⟩
  clear hr8
  have hst8 : Step b (blks a rs) w w8 (blks a rs) := Step.of_below B8
  -- what goes wrong at once
  have hfail : R = .bad i → Cl Try.prog 79 [.pointer (some ⟨b, 0, none⟩)] w8 (retG (fun (r81 : Value) (w80 : World) => r81 = .tuple #[] ∧ ResS N w b s (blks a rs) (901 + 4 * d) R (.returned (.int .i64 0)) w80) fun c1 w1 => ResS N w b s (blks a rs) (901 + 4 * d) R (.panicked c1) w1) := by
    intro hb
    refine (sfail_ok h8.rd).use fun e w9 he => ?_
    obtain ⟨rfl, h9, e9⟩ := he
    exact ⟨rfl, (Mid.start hst8 h8 e9 h9 (by omega)).res hb 0⟩
  -- a set's piece
  have hset : ∀ {w' : World} {j : Nat} {f : Nat → Bool}, SSt N w' b s j g a ln c rs ps → Step b (blks a rs) w w' (blks a rs) → Blk w'.heap kb 4 (b256 f) → R = .ok ((j, g, ps ++ [pSet (runs f)]), (ps.length : Int)) →
      Cl Try.prog 167 ([.slice (some ⟨kb, 0, none⟩) 256 256]) w' (retG (fun (r64 : Value) (w63 : World) => ∃ (a62 : Option Addr), ∃ (l62 : Nat), ∃ (c62 : Nat), r64 = .slice a62 l62 c62 ∧ Cl Try.prog 113 ([.pointer (some ⟨b, 0, none⟩), .agg #[.int .i64 1, .slice a62 l62 c62, .int .i64 0, .int .i64 0, .bool false, .int .i64 0, .slice none 0 0]]) w63 (retG (fun (r67 : Value) (w66 : World) => ∃ (n65 : Int), r67 = .int .i64 n65 ∧ ResS N w b s (blks a rs) (901 + 4 * d) R (.returned (.int .i64 n65)) w66) fun c1 w1 => ResS N w b s (blks a rs) (901 + 4 * d) R (.panicked c1) w1)) fun c1 w1 => ResS N w b s (blks a rs) (901 + 4 * d) R (.panicked c1) w1) := by
    intro w' j f h' st' k' hr
    refine (sset_ok k').use fun e w9 he => ?_
    obtain ⟨sa, sc, rfl, hrow, b9⟩ := he
    refine ⟨sa, _, sc, rfl, sputSet (h'.below b9) (Step.trans st' (Step.of_below b9)) rfl hrow.1 (fun k hk => ?_) h.hN (by omega) hr⟩
    have := hrow.2.1 k hk
    have := st'.1.size
    exact ⟨by omega, fun hm => by have := hB k hm; omega⟩
  refine ⟨fun g1 => ?_, fun g1 => ⟨fun g2 => ?_, fun g2 => ⟨fun g3 => ?_, fun g3 => ⟨fun g4 => ?_, fun g4 => ⟨fun g5 => ?_, fun g5 => ⟨fun g6 => ?_, fun g6 => ⟨fun g7 => ?_, fun g7 => ⟨fun g8 => ?_, fun g8 => ⟨fun g9 => ?_, fun g9 => ⟨fun g10 => ?_, fun g10 => ⟨fun g11 => ?_, fun g11 => ⟨fun g12 => ?_, fun g12 => ?_⟩⟩⟩⟩⟩⟩⟩⟩⟩⟩⟩⟩
  all_goals try simp only [beq_iff_eq, beq_eq_false_iff_ne, ne_eq] at g1
  all_goals try simp only [beq_iff_eq, beq_eq_false_iff_ne, ne_eq] at g2
  all_goals try simp only [beq_iff_eq, beq_eq_false_iff_ne, ne_eq] at g3
  all_goals try simp only [beq_iff_eq, beq_eq_false_iff_ne, ne_eq] at g4
  all_goals try simp only [beq_iff_eq, beq_eq_false_iff_ne, ne_eq] at g5
  all_goals try simp only [beq_iff_eq, beq_eq_false_iff_ne, ne_eq] at g6
  all_goals try simp only [beq_iff_eq, beq_eq_false_iff_ne, ne_eq] at g7
  all_goals try simp only [beq_iff_eq, beq_eq_false_iff_ne, ne_eq] at g8
  all_goals try simp only [beq_iff_eq, beq_eq_false_iff_ne, ne_eq] at g9
  all_goals try simp only [beq_iff_eq, beq_eq_false_iff_ne, ne_eq] at g10
  all_goals try simp only [beq_iff_eq, beq_eq_false_iff_ne, ne_eq] at g11
  all_goals try simp only [beq_iff_eq, beq_eq_false_iff_ne, ne_eq] at g12
  · rw [if_pos (by omega)] at hR
    refine ⟨g, h8.rd.cell 3, fun g2 => ?_, fun g2 => ⟨fun g3 => ?_, fun g3 => ?_⟩⟩
    · simp only [beq_iff_eq] at g2
      rw [if_pos (.inl (by omega))] at hR
      exact hfail hR.symm
    · simp only [beq_iff_eq] at g3
      rw [if_pos (.inr (decide_eq_true (by omega)))] at hR
      exact hfail hR.symm
    simp only [beq_eq_false_iff_ne, ne_eq] at g2 g3
    obtain ⟨d', rfl⟩ : ∃ d', d = d' + 1 := ⟨d - 1, by omega⟩
    rw [if_neg (by simp; omega)] at hR
    refine ⟨_, h8.rd.cell 1, h8.mv (by omega) rfl fun w9 p9 e9 => ⟨_, p9.rd.cell 3, ?_⟩⟩
    rw [show IntKind.wrap .i64 ((g : Int) + 1) = ((g + 1 : Nat) : Int) from by rw [w64 (by omega)]; omega]
    refine stW_in p9.rd (by show 0 + 3 + 1 ≤ 5; decide) fun w10 s10 k10 e10 => ?_
    have p10 : SSt N w10 b s (i + 1) (g + 1) a ln c rs ps := p9.upd e10 k10
    refine ⟨_, p10.rd.cell 3, ?_⟩
    rw [show IntKind.wrap .i64 (dp + 1) = dp + 1 from w64 (by omega)]
    have st10 := Step.trans (Step.trans hst8 (Step.of_ext e9)) (Step.of_ext (B := blks a rs) e10)
    refine (hsub d' rfl N w10 b s (i + 1) (g + 1) a ln c rs ps (dp + 1) p10 hs (by omega) (by omega) (by omega) (by omega) (by omega)).use fun e w11 he => ?_
    have hsubP : subP (L s) (d' + 1) (i + 1, g + 1, ps) = patP (L s) d' (i + 1, g + 1, ps) := rfl
    rw [hsubP] at hR
    cases hq : patP (L s) d' (i + 1, g + 1, ps) with
    | bad n =>
      rw [hq] at he hR
      obtain ⟨⟨x, rfl⟩, hm⟩ := Mid.of he
      have hm := Mid.step st10 hm
      refine ⟨x, rfl, (mid_is hm 41).ret fun w12 b12 => ⟨false, rfl, fun _ => ?_, fun g => by simp at g⟩⟩
      have hm := hm.below b12
      refine (mid_fail hm).ret fun w13 b13 => ⟨rfl, newC_in fun w14 s14 k14 e14 => ?_⟩
      have hm := (hm.below b13).below (Ext.to (Below.refl _ _) e14 fun _ h => h.elim)
      exact sput_bad hm (by omega) (by omega) hR.symm
    | ok y =>
    obtain ⟨⟨j, g', out'⟩, x⟩ := y
    have hlen := patP_len (L s) d' _ _ _ _ _ _ _ (by omega) hq
    rw [hq] at he hR
    simp only [] at hR
    obtain ⟨rfl, a11, ln11, c11, rs11, p11, st11⟩ := he
    have hln11 := p11.pcs.len'
    have st11 := Step.trans st10 st11
    refine ⟨x, rfl, ?_⟩
    by_cases hy : j < s.size ∧ at_ (L s) j = 41
    · rw [if_neg (by omega), if_pos hy.2] at hR
      refine (is_yes p11.rd hy.1 (by omega) hy.2 rfl).use fun e w12 he => ?_
      obtain ⟨rfl, h12, e12⟩ := he
      have p12 := p11.upd e12 h12
      have st12 := Step.trans st11 (Step.of_ext e12)
      refine ⟨true, rfl, fun g => by simp at g, fun _ => newC_in fun w13 s13 k13 e13 => ?_⟩
      have b13 : Below w12.heap.size w12 w13 := Ext.to (Below.refl _ _) e13 fun _ h => h.elim
      exact sputKids (p12.below b13) (Step.trans st12 (Step.of_below b13)) (kidOne st12.1.size p12.pcs.lt k13) h.hN (by omega) rfl hR.symm
    · have hRb : R = .bad j := by
        rw [← hR]
        by_cases hl : (L s).length ≤ j
        · rw [if_pos hl]; congr 1; omega
        · rw [if_neg hl, if_neg (by omega)]
      refine (is_no p11.rd (ch := 41) hy rfl).ret fun w12 b12 => ⟨false, rfl, fun _ => ?_, fun g => by simp at g⟩
      have p12 := p11.below b12
      refine (sfail_ok p12.rd).use fun e w13 he => ?_
      obtain ⟨rfl, h13, e13⟩ := he
      have hm := Mid.start (Step.trans st11 (Step.of_below b12)) p12 e13 h13 (K := 900 + 4 * (d' + 1)) (by omega)
      refine ⟨rfl, newC_in fun w14 s14 k14 e14 => ?_⟩
      exact sput_bad (hm.below (Ext.to (Below.refl _ _) e14 fun _ h => h.elim)) (by omega) (by omega) hRb
  · rw [if_neg (by omega), if_pos (by omega), setP_eq (by omega)] at hR
    refine ⟨_, h8.rd.cell 1, h8.mv (by omega) rfl fun w9 p9 e9 => ?_⟩
    have st9 := Step.trans hst8 (Step.of_ext (B := blks a rs) e9)
    refine (sclass_ok p9.rd hs (by omega)).use fun e w10 he => ?_
    obtain ⟨e10, he⟩ := he
    cases hq : clsFin (decide (at_ (L s) (i + 1) = 94)) (clsP (L s) (if at_ (L s) (i + 1) = 94 then i + 1 + 1 else i + 1) true []) with
    | bad n =>
      rw [hq] at he
      rw [show i + 2 = i + 1 + 1 from rfl, hq] at hR
      obtain ⟨rfl, j, h10⟩ := he
      exact ⟨_, _, _, rfl, sput_bad (Mid.start st9 p9 e10 h10 (K := 900 + 4 * d) (by omega)) (by omega) (by omega) hR.symm⟩
    | ok y =>
      obtain ⟨j, set⟩ := y
      rw [hq] at he
      rw [show i + 2 = i + 1 + 1 from rfl, hq] at hR
      obtain ⟨sa, sc, rfl, hrow, h10⟩ := he
      have p10 := p9.upd e10 h10
      refine ⟨sa, _, sc, rfl, sputSet p10 (Step.trans st9 (Step.of_ext e10)) rfl hrow.1 (fun k hk => ?_) h.hN (by omega) hR.symm⟩
      have := hrow.2.1 k hk
      have := st9.1.size
      exact ⟨by omega, fun hm => by have := hB k hm; omega⟩
  · rw [if_neg (by omega), if_neg (by omega), if_neg (by omega), if_pos (by omega)] at hR
    refine ⟨_, h8.rd.cell 1, h8.mv (by omega) rfl fun w9 p9 e9 => ?_⟩
    exact sputBare p9 (Step.trans hst8 (Step.of_ext e9)) 6 rfl h.hN (by omega) hR.symm
  · rw [if_neg (by omega), if_neg (by omega), if_neg (by omega), if_neg (by omega), if_pos (by omega)] at hR
    refine ⟨_, h8.rd.cell 1, h8.mv (by omega) rfl fun w9 p9 e9 => ?_⟩
    exact sputBare p9 (Step.trans hst8 (Step.of_ext e9)) 7 rfl h.hN (by omega) hR.symm
  · rw [if_neg (by omega), if_neg (by omega), if_pos (by omega)] at hR
    refine (srange_ok k8 0 255 (by decide) rfl rfl).use fun e w9 he => ?_
    obtain ⟨rfl, k9, e9⟩ := he
    have p9 : SSt N w9 b s i g a ln c rs ps := h8.other e9 hbk fun k hk => by have := hB k hk; omega
    have E9 : Ext (fun x => x = b) w w9 := (Ext.of_below B8).step e9 fun x hx h => by omega
    refine ⟨rfl, kb, 0, ⟨rfl, by decide, by decide⟩, ?_⟩
    refine stW_in k9 (by rw [b256_length]; decide) fun w10 s10 k10 e10 => ?_
    have p10 : SSt N w10 b s i g a ln c rs ps := p9.other e10 hbk fun k hk => by have := hB k hk; omega
    have E10 : Ext (fun x => x = b) w w10 := E9.step e10 fun x hx h => by omega
    have k10' : Blk w10.heap kb 4 (b256 (inR [(0, 9), (11, 255)])) := by
      rw [show segSet (b256 fun n => false || inR [(0, 255)] n) (0 + 10) [.bool false] = (b256 fun n => false || inR [(0, 255)] n).set 10 (.bool false) from rfl, b256_set] at k10
      rw [b256_ext (g := inR [(0, 9), (11, 255)]) fun n hn => ?_] at k10
      · exact k10
      · by_cases h10 : n = 10
        · subst h10; rfl
        · rw [if_neg h10, Bool.false_or, inR_one, show ([(0, 9), (11, 255)] : Rs) = [(0, 9)] ++ [(11, 255)] from rfl, inR_app, inR_one, inR_one]
          rw [Bool.eq_iff_iff]
          simp only [decide_eq_true_eq, Bool.or_eq_true]
          omega
    refine ⟨_, p10.rd.cell 1, p10.mv (by omega) rfl fun w11 p11 e11 => ?_⟩
    exact hset p11 (Step.of_ext (E10.trans e11)) (k10'.keep e11 hbk.symm) hR.symm
  · rw [if_neg (by omega), if_neg (by omega), if_neg (by omega), if_neg (by omega), if_neg (by omega), if_pos (by omega)] at hR
    refine ⟨_, h8.rd.cell 1, h8.mv (by omega) rfl fun w9 p9 e9 => ?_⟩
    have k9 := k8.keep e9 hbk.symm
    have st9 := Step.trans hst8 (Step.of_ext (B := blks a rs) e9)
    refine (sescape_ok p9.rd hs (by omega) k9 hbk.symm).use fun e w10 he => ?_
    obtain ⟨e10, he⟩ := he
    have E9 : Ext (fun x => x = b) w w9 := (Ext.of_below B8).trans e9
    have E10 : Ext (fun x => x = b) w w10 := E9.step e10 fun x hx h => by omega
    cases hq : escP (L s) (i + 1) with
    | bad n =>
      rw [hq] at he hR
      obtain ⟨rfl, ⟨j, h10⟩, f', k10⟩ := he
      have hm : Mid N w w10 b s (blks a rs) (900 + 4 * d) n := Mid.start (Step.refl _ _ _) h E10 h10 (by omega)
      refine ⟨_, _, rfl, (sset_ok k10).use fun e w11 he => ?_⟩
      obtain ⟨sa, sc, rfl, hrow, b11⟩ := he
      exact ⟨sa, _, sc, rfl, sput_bad (hm.below b11) (by omega) (by omega) hR.symm⟩
    | ok y =>
      obtain ⟨j, rs2, o⟩ := y
      rw [hq] at he hR
      have key : ∀ {n70 : Int} {t71 : Bool}, Sd w10 b s j (-1) g a ln c → Blk w10.heap kb 4 (b256 fun n => false || inR rs2 n) → SSt N w10 b s j g a ln c rs ps ∧ Blk w10.heap kb 4 (b256 (inR rs2)) := by
        intro n70 t71 h10 k10
        have hpcs := h.pcs.keep (S := fun x => x = b) E10 fun k hk hkb => h.notb (hkb ▸ hk)
        refine ⟨⟨h10, hpcs, h.lt, Nat.le_trans h.hN E10.size⟩, ?_⟩
        rw [b256_ext (g := inR rs2) fun n _ => by rw [Bool.false_or]] at k10
        exact k10
      cases o with
      | none =>
        obtain ⟨rfl, h10, k10⟩ := he
        obtain ⟨p10, k10⟩ := key (n70 := 0) (t71 := false) h10 k10
        exact ⟨_, _, rfl, hset p10 (Step.of_ext E10) k10 hR.symm⟩
      | some v =>
        obtain ⟨rfl, h10, k10⟩ := he
        obtain ⟨p10, k10⟩ := key (n70 := 0) (t71 := false) h10 k10
        exact ⟨_, _, rfl, hset p10 (Step.of_ext E10) k10 hR.symm⟩
  all_goals rw [if_neg (by omega), if_neg (by omega), if_neg (by omega), if_neg (by omega), if_neg (by omega), if_neg (by omega)] at hR
  · exact hfail (by rw [← hR, if_pos (by omega)])
  · exact hfail (by rw [← hR, if_pos (by omega)])
  · exact hfail (by rw [← hR, if_pos (by omega)])
  · exact hfail (by rw [← hR, if_pos (by omega)])
  · exact hfail (by rw [← hR, if_pos (by omega)])
  · exact hfail (by rw [← hR, if_pos (by omega)])
  · rw [if_neg (by omega)] at hR
    rw [w64 (n := (at_ (L s) i : Int)) (by omega)]
    refine ⟨kb, 0, ⟨rfl, by omega, by omega⟩, st_one k8 hc (by omega) fun w9 s9 k9 e9 => ?_⟩
    have p9 : SSt N w9 b s i g a ln c rs ps := h8.other e9 hbk fun k hk => by have := hB k hk; omega
    have E9 : Ext (fun x => x = b) w w9 := (Ext.of_below B8).step e9 fun x hx h => by omega
    refine ⟨_, p9.rd.cell 1, p9.mv (by omega) rfl fun w10 p10 e10 => ?_⟩
    have k10 := k9.keep e10 hbk.symm
    rw [b256_ext (g := inR [(at_ (L s) i, at_ (L s) i)]) fun n _ => by rw [Bool.false_or]] at k10
    exact hset p10 (Step.of_ext (E9.trans e10)) k10 (by rw [runs_one hc]; exact hR.symm)
end Go.Proofs.Ytngbiaeliphdjaa.V
/- The reference's reader: an atom with its count. No statement of the seat is proved here. -/
namespace Go.Proofs.Ytngbiaeliphdjaa.V
open Go.Vc Go.Proofs Go.RowKit
set_option linter.unusedVariables false
set_option linter.unusedSimpArgs false
/-- A state on the way that is wrong; some blocks are not the pieces'. -/
def MidA (N : Nat) (w0 w : World) (b : Nat) (s : ByteArray) (B : List Nat) (K e : Nat) (X : Nat → Prop) : Prop := Ext (fun k => k = b ∨ k ∈ B) w0 w ∧ ∃ a ln c, SBd N w b s e a ln c ∧ ln ≤ K ∧ (∀ k ∈ ob a, k ∈ B ∨ w0.heap.size ≤ k) ∧ ∀ k ∈ ob a, ¬ X k
section
variable {N : Nat} {w0 w w' : World} {b : Nat} {s : ByteArray} {B : List Nat} {K e : Nat} {X S : Nat → Prop}
theorem MidA.mid (h : MidA N w0 w b s B K e X) : Mid N w0 w b s B K e := by
  obtain ⟨h1, a, ln, c, h2, h3, h4, h5⟩ := h
  exact ⟨h1, a, ln, c, h2, h3, h4⟩
theorem Mid.avoid (h : Mid N w0 w b s B K e) (hX : ∀ x, X x → x ∉ B ∧ x < w0.heap.size) : MidA N w0 w b s B K e X := by
  obtain ⟨h1, a, ln, c, h2, h3, h4⟩ := h
  refine ⟨h1, a, ln, c, h2, h3, h4, fun k hk hx => ?_⟩
  have := hX k hx
  rcases h4 k hk with h | h
  · exact this.1 h
  · omega
theorem Mid.fresh (h : Mid N w0 w b s B K e) (hX : ∀ x, X x → w.heap.size ≤ x) : MidA N w0 w b s B K e X := by
  obtain ⟨h1, a, ln, c, h2, h3, h4⟩ := h
  refine ⟨h1, a, ln, c, h2, h3, h4, fun k hk hx => ?_⟩
  obtain ⟨_, ⟨xs, hr⟩, _⟩ := h2
  have := hr.1.lt k (mem_ob.1 hk)
  have := hX k hx
  omega
theorem MidA.step {w1 : World} {B1 : List Nat} (st : Step b B w0 w1 B1) (h : MidA N w1 w b s B1 K e X) : MidA N w0 w b s B K e X := by
  obtain ⟨h1, a, ln, c, h2, h3, h4, h5⟩ := h
  refine ⟨stepBad st h1, a, ln, c, h2, h3, fun k hk => ?_, h5⟩
  rcases h4 k hk with h6 | h6
  · exact st.2 k h6
  · exact .inr (Nat.le_trans st.1.size h6)
theorem MidA.other (h : MidA N w0 w b s B K e X) (k : Ext S w w') (hS : ∀ x, S x → X x) (hb : ¬ X b) (h0 : ∀ x, X x → w0.heap.size ≤ x) : MidA N w0 w' b s B K e X := by
  obtain ⟨h1, a, ln, c, h2, h3, h4, h5⟩ := h
  exact ⟨h1.step k fun x hx h => by have := h0 x (hS x h); omega, a, ln, c, h2.other k (fun h => hb (hS b h)) fun x hx h => h5 x hx (hS x h), h3, h4, h5⟩
theorem MidA.below (h : MidA N w0 w b s B K e X) (k : Below w.heap.size w w') : MidA N w0 w' b s B K e X := by
  obtain ⟨h1, a, ln, c, h2, h3, h4, h5⟩ := h
  exact ⟨h1.trans (Ext.of_below k), a, ln, c, h2.below k, h3, h4, h5⟩
theorem MidA.start {i i' g : Nat} {a : Option Addr} {ln c : Nat} {rs : List Raw} {ps : List Pc} {w1 : World} (st : Step b B w0 w1 (blks a rs)) (h : SSt N w1 b s i g a ln c rs ps) (hE : Ext (fun x => x = b) w1 w) (hd : Sd w b s i' (e : Int) g a ln c) (hl : ln ≤ K) (hX : ∀ x, X x → x ∉ blks a rs) : MidA N w0 w b s B K e X :=
  MidA.step st ⟨Ext.mono hE fun _ _ hk => .inl hk, a, ln, c, h.bad hE hd, hl, fun k hk => .inl (List.mem_append_left _ hk), fun k hk hx => hX k hx (List.mem_append_left _ hk)⟩
end
theorem spiece_ok {N : Nat} {w : World} {b : Nat} {s : ByteArray} {i g : Nat} {a : Option Addr} {ln c : Nat} {rs : List Raw} {ps : List Pc} {dp : Int} (d : Nat) (hsub : ∀ d', d = d' + 1 → PatS d') (hsl : SubOk (L s) (subP (L s) d)) (h : SSt N w b s i g a ln c rs ps) (hs : s.size ≤ 120) (hi : i < s.size) (hg : g ≤ 9) (hdp : dp = 6 - (d : Int)) (hd6 : d ≤ 6) (hbd : ln + 4 * (s.size - i) + 4 * d ≤ 900) (h124 : at_ (L s) i ≠ 124) (h41 : at_ (L s) i ≠ 41) :
    Cl Try.prog 128 [.pointer (some ⟨b, 0, none⟩), .int .i64 dp] w (ResS N w b s (blks a rs) (902 + 4 * d) (pieceP (subP (L s) d) (decide (d = 0)) (L s) i g ps)) := by
  apply vc128
  unfold V128
  have hsz := size_L s
  have hlen' := h.pcs.len'
  have hB := h.pcs.lt
  have hbl := h.rd.lt
  generalize hR : pieceP (subP (L s) d) (decide (d = 0)) (L s) i g ps = R
  unfold pieceP at hR
  refine (satom_ok d hsub h hs hi hg hdp hd6 hbd h124 h41).use fun e w5 he => ?_
  cases hq : atomP (subP (L s) d) (decide (d = 0)) (L s) i g ps with
  | bad n =>
    rw [hq] at he hR
    simp only [] at hR
    obtain ⟨⟨x, rfl⟩, hm⟩ := Mid.of he
    refine ⟨x, rfl, newC_in fun w8 s8 k8 e8 => ?_⟩
    have hA : MidA N w w5 b s (blks a rs) (901 + 4 * d) n (fun k => k = w5.heap.size) := hm.fresh fun x hx => by omega
    have hz := hm.1.size
    have hA := hA.below (Ext.to (Below.refl _ _) e8 fun _ h => h.elim)
    refine stW_in k8 (by decide) fun w9 s9 k9 e9 => ?_
    have hA := hA.other e9 (fun _ h => h) (by omega) fun x hx => by omega
    have hm := hA.mid
    refine (mid_is hm 42).ret fun w11 b11 => ⟨false, rfl, fun _ => False, ⟨fun g => (by cases g), fun _ => ?_⟩, fun _ _ h => h.elim⟩
    have hm := hm.below b11
    refine (mid_is hm 43).ret fun w12 b12 => ⟨false, rfl, fun g => (by cases g), fun _ => ?_⟩
    have hm := hm.below b12
    refine (mid_is hm 63).ret fun w13 b13 => ⟨false, rfl, fun g => (by cases g), fun _ => ?_⟩
    have hm := hm.below b13
    refine (mid_is hm 123).ret fun w14 b14 => ⟨false, rfl, fun g => (by cases g), fun _ => ?_⟩
    exact ((hm.below b14).mono (by omega)).res hR.symm x
  | ok y =>
  obtain ⟨⟨j, g', out'⟩, x⟩ := y
  have hlen := atomP_len hsl (by omega) hq
  rw [hq] at he hR
  simp only [] at hR
  obtain ⟨rfl, a5, ln5, c5, rs5, p5, st5⟩ := he
  have hln5 := p5.pcs.len'
  have hB5 := p5.pcs.lt
  have hz5 := st5.1.size
  refine ⟨x, rfl, newC_in fun w8 s8 k8 e8 => ?_⟩
  generalize hb7 : w5.heap.size = b7 at *
  refine stW_in k8 (by decide) fun w9 s9 k9 e9 => ?_
  -- what is kept all along
  let cs (m1 m2 : Int) : List Value := [.int .i64 4, .slice none 0 0, .int .i64 m1, .int .i64 m2, .bool false, .int .i64 0, .slice none 0 0]
  have hbb : b ≠ b7 := by omega
  have p8 : SSt N w8 b s j g' a5 ln5 c5 rs5 out' := p5.other e8 (fun h => h) fun _ _ h => h
  have p9 : SSt N w9 b s j g' a5 ln5 c5 rs5 out' := p8.other e9 (by omega) fun k hk hk' => by have := hB5 k hk; omega
  have k9' : Blk w9.heap b7 111 (cs 0 (-1)) := k9
  have E9 : Step b (blks a rs) w w9 (blks a5 rs5) := ⟨(st5.1.trans (Ext.mono e8 fun _ _ h => h.elim)).step e9 fun x hx h => by omega, st5.2⟩
  have hst : ∀ {w' : World} {m1 m2 : Int} {o : Nat} {v : Value} {m1' m2' : Int} {K : World → Prop}, Blk w'.heap b7 111 (cs m1 m2) → o < 7 → segSet (cs m1 m2) o [v] = cs m1' m2' → (∀ w'', Blk w''.heap b7 111 (cs m1' m2') → Ext (fun k => k = b7) w' w'' → K w'') → stW b7 o [v] K w' := by
    intro w' m1 m2 o v m1' m2' K hk ho hv hK
    refine stW_in hk (by show o + 1 ≤ 7; omega) fun w'' s'' k'' e'' => ?_
    rw [hv] at k''
    exact hK w'' k'' e''
  unfold cntR at hR
  rw [cntP_eq] at hR
  -- the count's end
  let F (r : Pr (Nat × Option (Int × Int × Bool))) : Pr (St × Int) := match r with
    | .bad e => .bad e
    | .ok (k, none) => .ok ((k, g', out'), x)
    | .ok (k, some (a, b, z)) => .ok ((k, g', out' ++ [pRep a b z x]), out'.length)
  have hRF : R = F (if (L s).length ≤ j then .ok (j, none)
      else if at_ (L s) j = 42 then lazP (L s) (j + 1) 0 (-1)
      else if at_ (L s) j = 43 then lazP (L s) (j + 1) 1 (-1)
      else if at_ (L s) j = 63 then lazP (L s) (j + 1) 0 1
      else if at_ (L s) j = 123 then match braP (L s) (j + 1) with
        | .bad e => .bad e
        | .ok (j, a, b) => lazP (L s) j a b
      else .ok (j, none)) := hR.symm
  clear hR
  suffices hmain : ∀ w', ((∃ j1 m1 m2, j1 ≤ s.size ∧ SSt N w' b s j1 g' a5 ln5 c5 rs5 out' ∧ Step b (blks a rs) w w' (blks a5 rs5) ∧ Blk w'.heap b7 111 (cs m1 m2) ∧ R = F (lazP (L s) j1 m1 m2)) ∨ (∃ e m1 m2, MidA N w w' b s (blks a rs) (901 + 4 * d) e (fun k => k = b7) ∧ Blk w'.heap b7 111 (cs m1 m2) ∧ R = .bad e)) →
      Cl Try.prog 112 ([.pointer (some ⟨b, 0, none⟩), .int .u8 63]) w' (retG (fun (r35 : Value) (w34 : World) => ∃ (t33 : Bool), r35 = .bool t33 ∧ stW b7 4 [.bool t33] (fun (w36 : World) => newC [.int .i64 x] 3 (fun (b37 : Nat) (w38 : World) => stW b7 6 [.slice (some ⟨b37, 0, none⟩) 1 1] (fun (w39 : World) => ∃ (n40 : Int), cellH w39.heap b7 0 = some (.int .i64 n40) ∧ ∃ (a41 : Option Addr), ∃ (l41 : Nat), ∃ (c41 : Nat), cellH w39.heap b7 1 = some (.slice a41 l41 c41) ∧ ∃ (n42 : Int), cellH w39.heap b7 2 = some (.int .i64 n42) ∧ ∃ (n43 : Int), cellH w39.heap b7 3 = some (.int .i64 n43) ∧ ∃ (t44 : Bool), cellH w39.heap b7 4 = some (.bool t44) ∧ ∃ (n45 : Int), cellH w39.heap b7 5 = some (.int .i64 n45) ∧ ∃ (a46 : Option Addr), ∃ (l46 : Nat), ∃ (c46 : Nat), cellH w39.heap b7 6 = some (.slice a46 l46 c46) ∧ Cl Try.prog 113 ([.pointer (some ⟨b, 0, none⟩), .agg #[.int .i64 n40, .slice a41 l41 c41, .int .i64 n42, .int .i64 n43, .bool t44, .int .i64 n45, .slice a46 l46 c46]]) w39 (retG (fun (r49 : Value) (w48 : World) => ∃ (n47 : Int), r49 = .int .i64 n47 ∧ (ResS N w b s (blks a rs) (902 + 4 * d) R) (.returned (.int .i64 n47)) w48) (fun c1 w1' => (ResS N w b s (blks a rs) (902 + 4 * d) R) (.panicked c1) w1'))) w38) w36) w34) (fun c1 w1' => (ResS N w b s (blks a rs) (902 + 4 * d) R) (.panicked c1) w1')) by
    have hJ : ∀ {w' : World}, _ → _ := fun {w'} => hmain w'
    have hno : ∀ {w' : World}, SSt N w' b s j g' a5 ln5 c5 rs5 out' → Step b (blks a rs) w w' (blks a5 rs5) → ¬ (j < s.size ∧ at_ (L s) j = 42) → ¬ (j < s.size ∧ at_ (L s) j = 43) → ¬ (j < s.size ∧ at_ (L s) j = 63) → ¬ (j < s.size ∧ at_ (L s) j = 123) → ResS N w b s (blks a rs) (902 + 4 * d) R (.returned (.int .i64 x)) w' := by
      intro w' p' st' n1 n2 n3 n4
      have : R = .ok ((j, g', out'), x) := by
        rw [hRF]
        by_cases hl : (L s).length ≤ j
        · rw [if_pos hl]
        · rw [if_neg hl, if_neg (by omega), if_neg (by omega), if_neg (by omega), if_neg (by omega)]
      subst this
      exact ⟨rfl, a5, ln5, c5, rs5, p', st'⟩
    by_cases h42 : j < s.size ∧ at_ (L s) j = 42
    · rw [if_neg (by omega), if_pos h42.2] at hRF
      refine (is_yes p9.rd h42.1 (by omega) h42.2 rfl).use fun e w11 he => ?_
      obtain ⟨rfl, h11, e11⟩ := he
      exact ⟨true, rfl, _, ⟨fun _ => .inl ⟨j + 1, 0, -1, by omega, p9.upd e11 h11, Step.trans E9 (Step.of_ext e11), k9'.keep e11 hbb.symm, hRF⟩, fun g => (by cases g)⟩, fun _ w' hw => hmain w' hw⟩
    refine (is_no p9.rd (ch := 42) h42 rfl).ret fun w11 b11 => ⟨false, rfl, _, ⟨fun g => (by cases g), fun _ => ?_⟩, fun _ w' hw => hmain w' hw⟩
    have p11 := p9.below b11
    have E11 := Step.trans E9 (Step.of_below b11)
    have k11 := k9'.below b11
    by_cases h43 : j < s.size ∧ at_ (L s) j = 43
    · rw [if_neg (by omega), if_neg (by omega), if_pos h43.2] at hRF
      refine (is_yes p11.rd h43.1 (by omega) h43.2 rfl).use fun e w12 he => ?_
      obtain ⟨rfl, h12, e12⟩ := he
      refine ⟨true, rfl, fun _ => hst (k11.keep e12 hbb.symm) (by decide) rfl fun w13 k13 e13 => ?_, fun g => (by cases g)⟩
      exact .inl ⟨j + 1, 1, -1, by omega, (p11.upd e12 h12).other e13 hbb fun k hk hk' => (by have := hB5 k hk; omega), ⟨(Step.trans E11 (Step.of_ext e12)).1.step e13 fun x hx h => by omega, E11.2⟩, k13, hRF⟩
    refine (is_no p11.rd (ch := 43) h43 rfl).ret fun w12 b12 => ⟨false, rfl, fun g => (by cases g), fun _ => ?_⟩
    have p12 := p11.below b12
    have E12 := Step.trans E11 (Step.of_below b12)
    have k12 := k11.below b12
    by_cases h63 : j < s.size ∧ at_ (L s) j = 63
    · rw [if_neg (by omega), if_neg (by omega), if_neg (by omega), if_pos h63.2] at hRF
      refine (is_yes p12.rd h63.1 (by omega) h63.2 rfl).use fun e w13 he => ?_
      obtain ⟨rfl, h13, e13⟩ := he
      refine ⟨true, rfl, fun _ => hst (k12.keep e13 hbb.symm) (by decide) rfl fun w14 k14 e14 => ?_, fun g => (by cases g)⟩
      exact .inl ⟨j + 1, 0, 1, by omega, (p12.upd e13 h13).other e14 hbb fun k hk hk' => (by have := hB5 k hk; omega), ⟨(Step.trans E12 (Step.of_ext e13)).1.step e14 fun x hx h => by omega, E12.2⟩, k14, hRF⟩
    refine (is_no p12.rd (ch := 63) h63 rfl).ret fun w13 b13 => ⟨false, rfl, fun g => (by cases g), fun _ => ?_⟩
    have p13 := p12.below b13
    have E13 := Step.trans E12 (Step.of_below b13)
    have k13 := k12.below b13
    by_cases h123 : j < s.size ∧ at_ (L s) j = 123
    · rw [if_neg (by omega), if_neg (by omega), if_neg (by omega), if_neg (by omega), if_pos h123.2] at hRF
      refine (is_yes p13.rd h123.1 (by omega) h123.2 rfl).use fun e w14 he => ?_
      obtain ⟨rfl, h14, e14⟩ := he
      have p14 := p13.upd e14 h14
      have E14 := Step.trans E13 (Step.of_ext e14)
      have k14 := k13.keep e14 hbb.symm
      refine ⟨true, rfl, fun _ => ?_, fun g => (by cases g)⟩
      refine (scounts_ok p14.rd hs (by omega)).use fun e w15 he => ?_
      obtain ⟨e15, he⟩ := he
      have k15 := k14.keep e15 hbb.symm
      cases hbr : braP (L s) (j + 1) with
      | bad n =>
        rw [hbr] at he hRF
        obtain ⟨⟨m1, m2, rfl⟩, i', h15⟩ := he
        refine ⟨m1, m2, rfl, hst k15 (by decide) rfl fun w16 k16 e16 => hst k16 (by decide) rfl fun w17 k17 e17 => ?_⟩
        have hA : MidA N w w15 b s (blks a rs) (901 + 4 * d) n (fun k => k = b7) := MidA.start E14 p14 e15 h15 (by omega) fun x hx hm => by have := hB5 x hm; omega
        exact .inr ⟨n, m1, m2, hA.other (e16.trans e17) (fun _ h => h) hbb fun x hx => by omega, k17, hRF⟩
      | ok y =>
        obtain ⟨j1, m1, m2⟩ := y
        have hj1 := braP_le hbr
        rw [hbr] at he hRF
        obtain ⟨rfl, h15⟩ := he
        refine ⟨m1, m2, rfl, hst k15 (by decide) rfl fun w16 k16 e16 => hst k16 (by decide) rfl fun w17 k17 e17 => ?_⟩
        exact .inl ⟨j1, m1, m2, by omega, (p14.upd e15 h15).other (e16.trans e17) hbb fun k hk hk' => (by have := hB5 k hk; omega), ⟨(Step.trans E14 (Step.of_ext e15)).1.step (e16.trans e17) fun x hx h => by omega, E14.2⟩, k17, hRF⟩
    refine (is_no p13.rd (ch := 123) h123 rfl).ret fun w14 b14 => ⟨false, rfl, fun g => (by cases g), fun _ => ?_⟩
    exact hno (p13.below b14) (Step.trans E13 (Step.of_below b14)) h42 h43 h63 h123
  clear hRF E9 k9' p9 p8 k9 e9 s9 w9
  rintro w10 (⟨j1, m1, m2, hj1, p10, E10, k10, hR⟩ | ⟨e, m1, m2, hA, k10, hR⟩)
  · -- lazy or not
    have hfin : ∀ {w' : World} {t : Bool} {j2 : Nat}, SSt N w' b s j2 g' a5 ln5 c5 rs5 out' → Step b (blks a rs) w w' (blks a5 rs5) → Blk w'.heap b7 111 (cs m1 m2) → R = .ok ((j2, g', out' ++ [pRep m1 m2 t x]), out'.length) → stW b7 4 [.bool t] (fun (w36 : World) => newC [.int .i64 x] 3 (fun (b37 : Nat) (w38 : World) => stW b7 6 [.slice (some ⟨b37, 0, none⟩) 1 1] (fun (w39 : World) => ∃ (n40 : Int), cellH w39.heap b7 0 = some (.int .i64 n40) ∧ ∃ (a41 : Option Addr), ∃ (l41 : Nat), ∃ (c41 : Nat), cellH w39.heap b7 1 = some (.slice a41 l41 c41) ∧ ∃ (n42 : Int), cellH w39.heap b7 2 = some (.int .i64 n42) ∧ ∃ (n43 : Int), cellH w39.heap b7 3 = some (.int .i64 n43) ∧ ∃ (t44 : Bool), cellH w39.heap b7 4 = some (.bool t44) ∧ ∃ (n45 : Int), cellH w39.heap b7 5 = some (.int .i64 n45) ∧ ∃ (a46 : Option Addr), ∃ (l46 : Nat), ∃ (c46 : Nat), cellH w39.heap b7 6 = some (.slice a46 l46 c46) ∧ Cl Try.prog 113 ([.pointer (some ⟨b, 0, none⟩), .agg #[.int .i64 n40, .slice a41 l41 c41, .int .i64 n42, .int .i64 n43, .bool t44, .int .i64 n45, .slice a46 l46 c46]]) w39 (retG (fun (r49 : Value) (w48 : World) => ∃ (n47 : Int), r49 = .int .i64 n47 ∧ (ResS N w b s (blks a rs) (902 + 4 * d) R) (.returned (.int .i64 n47)) w48) (fun c1 w1' => (ResS N w b s (blks a rs) (902 + 4 * d) R) (.panicked c1) w1'))) w38) w36) w' := by
      intro w' t j2 p' E' k' hR'
      refine stW_in k' (by show 4 + 1 ≤ 7; decide) fun w11 s11 k11 e11 => newC_in fun w12 s12 k12 e12 => ?_
      have hlt := k'.lt
      have k12' := k11.keep e12 fun h => h
      refine stW_in k12' (by show 6 + 1 ≤ 7; decide) fun w13 s13 k13 e13 => ?_
      have e11' : Ext (fun k => k = b7) w' w13 := ((e11.trans (Ext.mono e12 fun _ _ h => h.elim)).trans e13)
      have p13 : SSt N w13 b s j2 g' a5 ln5 c5 rs5 out' := p'.other e11' hbb fun k hk hk' => (by have := hB5 k hk; omega)
      have E13 : Step b (blks a rs) w w13 (blks a5 rs5) := ⟨E'.1.step e11' fun x hx h => by omega, E'.2⟩
      have kk : Kids w w13 (blks a5 rs5) (some ⟨w11.heap.size, 0, none⟩) 1 1 [x] :=
        ⟨⟨rfl, Nat.le_refl _, .inr ⟨_, _, rfl, k12.keep e13 (by omega), rfl, rfl⟩⟩, rfl, fun q hq => by
          simp only [blkOf, Option.some.injEq] at hq
          subst hq
          have := E'.1.size
          exact ⟨by omega, fun hm => by have := hB5 _ hm; omega⟩⟩
      refine ⟨_, k13.cell 0, _, _, _, k13.cell 1, _, k13.cell 2, _, k13.cell 3, _, k13.cell 4, _, k13.cell 5, _, _, _, k13.cell 6, ?_⟩
      exact sputKids p13 E13 kk h.hN (by omega) rfl hR'
    by_cases h63 : j1 < s.size ∧ at_ (L s) j1 = 63
    · refine (is_yes p10.rd h63.1 (by omega) h63.2 rfl).use fun e w11 he => ?_
      obtain ⟨rfl, h11, e11⟩ := he
      refine ⟨true, rfl, hfin (p10.upd e11 h11) (Step.trans E10 (Step.of_ext e11)) (k10.keep e11 hbb.symm) ?_⟩
      rw [hR]; unfold lazP; rw [if_pos ⟨by omega, h63.2⟩]
    · refine (is_no p10.rd (ch := 63) h63 rfl).ret fun w11 b11 => ⟨false, rfl, hfin (p10.below b11) (Step.trans E10 (Step.of_below b11)) (k10.below b11) ?_⟩
      rw [hR]; unfold lazP; rw [if_neg (by omega)]
  · refine (mid_is hA.mid 63).ret fun w11 b11 => ⟨false, rfl, ?_⟩
    have hA := hA.below b11
    have k11 := k10.below b11
    refine stW_in k11 (by show 4 + 1 ≤ 7; decide) fun w12 s12 k12 e12 => newC_in fun w13 s13 k13 e13 => ?_
    have hA := (hA.other e12 (fun _ h => h) hbb fun x hx => by omega).below (Ext.to (Below.refl _ _) e13 fun _ h => h.elim)
    have k13' := k12.keep e13 fun h => h
    refine stW_in k13' (by show 6 + 1 ≤ 7; decide) fun w14 s14 k14 e14 => ?_
    have hA := hA.other e14 (fun _ h => h) hbb fun x hx => by omega
    refine ⟨_, k14.cell 0, _, _, _, k14.cell 1, _, k14.cell 2, _, k14.cell 3, _, k14.cell 4, _, k14.cell 5, _, _, _, k14.cell 6, ?_⟩
    exact sput_bad hA.mid (by omega) (by omega) hR
end Go.Proofs.Ytngbiaeliphdjaa.V
/- The reference's reader: sequences and alternatives. No statement of the seat is proved here. -/
namespace Go.Proofs.Ytngbiaeliphdjaa.V
open Go.Vc Go.Proofs Go.RowKit
set_option linter.unusedVariables false
set_option linter.unusedSimpArgs false
/-- A piece on the way: its kids may grow. -/
def pcC (kind : Int) (ka : Option Addr) (kl kc : Nat) : List Value := [.int .i64 kind, .slice none 0 0, .int .i64 0, .int .i64 0, .bool false, .int .i64 0, .slice ka kl kc]
theorem kid_ne {w0 w : World} {B : List Nat} {ka : Option Addr} {kl kc : Nat} {kids : List Int} {b4 : Nat} {cs : List Value} (h : Kids w0 w B ka kl kc kids) (k : Blk w.heap b4 111 cs) : ∀ x, blkOf ka = some x → x ≠ b4 := by
  intro x hx hxb
  subst hxb
  obtain ⟨_, _, h3⟩ := h.1
  rcases h3 with ⟨rfl, _⟩ | ⟨b', cs', rfl, hb, _⟩
  · simp [blkOf] at hx
  · simp only [blkOf, Option.some.injEq] at hx
    subst hx
    unfold Blk at hb k
    rw [hb] at k
    simp at k
/-- One kid more, something being wrong. -/
theorem kid_bad {N : Nat} {w w1 w2 : World} {b : Nat} {s : ByteArray} {B B1 : List Nat} {K e b4 : Nat} {ka : Option Addr} {kl kc : Nat} {kids : List Int} {kind : Int} (st : Step b B w w1 B1) (hK : Kids w w1 B1 ka kl kc kids) (k4 : Blk w1.heap b4 111 (pcC kind ka kl kc)) (hb : b < w.heap.size) (hb4 : w.heap.size ≤ b4) (hn4 : b4 ∉ B1) (hl : kl ≤ 1000) (hm : Mid N w1 w2 b s B1 K e) (x : Int) {Q : World → Prop}
    (hQ : ∀ w', Mid N w w' b s B K e → (∃ ka kl kc, Blk w'.heap b4 111 (pcC kind ka kl kc)) → Q w') :
    ∃ (a23 : Option Addr), ∃ (l23 : Nat), ∃ (c23 : Nat), cellH w2.heap b4 6 = some (.slice a23 l23 c23) ∧ newC [.int .i64 x] 3 (fun (b24 : Nat) (w25 : World) => ∃ (a26 : Option Addr), ∃ (l26 : Nat), ∃ (c26 : Nat), ∃ (w27 : World), (Builtin.append_ #[109, 109] 109 #[.slice a23 l23 c23, .slice (some ⟨b24, 0, none⟩) 1 1]).run Try.prog w25 = .ok (.slice a26 l26 c26) w27 ∧ stW b4 6 [.slice a26 l26 c26] (fun (w28 : World) => Q w28) w27) w2 := by
  have hne := kid_ne hK k4
  have hA : MidA N w1 w2 b s B1 K e (fun k => k = b4 ∨ blkOf ka = some k) := hm.avoid fun k hk => by
    rcases hk with rfl | hk
    · exact ⟨hn4, k4.lt⟩
    · exact ⟨(hK.2.2 k hk).2, hK.1.lt k hk⟩
  have hE := hm.1
  have k4' := k4.keep hE (fun h => by
    rcases h with h | h
    · omega
    · exact hn4 h)
  have hK' : Kids w w2 [] ka kl kc kids := ⟨hK.1.keep hE fun k hk h => by
      rcases h with h | h
      · have := (hK.2.2 k hk).1; omega
      · exact (hK.2.2 k hk).2 h, hK.2.1, fun k hk => ⟨(hK.2.2 k hk).1, by simp⟩⟩
  obtain ⟨ka2, kc2, w6, r1, r2, r3⟩ := hK'.app (by simp) (Nat.le_trans st.1.size hE.size) hl x
  refine ⟨ka, kl, kc, k4'.cell 6, ka2, kl + 1, kc2, w6, r1, ?_⟩
  have k6 := k4'.keep r3 (fun h => hne b4 h rfl)
  have hA := MidA.step st hA
  have hX : ∀ x, (x = b4 ∨ blkOf ka = some x) → w.heap.size ≤ x := fun x hx => by
    rcases hx with rfl | hx
    · exact hb4
    · exact (hK.2.2 x hx).1
  have hbX : ¬ (b = b4 ∨ blkOf ka = some b) := fun h => by have := hX b h; omega
  have hA := hA.other r3 (fun x hx => .inr hx) hbX hX
  refine stW_in k6 (by show 6 + 1 ≤ 7; decide) fun w7 s7 k7 e7 => hQ w7 (hA.other e7 (fun x hx => .inl hx) hbX hX).mid ⟨_, _, _, k7⟩
theorem sseq_ok {N : Nat} {w : World} {b : Nat} {s : ByteArray} {i g : Nat} {a : Option Addr} {ln c : Nat} {rs : List Raw} {ps : List Pc} {dp : Int} (d : Nat) (hsub : ∀ d', d = d' + 1 → PatS d') (hsl : SubOk (L s) (subP (L s) d)) (h : SSt N w b s i g a ln c rs ps) (hs : s.size ≤ 120) (hi : i ≤ s.size) (hg : g ≤ 9) (hdp : dp = 6 - (d : Int)) (hd6 : d ≤ 6) (hbd : ln + 4 * (s.size - i) + 4 * d ≤ 950) (hbd' : i < s.size → ln + 4 * (s.size - i) + 4 * d ≤ 900) :
    Cl Try.prog 111 [.pointer (some ⟨b, 0, none⟩), .int .i64 dp] w (ResS N w b s (blks a rs) (903 + 4 * d) (seqL (subP (L s) d) (decide (d = 0)) (L s) i g ps [])) := by
  apply vc111
  unfold V111
  have hsz := size_L s
  have hbl := h.rd.lt
  have hB := h.pcs.lt
  have hlen' := h.pcs.len'
  generalize hR : seqL (subP (L s) d) (decide (d = 0)) (L s) i g ps [] = R
  refine newC_in fun w5 s5 k5 e5 => ?_
  generalize hb4 : w.heap.size = b4 at *
  refine stW_in k5 (by decide) fun w6 s6 k6 e6 => ?_
  have k6' : Blk w6.heap b4 111 (pcC 2 none 0 0) := k6
  have E6 : Below w.heap.size w w6 := Ext.to (Ext.to (Below.refl _ _) e5 fun _ h => h.elim) e6 fun _ h => by omega
  refine ⟨fun k w' => (∃ (j g' : Nat) (a' : Option Addr) (ln' c' : Nat) (rs' : List Raw) (out : List Pc) (kids : List Int) (ka : Option Addr) (kl kc : Nat), SSt N w' b s j g' a' ln' c' rs' out ∧ seqL (subP (L s) d) (decide (d = 0)) (L s) j g' out kids = R ∧ Kids w w' (blks a' rs') ka kl kc kids ∧ Blk w'.heap b4 111 (pcC 2 ka kl kc) ∧ b4 ∉ blks a' rs' ∧ Step b (blks a rs) w w' (blks a' rs') ∧ k = s.size - j + 1 ∧ i ≤ j ∧ j ≤ s.size ∧ g' ≤ 9 ∧ ln' + 4 * (s.size - j) + 4 * d ≤ 950 ∧ (j < s.size → ln' + 4 * (s.size - j) + 4 * d ≤ 900) ∧ kids.length ≤ j) ∨
      (∃ e, k = 0 ∧ R = .bad e ∧ Mid N w w' b s (blks a rs) (902 + 4 * d) e ∧ ∃ ka kl kc, Blk w'.heap b4 111 (pcC 2 ka kl kc)),
    ⟨_, .inl ⟨i, g, a, ln, c, rs, ps, [], none, 0, 0, h.below E6, hR, ⟨Vec.nil _ _ _, rfl, by simp [blkOf]⟩, k6', fun hm => (by have := hB b4 hm; omega), Step.of_below E6, rfl, Nat.le_refl _, hi, hg, hbd, hbd', by simp⟩⟩, ?_⟩
  -- the end
  have hout : ∀ {w' : World}, ((∃ (j g' : Nat) (a' : Option Addr) (ln' c' : Nat) (rs' : List Raw) (out : List Pc) (kids : List Int) (ka : Option Addr) (kl kc : Nat), SSt N w' b s j g' a' ln' c' rs' out ∧ R = .ok ((j, g', out ++ [pSeq kids]), (out.length : Int)) ∧ Kids w w' (blks a' rs') ka kl kc kids ∧ Blk w'.heap b4 111 (pcC 2 ka kl kc) ∧ Step b (blks a rs) w w' (blks a' rs') ∧ ln' ≤ 1000) ∨
      (∃ e, R = .bad e ∧ Mid N w w' b s (blks a rs) (902 + 4 * d) e ∧ ∃ ka kl kc, Blk w'.heap b4 111 (pcC 2 ka kl kc))) → ∃ (n30 : Int), cellH w'.heap b4 0 = some (.int .i64 n30) ∧ ∃ (a31 : Option Addr), ∃ (l31 : Nat), ∃ (c31 : Nat), cellH w'.heap b4 1 = some (.slice a31 l31 c31) ∧ ∃ (n32 : Int), cellH w'.heap b4 2 = some (.int .i64 n32) ∧ ∃ (n33 : Int), cellH w'.heap b4 3 = some (.int .i64 n33) ∧ ∃ (t34 : Bool), cellH w'.heap b4 4 = some (.bool t34) ∧ ∃ (n35 : Int), cellH w'.heap b4 5 = some (.int .i64 n35) ∧ ∃ (a36 : Option Addr), ∃ (l36 : Nat), ∃ (c36 : Nat), cellH w'.heap b4 6 = some (.slice a36 l36 c36) ∧ Cl Try.prog 113 ([.pointer (some ⟨b, 0, none⟩), .agg #[.int .i64 n30, .slice a31 l31 c31, .int .i64 n32, .int .i64 n33, .bool t34, .int .i64 n35, .slice a36 l36 c36]]) w' (retG (fun (r39 : Value) (w38 : World) => ∃ (n37 : Int), r39 = .int .i64 n37 ∧ ResS N w b s (blks a rs) (903 + 4 * d) R (.returned (.int .i64 n37)) w38) (fun c1 w1' => ResS N w b s (blks a rs) (903 + 4 * d) R (.panicked c1) w1')) := by
    intro w' hst
    rcases hst with ⟨j, g', a', ln', c', rs', out, kids, ka, kl, kc, p', hr, hK, k', st', hl'⟩ | ⟨e, hr, hm, ka, kl, kc, k'⟩
    · refine ⟨_, k'.cell 0, _, _, _, k'.cell 1, _, k'.cell 2, _, k'.cell 3, _, k'.cell 4, _, k'.cell 5, _, _, _, k'.cell 6, ?_⟩
      exact sputKids p' st' hK h.hN hl' rfl hr
    · refine ⟨_, k'.cell 0, _, _, _, k'.cell 1, _, k'.cell 2, _, k'.cell 3, _, k'.cell 4, _, k'.cell 5, _, _, _, k'.cell 6, ?_⟩
      exact sput_bad hm (by omega) (by omega) hr
  rintro k dd w10 (⟨j, g', a', ln', c', rs', out, kids, ka, kl, kc, p10, hq, hK, k10, hn4, st10, rfl, hij, hj, hg', hb', hb'', hkl⟩ | ⟨e, rfl, hr, hm, ka, kl, kc, k10⟩)
  case inr =>
    refine drw_in fun w12 q12 e12 => ?_
    have b12 : Below w10.heap.size w10 w12 := Ext.to (Below.refl _ _) e12 fun _ h => h.elim
    refine (mid_more (hm.below b12)).ret fun w14 b14 => ⟨false, rfl, fun g => (by cases g), fun _ => ?_⟩
    exact hout (.inr ⟨e, hr, (hm.below b12).below b14, ka, kl, kc, (k10.below b12).below b14⟩)
  refine drw_in fun w12 q12 e12 => ?_
  have b12 : Below w10.heap.size w10 w12 := Ext.to (Below.refl _ _) e12 fun _ h => h.elim
  have hln10 := p10.pcs.len'
  have hstop : ∀ {w' : World}, Below w10.heap.size w10 w' → ¬ (j < s.size ∧ at_ (L s) j ≠ 124 ∧ at_ (L s) j ≠ 41) → ∃ (n30 : Int), cellH w'.heap b4 0 = some (.int .i64 n30) ∧ ∃ (a31 : Option Addr), ∃ (l31 : Nat), ∃ (c31 : Nat), cellH w'.heap b4 1 = some (.slice a31 l31 c31) ∧ ∃ (n32 : Int), cellH w'.heap b4 2 = some (.int .i64 n32) ∧ ∃ (n33 : Int), cellH w'.heap b4 3 = some (.int .i64 n33) ∧ ∃ (t34 : Bool), cellH w'.heap b4 4 = some (.bool t34) ∧ ∃ (n35 : Int), cellH w'.heap b4 5 = some (.int .i64 n35) ∧ ∃ (a36 : Option Addr), ∃ (l36 : Nat), ∃ (c36 : Nat), cellH w'.heap b4 6 = some (.slice a36 l36 c36) ∧ Cl Try.prog 113 ([.pointer (some ⟨b, 0, none⟩), .agg #[.int .i64 n30, .slice a31 l31 c31, .int .i64 n32, .int .i64 n33, .bool t34, .int .i64 n35, .slice a36 l36 c36]]) w' (retG (fun (r39 : Value) (w38 : World) => ∃ (n37 : Int), r39 = .int .i64 n37 ∧ ResS N w b s (blks a rs) (903 + 4 * d) R (.returned (.int .i64 n37)) w38) (fun c1 w1' => ResS N w b s (blks a rs) (903 + 4 * d) R (.panicked c1) w1')) := by
    intro w' hb hn
    refine hout (.inl ⟨j, g', a', ln', c', rs', out, kids, ka, kl, kc, p10.below hb, ?_, hK.below hb, k10.below hb, Step.trans st10 (Step.of_below hb), by omega⟩)
    rw [← hq, seqL_out (by rw [← hsz]; exact hn)]
  refine (more_ok (p10.below b12).rd).ret fun w14 b14 => ⟨_, rfl, fun g1 => ?_, fun g1 => ?_⟩
  rotate_left
  · have := of_decide_eq_false g1
    exact hstop (b12.vstep b14) (by omega)
  have g1' := of_decide_eq_true g1
  have b14' := b12.vstep b14
  have p14 := p10.below b14'
  have K14 := hK.below b14'
  have k14 := k10.below b14'
  have st14 : Step b (blks a rs) w w14 (blks a' rs') := Step.trans st10 (Step.of_below b14')
  refine ⟨s, p14.rd.cell 0, j, p14.rd.cell 1, ⟨by omega, by omega⟩, ?_⟩
  rw [byteI s (j := j) rfl]
  refine ⟨fun g2 => ⟨s, p14.rd.cell 0, j, p14.rd.cell 1, ⟨by omega, by omega⟩, ?_⟩, fun g2 => ?_⟩
  rotate_left
  · have g2' : at_ (L s) j = 124 := by have : ((at_ (L s) j : Nat) : Int) = 124 := by simpa using g2
                                       omega
    exact hstop b14' (by omega)
  have g2' : at_ (L s) j ≠ 124 := by simp only [bne_iff_ne, ne_eq] at g2; omega
  rw [byteI s (j := j) rfl]
  refine ⟨fun g3 => ?_, fun g3 => ?_⟩
  rotate_left
  · have g3' : at_ (L s) j = 41 := by have : ((at_ (L s) j : Nat) : Int) = 41 := by simpa using g3
                                      omega
    exact hstop b14' (by omega)
  have g3' : at_ (L s) j ≠ 41 := by simp only [bne_iff_ne, ne_eq] at g3; omega
  have hcnd : j < (L s).length ∧ at_ (L s) j ≠ 124 ∧ at_ (L s) j ≠ 41 := ⟨by omega, g2', g3'⟩
  refine (spiece_ok d hsub hsl p14 hs g1' hg' hdp hd6 (hb'' g1') g2' g3').use fun e w21 he => ?_
  cases hp : pieceP (subP (L s) d) (decide (d = 0)) (L s) j g' out with
  | bad n =>
    rw [hp] at he
    obtain ⟨⟨x, rfl⟩, hm⟩ := Mid.of he
    refine ⟨x, rfl, kid_bad st14 K14 k14 (by omega) (by omega) hn4 (by rw [K14.2.1]; omega) hm x fun w' hm' k' => ⟨0, by omega, .inr ⟨n, rfl, ?_, hm', k'⟩⟩⟩
    rw [← hq, seqL_bad hcnd hp]
  | ok y =>
  obtain ⟨⟨j2, g2', out2⟩, x2⟩ := y
  rw [hp] at he
  obtain ⟨rfl, a5, ln5, c5, rs5, p21, s21⟩ := he
  have hpl' := pieceP_len hsl (by omega) hp
  have hstep := seqL_go (kids := kids) hcnd hp hpl'.1
  have st21 := Step.trans st14 s21
  have K21 := K14.step (by omega) s21
  have hl5 := p21.pcs.len'
  have hlt14 := k14.lt
  have hn4' : b4 ∉ blks a5 rs5 := fun hm => by
    rcases s21.2 b4 hm with h1 | h1
    · exact hn4 h1
    · omega
  have k21 := k14.keep s21.1 (fun h => by
    rcases h with h | h
    · omega
    · exact hn4 h)
  refine ⟨x2, rfl, ka, kl, kc, k21.cell 6, ?_⟩
  obtain ⟨ka2, kc2, w27, r1, r2, r3⟩ := K21.app p21.pcs.lt st21.1.size (by rw [K21.2.1]; omega) x2
  refine ⟨ka2, kl + 1, kc2, w27, r1, ?_⟩
  have hkb : ∀ k, blkOf ka = some k → k ∉ blks a5 rs5 ∧ k ≠ b ∧ w.heap.size ≤ k := fun k hk => ⟨(K21.2.2 k hk).2, by have := (K21.2.2 k hk).1; omega, (K21.2.2 k hk).1⟩
  have hne := kid_ne K21 k21
  have p27 : SSt N w27 b s j2 g2' a5 ln5 c5 rs5 out2 := p21.other r3 (fun hk => (hkb b hk).2.1 rfl) fun k hk hk' => (hkb k hk').1 hk
  have k27 := k21.keep r3 (fun h => hne b4 h rfl)
  have st27 : Step b (blks a rs) w w27 (blks a5 rs5) := ⟨st21.1.step r3 fun k hk hk' => by have := (hkb k hk').2.2; omega, fun k hk => st21.2 k hk⟩
  have hne2 := kid_ne r2 k27
  refine stW_in k27 (by show 6 + 1 ≤ 7; decide) fun w28 s28 k28 e28 => ?_
  refine ⟨s.size - j2 + 1, by omega, .inl ⟨j2, g2', a5, ln5, c5, rs5, out2, kids ++ [x2], ka2, kl + 1, kc2, p27.other e28 (by omega) (fun k hk hk' => hn4' (hk' ▸ hk)), by rw [← hstep, hq], ⟨r2.1.keep e28 fun k hk hk' => hne2 k hk hk', r2.2⟩, k28, hn4', ⟨st27.1.step e28 fun k hk hk' => by omega, st27.2⟩, rfl, by omega, by omega, hpl'.2.2.2 hg', by omega, by omega, by simp; omega⟩⟩
theorem salt_ok : ∀ d, PatS d := by
  intro d
  induction d using Nat.strongRecOn with
  | _ d ih =>
  intro N w b s i g a ln c rs ps dp h hs hi hg hdp hd6 hbd
  have hsub : ∀ d', d = d' + 1 → PatS d' := fun d' hd => ih d' (by omega)
  have hsl := subP_ok (L s) d
  apply vc77
  unfold V77
  have hsz := size_L s
  have hbl := h.rd.lt
  have hB := h.pcs.lt
  have hl0 := h.pcs.len'
  rw [patP_eq]
  refine (sseq_ok d hsub hsl h hs hi hg hdp hd6 (by omega) (fun _ => by omega)).use fun e w1 he => ?_
  cases hq : seqL (subP (L s) d) (decide (d = 0)) (L s) i g ps [] with
  | bad n =>
    rw [hq] at he
    obtain ⟨⟨x, rfl⟩, hm⟩ := Mid.of he
    refine ⟨x, rfl, drw_in fun w2 q2 e2 => ?_⟩
    have hm := hm.below (Ext.to (Below.refl _ _) e2 fun _ h => h.elim)
    refine (mid_more hm).ret fun w3 b3 => ⟨false, rfl, fun _ => ((hm.below b3).mono (by omega)).res rfl x, fun g => by simp at g⟩
  | ok y =>
  obtain ⟨⟨j, g', out'⟩, x⟩ := y
  have hlen := seqL_len hsl _ rfl (by omega) hq
  rw [hq] at he
  obtain ⟨rfl, a1, ln1, c1, rs1, p1, st1⟩ := he
  have hl1 := p1.pcs.len'
  refine ⟨x, rfl, drw_in fun w2 q2 e2 => ?_⟩
  simp only []
  generalize hR : altL (subP (L s) d) (decide (d = 0)) (L s) j g' out' [x] = R
  have b2 : Below w1.heap.size w1 w2 := Ext.to (Below.refl _ _) e2 fun _ h => h.elim
  have hone : ∀ {w' : World}, Below w1.heap.size w1 w' → ¬ (j < s.size ∧ at_ (L s) j = 124) → ResS N w b s (blks a rs) (904 + 4 * d) R (.returned (.int .i64 x)) w' := by
    intro w' hb hn
    have : R = .ok ((j, g', out'), x) := by rw [← hR, altL_out (by rw [← hsz]; exact hn)]; rfl
    subst this
    exact ⟨rfl, a1, ln1, c1, rs1, p1.below hb, Step.trans st1 (Step.of_below hb)⟩
  refine (more_ok (p1.below b2).rd).ret fun w3 b3 => ⟨_, rfl, fun g1 => ?_, fun g1 => ?_⟩
  · have : ¬ j < s.size := by simpa using g1
    exact hone (b2.vstep b3) (by omega)
  have g1' : j < s.size := by simpa using g1
  have b3' := b2.vstep b3
  have p3 := p1.below b3'
  refine ⟨s, p3.rd.cell 0, j, p3.rd.cell 1, ⟨by omega, by omega⟩, ?_⟩
  rw [byteI s (j := j) rfl]
  refine ⟨fun g2 => ?_, fun g2 => ?_⟩
  · have g2' : at_ (L s) j ≠ 124 := by simp only [bne_iff_ne, ne_eq] at g2; omega
    exact hone b3' (by omega)
  have g2' : at_ (L s) j = 124 := by have : ((at_ (L s) j : Nat) : Int) = 124 := by simpa using g2
                                     omega
  clear hone
  have st3 := Step.trans st1 (Step.of_below b3')
  have z3 := st3.1.size
  refine newC_in fun w4 s4 k4 e4 => ?_
  generalize hkb : w3.heap.size = kb at *
  refine newC_in fun w5 s5 k5 e5 => ?_
  generalize hb4 : w4.heap.size = b4 at *
  refine stW_in k5 (by show 0 + 7 ≤ 7; decide) fun w6 s6 k6 e6 => ?_
  have B6 : Below w3.heap.size w3 w6 := Ext.to (Ext.to (Ext.to (Below.refl _ _) e4 fun _ h => h.elim) e5 fun _ h => h.elim) e6 fun _ h => by omega
  have k6' : Blk w6.heap b4 111 (pcC 3 (some ⟨kb, 0, none⟩) 1 1) := k6
  have hK6 : Kids w w6 (blks a1 rs1) (some ⟨kb, 0, none⟩) 1 1 [x] :=
    ⟨⟨rfl, Nat.le_refl _, .inr ⟨_, _, rfl, (k4.keep e5 fun h => h).keep e6 (by omega), rfl, rfl⟩⟩, rfl, fun q hq => by
      simp only [blkOf, Option.some.injEq] at hq
      subst hq
      exact ⟨by omega, fun hm => by have := p3.pcs.lt _ hm; omega⟩⟩
  refine ⟨fun k w' => (∃ (j g' : Nat) (a' : Option Addr) (ln' c' : Nat) (rs' : List Raw) (out : List Pc) (kids : List Int) (ka : Option Addr) (kl kc : Nat), SSt N w' b s j g' a' ln' c' rs' out ∧ altL (subP (L s) d) (decide (d = 0)) (L s) j g' out kids = R ∧ Kids w w' (blks a' rs') ka kl kc kids ∧ Blk w'.heap b4 111 (pcC 3 ka kl kc) ∧ b4 ∉ blks a' rs' ∧ Step b (blks a rs) w w' (blks a' rs') ∧ k = s.size - j + 1 ∧ i ≤ j ∧ j ≤ s.size ∧ g' ≤ 9 ∧ ln' + 4 * (s.size - j) + 4 * d ≤ 901 ∧ (2 ≤ kids.length ∨ j < s.size ∧ at_ (L s) j = 124) ∧ 1 ≤ kids.length ∧ kids.length ≤ j + 1) ∨
      (∃ e, k = 0 ∧ R = .bad e ∧ Mid N w w' b s (blks a rs) (903 + 4 * d) e ∧ ∃ ka kl kc, Blk w'.heap b4 111 (pcC 3 ka kl kc)),
    ⟨_, .inl ⟨j, g', a1, ln1, c1, rs1, out', [x], _, 1, 1, p3.below B6, hR, hK6, k6', fun hm => (by have := p3.pcs.lt b4 hm; omega), Step.trans st3 (Step.of_below B6), rfl, by omega, by omega, hlen.2.2.2 hg, by omega, .inr ⟨g1', g2'⟩, by simp, by simp⟩⟩, ?_⟩
  have hbw4 : w.heap.size ≤ b4 := by omega
  clear hR hq hlen p1 st1 hl1 p3 st3 k4 k5 k6 k6' hK6 B6 e6 e5 e4 s6 s5 s4 g2 g1 g1' g2' b3 b3' b2 e2 q2 z3 hkb hb4
  rintro k dd w7 (⟨j, g', a', ln', c', rs', out, kids, ka, kl, kc, p7, hq, hK, k7, hn4, st7, rfl, hij, hj, hg', hb', hk2, hk1, hkl⟩ | ⟨e, rfl, hr, hm, ka, kl, kc, k7⟩)
  case inr =>
    refine (mid_is hm 124).ret fun w8 b8 => ⟨false, rfl, fun g => (by cases g), fun _ => ?_⟩
    have k' := k7.below b8
    refine ⟨_, k'.cell 0, _, _, _, k'.cell 1, _, k'.cell 2, _, k'.cell 3, _, k'.cell 4, _, k'.cell 5, _, _, _, k'.cell 6, ?_⟩
    exact sput_bad (hm.below b8) (by omega) (by omega) hr
  have hl7 := p7.pcs.len'
  by_cases hy : j < s.size ∧ at_ (L s) j = 124
  case neg =>
    refine (is_no p7.rd (ch := 124) hy rfl).ret fun w8 b8 => ⟨false, rfl, fun g => (by cases g), fun _ => ?_⟩
    have k' := k7.below b8
    have hRe : R = altE j g' out kids := by rw [← hq, altL_out (by rw [← hsz]; exact hy)]
    refine ⟨_, k'.cell 0, _, _, _, k'.cell 1, _, k'.cell 2, _, k'.cell 3, _, k'.cell 4, _, k'.cell 5, _, _, _, k'.cell 6, ?_⟩
    refine sputKids (p7.below b8) (Step.trans st7 (Step.of_below b8)) (hK.below b8) h.hN (by omega) (p := pAlt kids) rfl ?_
    rw [hRe]
    have hk2' : 2 ≤ kids.length := by
      rcases hk2 with h | h
      · exact h
      · exact absurd h hy
    match kids, hk2' with
    | _ :: _ :: _, _ => rfl
  refine (is_yes p7.rd hy.1 (by omega) hy.2 rfl).use fun e w8 he => ?_
  obtain ⟨rfl, h8, e8⟩ := he
  have p8 := p7.upd e8 h8
  have st8 := Step.trans st7 (Step.of_ext e8)
  have K8 := hK.step hbl (Step.of_ext e8)
  have k8 := k7.keep e8 (by omega)
  have hcnd : j < (L s).length ∧ at_ (L s) j = 124 := ⟨by omega, hy.2⟩
  refine ⟨true, rfl, fun _ => ?_, fun g => (by cases g)⟩
  refine (sseq_ok d hsub hsl p8 hs (by omega) hg' hdp hd6 (by omega) (fun _ => by omega)).use fun e w9 he => ?_
  cases hq2 : seqL (subP (L s) d) (decide (d = 0)) (L s) (j + 1) g' out [] with
  | bad n =>
    rw [hq2] at he
    obtain ⟨⟨x, rfl⟩, hm⟩ := Mid.of he
    refine ⟨x, rfl, kid_bad st8 K8 k8 hbl hbw4 hn4 (by rw [K8.2.1]; omega) hm x fun w' hm' k' => ⟨0, by omega, .inr ⟨n, rfl, ?_, hm', k'⟩⟩⟩
    rw [← hq, altL_bad hcnd hq2]
  | ok y =>
  obtain ⟨⟨j2, g2', out2⟩, x2⟩ := y
  have hlen2 := seqL_len hsl _ rfl (by omega) hq2
  have hgo := altL_go (kids := kids) hcnd hq2 (by omega)
  rw [hq2] at he
  obtain ⟨rfl, a9, ln9, c9, rs9, p9, s9⟩ := he
  have hl9 := p9.pcs.len'
  have st9 := Step.trans st8 s9
  have K9 := K8.step hbl s9
  have hlt8 := k8.lt
  have hn4' : b4 ∉ blks a9 rs9 := fun hm => by
    rcases s9.2 b4 hm with h1 | h1
    · exact hn4 h1
    · omega
  have k9 := k8.keep s9.1 (fun h => by
    rcases h with h | h
    · omega
    · exact hn4 h)
  refine ⟨x2, rfl, ka, kl, kc, k9.cell 6, ?_⟩
  obtain ⟨ka2, kc2, w10, r1, r2, r3⟩ := K9.app p9.pcs.lt st9.1.size (by rw [K9.2.1]; omega) x2
  refine ⟨ka2, kl + 1, kc2, w10, r1, ?_⟩
  have hkb : ∀ k, blkOf ka = some k → k ∉ blks a9 rs9 ∧ k ≠ b ∧ w.heap.size ≤ k := fun k hk => ⟨(K9.2.2 k hk).2, by have := (K9.2.2 k hk).1; omega, (K9.2.2 k hk).1⟩
  have hne := kid_ne K9 k9
  have p10 : SSt N w10 b s j2 g2' a9 ln9 c9 rs9 out2 := p9.other r3 (fun hk => (hkb b hk).2.1 rfl) fun k hk hk' => (hkb k hk').1 hk
  have k10 := k9.keep r3 (fun h => hne b4 h rfl)
  have st10 : Step b (blks a rs) w w10 (blks a9 rs9) := ⟨st9.1.step r3 fun k hk hk' => by have := (hkb k hk').2.2; omega, fun k hk => st9.2 k hk⟩
  have hne2 := kid_ne r2 k10
  refine stW_in k10 (by show 6 + 1 ≤ 7; decide) fun w11 s11 k11 e11 => ?_
  refine ⟨s.size - j2 + 1, by omega, .inl ⟨j2, g2', a9, ln9, c9, rs9, out2, kids ++ [x2], ka2, kl + 1, kc2, p10.other e11 (by omega) (fun k hk hk' => hn4' (hk' ▸ hk)), by rw [← hgo, hq], ⟨r2.1.keep e11 fun k hk hk' => hne2 k hk hk', r2.2⟩, k11, hn4', ⟨st10.1.step e11 fun k hk hk' => by omega, st10.2⟩, rfl, by omega, by omega, hlen2.2.2.2 hg', by omega, .inl (by simp; omega), by simp, by simp; omega⟩⟩
end Go.Proofs.Ytngbiaeliphdjaa.V
/- The deferred closure of the program's ReadPattern. No statement of the seat is proved here. -/
namespace Go.Vc
open Go.RowKit
set_option linter.unusedVariables false
set_option linter.unusedSimpArgs false
theorem wpOpsS_val {P : Program} {ops : Array Oper} {Q : Exit → Act → List Frame → World → Prop} {i : Nat} {rest : List Nat} {a : Act} {cs : List Frame} {w w' : World} {v : Value}
    (hi : decide (i < ops.size) = true) (hw : Region.wanted (ops.getD i default) (yielded ops a.tmps) = true) (h : (execOp a.eval (ops.getD i default)).run P w = .ok (.value v) w') (hk : wpOpsS P ops Q rest (a.put (ops.getD i default).dst v) cs w') : wpOpsS P ops Q (i :: rest) a cs w := by
  have ho : ops[i]? = some (ops.getD i default) := by have := of_decide_eq_true hi; simp [Array.getD, this]
  simp only [wpOpsS, ho, hw, if_true, h, Oper.upon]
  exact hk
theorem wpOpsS_skip {P : Program} {ops : Array Oper} {Q : Exit → Act → List Frame → World → Prop} {i : Nat} {rest : List Nat} {a : Act} {cs : List Frame} {w w' : World} 
    (hi : decide (i < ops.size) = true) (hw : Region.wanted (ops.getD i default) (yielded ops a.tmps) = true) (h : (execOp a.eval (ops.getD i default)).run P w = .ok .skip w') (hk : wpOpsS P ops Q rest (a.put (ops.getD i default).dst undef) cs w') : wpOpsS P ops Q (i :: rest) a cs w := by
  have ho : ops[i]? = some (ops.getD i default) := by have := of_decide_eq_true hi; simp [Array.getD, this]
  simp only [wpOpsS, ho, hw, if_true, h, Oper.upon]
  exact hk
theorem wpOpsS_rec {P : Program} {ops : Array Oper} {Q : Exit → Act → List Frame → World → Prop} {i : Nat} {rest : List Nat} {a : Act} {cs cs' : List Frame} {w w' : World} {v : Value}
    (hi : decide (i < ops.size) = true) (hw : Region.wanted (ops.getD i default) (yielded ops a.tmps) = true) (h : (execOp a.eval (ops.getD i default)).run P w = .ok .recover w') (hr : recoverD cs = some (v, cs')) (hk : wpOpsS P ops Q rest (a.put (ops.getD i default).dst v) cs' w') : wpOpsS P ops Q (i :: rest) a cs w := by
  have ho : ops[i]? = some (ops.getD i default) := by have := of_decide_eq_true hi; simp [Array.getD, this]
  simp only [wpOpsS, ho, hw, if_true, h, hr]
  exact hk
theorem wpOpsS_idle {P : Program} {ops : Array Oper} {Q : Exit → Act → List Frame → World → Prop} {i : Nat} {rest : List Nat} {a : Act} {cs : List Frame} {w w' : World} 
    (hi : decide (i < ops.size) = true) (hw : Region.wanted (ops.getD i default) (yielded ops a.tmps) = true) (h : (execOp a.eval (ops.getD i default)).run P w = .ok .recover w') (hr : recoverD cs = none) (hk : wpOpsS P ops Q rest (a.put (ops.getD i default).dst .nilIface) cs w') : wpOpsS P ops Q (i :: rest) a cs w := by
  have ho : ops[i]? = some (ops.getD i default) := by have := of_decide_eq_true hi; simp [Array.getD, this]
  simp only [wpOpsS, ho, hw, if_true, h, hr]
  exact hk
theorem wpS_region' {P : Program} {Q : Exit → Act → List Frame → World → Prop} {a : Act} {cs : List Frame} {w : World} {id : Nat} {ops : Array Oper} (l : List Nat) (hl : List.range ops.size = l) (h : wpOpsS P ops Q l a cs w) : (Code.region id ops false).wpS P Q a cs w :=
  wpS_region (by rw [hl]; exact h)
end Go.Vc
namespace Go.Proofs.Ytngbiaeliphdjaa.V
open Go.Vc Go.Proofs Go.RowKit
set_option linter.unusedVariables false
set_option linter.unusedSimpArgs false

set_option maxRecDepth 100000 in
theorem catch_bad (b : Nat) (n : Int) (w : World) (c0 c1 c2 c3 : Value) (hB : Blk w.heap b 37 [c0, c1, c2, c3]) :
    CallsD Try.prog 73 #[.pointer (some ⟨b, 0, none⟩)] (.panicking [{ v := .iface 90 (.int .i64 n), recovered := false }]) w fun e u' w' =>
      e = .returned (.tuple #[]) ∧ u' = .panicking [{ v := .iface 90 (.int .i64 n), recovered := true }] ∧ w' = setsW w b 0 [.bool false, .int .i64 n, .int .i64 0, .slice none 0 0] := by
  refine callsD_of_wpS Try.func73 rfl fun c₀ cs hu => ?_
  apply wpS_seq
  refine wpS_region' [0, 1, 2, 3, 4, 5, 6] (by kernel_rfl) ?_
  refine wpOpsS_rec (w' := w) (i := 0) (by kernel_rfl) (by kernel_rfl) (by kernel_rfl) (v := .iface 90 (.int .i64 n)) (by simp only [recoverD, hu]; rfl) ?_
  generalize hcs : ({ c₀ with mode := _ } : Frame) :: cs = cs1
  generalize hq : Exit.thenS _ _ = Q
  generalize ha : Act.put _ _ _ = a1
  refine wpOpsS_val (w' := w) (i := 1) (v := .tuple #[.int .i64 n, .bool true]) ?_ ?_ ?_ ?_
  all_goals subst ha
  · kernel_rfl
  · kernel_rfl
  · kernel_rfl
  generalize ha : Act.put _ _ _ = a1
  refine wpOpsS_val (w' := w) (i := 2) (v := .tuple #[.int .i64 n, .bool true]) ?_ ?_ ?_ ?_
  all_goals subst ha
  · kernel_rfl
  · kernel_rfl
  · kernel_rfl
  generalize ha : Act.put _ _ _ = a1
  refine wpOpsS_val (w' := w) (i := 3) (v := .int .i64 n) ?_ ?_ ?_ ?_
  all_goals subst ha
  · kernel_rfl
  · kernel_rfl
  · kernel_rfl
  generalize ha : Act.put _ _ _ = a1
  refine wpOpsS_val (w' := w) (i := 4) (v := .bool true) ?_ ?_ ?_ ?_
  all_goals subst ha
  · kernel_rfl
  · kernel_rfl
  · kernel_rfl
  generalize ha : Act.put _ _ _ = a1
  refine wpOpsS_val (w' := w) (i := 5) (v := .int .i64 n) ?_ ?_ ?_ ?_
  all_goals subst ha
  · kernel_rfl
  · kernel_rfl
  · kernel_rfl
  generalize ha : Act.put _ _ _ = a1
  refine wpOpsS_val (w' := w) (i := 6) (v := .bool true) ?_ ?_ ?_ ?_
  all_goals subst ha
  · kernel_rfl
  · kernel_rfl
  · kernel_rfl
  subst hq
  apply wpS_seq
  refine wpS_region' [0] (by kernel_rfl) ?_
  generalize hq : Exit.thenS _ _ = Q
  generalize ha : Act.put _ _ _ = a1
  refine wpOpsS_val (w' := w) (i := 0) (v := .bool true) ?_ ?_ ?_ ?_
  all_goals subst ha
  · kernel_rfl
  · kernel_rfl
  · kernel_rfl
  subst hq
  refine wpS_cond (t := true) (by kernel_rfl) ?_
  simp only [if_true]
  refine wpS_region' [0, 1, 2] (by kernel_rfl) ?_
  generalize hq : bodyPostS _ _ _ _ _ = Q
  generalize ha : Act.put _ _ _ = a1
  refine wpOpsS_val (w' := w) (i := 0) (v := .int .i64 n) ?_ ?_ ?_ ?_
  all_goals subst ha
  · kernel_rfl
  · kernel_rfl
  · kernel_rfl
  generalize ha : Act.put _ _ _ = a1
  refine wpOpsS_val (w' := w) (i := 1) (v := .agg #[.bool false, .int .i64 n, .int .i64 0, .slice none 0 0]) ?_ ?_ ?_ ?_
  all_goals subst ha
  · kernel_rfl
  · kernel_rfl
  · kernel_rfl
  generalize ha : Act.put _ _ _ = a1
  refine wpOpsS_skip (w' := setsW w b 0 [.bool false, .int .i64 n, .int .i64 0, .slice none 0 0]) (i := 2) ?_ ?_ ?_ ?_
  · kernel_rfl
  · subst ha; kernel_rfl
  · have e1 : a1.eval (.tmp 0) = .pointer (some ⟨b, 0, none⟩) := by subst ha; kernel_rfl
    have e2 : a1.eval (.tmp 10) = .agg #[.bool false, .int .i64 n, .int .i64 0, .slice none 0 0] := by subst ha; kernel_rfl
    have key : ∀ o : Oper, o.op = .store 37 (.tmp 0) (.tmp 10) → (execOp a1.eval o).run Try.prog w = .ok .skip (setsW w b 0 [.bool false, .int .i64 n, .int .i64 0, .slice none 0 0]) := by
      intro o ho
      simp only [execOp, ho, e1, e2]
      refine (bind_run (a := ()) (w' := setsW w b 0 [.bool false, .int .i64 n, .int .i64 0, .slice none 0 0]) ?_).trans rfl
      unfold Instr.storeAt
      rw [bind_run (show (Instr.sureAddr (.pointer (some ⟨b, 0, none⟩))).run Try.prog w = .ok ⟨b, 0, none⟩ w from rfl)]
      exact storeVar_run (n := 4) (v := .agg #[.bool false, .int .i64 n, .int .i64 0, .slice none 0 0]) (by kernel_rfl) rfl rfl (hB.wrL (by show 0 + 4 ≤ 4; decide))
    exact key _ (by kernel_rfl)
  · subst hq hcs ha
    exact ⟨by kernel_rfl, _, rfl, .tuple #[], by kernel_rfl, rfl, rfl, rfl⟩
set_option maxRecDepth 100000 in
theorem catch_idle (b : Nat) (w : World) : CallsD Try.prog 73 #[.pointer (some ⟨b, 0, none⟩)] .returning w fun e u' w' => e = .returned (.tuple #[]) ∧ u' = .returning ∧ w' = w := by
  refine callsD_of_wpS Try.func73 rfl fun c₀ cs hu => ?_
  apply wpS_seq
  refine wpS_region' [0, 1, 2, 3, 4, 5, 6] (by kernel_rfl) ?_
  refine wpOpsS_idle (w' := w) (i := 0) (by kernel_rfl) (by kernel_rfl) (by kernel_rfl) (by simp only [recoverD, hu]) ?_
  generalize hcs : c₀ :: cs = cs1
  generalize hq : Exit.thenS _ _ = Q
  generalize ha : Act.put _ _ _ = a1
  refine wpOpsS_val (w' := w) (i := 1) (v := .tuple #[.int .i64 0, .bool false]) ?_ ?_ ?_ ?_
  all_goals subst ha
  · kernel_rfl
  · kernel_rfl
  · kernel_rfl
  generalize ha : Act.put _ _ _ = a1
  refine wpOpsS_val (w' := w) (i := 2) (v := .tuple #[.int .i64 0, .bool false]) ?_ ?_ ?_ ?_
  all_goals subst ha
  · kernel_rfl
  · kernel_rfl
  · kernel_rfl
  generalize ha : Act.put _ _ _ = a1
  refine wpOpsS_val (w' := w) (i := 3) (v := .int .i64 0) ?_ ?_ ?_ ?_
  all_goals subst ha
  · kernel_rfl
  · kernel_rfl
  · kernel_rfl
  generalize ha : Act.put _ _ _ = a1
  refine wpOpsS_val (w' := w) (i := 4) (v := .bool false) ?_ ?_ ?_ ?_
  all_goals subst ha
  · kernel_rfl
  · kernel_rfl
  · kernel_rfl
  generalize ha : Act.put _ _ _ = a1
  refine wpOpsS_val (w' := w) (i := 5) (v := .int .i64 0) ?_ ?_ ?_ ?_
  all_goals subst ha
  · kernel_rfl
  · kernel_rfl
  · kernel_rfl
  generalize ha : Act.put _ _ _ = a1
  refine wpOpsS_val (w' := w) (i := 6) (v := .bool false) ?_ ?_ ?_ ?_
  all_goals subst ha
  · kernel_rfl
  · kernel_rfl
  · kernel_rfl
  subst hq
  apply wpS_seq
  refine wpS_region' [0] (by kernel_rfl) ?_
  generalize hq : Exit.thenS _ _ = Q
  generalize ha : Act.put _ _ _ = a1
  refine wpOpsS_val (w' := w) (i := 0) (v := .bool false) ?_ ?_ ?_ ?_
  all_goals subst ha
  · kernel_rfl
  · kernel_rfl
  · kernel_rfl
  subst hq
  refine wpS_cond (t := false) (by kernel_rfl) ?_
  simp only [Bool.false_eq_true, if_false]
  refine wpS_of_wp (wp_skip ?_)
  subst hcs
  exact ⟨by kernel_rfl, .returning, by rw [← hu], .tuple #[], by kernel_rfl, rfl, rfl, rfl⟩
end Go.Proofs.Ytngbiaeliphdjaa.V
/- The calculus for the head of a body, up to a part that is walked by hand. No statement of the seat is proved here. -/
namespace Go.Vc
set_option linter.unusedVariables false
set_option linter.unusedSimpArgs false
def wpCh (P : Program) (Qp : List PanicEntry → Pred) : Nat → Code → (Scr → Fr → Pred) → (Exit → Scr → Fr → Pred) → Scr → Fr → Pred
  | 0, _, H, _, s, fr => H s fr
  | n + 1, .seq a b, H, K, s, fr => wpC P Qp a (seqK K (fun s f => wpCh P Qp n b H K s f)) s fr
  | _, _, _, _, _, _ => fun _ => False
def tailC : Nat → Code → Code
  | 0, c => c
  | n + 1, .seq _ b => tailC n b
  | _, c => c
theorem wpCh_sound {P : Program} {Qp : List PanicEntry → Pred} {Q : Exit → Act → World → Prop} {ds : List Deferred} {H : Scr → Fr → Pred} {K : Exit → Scr → Fr → Pred}
    (hE : ∀ e s f w, e ≠ .normal → K e s f w → Q e (act f ds) w) (hP : ∀ c a w, a.defers = ds → Qp c w → Q (.panic c) a w) :
    ∀ (n : Nat) (c : Code) (s : Scr) (fr : Fr) (w : World), (∀ s f w', H s f w' → (tailC n c).wp P Q (act f ds) w') → wpCh P Qp n c H K s fr w → c.wp P Q (act fr ds) w
  | 0, c, s, fr, w, hH, h => hH s fr w h
  | n + 1, .seq a b, s, fr, w, hH, h => by
    refine wp_seq (wp_mono (wpC_sound (ds := ds) a _ s fr w h) fun e a' w' hg => ?_)
    cases e with
    | normal =>
      obtain ⟨f, rfl, _, s', h3⟩ := hg
      exact wpCh_sound hE hP n b s' f w' hH h3
    | panic c => exact hP c a' w' hg.1 hg.2
    | outgrown => exact hg.elim
    | exit i => obtain ⟨f, rfl, _, s', h3⟩ := hg; exact hE (.exit i) s' f w' (by simp) h3
    | goto l => obtain ⟨f, rfl, _, s', h3⟩ := hg; exact hE (.goto l) s' f w' (by simp) h3
    | ret => obtain ⟨f, rfl, _, s', h3⟩ := hg; exact hE .ret s' f w' (by simp) h3
  | n + 1, .skip, _, _, _, _, h => h.elim
  | n + 1, .region _ _ _, _, _, _, _, h => h.elim
  | n + 1, .cond _ _ _, _, _, _, _, h => h.elim
  | n + 1, .block _ _, _, _, _, _, h => h.elim
  | n + 1, .loop _, _, _, _, _, h => h.elim
  | n + 1, .exit _, _, _, _, _, h => h.elim
  | n + 1, .ret, _, _, _, _, h => h.elim
  | n + 1, .label _, _, _, _, _, h => h.elim
  | n + 1, .goto _, _, _, _, _, h => h.elim
def hookK (RK : Fr → Pred) : Exit → Scr → Fr → Pred
  | .ret, _, f => RK f
  | _, _, _ => fun _ => False
def tailK (NK : Fr → Pred) : Exit → Scr → Fr → Pred
  | .ret, _, f => NK f
  | .normal, _, f => NK f
  | _, _, _ => fun _ => False
theorem wpOps_val {P : Program} {ops : Array Oper} {Q : Exit → Act → World → Prop} {i : Nat} {rest : List Nat} {a : Act} {w w' : World} {v : Value}
    (hi : decide (i < ops.size) = true) (hw : Region.wanted (ops.getD i default) (yielded ops a.tmps) = true) (h : (execOp a.eval (ops.getD i default)).run P w = .ok (.value v) w') (hk : wpOps P ops Q rest (a.put (ops.getD i default).dst v) w') : wpOps P ops Q (i :: rest) a w := by
  have ho : ops[i]? = some (ops.getD i default) := by have := of_decide_eq_true hi; simp [Array.getD, this]
  simp only [wpOps, ho, hw, if_true]
  exact .inl (run_value h hk)
theorem wpOps_defer {P : Program} {ops : Array Oper} {Q : Exit → Act → World → Prop} {i : Nat} {rest : List Nat} {a : Act} {w w' : World} {d : Deferred}
    (hi : decide (i < ops.size) = true) (hw : Region.wanted (ops.getD i default) (yielded ops a.tmps) = true) (h : (execOp a.eval (ops.getD i default)).run P w = .ok (.defer d) w') (hk : wpOps P ops Q rest (({ a with defers := d :: a.defers } : Act).put (ops.getD i default).dst undef) w') : wpOps P ops Q (i :: rest) a w := by
  have ho : ops[i]? = some (ops.getD i default) := by have := of_decide_eq_true hi; simp [Array.getD, this]
  simp only [wpOps, ho, hw, if_true]
  refine .inl ?_
  unfold Oper.wp; rw [h]; exact hk
theorem wpOps_call {P : Program} {ops : Array Oper} {Q : Exit → Act → World → Prop} {i : Nat} {rest : List Nat} {a : Act} {w w' : World} {f : FuncId} {args : Array Value}
    (hi : decide (i < ops.size) = true) (hw : Region.wanted (ops.getD i default) (yielded ops a.tmps) = true) (h : (execOp a.eval (ops.getD i default)).run P w = .ok (.enter f args) w')
    (hk : Calls P f args w' fun e w'' => match e with | .returned v => wpOps P ops Q rest (a.put (ops.getD i default).dst v) w'' | .panicked c => Q (.panic c) a w'' | .outgrown => False) : wpOps P ops Q (i :: rest) a w := by
  have ho : ops[i]? = some (ops.getD i default) := by have := of_decide_eq_true hi; simp [Array.getD, this]
  simp only [wpOps, ho, hw, if_true]
  refine .inl ?_
  unfold Oper.wp; rw [h]
  refine Calls.mono hk fun e w'' he => ?_
  cases e with
  | returned v => exact he
  | panicked c => exact he
  | outgrown => exact he.elim
theorem wp_region' {P : Program} {Q : Exit → Act → World → Prop} {a : Act} {w : World} {id : Nat} {ops : Array Oper} (l : List Nat) (hl : List.range ops.size = l) (h : wpOps P ops Q l a w) : (Code.region id ops false).wp P Q a w :=
  wp_region (by rw [hl]; exact h)
end Go.Vc
/- Printed by part26.py, a program of this session. No statement of the seat is proved here. -/
namespace Go.Proofs.Ytngbiaeliphdjaa.V
open Go.Vc Go.Proofs
set_option linter.unusedVariables false
set_option maxRecDepth 100000
def VH26 (s1 : ByteArray) (HK RK : List Value → World → Prop) (QP : List PanicEntry → World → Prop) : World → Prop := fun w =>
  newC [.bool false, .int .i64 0, .int .i64 0, .slice none 0 0] 37 (fun (b1 : Nat) (w2 : World) => (((decide ((((ByteArray.size s1 : Nat) : Int) : Int) > 120)) = true → stW b1 0 [.bool false, .int .i64 120, .int .i64 0, .slice none 0 0] (fun (w3 : World) => RK [.string s1, undef, .pointer (some ⟨b1, 0, none⟩), undef, .string s1, .int .i64 ((ByteArray.size s1 : Nat) : Int), .bool true, .agg #[.bool false, .int .i64 120, .int .i64 0, .slice none 0 0], undef, undef, undef, undef, undef, undef, undef, undef, undef, undef, undef, undef, undef, undef, undef, undef, undef, undef, undef, undef, undef, undef, undef, undef] w3) w2) ∧ ((decide ((((ByteArray.size s1 : Nat) : Int) : Int) > 120)) = false → newC [.string s1, .int .i64 0, .int .i64 0, .int .i64 0, .slice none 0 0] 89 (fun (b4 : Nat) (w5 : World) => HK [.string s1, undef, .pointer (some ⟨b1, 0, none⟩), .pointer (some ⟨b4, 0, none⟩), .string s1, .int .i64 ((ByteArray.size s1 : Nat) : Int), .bool false, undef, .string s1, .agg #[.string s1, .int .i64 0, .int .i64 0, .int .i64 0, .slice none 0 0], .pointer (some ⟨b4, 0, none⟩), undef, undef, undef, undef, undef, undef, undef, undef, undef, undef, undef, undef, undef, undef, undef, undef, undef, undef, undef, undef, undef] w5) w2))) w
def scrH26 : Scr := (.run [0] (.close (.run [0, 1, 2] (.close (.cond (.run [0, 1] (.close .nil)) (.run [0, 1, 2, 3] (.close .nil)))))))
theorem vh26 (s1 : ByteArray) (HK RK : List Value → World → Prop) (QP : List PanicEntry → World → Prop) : wpCh Try.prog QP 3 (bodyOf Try.f26) (fun _ f => HK f) (hookK RK) scrH26 (frame0 Try.f26 [.string s1]) = VH26 s1 HK RK QP := by kernel_rfl
def fr26 (s1 : ByteArray) (b1 : Nat) (b4 : Nat) (n6 : Int) : List Value := [.string s1, undef, .pointer (some ⟨b1, 0, none⟩), .pointer (some ⟨b4, 0, none⟩), .string s1, .int .i64 ((ByteArray.size s1 : Nat) : Int), .bool false, undef, .string s1, .agg #[.string s1, .int .i64 0, .int .i64 0, .int .i64 0, .slice none 0 0], .pointer (some ⟨b4, 0, none⟩), .func (.func 73) #[] #[.pointer (some ⟨b1, 0, none⟩)], .pointer (some ⟨b4, 0, none⟩), .int .i64 n6, .pointer (some ⟨b4, 0, none⟩), .bool true, .bool false, undef, undef, undef, undef, undef, undef, undef, undef, undef, undef, undef, undef, undef, undef, undef]
def VT26 (s1 : ByteArray) (b1 : Nat) (b4 : Nat) (n6 : Int) (NK : List Value → World → Prop) (QP : List PanicEntry → World → Prop) : World → Prop := fun w =>
  drw (fun (w6 : World) => ∃ (n7 : Int), cellH w6.heap b4 2 = some (.int .i64 n7) ∧ ∃ (a8 : Option Addr), ∃ (l8 : Nat), ∃ (c8 : Nat), cellH w6.heap b4 4 = some (.slice a8 l8 c8) ∧ stW b1 0 [.bool true, .int .i64 0, .int .i64 n7, .slice a8 l8 c8] (fun (w9 : World) => NK [.string s1, undef, .pointer (some ⟨b1, 0, none⟩), .pointer (some ⟨b4, 0, none⟩), .string s1, .int .i64 ((ByteArray.size s1 : Nat) : Int), .bool false, undef, .string s1, .agg #[.string s1, .int .i64 0, .int .i64 0, .int .i64 0, .slice none 0 0], .pointer (some ⟨b4, 0, none⟩), .func (.func 73) #[] #[.pointer (some ⟨b1, 0, none⟩)], .pointer (some ⟨b4, 0, none⟩), .int .i64 n6, .pointer (some ⟨b4, 0, none⟩), .bool true, .bool false, undef, undef, undef, undef, undef, undef, .pointer (some ⟨b4, 0, none⟩), .pointer (some ⟨b4, 0, none⟩), .pointer (some ⟨b4, 2, none⟩), .int .i64 n7, .pointer (some ⟨b4, 0, none⟩), .pointer (some ⟨b4, 0, none⟩), .pointer (some ⟨b4, 4, none⟩), .slice a8 l8 c8, .agg #[.bool true, .int .i64 0, .int .i64 n7, .slice a8 l8 c8]] w9) w6) w
def scrT26 : Scr := (.run [0, 1, 2, 3, 4, 5, 6, 7, 8, 9] (.close .nil))
theorem vt26 (s1 : ByteArray) (b1 : Nat) (b4 : Nat) (n6 : Int) (NK : List Value → World → Prop) (QP : List PanicEntry → World → Prop) : wpC Try.prog QP (tailC 6 (bodyOf Try.f26)) (tailK NK) scrT26 (fr26 s1 b1 b4 n6) = VT26 s1 b1 b4 n6 NK QP := by kernel_rfl
end Go.Proofs.Ytngbiaeliphdjaa.V
/- The program's ReadPattern. No statement of the seat is proved here. -/
namespace Go.Vc
def headC (n : Nat) (c : Code) : Code := match tailC n c with
  | .seq a _ => a
  | c => c
def fstC : Code → Code
  | .seq a _ => a
  | c => c
def sndC : Code → Code
  | .seq _ b => b
  | c => c
def thenC : Code → Code
  | .cond _ a _ => a
  | c => c
def opsC : Code → Array Oper
  | .region _ o _ => o
  | _ => #[]
end Go.Vc
namespace Go.Proofs.Ytngbiaeliphdjaa.V
open Go.Vc Go.Proofs Go.RowKit
set_option linter.unusedVariables false
set_option linter.unusedSimpArgs false

/-- A pattern's value: its pieces in blocks of their own, all new. -/
def RetP (p : Pat) (w : World) : Ending → World → Prop := fun e w' => ∃ a l c rs, e = .returned (.agg #[.bool p.ok, .int .i64 (p.at_ : Int), .int .i64 (p.groups : Int), .slice a l c]) ∧ Pcs w.heap.size w' a l c rs p.pieces ∧ Below w.heap.size w w'

/-- The named result, read at the end. -/
theorem res26 {fr : List Value} {b : Nat} {w : World} {t : Bool} {n m : Int} {a : Option Addr} {l c : Nat} {R : Ending → World → Prop} (h : fr.getD 2 undef = .pointer (some ⟨b, 0, none⟩)) (hB : Blk w.heap b 37 [.bool t, .int .i64 n, .int .i64 m, .slice a l c])
    (hR : R (.returned (.agg #[.bool t, .int .i64 n, .int .i64 m, .slice a l c])) w) : Leaves Try.prog Try.f26 fr.toArray R [] .returning w := by
  refine retC_run ?_
  rw [show Try.f26.results.toList = [.cell 2 37] from by kernel_rfl]
  simp only [retC, resV, h]
  rw [show shOf Try.prog 37 = some (.agg [.bool, .int .i64, .int .i64, .slice]) from by kernel_rfl, show aggP Try.prog 37 = some true from by kernel_rfl, show sizeP Try.prog 37 = some 4 from by kernel_rfl]
  simp only []
  rw [if_pos (by decide)]
  exact ⟨t, hB.cell 0, n, hB.cell 1, m, hB.cell 2, a, l, c, hB.cell 3, hR⟩

/-- What is deferred. -/
def dfr (b : Nat) : Deferred := { target := .fn (.func 73) #[.pointer (some ⟨b, 0, none⟩)], args := #[] }
theorem dfr_run (b : Nat) (w : World) : (invoke (.fn (.func 73) #[.pointer (some ⟨b, 0, none⟩)]) #[]).run Try.prog w = .ok (.enter 73 #[.pointer (some ⟨b, 0, none⟩)]) w := by kernel_rfl
/-- It leaves when the pattern goes wrong. -/
theorem leave_bad {fr : List Value} {b n : Nat} {w0 w : World} {p : Pat} (h : fr.getD 2 undef = .pointer (some ⟨b, 0, none⟩)) {c0 c1 c2 c3 : Value} (hB : Blk w.heap b 37 [c0, c1, c2, c3]) (hb : w0.heap.size ≤ b) (E : Below w0.heap.size w0 w) (hp : p = ⟨false, n, 0, []⟩) {c : List PanicEntry} (hc : Ending.panicked c = PanicB n) :
    Leaves Try.prog Try.f26 fr.toArray (RetP p w0) [dfr b] (.panicking c) w := by
  cases hc
  refine leaves_cons (f := 73) (args := #[.pointer (some ⟨b, 0, none⟩)]) (by simp) (dfr_run b w) ?_
  refine (catch_bad b n w c0 c1 c2 c3 hB).mono ?_
  rintro e u w' ⟨rfl, rfl, rfl⟩
  subst hp
  refine res26 h hB.sets ⟨none, 0, 0, [], rfl, Pcs.nil _ _, E.vsets hb⟩
/-- It leaves at its end. -/
theorem leave_ok {fr : List Value} {b : Nat} {w : World} {R : Ending → World → Prop} {t : Bool} {n m : Int} {a : Option Addr} {l c : Nat} (h : fr.getD 2 undef = .pointer (some ⟨b, 0, none⟩)) (hB : Blk w.heap b 37 [.bool t, .int .i64 n, .int .i64 m, .slice a l c])
    (hR : R (.returned (.agg #[.bool t, .int .i64 n, .int .i64 m, .slice a l c])) w) : Leaves Try.prog Try.f26 fr.toArray R [dfr b] .returning w := by
  refine leaves_cons (f := 73) (args := #[.pointer (some ⟨b, 0, none⟩)]) (by simp) (dfr_run b w) ?_
  refine (catch_idle b w).mono ?_
  rintro e u w' ⟨rfl, rfl, rfl⟩
  exact res26 h hB hR

set_option maxRecDepth 100000 in
theorem readPattern_ok (s : ByteArray) (w : World) : Cl Try.prog 26 [.string s] w (RetP (readP (L s)) w) := by
  refine ⟨by kernel_rfl, calls_of_wp_defers (c := bodyOf Try.f26) Try.func26 (by kernel_rfl) ?_⟩
  rw [show ({ tmps := (⟨[.string s]⟩ : Array Value) ++ Array.replicate (Try.f26.ntmps - (⟨[.string s]⟩ : Array Value).size) undef, defers := [] } : Act) = act (frame0 Try.f26 [.string s]) [] from by simp [act, frame0]]
  generalize hR : RetP (readP (L s)) w = R
  refine wpCh_sound (P := Try.prog) (ds := []) (Qp := fun _ _ => False) (H := fun _ f w' => (tailC 3 (bodyOf Try.f26)).wp Try.prog (bodyPostD Try.prog Try.f26 R) (act f []) w') (K := hookK fun f w' => Leaves Try.prog Try.f26 f.toArray R [] .returning w') ?_ ?_ 3 _ scrH26 _ _ (fun s f w' h => h) ?_
  · intro e s f w' hne h
    cases e <;> first | exact h | exact h.elim | exact absurd rfl hne
  · intro c a w' _ h; exact h.elim
  rw [vh26]
  unfold VH26
  have hsz := size_L s
  refine newC_in fun w1 s1 k1 e1 => ?_
  refine ⟨fun g1 => ?_, fun g1 => ?_⟩
  · have g1' := of_decide_eq_true g1
    refine stW_in k1 (by decide) fun w2 s2 k2 e2 => ?_
    refine res26 rfl k2 ?_
    subst hR
    refine ⟨none, 0, 0, [], ?_, ?_, (Ext.to (Ext.to (Below.refl _ _) e1 fun _ h => h.elim) e2 fun i hi => by omega)⟩
    · unfold readP; rw [if_pos (by omega)]; rfl
    · unfold readP; rw [if_pos (by omega)]; exact Pcs.nil _ _
  have g1' := of_decide_eq_false g1
  refine newC_in fun w2 s2 k2 e2 => ?_
  generalize hb1 : w.heap.size = b1 at *
  generalize hb4 : w1.heap.size = b4 at *
  have E2 : Below w.heap.size w w2 := Ext.to (Ext.to (Below.refl _ _) e1 fun _ h => h.elim) e2 fun _ h => h.elim
  have k1' : Blk w2.heap b1 37 _ := k1.keep e2 fun h => h
  rw [show tailC 3 (bodyOf Try.f26) = .seq (headC 3 (bodyOf Try.f26)) (.seq (headC 4 (bodyOf Try.f26)) (.seq (headC 5 (bodyOf Try.f26)) (tailC 6 (bodyOf Try.f26)))) from by kernel_rfl]
  refine wp_seq ?_
  rw [show headC 3 (bodyOf Try.f26) = .region 4 (opsC (headC 3 (bodyOf Try.f26))) false from by kernel_rfl]
  refine wp_region' [0, 1] (by kernel_rfl) ?_
  generalize hq : Exit.then _ _ = Q
  generalize ha : act _ _ = a1
  refine wpOps_val (w' := w2) (i := 0) (v := .func (.func 73) #[] #[.pointer (some ⟨b1, 0, none⟩)]) ?_ ?_ ?_ ?_
  all_goals subst ha
  · kernel_rfl
  · kernel_rfl
  · kernel_rfl
  generalize ha : Act.put _ _ _ = a1
  refine wpOps_defer (w' := w2) (i := 1) (d := dfr b1) ?_ ?_ ?_ ?_
  all_goals subst ha
  · kernel_rfl
  · kernel_rfl
  · kernel_rfl
  subst hq
  generalize ha : Act.put _ _ _ = a1
  have ha' : a1 = act [.string s, undef, .pointer (some ⟨b1, 0, none⟩), .pointer (some ⟨b4, 0, none⟩), .string s, .int .i64 ((ByteArray.size s : Nat) : Int), .bool false, undef, .string s, .agg #[.string s, .int .i64 0, .int .i64 0, .int .i64 0, .slice none 0 0], .pointer (some ⟨b4, 0, none⟩), .func (.func 73) #[] #[.pointer (some ⟨b1, 0, none⟩)], undef, undef, undef, undef, undef, undef, undef, undef, undef, undef, undef, undef, undef, undef, undef, undef, undef, undef, undef, undef] [dfr b1] := by subst ha; kernel_rfl
  clear ha
  subst ha'
  show (Code.seq _ _).wp _ _ _ _
  refine wp_seq ?_
  rw [show headC 4 (bodyOf Try.f26) = .region 5 (opsC (headC 4 (bodyOf Try.f26))) false from by kernel_rfl]
  refine wp_region' [0, 1] (by kernel_rfl) ?_
  generalize hq : Exit.then _ _ = Q
  generalize ha : act _ _ = a1
  refine wpOps_val (w' := w2) (i := 0) (v := .pointer (some ⟨b4, 0, none⟩)) ?_ ?_ ?_ ?_
  all_goals subst ha
  · kernel_rfl
  · kernel_rfl
  · kernel_rfl
  generalize ha : Act.put _ _ _ = a1
  have hat : a1.tmps.toList.getD 2 undef = .pointer (some ⟨b1, 0, none⟩) := by subst ha; kernel_rfl
  have had : a1.defers = [dfr b1] := by subst ha; kernel_rfl
  have hpat := pattern_ok 6 (b4 + 1) w2 b4 s 0 0 0 none 0 0 [] [] ⟨k2, Pcs.nil _ _, Nat.lt_succ_self _, by omega⟩ (by omega) (by omega) (by omega) (by omega) (by omega) (by omega)
  refine wpOps_call (w' := w2) (i := 1) (f := 74) (args := #[.pointer (some ⟨b4, 0, none⟩)]) ?_ ?_ ?_ ?_
  · kernel_rfl
  · subst ha; kernel_rfl
  · subst ha; kernel_rfl
  refine hpat.2.mono fun e w3 he => ?_
  cases hp : patP (L s) 6 (0, 0, []) with
  | bad n =>
    rw [hp] at he
    obtain ⟨rfl, e3⟩ := he
    subst hq
    show Leaves _ _ _ _ _ _ _
    rw [had]
    subst hR
    have := leave_bad (fr := a1.tmps.toList) (w0 := w) (p := readP (L s)) hat (k1'.keep e3 (by simp [blks, ob, blkOf]; omega)) (by omega) (E2.trans ⟨e3.os, e3.tape, e3.output, e3.size, fun i hi => e3.block i (by omega) (by simp [blks, ob, blkOf]; omega)⟩) (n := n) (by unfold readP; rw [if_neg (by omega), hp]) rfl
    exact this
  | ok y =>
  obtain ⟨⟨j, g, out⟩, x⟩ := y
  rw [hp] at he
  obtain ⟨rfl, a3, l3, c3, rs3, p3, st3⟩ := he
  have hlen := patP_len (L s) 6 0 0 [] j g out x (by omega) hp
  have E3 : Ext (fun k => k = b4) w2 w3 := Ext.mono st3.1 fun k _ hk => by simpa [blks, ob, blkOf] using hk
  have B3 : Below w.heap.size w w3 := Ext.to (hb1 ▸ E2) E3 fun i hi => by omega
  have k3 : Blk w3.heap b1 37 _ := k1'.keep E3 (by omega)
  clear hat had hpat
  simp only []
  subst hq
  subst ha
  generalize ha : Act.put _ _ _ = a1
  have ha' : a1 = act [.string s, undef, .pointer (some ⟨b1, 0, none⟩), .pointer (some ⟨b4, 0, none⟩), .string s, .int .i64 ((ByteArray.size s : Nat) : Int), .bool false, undef, .string s, .agg #[.string s, .int .i64 0, .int .i64 0, .int .i64 0, .slice none 0 0], .pointer (some ⟨b4, 0, none⟩), .func (.func 73) #[] #[.pointer (some ⟨b1, 0, none⟩)], .pointer (some ⟨b4, 0, none⟩), .int .i64 x, undef, undef, undef, undef, undef, undef, undef, undef, undef, undef, undef, undef, undef, undef, undef, undef, undef, undef] [dfr b1] := by subst ha; kernel_rfl
  clear ha
  subst ha'
  show (Code.seq _ _).wp _ _ _ _
  refine wp_seq ?_
  rw [show headC 5 (bodyOf Try.f26) = .seq (.region 6 (opsC (fstC (headC 5 (bodyOf Try.f26)))) false) (.cond (.tmp 16) (.region 7 (opsC (thenC (sndC (headC 5 (bodyOf Try.f26))))) false) .skip) from by kernel_rfl]
  refine wp_seq ?_
  refine wp_region' [0, 1, 2] (by kernel_rfl) ?_
  generalize hq : Exit.then _ _ = Q
  generalize ha : act _ _ = a1
  refine wpOps_val (w' := w3) (i := 0) (v := .pointer (some ⟨b4, 0, none⟩)) ?_ ?_ ?_ ?_
  all_goals subst ha
  · kernel_rfl
  · kernel_rfl
  · kernel_rfl
  generalize ha : Act.put _ _ _ = a1
  refine wpOps_call (w' := w3) (i := 1) (f := 75) (args := #[.pointer (some ⟨b4, 0, none⟩)]) ?_ ?_ ?_ ?_
  · kernel_rfl
  · subst ha; kernel_rfl
  · subst ha; kernel_rfl
  refine (end_ok p3.rd).2.mono fun e w4 he => ?_
  obtain ⟨rfl, B4⟩ := he
  have p4 := p3.below B4
  have k4 := k3.below B4
  have B4' := B3.vstep B4
  simp only []
  subst ha
  generalize ha : Act.put _ _ _ = a1
  refine wpOps_val (w' := w4) (i := 2) (v := .bool (!decide (s.size ≤ j))) ?_ ?_ ?_ ?_
  all_goals subst ha
  · kernel_rfl
  · kernel_rfl
  · kernel_rfl
  subst hq
  show (Code.cond _ _ _).wp _ _ _ _
  refine wp_cond (t := !decide (s.size ≤ j)) (by kernel_rfl) ?_
  cases hd : decide (s.size ≤ j) with
  | false =>
    have hd' := of_decide_eq_false hd
    simp only [Bool.not_false, if_true]
    refine wp_region' [0, 1, 2, 3, 4, 5] (by kernel_rfl) ?_
    generalize hq : Exit.then _ _ = Q
    generalize ha : Act.put _ _ _ = a1
    have ha' : a1 = act [.string s, undef, .pointer (some ⟨b1, 0, none⟩), .pointer (some ⟨b4, 0, none⟩), .string s, .int .i64 ((ByteArray.size s : Nat) : Int), .bool false, undef, .string s, .agg #[.string s, .int .i64 0, .int .i64 0, .int .i64 0, .slice none 0 0], .pointer (some ⟨b4, 0, none⟩), .func (.func 73) #[] #[.pointer (some ⟨b1, 0, none⟩)], .pointer (some ⟨b4, 0, none⟩), .int .i64 x, .pointer (some ⟨b4, 0, none⟩), .bool false, .bool true, undef, undef, undef, undef, undef, undef, undef, undef, undef, undef, undef, undef, undef, undef, undef] [dfr b1] := by subst ha; kernel_rfl
    clear ha
    subst ha'
    generalize ha : act _ _ = a1
    refine wpOps_val (w' := w4) (i := 0) (v := .pointer (some ⟨b4, 0, none⟩)) ?_ ?_ ?_ ?_
    all_goals subst ha
    · kernel_rfl
    · kernel_rfl
    · kernel_rfl
    generalize ha : Act.put _ _ _ = a1
    refine wpOps_val (w' := w4) (i := 1) (v := .pointer (some ⟨b4, 0, none⟩)) ?_ ?_ ?_ ?_
    all_goals subst ha
    · kernel_rfl
    · kernel_rfl
    · kernel_rfl
    generalize ha : Act.put _ _ _ = a1
    refine wpOps_val (w' := w4) (i := 2) (v := .pointer (some ⟨b4, 0, none⟩)) ?_ ?_ ?_ ?_
    all_goals subst ha
    · kernel_rfl
    · kernel_rfl
    · kernel_rfl
    generalize ha : Act.put _ _ _ = a1
    refine wpOps_val (w' := w4) (i := 3) (v := .pointer (some ⟨b4, 1, none⟩)) ?_ ?_ ?_ ?_
    all_goals subst ha
    · kernel_rfl
    · kernel_rfl
    · kernel_rfl
    generalize ha : Act.put _ _ _ = a1
    have e1a : a1.eval (.tmp 20) = .pointer (some ⟨b4, 1, none⟩) := by subst ha; kernel_rfl
    refine wpOps_val (w' := w4) (i := 4) (v := .int .i64 j) ?_ ?_ ?_ ?_
    · kernel_rfl
    · subst ha; kernel_rfl
    · have key : ∀ o : Oper, o.op = .load 3 (.tmp 20) → (execOp a1.eval o).run Try.prog w4 = .ok (.value (.int .i64 j)) w4 := by
        intro o ho
        simp only [execOp, ho, e1a]
        refine (bind_run (a := .int .i64 j) (w' := w4) ?_).trans rfl
        unfold Instr.loadAt
        rw [bind_run (show (Instr.sureAddr (.pointer (some ⟨b4, 1, none⟩))).run Try.prog w4 = .ok ⟨b4, 1, none⟩ w4 from rfl)]
        exact loadVar_one (by kernel_rfl) (p4.rd.cell 1)
      exact key _ (by kernel_rfl)
    subst ha
    generalize ha : Act.put _ _ _ = a1
    refine wpOps_call (w' := w4) (i := 5) (f := 76) (args := #[.pointer (some ⟨b4, 0, none⟩), .int .i64 j]) ?_ ?_ ?_ ?_
    · kernel_rfl
    · subst ha; kernel_rfl
    · subst ha; kernel_rfl
    refine (fail_ok b4 j rfl w4).2.mono fun e w5 he => ?_
    obtain ⟨rfl, rfl⟩ := he
    have hat : a1.tmps.toList.getD 2 undef = .pointer (some ⟨b1, 0, none⟩) := by subst ha; kernel_rfl
    have had : a1.defers = [dfr b1] := by subst ha; kernel_rfl
    subst hq
    show Leaves _ _ _ _ _ _ _
    rw [had]
    subst hR
    exact leave_bad (fr := a1.tmps.toList) (w0 := w) (p := readP (L s)) hat k4 (by omega) B4' (n := j) (by unfold readP; rw [if_neg (by omega), hp]; simp only []; rw [if_pos (by omega)]) rfl
  | true =>
    have hd' := of_decide_eq_true hd
    simp only [Bool.not_true, Bool.false_eq_true, if_false]
    generalize hq : Exit.then _ _ = Q
    generalize ha : Act.put _ _ _ = a1
    have ha' : a1 = act (fr26 s b1 b4 x) [dfr b1] := by subst ha; kernel_rfl
    clear ha
    subst ha'
    refine wp_skip ?_
    subst hq
    show (tailC 6 (bodyOf Try.f26)).wp _ _ _ _
    have hv := vt26 s b1 b4 x (fun f w' => Leaves Try.prog Try.f26 f.toArray R [dfr b1] .returning w') (fun _ _ => False)
    refine wp_mono (wpC_sound (ds := [dfr b1]) _ _ scrT26 _ _ (by
      rw [hv]
      unfold VT26
      refine drw_in fun w5 q5 e5 => ?_
      have r5 : Rd w5 b4 s j g 0 a3 l3 c3 := Blk.keep p4.rd e5 fun h => h
      refine ⟨g, r5.cell 2, a3, l3, c3, r5.cell 4, stW_in (k4.keep e5 fun h => h) (by show 0 + 4 ≤ 4; decide) fun w6 s6 k6 e6 => ?_⟩
      have B5 := Ext.to B4' e5 fun _ h => h.elim
      have B6 := Ext.to B5 e6 fun i hi => by omega
      refine leave_ok rfl k6 ?_
      subst hR
      have hr : readP (L s) = ⟨true, 0, g, out⟩ := by unfold readP; rw [if_neg (by omega), hp]; simp only []; rw [if_neg (by omega)]
      rw [hr]
      have q6 : Pcs (b4 + 1) w6 a3 l3 c3 rs3 out := (p4.pcs.keep e5 fun _ _ h => h).keep e6 fun k hk hb => by have := p4.pcs.low k hk; omega
      exact ⟨a3, l3, c3, rs3, rfl, ⟨q6.row, q6.len, q6.len', q6.all, q6.nodup, fun b hb => by have := q6.low b hb; omega⟩, B6⟩)) fun e a' w' hg => ?_
    cases e with
    | normal => obtain ⟨f, rfl, _, s', h3⟩ := hg; exact h3
    | ret => obtain ⟨f, rfl, _, s', h3⟩ := hg; exact h3
    | panic c => exact hg.2.elim
    | outgrown => exact hg.elim
    | exit i => obtain ⟨f, _, _, s', h3⟩ := hg; exact h3.elim
    | goto l => obtain ⟨f, _, _, s', h3⟩ := hg; exact h3.elim
end Go.Proofs.Ytngbiaeliphdjaa.V
/- The reference's ReadPattern. No statement of the seat is proved here. -/
namespace Go.Proofs.Ytngbiaeliphdjaa.V
open Go.Vc Go.Proofs Go.RowKit
set_option linter.unusedVariables false
set_option linter.unusedSimpArgs false
theorem sreadPattern_ok (s : ByteArray) (w : World) : Cl Try.prog 27 [.string s] w (RetP (readP (L s)) w) := by
  apply vc27
  unfold V27
  have hsz := size_L s
  refine newC_in fun w3 s3 k3 e3 => ?_
  generalize hb2 : w.heap.size = b2 at *
  have B3 : Below w.heap.size w w3 := Ext.to (Below.refl _ _) e3 fun _ h => h.elim
  refine ⟨fun g1 => ?_, fun g1 => ?_⟩
  · have g1' := of_decide_eq_true g1
    refine stW_in k3 (by decide) fun w4 s4 k4 e4 => ?_
    refine ⟨_, k4.cell 0, _, k4.cell 1, _, k4.cell 2, _, _, _, k4.cell 3, ?_⟩
    have hr : readP (L s) = ⟨false, 120, 0, []⟩ := by unfold readP; rw [if_pos (by omega)]
    rw [hr]
    exact ⟨none, 0, 0, [], rfl, Pcs.nil _ _, Ext.to B3 e4 fun i hi => by omega⟩
  have g1' := of_decide_eq_false g1
  refine newC_in fun w10 s10 k10 e10 => ?_
  generalize hb9 : w3.heap.size = b9 at *
  have k3' := k3.keep e10 fun h => h
  have B10 : Below w.heap.size w w10 := Ext.to B3 e10 fun _ h => h.elim
  refine (salt_ok 6 (b9 + 1) w10 b9 s 0 0 none 0 0 [] [] 0 ⟨k10, Pcs.nil _ _, Nat.lt_succ_self _, by omega⟩ (by omega) (by omega) (by omega) (by omega) (by omega) (by omega)).use fun e w12 he => ?_
  have hX : ∀ {w' : World}, Ext (fun k => k = b9 ∨ k ∈ blks none []) w10 w' → Ext (fun k => k = b9) w10 w' := fun h => Ext.mono h fun _ _ h => by simpa [blks, ob, blkOf] using h
  -- the answers
  have hbad : ∀ {w' : World} {n : Nat}, Ext (fun k => k = b9) w10 w' → cellH w'.heap b9 2 = some (.int .i64 (n : Int)) → readP (L s) = ⟨false, n, 0, []⟩ → ∃ (n22 : Int), cellH w'.heap b9 2 = some (.int .i64 n22) ∧ (((decide ((n22 : Int) ≥ 0)) = true → ∃ (n23 : Int), cellH w'.heap b9 2 = some (.int .i64 n23) ∧ stW b2 0 [.bool false, .int .i64 n23, .int .i64 0, .slice none 0 0] (fun (w24 : World) => ∃ (t25 : Bool), cellH w24.heap b2 0 = some (.bool t25) ∧ ∃ (n26 : Int), cellH w24.heap b2 1 = some (.int .i64 n26) ∧ ∃ (n27 : Int), cellH w24.heap b2 2 = some (.int .i64 n27) ∧ ∃ (a28 : Option Addr), ∃ (l28 : Nat), ∃ (c28 : Nat), cellH w24.heap b2 3 = some (.slice a28 l28 c28) ∧ RetP (readP (L s)) w (.returned (.agg #[.bool t25, .int .i64 n26, .int .i64 n27, .slice a28 l28 c28])) w24) w') ∧ ((decide ((n22 : Int) ≥ 0)) = false → drw (fun (w29 : World) => ∃ (n30 : Int), cellH w29.heap b9 3 = some (.int .i64 n30) ∧ ∃ (a31 : Option Addr), ∃ (l31 : Nat), ∃ (c31 : Nat), cellH w29.heap b9 4 = some (.slice a31 l31 c31) ∧ stW b2 0 [.bool true, .int .i64 0, .int .i64 n30, .slice a31 l31 c31] (fun (w32 : World) => ∃ (t33 : Bool), cellH w32.heap b2 0 = some (.bool t33) ∧ ∃ (n34 : Int), cellH w32.heap b2 1 = some (.int .i64 n34) ∧ ∃ (n35 : Int), cellH w32.heap b2 2 = some (.int .i64 n35) ∧ ∃ (a36 : Option Addr), ∃ (l36 : Nat), ∃ (c36 : Nat), cellH w32.heap b2 3 = some (.slice a36 l36 c36) ∧ RetP (readP (L s)) w (.returned (.agg #[.bool t33, .int .i64 n34, .int .i64 n35, .slice a36 l36 c36])) w32) w29) w')) := by
    intro w' n hE hc hr
    have kk := k3'.keep hE (by omega)
    refine ⟨n, hc, fun _ => ⟨n, hc, stW_in kk (by show 0 + 4 ≤ 4; decide) fun w24 s24 k24 e24 => ?_⟩, fun g => ?_⟩
    · refine ⟨_, k24.cell 0, _, k24.cell 1, _, k24.cell 2, _, _, _, k24.cell 3, ?_⟩
      rw [hr]
      exact ⟨none, 0, 0, [], rfl, Pcs.nil _ _, Ext.to (Ext.to B10 hE fun i hi => by omega) e24 fun i hi => by omega⟩
    · have := of_decide_eq_false g; omega
  cases hp : patP (L s) 6 (0, 0, []) with
  | bad n =>
    rw [hp] at he
    obtain ⟨⟨x, rfl⟩, hm⟩ := Mid.of he
    have hr : readP (L s) = ⟨false, n, 0, []⟩ := by unfold readP; rw [if_neg (by omega), hp]
    refine ⟨x, rfl, (mid_more hm).ret fun w15 b15 => ⟨false, rfl, fun w' => Ext (fun k => k = b9) w10 w' ∧ cellH w'.heap b9 2 = some (.int .i64 (n : Int)), ⟨fun g => (by cases g), fun _ => ⟨hX (hm.below b15).1, mid_cell (hm.below b15)⟩⟩, ?_⟩⟩
    rintro dd w21 ⟨h21, hc⟩
    exact hbad h21 hc hr
  | ok y =>
  obtain ⟨⟨j, g, out⟩, x⟩ := y
  rw [hp] at he
  obtain ⟨rfl, a5, ln5, c5, rs5, p5, st5⟩ := he
  have hlen := patP_len (L s) 6 0 0 [] j g out x (by omega) hp
  refine ⟨x, rfl, (more_ok p5.rd).ret fun w15 b15 => ⟨_, rfl, ?_⟩⟩
  have p15 := p5.below b15
  have E15 : Ext (fun k => k = b9) w10 w15 := (hX st5.1).trans (Ext.of_below b15)
  refine ⟨fun w' => Ext (fun k => k = b9) w10 w' ∧ ((∃ i, readP (L s) = ⟨false, j, 0, []⟩ ∧ Sd w' b9 s i (j : Int) g a5 ln5 c5) ∨ (readP (L s) = ⟨true, 0, g, out⟩ ∧ SSt (b9 + 1) w' b9 s j g a5 ln5 c5 rs5 out)), ⟨fun g1 => ?_, fun g1 => ?_⟩, ?_⟩
  · have g1' := of_decide_eq_true g1
    refine (sfail_ok p15.rd).use fun e w18 he => ?_
    obtain ⟨rfl, h18, e18⟩ := he
    exact ⟨rfl, E15.trans e18, .inl ⟨j, by unfold readP; rw [if_neg (by omega), hp]; simp only []; rw [if_pos (by omega)], h18⟩⟩
  · have g1' := of_decide_eq_false g1
    exact ⟨E15, .inr ⟨by unfold readP; rw [if_neg (by omega), hp]; simp only []; rw [if_neg (by omega)], p15⟩⟩
  rintro dd w21 ⟨E21, ⟨i, hr, h21⟩ | ⟨hr, p21⟩⟩
  · exact hbad E21 (h21.cell 2) hr
  · refine ⟨-1, p21.rd.cell 2, fun g => absurd (of_decide_eq_true g) (by decide), fun _ => drw_in fun w29 q29 e29 => ?_⟩
    have p29 : SSt (b9 + 1) w29 b9 s j g a5 ln5 c5 rs5 out := p21.other e29 (fun h => h) fun _ _ h => h
    have E29 := E21.trans (Ext.mono e29 fun _ _ h => h.elim)
    refine ⟨_, p29.rd.cell 3, _, _, _, p29.rd.cell 4, stW_in (k3'.keep E29 (by omega)) (by show 0 + 4 ≤ 4; decide) fun w32 s32 k32 e32 => ?_⟩
    refine ⟨_, k32.cell 0, _, k32.cell 1, _, k32.cell 2, _, _, _, k32.cell 3, ?_⟩
    rw [hr]
    have q : Pcs (b9 + 1) w32 a5 ln5 c5 rs5 out := p29.pcs.keep e32 fun k hk hkb => by have := p29.pcs.low k hk; omega
    exact ⟨a5, ln5, c5, rs5, rfl, ⟨q.row, q.len, q.len', q.all, q.nodup, fun k hk => by have := q.low k hk; omega⟩, Ext.to (Ext.to B10 E29 fun i hi => by omega) e32 fun i hi => by omega⟩
end Go.Proofs.Ytngbiaeliphdjaa.V
/- The law on ReadPattern. No statement of the seat is proved here. -/
namespace Go.Proofs.Ytngbiaeliphdjaa.V
open Go.Vc Go.Proofs Go.RowKit
set_option linter.unusedVariables false
set_option linter.unusedSimpArgs false
/-- A pattern's value as a box on the heap holds it. -/
def Box (w : World) (b : Nat) (t : Bool) (n m : Int) (a : Option Addr) (l c : Nat) : Prop := Blk w.heap b 37 [.bool t, .int .i64 n, .int .i64 m, .slice a l c]
theorem box_in {w : World} {t : Bool} {n m : Int} {a : Option Addr} {l c : Nat} {K : Nat → World → Prop} (h : ∀ w2, w2.heap.size = w.heap.size + 1 → Box w2 w.heap.size t n m a l c → Below w.heap.size w w2 → K w.heap.size w2) :
    newC [.bool false, .int .i64 0, .int .i64 0, .slice none 0 0] 37 (fun b (w8 : World) => stW b 0 [.bool t, .int .i64 n, .int .i64 m, .slice a l c] (fun w9 => K b w9) w8) w := by
  refine newC_in fun w1 s1 k1 e1 => ?_
  refine stW_in k1 (by show 0 + 4 ≤ 4; decide) fun w2 s2 k2 e2 => ?_
  exact h w2 (by omega) k2 (Ext.to (Ext.to (Below.refl _ _) e1 fun _ h => h.elim) e2 fun i h => by omega)
theorem lawReadPattern_ok (s : ByteArray) (w : World) : Cl Try.prog 6 [.string s] w (RetB (.bool true) w) := by
  apply vc6
  unfold V6
  refine ⟨fun h1 => ⟨rfl, Below.refl _ _⟩, fun h1 => ?_⟩
  have hsm := readP_small (L s)
  have hspec := sreadPattern_ok s
  have himpl := readPattern_ok s
  generalize readP (L s) = P at *
  have hl : P.pieces.length ≤ 500 := by omega
  have hl' : P.pieces.length ≤ 1000 := by omega
  refine (hspec w).use fun e w1 he => ?_
  obtain ⟨a1, l1, c1, rs1, rfl, P1, B1⟩ := he
  refine ⟨_, _, _, a1, l1, c1, rfl, ?_⟩
  refine box_in fun w2 s2 x2 B2 => ?_
  have Z2 := B1.vstep B2
  refine (himpl w2).use fun e w3 he => ?_
  obtain ⟨a2, l2, c2, rs2, rfl, P2, B3⟩ := he
  refine ⟨_, _, _, a2, l2, c2, rfl, ?_⟩
  refine box_in fun w4 s4 x4 B4 => ?_
  have Z4 := (Z2.vstep B3).vstep B4
  -- what stands in this world
  have x2' : Box w4 w1.heap.size P.ok P.at_ P.groups a1 l1 c1 := (Blk.below x2 B3).below B4
  have P1' := ((P1.below B2).below B3).below B4
  have P2' := P2.below B4
  have hlt1 := P1.lt
  have hlt2 := P2.low
  have hlt3 := P2.lt
  have hs3 := B3.size
  refine ⟨_, x4.cell 0, _, x4.cell 1, _, x4.cell 2, _, _, _, x4.cell 3, _, x2'.cell 0, _, x2'.cell 1, _, x2'.cell 2, _, _, _, x2'.cell 3, ?_⟩
  refine (eqPattern_ok P2' P1' hl' hsm.1).ret fun w5 B5 => ⟨true, rfl, fun h => by simp at h, fun _ => ?_⟩
  have x4' : Box w5 w3.heap.size P.ok P.at_ P.groups a2 l2 c2 := Blk.below x4 B5
  refine ⟨_, x4'.cell 0, _, x4'.cell 1, _, x4'.cell 2, _, _, _, x4'.cell 3, ?_⟩
  refine (markPattern_ok (P2'.below B5) hsm.1 hl).use fun e w6 he => ?_
  obtain ⟨rfl, ⟨rs', P6, hbl⟩, e6⟩ := he
  refine ⟨_, rfl, ?_⟩
  have x6 : Box w6 w3.heap.size P.ok P.at_ P.groups a2 l2 c2 := Blk.keep x4' e6 fun h => by have := hlt3 _ h; omega
  have Z6 : Below w.heap.size w w6 := Ext.to (Z4.vstep B5) e6 fun i h => by have := hlt2 _ h; have := Z2.size; omega
  have P1'' : Pcs w.heap.size w6 a1 l1 c1 rs1 P.pieces := (P1'.below B5).keep e6 fun k hk h => by have := hlt1 k hk; have := hlt2 k h; omega
  have x2'' : Box w6 w1.heap.size P.ok P.at_ P.groups a1 l1 c1 := Blk.keep (Blk.below x2' B5) e6 fun h => by have := hlt2 _ h; omega
  refine ⟨_, x6.cell 0, _, x6.cell 1, _, x6.cell 2, _, _, _, x6.cell 3, ?_⟩
  refine (heldPattern_ok P6 hsm.1 hl).ret fun w7 B7 => ⟨_, rfl, fun g => by have := of_decide_eq_true g; omega, fun _ => ⟨fun g => by simp at g, fun _ => ?_⟩⟩
  refine (himpl w7).use fun e w8 he => ?_
  obtain ⟨a3, l3, c3, rs3, rfl, P8, B8⟩ := he
  refine ⟨_, _, _, a3, l3, c3, rfl, ?_⟩
  refine box_in fun w9 s9 x9 B9 => ?_
  have B69 := (B7.vstep B8).vstep B9
  have y2 : Box w9 w1.heap.size P.ok P.at_ P.groups a1 l1 c1 := Blk.below x2'' B69
  refine ⟨_, x9.cell 0, _, x9.cell 1, _, x9.cell 2, _, _, _, x9.cell 3, _, y2.cell 0, _, y2.cell 1, _, y2.cell 2, _, _, _, y2.cell 3, ?_⟩
  refine (eqPattern_ok (P8.below B9) (P1''.below B69) hl' hsm.1).ret fun w10 B10 => ⟨true, rfl, fun h => by simp at h, fun _ => ?_⟩
  have B610 := B69.vstep B10
  have x10 : Box w10 w3.heap.size P.ok P.at_ P.groups a2 l2 c2 := Blk.below x6 B610
  refine ⟨_, x10.cell 0, _, x10.cell 1, _, x10.cell 2, _, _, _, x10.cell 3, ?_⟩
  refine (heldPattern_ok (P6.below B610) hsm.1 hl).ret fun w11 B11 => ⟨_, rfl, fun g => by have := of_decide_eq_true g; omega, fun _ => ⟨fun g => by simp at g, fun _ => ⟨rfl, ?_⟩⟩⟩
  exact Z6.vstep (B610.vstep B11)
end Go.Proofs.Ytngbiaeliphdjaa.V
/- For the rows: what was read stays readable where nothing old has changed; bytes among the arguments. No statement of the seat is proved here. -/
namespace Go.Vc
open Go.RowKit
set_option linter.unusedVariables false
set_option linter.unusedSimpArgs false
theorem trodAll_carry {H : Type} {enc : TypeId × Value → H} {P : Program} {w w' : World} {spare : Nat → Bool} {held : Bool} (hb : Below w.heap.size w w') :
    ∀ {ts : List TypeId} {vs : List Value} {ds : List (DataW H)} {ps : List MemPlace}, DataW.TrodAll enc P w 0 spare held ts vs ds ps → DataW.TrodAll enc P w' 0 spare held ts vs ds ps
  | [], [], [], ps, h => h
  | t :: ts, v :: vs, d :: ds, ps, ⟨p, q, ⟨n, h1⟩, h2, h3⟩ =>
    ⟨p, q, ⟨n, DataW.trod_carry n t v.cells.toList (d, p) h1 fun x hx => hb.same (DataW.trod_lt n t v.cells.toList (d, p) h1 x hx)⟩, trodAll_carry hb h2, h3⟩
  | [], [], _ :: _, _, h => h.elim
  | [], _ :: _, _, _, h => h.elim
  | _ :: _, [], _, _, h => h.elim
  | _ :: _, _ :: _, [], _, h => h.elim
theorem trodAll_back {H : Type} {enc : TypeId × Value → H} {P : Program} {w w' : World} (hb : Below w.heap.size w w') (hl : laidOutB P = true) (hm : mapsRowed P = true)
    (hf : ((List.range P.types.size).all fun t => match P.underlying t with | some (.slice e) => decide (0 < P.cellsOf e) | _ => true) = true) {ts : List TypeId} {vs : List Value} {ds : List (DataW H)} {ps : List MemPlace}
    (ht : (ts.all fun t => decide (t < P.types.size)) = true) (h : DataW.TrodAll enc P w 0 (fun _ => true) true ts vs ds ps) : DataW.TrodAll enc P w' 0 (fun b => decide (b < w.heap.size)) true ts vs ds ps :=
  trodAll_carry hb (DataW.TrodAll.respare (kids_rows hl hm) (fun t e h1 h2 => slices_full_of P hf t e h1 h2) (fun t h1 => of_decide_eq_true (List.all_eq_true.1 ht t h1)) h fun p hp => decide_eq_true (DataW.TrodAll.lt h p hp))

/-- The given bytes: readable, below B. -/
def GBytes (w : World) (B : Nat) (a : Option Addr) (l : Nat) : Prop :=
  l ≤ 1048576 ∧ (l = 0 ∨ ∃ b o, a = some ⟨b, o, none⟩ ∧ b < B ∧ ∀ i, i < l → ∃ n : Int, 0 ≤ n ∧ n ≤ 255 ∧ cellH w.heap b (o + i) = some (.int .u8 n))
theorem open_bytes {H : Type} {enc : TypeId × Value → H} {P : Program} {w : World} {base : Nat} {spare : Nat → Bool} {held : Bool} {r : Reach} {b0 : Nat} {t e : TypeId} {v : Value} {d : DataW H} {ps : List MemPlace}
    (ht : P.underlying t = some (.slice e)) (he : P.underlying e = some (.int .u8)) (hc : P.cellsOf e = 1) (hval : Value.okWide P w r b0 t v) (hd : DataW.Trod enc P w base spare held t v d ps) :
    ∃ a l c, v = .slice a l c ∧ (l ≤ 1048576 → GBytes w w.heap.size a l) := by
  obtain ⟨a0, l0, c0, rfl⟩ := Go.WideShapes.okWide_slice ht hval
  obtain ⟨fuel, hf⟩ := hd
  refine ⟨a0, l0, c0, rfl, fun hl => ⟨hl, ?_⟩⟩
  rcases Go.ChangeShapes.open_ints ht he hc hf with ⟨h1, _⟩ | ⟨a, len, cap, zs, h1, _, hle, _, hlen, _, hcell, hwf⟩
  · simp [Value.cells] at h1
    obtain ⟨rfl, rfl, rfl⟩ := h1
    exact .inl rfl
  · simp [Value.cells] at h1
    obtain ⟨rfl, rfl, rfl⟩ := h1
    by_cases h0 : l0 = 0
    · exact .inl h0
    have hz : l0 ≤ zs.length := by rw [hlen]; split <;> omega
    obtain ⟨b, o, rfl, hcell2⟩ := ints_at hcell (by omega)
    have hcell' : ∀ i, i < zs.length → cellH w.heap b (o + i) = some (.int .u8 (zs.getD i 0)) := fun i hi => by
      rw [← cell?_plain]; exact hcell2 i hi
    refine .inr ⟨b, o, rfl, ?_, fun i hi => ⟨zs.getD i 0, ?_, ?_, hcell' i (by omega)⟩⟩
    · have := hcell' 0 (by omega)
      rcases Nat.lt_or_ge b w.heap.size with h | h
      · exact h
      · unfold cellH at this; rw [Array.getElem?_eq_none h] at this; cases this
    · have := bounds_u8 (hwf (zs.getD i 0) (by rw [List.getD_eq_getElem?_getD, List.getElem?_eq_getElem (by omega)]; exact List.getElem_mem _)); omega
    · have := bounds_u8 (hwf (zs.getD i 0) (by rw [List.getD_eq_getElem?_getD, List.getElem?_eq_getElem (by omega)]; exact List.getElem_mem _)); omega
end Go.Vc

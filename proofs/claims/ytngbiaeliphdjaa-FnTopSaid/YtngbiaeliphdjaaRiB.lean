/- Parts of a proof, put together: definitions, formulas of Go functions and lemmas. No statement of the seat is proved here. -/
import Derived.Laws.StructEq
import Derived.MapKept
import Derived.Test.YtngbiaeliphdjaaRiA
set_option maxHeartbeats 4000000
/- Sets of bytes in memory; the small functions of the program's reader. No statement of the seat is proved here. -/
namespace Go.Vc
open Go.RowKit
set_option linter.unusedVariables false
set_option linter.unusedSimpArgs false
/-- 256 bools. -/
def b256 (f : Nat → Bool) : List Value := (List.range 256).map fun n => .bool (f n)
theorem b256_length (f : Nat → Bool) : (b256 f).length = 256 := by simp [b256]
theorem b256_get (f : Nat → Bool) (i : Nat) (h : i < 256) : (b256 f)[i]? = some (.bool (f i)) := by simp [b256, h]
theorem b256_set (f : Nat → Bool) (i : Nat) (b : Bool) : (b256 f).set i (.bool b) = b256 (fun n => if n = i then b else f n) := by
  apply List.ext_getElem?
  intro n
  by_cases hn : n < 256
  · rw [b256_get _ _ hn, List.getElem?_set]
    by_cases h : i = n
    · subst h; simp [b256_length, hn]
    · rw [if_neg h, b256_get _ _ hn]; simp [Ne.symm h]
  · rw [List.getElem?_eq_none (by rw [List.length_set, b256_length]; omega), List.getElem?_eq_none (by rw [b256_length]; omega)]
theorem b256_false : b256 (fun _ => false) = List.replicate 256 (.bool false) := by simp [b256, List.map_const']
theorem b256_ext {f g : Nat → Bool} (h : ∀ n, n < 256 → f n = g n) : b256 f = b256 g := by
  unfold b256
  apply List.map_congr_left
  intro n hn
  rw [h n (List.mem_range.1 hn)]
theorem b256_inj {f g : Nat → Bool} (h : b256 f = b256 g) : ∀ n, n < 256 → f n = g n := by
  intro n hn
  have h1 := b256_get f n hn
  rw [h, b256_get g n hn] at h1
  simpa using h1.symm
theorem b256_scal (f : Nat → Bool) : (b256 f).all scal = true := by simp [b256, scal]
theorem stA_in {b n : Nat} {cs0 cs : List Value} {K : World → Prop} {w : World} {e : TypeId} (hb : Blk w.heap b e cs0) (hl : cs.length = n) (hl0 : cs0.length = n) (hs : cs.all scal = true)
    (h : ∀ w1, w1.heap.size = w.heap.size → Blk w1.heap b e cs → Ext (fun k => k = b) w w1 → K w1) : stA b 0 n ⟨cs⟩ K w := by
  refine ⟨hl, hs, hb.wrL (by rw [Nat.zero_add]; show cs.length ≤ _; omega), h _ setsW_size ?_ (Ext.vsets (S := fun k => k = b) (b := b) (.inl rfl) (Ext.refl _ _))⟩
  have := hb.sets (vs := cs) (o := 0)
  rw [segSet_eq _ _ _ (by omega)] at this
  simpa [hl, hl0, List.drop_of_length_le] using this
theorem Blk.all {h : Array Obj} {b : Nat} {e : TypeId} {cs : List Value} (hb : Blk h b e cs) : Vc.cellsAt h b 0 cs := hb.cellsAt (n := cs.length) (by simp) rfl
def rngC (l : List (Int × Int)) : List Value := l.flatMap fun r => [.int .i64 r.1, .int .i64 r.2]
theorem rngC_append (l m : List (Int × Int)) : rngC (l ++ m) = rngC l ++ rngC m := by simp [rngC]
theorem rngC_length (l : List (Int × Int)) : (rngC l).length = l.length * 2 := by
  induction l with
  | nil => rfl
  | cons b r ih => rw [show b :: r = [b] ++ r from rfl, rngC_append, List.length_append, ih]; simp [rngC]; omega
/-- The ending of a text that goes wrong. -/
def PanicB (n : Nat) : Ending := .panicked [{ v := .iface 90 (.int .i64 (n : Int)), recovered := false }]
end Go.Vc
namespace Go.Proofs.Ytngbiaeliphdjaa.V
open Go.Vc Go.Proofs Go.RowKit
set_option linter.unusedVariables false
set_option linter.unusedSimpArgs false

/-- The program's reader. -/
def Rd (w : World) (b : Nat) (s : ByteArray) (i g : Nat) (dp : Int) (a : Option Addr) (ln c : Nat) : Prop := Blk w.heap b 89 [.string s, .int .i64 i, .int .i64 g, .int .i64 dp, .slice a ln c]
theorem Rd.below {w w' : World} {b : Nat} {s : ByteArray} {i g : Nat} {dp : Int} {a : Option Addr} {ln c : Nat} (h : Rd w b s i g dp a ln c) (k : Below w.heap.size w w') : Rd w' b s i g dp a ln c := Blk.below h k
/-- The place is moved. -/
theorem Rd.mv {w : World} {b : Nat} {s : ByteArray} {i g : Nat} {dp : Int} {a : Option Addr} {ln c : Nat} (h : Rd w b s i g dp a ln c) {n : Int} {j : Nat} (hn : n = j) {K : World → Prop} (hK : ∀ w1, w1.heap.size = w.heap.size → Rd w1 b s j g dp a ln c → Ext (fun k => k = b) w w1 → K w1) :
    stW b (0 + 1) [.int .i64 n] K w := by
  subst hn
  exact stW_in h (by show 0 + 1 + 1 ≤ 5; decide) fun w1 s1 k1 e1 => hK w1 s1 k1 e1

theorem fail_ok (b : Nat) (n : Nat) {m : Int} (hm : m = n) (w : World) : Cl Try.prog 76 [.pointer (some ⟨b, 0, none⟩), .int .i64 m] w (fun e w' => e = PanicB n ∧ w' = w) := by
  subst hm
  apply vc76
  unfold V76
  exact ⟨rfl, rfl⟩
theorem end_ok {w : World} {b : Nat} {s : ByteArray} {i g : Nat} {dp : Int} {a : Option Addr} {ln c : Nat} (h : Rd w b s i g dp a ln c) : Cl Try.prog 75 [.pointer (some ⟨b, 0, none⟩)] w (RetB (.bool (decide (s.size ≤ i))) w) := by
  apply vc75
  unfold V75
  refine drw_in fun w1 q1 e1 => ?_
  have h1 := Blk.keep h e1 fun h => h
  refine ⟨i, h1.cell 1, s, h1.cell 0, ?_, Ext.to (Below.refl _ _) e1 fun _ h => h.elim⟩
  simp only [ge_iff_le, Int.ofNat_le]
theorem need_ret {w : World} {b : Nat} {s : ByteArray} {i g : Nat} {dp : Int} {a : Option Addr} {ln c : Nat} (h : Rd w b s i g dp a ln c) (hi : i < s.size) : Cl Try.prog 143 [.pointer (some ⟨b, 0, none⟩)] w (RetB (.int .u8 (at_ (L s) i)) w) := by
  apply vc143
  unfold V143
  refine (end_ok h).ret fun w1 b1 => ⟨_, rfl, fun g1 => ?_, fun g1 => ?_⟩
  · have := of_decide_eq_true g1; omega
  · refine drw_in fun w2 q2 e2 => ?_
    have h2 := Blk.keep (h.below b1) e2 fun h => h
    exact ⟨s, h2.cell 0, i, h2.cell 1, ⟨by omega, by omega⟩, rfl, Ext.to b1 e2 fun _ h => h.elim⟩
theorem need_bad {w : World} {b : Nat} {s : ByteArray} {i g : Nat} {dp : Int} {a : Option Addr} {ln c : Nat} (h : Rd w b s i g dp a ln c) (hi : ¬ i < s.size) : Cl Try.prog 143 [.pointer (some ⟨b, 0, none⟩)] w (fun e w' => e = PanicB s.size ∧ Below w.heap.size w w') := by
  apply vc143
  unfold V143
  refine (end_ok h).ret fun w1 b1 => ⟨_, rfl, fun g1 => ?_, fun g1 => ?_⟩
  · refine ⟨s, (h.below b1).cell 0, (fail_ok b s.size rfl w1).use fun e w2 he => ?_⟩
    obtain ⟨rfl, rfl⟩ := he
    exact ⟨rfl, b1⟩
  · have := of_decide_eq_false g1; omega
/-- One digit. -/
def hexP (l : Bytes) (i : Nat) : Pr Nat := if l.length ≤ i then .bad l.length else match hexv (at_ l i) with | none => .bad i | some v => .ok v
theorem hex_ok {w : World} {b : Nat} {s : ByteArray} {i g : Nat} {dp : Int} {a : Option Addr} {ln c : Nat} (h : Rd w b s i g dp a ln c) (hi : i < 100000) :
    Cl Try.prog 163 [.pointer (some ⟨b, 0, none⟩)] w (fun e w' => Ext (fun k => k = b) w w' ∧ match hexP (L s) i with | .bad n => e = PanicB n | .ok v => e = .returned (.int .i64 (v : Int)) ∧ Rd w' b s (i + 1) g dp a ln c) := by
  apply vc163
  unfold V163
  have hsz := size_L s
  by_cases hl : i < s.size
  · refine (need_ret h hl).ret fun w1 b1 => ⟨_, rfl, i, (h.below b1).cell 1, ?_⟩
    refine (h.below b1).mv (j := i + 1) (by rw [w64 (by omega)]; omega) fun w2 s2 k2 e2 => ?_
    have hE : Ext (fun k => k = b) w w2 := (Ext.of_below b1).trans e2
    have hlt := at_lt (L s) i
    have hP : hexP (L s) i = match hexv (at_ (L s) i) with | none => .bad i | some v => .ok v := by unfold hexP; rw [if_neg (by omega)]
    rw [hP]
    have hw : IntKind.wrap .i64 (((i + 1 : Nat) : Int) - 1) = (i : Int) := by rw [w64 (by omega)]; omega
    have hbad : ¬ (48 ≤ at_ (L s) i ∧ at_ (L s) i ≤ 57) → ¬ (97 ≤ at_ (L s) i ∧ at_ (L s) i ≤ 102) → ∀ F : Value → World → Prop, ∃ n8 : Int, cellH w2.heap b (0 + 1) = some (.int .i64 n8) ∧ Cl Try.prog 76 [.pointer (some ⟨b, 0, none⟩), .int .i64 (IntKind.wrap .i64 (n8 - 1))] w2 (retG F
        (fun c1 w' => Ext (fun k => k = b) w w' ∧ match (match hexv (at_ (L s) i) with | none => Pr.bad i | some v => Pr.ok v) with | .bad n => Ending.panicked c1 = PanicB n | .ok v => Ending.panicked c1 = Ending.returned (.int .i64 (v : Int)) ∧ Rd w' b s (i + 1) g dp a ln c)) := by
      intro n1 n2 F
      refine ⟨_, k2.cell 1, (fail_ok b i hw w2).use fun e w3 he => ?_⟩
      obtain ⟨rfl, rfl⟩ := he
      refine ⟨hE, ?_⟩
      rw [show hexv (at_ (L s) i) = none from by unfold hexv; rw [if_neg n1, if_neg n2]]
      rfl
    have ok1 : 48 ≤ at_ (L s) i → at_ (L s) i ≤ 57 → (Ext (fun k => k = b) w w2 ∧ match (match hexv (at_ (L s) i) with | none => Pr.bad i | some v => Pr.ok v) with | .bad n => Ending.returned (.int .i64 (IntKind.wrap .i64 (IntKind.wrap .u8 ((at_ (L s) i : Int) - 48)))) = PanicB n | .ok v => Ending.returned (.int .i64 (IntKind.wrap .i64 (IntKind.wrap .u8 ((at_ (L s) i : Int) - 48)))) = .returned (.int .i64 (v : Int)) ∧ Rd w2 b s (i + 1) g dp a ln c) := by
      intro h1 h2
      refine ⟨hE, ?_⟩
      rw [show hexv (at_ (L s) i) = some (at_ (L s) i - 48) from by unfold hexv; rw [if_pos (by omega)]]
      refine ⟨?_, k2⟩
      rw [w8, w64 (by omega)]; congr 2; omega
    have ok2 : 97 ≤ at_ (L s) i → at_ (L s) i ≤ 102 → (Ext (fun k => k = b) w w2 ∧ match (match hexv (at_ (L s) i) with | none => Pr.bad i | some v => Pr.ok v) with | .bad n => Ending.returned (.int .i64 (IntKind.wrap .i64 (IntKind.wrap .i64 (IntKind.wrap .u8 ((at_ (L s) i : Int) - 97)) + 10))) = PanicB n | .ok v => Ending.returned (.int .i64 (IntKind.wrap .i64 (IntKind.wrap .i64 (IntKind.wrap .u8 ((at_ (L s) i : Int) - 97)) + 10))) = .returned (.int .i64 (v : Int)) ∧ Rd w2 b s (i + 1) g dp a ln c) := by
      intro h1 h2
      refine ⟨hE, ?_⟩
      rw [show hexv (at_ (L s) i) = some (at_ (L s) i - 87) from by unfold hexv; rw [if_neg (by omega), if_pos (by omega)]]
      refine ⟨?_, k2⟩
      rw [w8, w64 (n := ((at_ (L s) i : Int) - 97) % 256) (by omega), w64 (by omega)]; congr 2; omega
    refine ⟨fun g1 => ⟨fun g2 => ?_, fun g2 => ⟨fun g3 => ⟨fun g4 => ?_, fun g4 => ?_⟩, fun g3 => ?_⟩⟩, fun g1 => ⟨fun g3 => ⟨fun g4 => ?_, fun g4 => ?_⟩, fun g3 => ?_⟩⟩ <;>
      simp only [decide_eq_true_eq, decide_eq_false_iff_not] at * <;>
      first
      | exact ok1 (by omega) (by omega)
      | exact ok2 (by omega) (by omega)
      | exact hbad (by omega) (by omega) _
  · refine (need_bad h hl).use fun e w1 he => ?_
    obtain ⟨rfl, b1⟩ := he
    refine ⟨Ext.of_below b1, ?_⟩
    unfold hexP
    rw [if_pos (by omega), ← hsz]
    rfl

/-! ### The bytes' sets -/
theorem add_ok {w : World} {b : Nat} {f : Nat → Bool} (h : Blk w.heap b 177 (b256 f)) (lo hi : Nat) (hh : hi < 256) :
    Cl Try.prog 145 [.pointer (some ⟨b, 0, none⟩), .int .i64 lo, .int .i64 hi] w (fun e w' => e = .returned (.tuple #[]) ∧ Blk w'.heap b 177 (b256 fun n => f n || decide (lo ≤ n ∧ n ≤ hi)) ∧ Ext (fun k => k = b) w w') := by
  apply vc145
  unfold V145
  refine ⟨fun k j w' => ∃ i : Nat, j = i ∧ lo ≤ i ∧ (i ≤ hi + 1 ∨ i = lo) ∧ k = hi + 1 - i ∧ Blk w'.heap b 177 (b256 fun n => f n || decide (lo ≤ n ∧ n < i)) ∧ Ext (fun k => k = b) w w', ⟨_, lo, rfl, Nat.le_refl _, .inr rfl, rfl, ?_, Ext.refl _ _⟩, ?_⟩
  · rw [b256_ext (g := f) fun n _ => by rw [decide_eq_false (by omega), Bool.or_false]]; exact h
  rintro k d j w1 ⟨i, rfl, hl, hi2, rfl, hB, hE⟩
  refine ⟨fun g => ?_, fun g => ?_⟩
  · have g' : i ≤ hi := by have := of_decide_eq_true g; omega
    refine ⟨⟨by omega, by show (i : Int) < 256; omega⟩, ?_⟩
    rw [show 0 + Int.toNat (i : Int) * 1 = i from by omega]
    refine stW_in hB (by rw [b256_length]; show i + 1 ≤ 256; omega) fun w2 s2 k2 e2 => ?_
    refine ⟨hi + 1 - (i + 1), by omega, i + 1, by rw [w64 (by omega)]; omega, by omega, .inl (by omega), rfl, ?_, hE.trans e2⟩
    have : segSet (b256 fun n => f n || decide (lo ≤ n ∧ n < i)) i [.bool true] = b256 fun n => f n || decide (lo ≤ n ∧ n < i + 1) := by
      show (b256 _).set i _ = _
      rw [b256_set]
      apply b256_ext
      intro n hn
      by_cases hni : n = i
      · subst hni; simp [hl]
      · rw [if_neg hni]; congr 1; apply decide_eq_decide.2; omega
    rw [← this]; exact k2
  · have g' : hi < i := by have := of_decide_eq_false g; omega
    refine ⟨rfl, ?_, hE⟩
    rw [b256_ext (g := fun n => f n || decide (lo ≤ n ∧ n < i)) fun n _ => by congr 1; apply decide_eq_decide.2; omega]
    exact hB
end Go.Proofs.Ytngbiaeliphdjaa.V
/- The pieces that are read are small. No statement of the seat is proved here. -/
namespace Go.Vc
set_option linter.unusedVariables false
set_option linter.unusedSimpArgs false
structure Small (p : Pc) : Prop where
  set : p.set.length ≤ 256
  kids : p.kids.length ≤ 121
def AllS (ps : List Pc) : Prop := ∀ p ∈ ps, Small p
theorem AllS.app {ps : List Pc} (h : AllS ps) {x : Pc} (hx : Small x) : AllS (ps ++ [x]) := by
  intro p hp
  rcases List.mem_append.1 hp with hp | hp
  · exact h p hp
  · rw [List.mem_singleton.1 hp]; exact hx
theorem runsF_length (f : Nat → Bool) : ∀ (k i : Nat), k = 256 - i → (runsF f i).length ≤ 256 - i := by
  intro k
  induction k using Nat.strongRecOn with
  | _ k ih =>
    intro i hk
    rw [runsF]
    split
    · split
      · have := runEnd_ge f i
        have := ih (256 - (runEnd f i + 1)) (by omega) (runEnd f i + 1) rfl
        simp only [List.length_cons]; omega
      · have := ih (256 - (i + 1)) (by omega) (i + 1) rfl; omega
    · simp
theorem small_set (f : Nat → Bool) : Small (pSet (runs f)) := ⟨by have := runsF_length f _ 0 rfl; show (runsF f 0).length ≤ 256; omega, by simp [pSet]⟩
theorem small_bare (n : Int) : Small ⟨n, [], 0, 0, false, 0, []⟩ := ⟨by simp, by simp⟩
def SubS (sub : St → Pr (St × Int)) : Prop := ∀ i g out j g' out' k, AllS out → sub (i, g, out) = .ok ((j, g', out'), k) → AllS out'
theorem atomP_small {l : Bytes} {sub : St → Pr (St × Int)} (hsub : SubS sub) {deep : Bool} {i g j g' : Nat} {out out' : List Pc} {k : Int} (hw : AllS out) (h : atomP sub deep l i g out = .ok ((j, g', out'), k)) : AllS out' := by
  unfold atomP at h
  split at h
  · split at h
    · cases h
    split at h
    · cases h
    · rename_i hs
      have h1 := hsub _ _ _ _ _ _ _ hw hs
      split at h
      · cases h
      split at h
      · cases h; exact h1.app ⟨by simp [pGrp], by simp [pGrp]⟩
      · cases h
  split at h
  · split at h
    · cases h
    · rename_i hs
      cases h
      refine hw.app ?_
      unfold setP at hs
      split at hs
      · cases hs
      · generalize clsP l _ true [] = r at hs
        cases r with
        | bad e => cases hs
        | ok y => cases hs; exact small_set _
  split at h
  · cases h; exact hw.app (small_set _)
  split at h
  · cases h; exact hw.app (small_bare 6)
  split at h
  · cases h; exact hw.app (small_bare 7)
  split at h
  · split at h
    · cases h
    · cases h; exact hw.app (small_set _)
  split at h
  · cases h
  · cases h; exact hw.app ⟨by simp [pSet], by simp [pSet]⟩
theorem pieceP_small {l : Bytes} {sub : St → Pr (St × Int)} (hsub : SubS sub) {deep : Bool} {i g j g' : Nat} {out out' : List Pc} {k : Int} (hw : AllS out) (h : pieceP sub deep l i g out = .ok ((j, g', out'), k)) : AllS out' := by
  unfold pieceP at h
  split at h
  · cases h
  · rename_i ha
    have h1 := atomP_small hsub hw ha
    unfold cntR at h
    split at h
    · cases h
    · cases h; exact h1
    · cases h; exact h1.app ⟨by simp [pRep], by simp [pRep]⟩
theorem seqL_small {l : Bytes} {sub : St → Pr (St × Int)} (hsub : SubS sub) {deep : Bool} (hl : l.length ≤ 120) : ∀ (n : Nat) {i g j g' : Nat} {out out' : List Pc} {kids : List Int} {k : Int}, n = l.length - i → i ≤ l.length → kids.length ≤ i → AllS out → seqL sub deep l i g out kids = .ok ((j, g', out'), k) → AllS out' := by
  intro n
  induction n using Nat.strongRecOn with
  | _ n ih =>
    intro i g j g' out out' kids k hn hi hk hw h
    rw [seqL] at h
    split at h
    · split at h
      · cases h
      · rename_i hp
        have h1 := pieceP_small hsub hw hp
        split at h
        · rename_i j1 _ _ _ hj
          by_cases hjl : j1 ≤ l.length
          · exact ih _ (by omega) rfl hjl (by simp; omega) h1 h
          · rw [seqL, dif_neg (by omega)] at h
            cases h
            exact h1.app ⟨by simp [pSeq], by simp [pSeq]; omega⟩
        · cases h
    · cases h
      exact hw.app ⟨by simp [pSeq], by simp [pSeq]; omega⟩
theorem altL_small {l : Bytes} {sub : St → Pr (St × Int)} (hsub : SubS sub) (hsl : SubOk l sub) {deep : Bool} (hl : l.length ≤ 120) : ∀ (n : Nat) {i g j g' : Nat} {out out' : List Pc} {kids : List Int} {k : Int}, n = l.length - i → i ≤ l.length → kids.length ≤ i + 1 → AllS out → altL sub deep l i g out kids = .ok ((j, g', out'), k) → AllS out' := by
  intro n
  induction n using Nat.strongRecOn with
  | _ n ih =>
    intro i g j g' out out' kids k hn hi hk hw h
    rw [altL] at h
    split at h
    · split at h
      · cases h
      · rename_i hp
        have h0 := seqL_len hsl _ rfl (by omega) hp
        have h1 := seqL_small hsub hl _ rfl (by omega) (by simp) hw hp
        split at h
        · exact ih _ (by omega) rfl (by omega) (by simp; omega) h1 h
        · cases h
    · unfold altE at h
      split at h
      · cases h; exact hw
      · cases h
        exact hw.app ⟨by simp [pAlt], by simp [pAlt]; omega⟩
theorem patP_small (l : Bytes) (hl : l.length ≤ 120) : ∀ (d : Nat) {i g j g' : Nat} {out out' : List Pc} {k : Int}, i ≤ l.length → AllS out → patP l d (i, g, out) = .ok ((j, g', out'), k) → AllS out' := by
  have step : ∀ (sub : St → Pr (St × Int)) (deep : Bool) {i g j g' : Nat} {out out' : List Pc} {k : Int}, SubS sub → SubOk l sub → i ≤ l.length → AllS out → (match seqL sub deep l i g out [] with
    | .bad e => .bad e
    | .ok ((j, g', out'), x) => altL sub deep l j g' out' [x]) = Pr.ok ((j, g', out'), k) → AllS out' := by
    intro sub deep i g j g' out out' k hs hsl hi hw h
    split at h
    · cases h
    · rename_i hq
      have h0 := seqL_len hsl _ rfl hi hq
      have h1 := seqL_small hs hl _ rfl hi (by simp) hw hq
      exact altL_small hs hsl hl _ rfl h0.2.1 (by simp) h1 h
  intro d
  induction d with
  | zero =>
    intro i g j g' out out' k hi hw h
    exact step _ _ (by intro i g out j g' out' k _ h; cases h) (by intro i g out j g' out' k _ h; cases h) hi hw h
  | succ d ih =>
    intro i g j g' out out' k hi hw h
    refine step _ _ ?_ (patP_len l d) hi hw h
    intro i g out j g' out' k hw h
    by_cases hi : i ≤ l.length
    · exact ih hi hw h
    · -- out of the text nothing is read
      have hs : ∀ (sub : St → Pr (St × Int)) (deep : Bool), seqL sub deep l i g out [] = .ok ((i, g, out ++ [pSeq []]), (out.length : Int)) := fun sub deep => seqL_out (by omega)
      have ha : ∀ (sub : St → Pr (St × Int)) (deep : Bool) (o : List Pc) (x : Int), altL sub deep l i g o [x] = .ok ((i, g, o), x) := fun sub deep o x => by rw [altL_out (by omega)]; rfl
      cases d with
      | zero => simp only [patP, hs, ha] at h; cases h; exact hw.app ⟨by simp [pSeq], by simp [pSeq]⟩
      | succ d => simp only [patP, hs, ha] at h; cases h; exact hw.app ⟨by simp [pSeq], by simp [pSeq]⟩
theorem readP_small (l : Bytes) : AllS (readP l).pieces ∧ (readP l).pieces.length ≤ 482 ∧ (readP l).groups ≤ 9 := by
  by_cases h : (readP l).ok = true
  · have h1 := readP_wf h
    refine ⟨?_, h1.2.2.2.1, h1.2.2.1⟩
    have hl := h1.2.2.2.2.1
    unfold readP
    rw [if_neg (by omega)]
    split
    · intro p hp; cases hp
    · rename_i hp
      split
      · intro p hp; cases hp
      · exact patP_small l hl 6 (by omega) (by intro p hp; cases hp) hp
  · have h' : (readP l).ok = false := by simpa using h
    have h1 := readP_bad h'
    rw [h1.1, h1.2]
    exact ⟨(by intro p hp; cases hp), by simp, by omega⟩
end Go.Vc
/- Escapes and parts of sets, in the program's reader. No statement of the seat is proved here. -/
namespace Go.Proofs.Ytngbiaeliphdjaa.V
open Go.Vc Go.Proofs Go.RowKit
set_option linter.unusedVariables false
set_option linter.unusedSimpArgs false

theorem inR_app (r r' : Rs) (n : Nat) : inR (r ++ r') n = (inR r n || inR r' n) := by simp [inR]
theorem inR_one (lo hi n : Nat) : inR [(lo, hi)] n = decide (lo ≤ n ∧ n ≤ hi) := by simp [inR]
theorem addR_ok {w : World} {b : Nat} {r : Rs} (h : Blk w.heap b 177 (b256 (inR r))) (lo hi : Nat) (hh : hi < 256) {lo' hi' : Int} (e1 : lo' = lo) (e2 : hi' = hi) :
    Cl Try.prog 145 [.pointer (some ⟨b, 0, none⟩), .int .i64 lo', .int .i64 hi'] w (fun e w' => e = .returned (.tuple #[]) ∧ Blk w'.heap b 177 (b256 (inR (r ++ [(lo, hi)]))) ∧ Ext (fun k => k = b) w w') := by
  subst e1 e2
  refine (add_ok h lo hi hh).use fun e w' he => ?_
  rw [b256_ext (g := inR (r ++ [(lo, hi)])) fun n _ => by rw [inR_app, inR_one]] at he
  exact he
theorem inR_nil : inR [] = fun _ => false := by funext n; rfl
/-- The whole array is stored to itself and given back. -/
theorem self_out {w w0 : World} {b k : Nat} {f : Nat → Bool} {t : Bool} {R : Ending → World → Prop} (h : Blk w.heap k 177 (b256 f)) (hR : ∀ w', Ext (fun x => x = k) w w' → R (.returned (.tuple #[.agg ⟨b256 f⟩, .bool t])) w') :
    ∃ (cs37 : Array Value), cs37.size = 256 ∧ cellsAt w.heap k 0 cs37.toList ∧ stA k 0 256 cs37 (fun (w38) => ∃ (cs39 : Array Value), cs39.size = 256 ∧ cellsAt w38.heap k 0 cs39.toList ∧ R (.returned (.tuple #[.agg cs39, .bool t])) w38) w := by
  refine ⟨⟨b256 f⟩, by simp [b256_length], h.all, ?_⟩
  refine stA_in h (b256_length f) (b256_length f) (b256_scal f) fun w1 s1 k1 e1 => ?_
  exact ⟨⟨b256 f⟩, by simp [b256_length], k1.all, hR w1 e1⟩

/-- What an escape gives. -/
def EscR (w : World) (b : Nat) (s : ByteArray) (g : Nat) (dp : Int) (a : Option Addr) (ln c : Nat) (r : Pr (Nat × Rs × Option Nat)) : Ending → World → Prop := fun e w' => Ext (fun k => k = b) w w' ∧
  match r with
  | .bad n => e = PanicB n
  | .ok (j, rs, o) => e = .returned (.tuple #[.agg ⟨b256 (inR rs)⟩, .bool o.isNone]) ∧ Rd w' b s j g dp a ln c

theorem escape_ok {w : World} {b : Nat} {s : ByteArray} {i g : Nat} {dp : Int} {a : Option Addr} {ln c : Nat} (h : Rd w b s i g dp a ln c) (hi : i < 10000) :
    Cl Try.prog 147 [.pointer (some ⟨b, 0, none⟩)] w (EscR w b s g dp a ln c (escP (L s) (i + 1))) := by
  apply vc147
  unfold V147
  have hsz := size_L s
  have hbl := h.lt
  refine newC_in fun w4 s4 k4 e4 => ?_
  have h4 : Rd w4 b s i g dp a ln c := Blk.keep h e4 fun h => h
  refine ⟨i, h4.cell 1, ?_⟩
  refine h4.mv (j := i + 1) (by rw [w64 (by omega)]; omega) fun w6 s6 h6 e6 => ?_
  have k6 := k4.keep e6 (by omega)
  have E6 : Ext (fun k => k = b) w w6 := (Ext.mono e4 fun _ _ h => h.elim).trans e6
  by_cases hl : i + 1 < s.size
  case neg =>
    refine (need_bad h6 hl).use fun e w8 he => ?_
    obtain ⟨rfl, b8⟩ := he
    refine ⟨E6.trans (Ext.of_below b8), ?_⟩
    unfold escP
    rw [if_pos (by omega), ← hsz]; rfl
  refine (need_ret h6 hl).ret fun w8 b8 => ⟨_, rfl, ?_⟩
  have h8 := h6.below b8
  have k8 := k6.below b8
  rw [← b256_false, ← inR_nil] at k8
  have E8 : Ext (fun k => k = b) w w8 := E6.trans (Ext.of_below b8)
  have hc := at_lt (L s) (i + 1)
  generalize hcc : at_ (L s) (i + 1) = ch at *
  have hP : ch ≠ 120 → escP (L s) (i + 1) = match escC ch with | some (r, o) => .ok (i + 2, r, o) | none => .bad (i + 1) := by
    intro h1; unfold escP; rw [if_neg (by omega), hcc, if_neg h1]; try rfl
  have hbad : escC ch = none → ch ≠ 120 → ∀ F : Value → World → Prop, ∃ n8 : Int, cellH w8.heap b (0 + 1) = some (.int .i64 n8) ∧ Cl Try.prog 76 [.pointer (some ⟨b, 0, none⟩), .int .i64 n8] w8 (retG F
        (fun c1 w' => EscR w b s g dp a ln c (escP (L s) (i + 1)) (.panicked c1) w')) := by
    intro n1 n2 F
    refine ⟨_, h8.cell 1, (fail_ok b (i + 1) rfl w8).use fun e w3 he => ?_⟩
    obtain ⟨rfl, rfl⟩ := he
    refine ⟨E8, ?_⟩
    rw [hP n2, n1]; rfl
  refine ⟨fun n w' => ∃ r o, escC ch = some (r, o) ∧ ch ≠ 120 ∧ Rd w' b s (i + 1) g dp a ln c ∧ Ext (fun k => k = b) w w' ∧
      ((o = none ∧ n = -1 ∧ Blk w'.heap w.heap.size 177 (b256 (inR r))) ∨ (∃ v, o = some v ∧ r = [(v, v)] ∧ v < 256 ∧ n = v ∧ Blk w'.heap w.heap.size 177 (b256 (inR [])))), ?_, ?_⟩
  · have jone : ∀ {n : Int} {v : Nat}, escC ch = some ([(v, v)], some v) → ch ≠ 120 → n = v → v < 256 → ∃ r o, escC ch = some (r, o) ∧ ch ≠ 120 ∧ Rd w8 b s (i + 1) g dp a ln c ∧ Ext (fun k => k = b) w w8 ∧
      ((o = none ∧ n = -1 ∧ Blk w8.heap w.heap.size 177 (b256 (inR r))) ∨ (∃ v, o = some v ∧ r = [(v, v)] ∧ v < 256 ∧ n = v ∧ Blk w8.heap w.heap.size 177 (b256 (inR [])))) :=
      fun h1 h2 h3 h4 => ⟨_, _, h1, h2, h8, E8, .inr ⟨_, rfl, rfl, h4, h3, k8⟩⟩
    have hkeep : ∀ {w' : World}, Ext (fun k => k = w.heap.size) w8 w' → Rd w' b s (i + 1) g dp a ln c ∧ Ext (fun k => k = b) w w' := fun e =>
      ⟨Blk.keep h8 e (by omega), E8.step e fun k hk h => by omega⟩
    refine ⟨fun g1 => ?_, fun g1 => ⟨fun g2 => ?_, fun g2 => ⟨fun g3 => ?_, fun g3 => ⟨fun g4 => ?_, fun g4 => ⟨fun g5 => ?_, fun g5 => ⟨fun g6 => ?_, fun g6 => ⟨fun g7 => ?_, fun g7 => ?_⟩⟩⟩⟩⟩⟩⟩
    all_goals try simp only [beq_iff_eq, beq_eq_false_iff_ne, ne_eq] at g1
    all_goals try simp only [beq_iff_eq, beq_eq_false_iff_ne, ne_eq] at g2
    all_goals try simp only [beq_iff_eq, beq_eq_false_iff_ne, ne_eq] at g3
    all_goals try simp only [beq_iff_eq, beq_eq_false_iff_ne, ne_eq] at g4
    all_goals try simp only [beq_iff_eq, beq_eq_false_iff_ne, ne_eq] at g5
    all_goals try simp only [beq_iff_eq, beq_eq_false_iff_ne, ne_eq] at g6
    all_goals try simp only [beq_iff_eq, beq_eq_false_iff_ne, ne_eq] at g7
    · obtain rfl : ch = 100 := by omega
      refine (addR_ok k8 48 57 (by decide) rfl rfl).use fun e w' he => ?_
      obtain ⟨rfl, k9, e9⟩ := he
      exact ⟨rfl, _, _, rfl, by decide, (hkeep e9).1, (hkeep e9).2, .inl ⟨rfl, rfl, k9⟩⟩
    · obtain rfl : ch = 119 := by omega
      refine (addR_ok k8 48 57 (by decide) rfl rfl).use fun e w9 he => ?_
      obtain ⟨rfl, k9, e9⟩ := he
      refine ⟨rfl, (addR_ok k9 65 90 (by decide) rfl rfl).use fun e w10 he => ?_⟩
      obtain ⟨rfl, k10, e10⟩ := he
      refine ⟨rfl, (addR_ok k10 97 122 (by decide) rfl rfl).use fun e w11 he => ?_⟩
      obtain ⟨rfl, k11, e11⟩ := he
      refine ⟨rfl, (addR_ok k11 95 95 (by decide) rfl rfl).use fun e w12 he => ?_⟩
      obtain ⟨rfl, k12, e12⟩ := he
      have e13 := ((e9.trans e10).trans e11).trans e12
      exact ⟨rfl, _, _, rfl, by decide, (hkeep e13).1, (hkeep e13).2, .inl ⟨rfl, rfl, k12⟩⟩
    · obtain rfl : ch = 115 := by omega
      refine (addR_ok k8 9 10 (by decide) rfl rfl).use fun e w9 he => ?_
      obtain ⟨rfl, k9, e9⟩ := he
      refine ⟨rfl, (addR_ok k9 13 13 (by decide) rfl rfl).use fun e w10 he => ?_⟩
      obtain ⟨rfl, k10, e10⟩ := he
      refine ⟨rfl, (addR_ok k10 32 32 (by decide) rfl rfl).use fun e w11 he => ?_⟩
      obtain ⟨rfl, k11, e11⟩ := he
      have e13 := (e9.trans e10).trans e11
      exact ⟨rfl, _, _, rfl, by decide, (hkeep e13).1, (hkeep e13).2, .inl ⟨rfl, rfl, k11⟩⟩
    · obtain rfl : ch = 110 := by omega
      exact jone rfl (by decide) rfl (by decide)
    · obtain rfl : ch = 116 := by omega
      exact jone rfl (by decide) rfl (by decide)
    · obtain rfl : ch = 114 := by omega
      exact jone rfl (by decide) rfl (by decide)
    · obtain rfl : ch = 120 := by omega
      have hP' : escP (L s) (i + 1) = escX (L s) (i + 1) := by unfold escP; rw [if_neg (by omega), hcc, if_pos rfl]
      rw [hP']
      refine ⟨_, h8.cell 1, ?_⟩
      refine h8.mv (j := i + 2) (by rw [w64 (by omega)]; omega) fun w9 s9 h9 e9 => ?_
      have E9 := E8.trans e9
      have k9 := k8.keep e9 (by omega)
      refine (hex_ok h9 (by omega)).use fun e w10 he => ?_
      obtain ⟨e10, he⟩ := he
      have E10 := E9.trans e10
      have k10 := k9.keep e10 (by omega)
      unfold hexP at he
      unfold escX
      by_cases h12 : (L s).length ≤ i + 2
      · rw [if_pos h12] at he
        subst he
        rw [if_pos (show (L s).length ≤ i + 1 + 1 by omega)]
        exact ⟨E10, rfl⟩
      rw [if_neg h12] at he
      rw [if_neg (show ¬ (L s).length ≤ i + 1 + 1 by omega), show i + 1 + 1 = i + 2 from rfl, show i + 1 + 2 = i + 3 from rfl, show i + 1 + 3 = i + 4 from rfl]
      cases hh : hexv (at_ (L s) (i + 2)) with
      | none => rw [hh] at he; subst he; exact ⟨E10, rfl⟩
      | some v1 =>
        rw [hh] at he
        obtain ⟨rfl, h10⟩ := he
        refine ⟨_, rfl, (hex_ok h10 (by omega)).use fun e w11 he => ?_⟩
        obtain ⟨e11, he⟩ := he
        have E11 := E10.trans e11
        have k11 := k10.keep e11 (by omega)
        unfold hexP at he
        simp only []
        by_cases h13 : (L s).length ≤ i + 3
        · rw [if_pos h13] at he
          subst he
          rw [if_pos h13]
          exact ⟨E11, rfl⟩
        rw [if_neg h13] at he
        rw [if_neg h13]
        cases hh2 : hexv (at_ (L s) (i + 3)) with
        | none => rw [hh2] at he; subst he; exact ⟨E11, rfl⟩
        | some v2 =>
          rw [hh2] at he
          obtain ⟨rfl, h11⟩ := he
          have := hexv_lt hh
          have := hexv_lt hh2
          have hw : IntKind.wrap .i64 (IntKind.wrap .i64 (16 * (v1 : Int)) + v2) = ((16 * v1 + v2 : Nat) : Int) := by rw [w64 (n := 16 * (v1 : Int)) (by omega), w64 (by omega)]; omega
          refine ⟨_, rfl, (addR_ok k11 (16 * v1 + v2) (16 * v1 + v2) (by omega) hw hw).use fun e w12 he => ?_⟩
          obtain ⟨rfl, k12, e12⟩ := he
          refine ⟨rfl, self_out (w0 := w) (b := b) k12 fun w13 e13 => ?_⟩
          refine ⟨E11.step (e12.trans e13) fun k hk h => by omega, rfl, ?_⟩
          exact Blk.keep h11 (e12.trans e13) (by omega)
    · have hn : ch ≠ 120 := by omega
      repeat' (apply And.intro <;> intro g)
      all_goals simp only [decide_eq_true_eq, decide_eq_false_iff_not, Bool.not_eq_true', Bool.not_eq_false', ge_iff_le] at *
      all_goals first
        | exact hbad (by unfold escC; rw [if_neg (by omega), if_neg (by omega), if_neg (by omega), if_neg (by omega), if_neg (by omega), if_neg (by omega), if_neg (by omega)]) hn _
        | exact jone (v := ch) (by unfold escC; rw [if_neg (by omega), if_neg (by omega), if_neg (by omega), if_neg (by omega), if_neg (by omega), if_neg (by omega), if_pos (by omega)]) hn (by rw [w64 (by omega)]) hc
  · rintro d n w9 ⟨r, o, hr, hn, h9, E9, ho⟩
    refine ⟨_, h9.cell 1, ?_⟩
    refine h9.mv (j := i + 2) (by rw [w64 (by omega)]; omega) fun w10 s10 h10 e10 => ?_
    have hP' : escP (L s) (i + 1) = .ok (i + 2, r, o) := by rw [hP hn, hr]
    rw [hP']
    rcases ho with ⟨rfl, rfl, hB⟩ | ⟨v, rfl, rfl, hv, rfl, hB⟩
    · refine ⟨fun g => by simp at g, fun _ => self_out (w0 := w) (b := b) (hB.keep e10 (by omega)) fun w13 e13 => ?_⟩
      exact ⟨(E9.trans e10).step e13 fun k hk h => by omega, rfl, Blk.keep h10 e13 (by omega)⟩
    · refine ⟨fun g => ?_, fun g => by have := of_decide_eq_false g; omega⟩
      refine (addR_ok (hB.keep e10 (by omega)) v v hv rfl rfl).use fun e w12 he => ?_
      obtain ⟨rfl, k12, e12⟩ := he
      have hd : decide ((v : Int) < 0) = false := by simp
      rw [hd]
      refine ⟨rfl, self_out (w0 := w) (b := b) k12 fun w13 e13 => ?_⟩
      exact ⟨(E9.trans e10).step (e12.trans e13) fun k hk h => by omega, rfl, Blk.keep h10 (e12.trans e13) (by omega)⟩
end Go.Proofs.Ytngbiaeliphdjaa.V
/- A set's least byte, its ranges, its parts, in the program's reader. No statement of the seat is proved here. -/
namespace Go.Proofs.Ytngbiaeliphdjaa.V
open Go.Vc Go.Proofs Go.RowKit
set_option linter.unusedVariables false
set_option linter.unusedSimpArgs false

theorem b256_size (f : Nat → Bool) : Array.size (⟨b256 f⟩ : Array Value) = 256 := b256_length f
theorem idx256 (f : Nat → Bool) (n : Nat) (h : n < 256) (w : World) : (Instr.index 177 (.agg ⟨b256 f⟩) (.int .i64 n)).run Try.prog w = .ok (.bool (f n)) w := by
  unfold Instr.index
  rw [bind_run (show (asIntOf (.int .i64 (n : Int))).run Try.prog w = .ok (.i64, (n : Int)) w from rfl)]
  simp only []
  rw [bind_run (underlying_run (show Try.prog.underlying 177 = some (.array 256 4) from by kernel_rfl) w)]
  simp only []
  rw [if_pos (by omega), bind_run (sizeOf_run (show sizeP Try.prog 4 = some 1 from by kernel_rfl) w)]
  rw [show Int.toNat (n : Int) * 1 = n from by omega]
  exact part_run_one (show Try.prog.underlying 4 = some .bool from by kernel_rfl) (by intro fs h; cases h) (by intro n e h; cases h) (by simpa using b256_get f n h) w
theorem low_ok (f : Nat → Bool) (v : Nat) (hv : v < 256) (h1 : f v = true) (h0 : ∀ n, n < v → f n = false) (w : World) : Cl Try.prog 162 [.agg ⟨b256 f⟩] w (RetB (.int .i64 v) w) := by
  apply vc162
  unfold V162
  refine newC_in fun w1 s1 k1 e1 => ?_
  have hb : Below w.heap.size w w1 := Ext.to (Below.refl _ _) e1 fun _ h => h.elim
  refine ⟨⟨b256 f⟩, by simp [b256_length], k1.all, fun k n w' => ∃ i : Nat, n = i ∧ i ≤ v ∧ k = 256 - i ∧ Below w.heap.size w w', ⟨_, 0, rfl, by omega, rfl, hb⟩, ?_⟩
  rintro k d n w2 ⟨i, rfl, hi, rfl, hb2⟩
  refine ⟨fun g => ?_, fun g => by have := of_decide_eq_false g; omega⟩
  refine ⟨f i, idx256 f i (by omega) w2, fun g1 => ?_, fun g1 => ?_⟩
  · have : i = v := by
      rcases Nat.lt_or_ge i v with h | h
      · rw [h0 i h] at g1; cases g1
      · omega
    subst this
    exact ⟨rfl, hb2⟩
  · have : i ≠ v := by rintro rfl; rw [h1] at g1; cases g1
    exact ⟨256 - (i + 1), by omega, i + 1, by rw [w64 (by omega)]; omega, by omega, rfl, hb2⟩

theorem elemRng : Elem Try.prog 108 134 2 16 := ⟨by kernel_rfl, by kernel_rfl, by kernel_rfl, ⟨[.int .i64 0, .int .i64 0], by kernel_rfl, rfl⟩⟩
theorem runEnd_lt (f : Nat → Bool) (j : Nat) (h : j < 256) : runEnd f j < 256 := by
  induction hk : 255 - j using Nat.strongRecOn generalizing j with
  | _ k ih =>
    rw [runEnd]
    split
    · split
      · exact ih (255 - (j + 1)) (by omega) (j + 1) (by omega) rfl
      · omega
    · omega
theorem ranges_ok {w : World} {b : Nat} {f : Nat → Bool} (h : Blk w.heap b 177 (b256 f)) :
    Cl Try.prog 146 [.pointer (some ⟨b, 0, none⟩)] w (fun e w' => ∃ a c, e = .returned (.slice a (runs f).length c) ∧ Row w.heap.size w' 134 2 a (runs f).length c (rngC (runs f)) ∧ Below w.heap.size w w') := by
  apply vc146
  unfold V146
  have hbl := h.lt
  refine ⟨fun k a l c n w' => ∃ (i : Nat) (done : List (Int × Int)), n = i ∧ k = 256 - i ∧ l = done.length ∧ done ++ runsF f i = runs f ∧ done.length ≤ i ∧ i ≤ 256 ∧ Row w.heap.size w' 134 2 a l c (rngC done) ∧ Below w.heap.size w w',
    ⟨_, 0, [], rfl, rfl, rfl, rfl, by simp, by omega, Row.nil _ _ (Nat.le_refl _), Below.refl _ _⟩, ?_⟩
  rintro k d a l c n w1 ⟨i, done, rfl, rfl, rfl, hd, hdl, hi, hR, hb⟩
  refine ⟨fun g => ?_, fun g => ?_⟩
  · have g' : i < 256 := by have := of_decide_eq_true g; omega
    have hB := h.below hb
    refine ⟨⟨by omega, by show (i : Int) < 256; omega⟩, f i, ?_, fun g1 => ?_, fun g1 => ?_⟩
    · rw [hB.cell, show 0 + Int.toNat (i : Int) * 1 = i from by omega]; exact b256_get f i g'
    · have hf : f i = false := by simpa using g1
      refine ⟨256 - (i + 1), by omega, i + 1, done, by rw [w64 (by omega)]; omega, rfl, rfl, ?_, by omega, by omega, hR, hb⟩
      rw [← hd]; conv => rhs; rw [runsF]
      rw [dif_pos g', if_neg (by rw [hf]; simp)]
    · have hf : f i = true := by simpa using g1
      have hrun : runsF f i = ((i : Int), (runEnd f i : Int)) :: runsF f (runEnd f i + 1) := by rw [runsF, dif_pos g', if_pos hf]
      have hre := runEnd_lt f i g'
      have hrg := runEnd_ge f i
      refine ⟨fun k n w' => ∃ j : Nat, n = j ∧ i ≤ j ∧ j < 256 ∧ k = 256 - j ∧ runEnd f j = runEnd f i ∧ Row w.heap.size w' 134 2 a done.length c (rngC done) ∧ Below w.heap.size w w', ⟨_, i, rfl, Nat.le_refl _, g', rfl, rfl, hR, hb⟩, ?_⟩
      rintro k d n w2 ⟨j, rfl, hij, hj, rfl, hje, hR2, hb2⟩
      have hfin : runEnd f i = j → newC [.int .i64 (i : Int), .int .i64 (j : Int)] 134 (fun (b20 : Nat) (w21 : World) => ∃ (a22 : Option Addr), ∃ (l22 : Nat), ∃ (c22 : Nat), ∃ (w23 : World), (Builtin.append_ #[108, 108] 108 #[.slice a done.length c, .slice (some ⟨b20, 0, none⟩) 1 1]).run Try.prog w21 = .ok (.slice a22 l22 c22) w23 ∧ (∃ (m24 : Nat), m24 < 256 - i ∧
          (fun (k : Nat) (a : Option Addr) (l c : Nat) (n : Int) (w' : World) => ∃ (i : Nat) (done : List (Int × Int)), n = i ∧ k = 256 - i ∧ l = done.length ∧ done ++ runsF f i = runs f ∧ done.length ≤ i ∧ i ≤ 256 ∧ Row w.heap.size w' 134 2 a l c (rngC done) ∧ Below w.heap.size w w') m24 a22 l22 c22 (IntKind.wrap .i64 ((j : Int) + 1)) w23)) w2 := by
        intro hjj
        obtain ⟨a3, c3, w3, r1, r2, r3⟩ := hR2.app1 elemRng (ys := [.int .i64 (i : Int), .int .i64 (j : Int)]) (n := 1) rfl rfl (by omega) (by omega)
        refine ⟨a3, _, c3, w3, r1, 256 - (j + 1), by omega, j + 1, done ++ [((i : Int), (j : Int))], by rw [w64 (by omega)]; omega, rfl, by simp, ?_, by simp; omega, by omega, ?_, r3.step hb2 (Nat.le_refl _)⟩
        · rw [← hd, hrun, hjj]; simp
        · rw [rngC_append]; exact r2
      refine ⟨fun g2 => ?_, fun g2 => ?_⟩
      · have g2' : j < 255 := by have := of_decide_eq_true g2; omega
        have e1 : IntKind.wrap .i64 ((j : Int) + 1) = ((j + 1 : Nat) : Int) := by rw [w64 (by omega)]; omega
        have hst : runEnd f j = if f (j + 1) then runEnd f (j + 1) else j := by rw [runEnd, dif_pos g2']
        refine ⟨⟨by omega, by show IntKind.wrap .i64 ((j : Int) + 1) < 256; omega⟩, f (j + 1), ?_, fun g3 => ?_, fun g3 => ?_⟩
        · rw [(h.below hb2).cell, e1, show 0 + Int.toNat ((j + 1 : Nat) : Int) * 1 = j + 1 from by omega]; exact b256_get f (j + 1) (by omega)
        · refine ⟨256 - (j + 1), by omega, j + 1, e1, by omega, by omega, rfl, ?_, hR2, hb2⟩
          rw [← hje, hst, if_pos g3]
        · exact hfin (by rw [← hje, hst, if_neg (by rw [g3]; simp)])
      · have g2' : j = 255 := by have := of_decide_eq_false g2; omega
        exact hfin (by rw [← hje, runEnd, dif_neg (by omega)])
  · have : i = 256 := by have := of_decide_eq_false g; omega
    subst this
    have : done = runs f := by rw [← hd, runsF]; simp
    subst this
    exact ⟨a, c, rfl, hR, hb⟩

theorem part_bad {w : World} {b : Nat} {s : ByteArray} {i g : Nat} {dp : Int} {a : Option Addr} {ln c : Nat} (h : Rd w b s i g dp a ln c) (first : Bool) (hl : ¬ i < s.size) :
    Cl Try.prog 161 [.pointer (some ⟨b, 0, none⟩), .bool first] w (fun e w' => e = PanicB s.size ∧ Below w.heap.size w w') := by
  apply vc161
  unfold V161
  refine newC_in fun w1 s1 k1 e1 => ?_
  have B1 : Below w.heap.size w w1 := Ext.to (Below.refl _ _) e1 fun _ h => h.elim
  refine (need_bad (Blk.keep h e1 fun h => h) hl).use fun e w2 he => ?_
  obtain ⟨rfl, b2⟩ := he
  exact ⟨rfl, B1.vstep b2⟩
theorem part_ok {w : World} {b : Nat} {s : ByteArray} {i g : Nat} {dp : Int} {a : Option Addr} {ln c : Nat} (h : Rd w b s i g dp a ln c) (hi : i < 10000) (first : Bool) (hl : i < s.size) (hf : first = true ∨ at_ (L s) i ≠ 93) :
    Cl Try.prog 161 [.pointer (some ⟨b, 0, none⟩), .bool first] w (EscR w b s g dp a ln c (partP (L s) i)) := by
  apply vc161
  unfold V161
  have hbl := h.lt
  refine newC_in fun w1 s1 k1 e1 => ?_
  have h1 : Rd w1 b s i g dp a ln c := Blk.keep h e1 fun h => h
  have E1 : Ext (fun k => k = b) w w1 := Ext.mono e1 fun _ _ h => h.elim
  refine (need_ret h1 hl).ret fun w2 b2 => ⟨_, rfl, fun g1 => ?_, fun g1 => ?_⟩
  · have g1' : at_ (L s) i = 92 := by have : ((at_ (L s) i : Nat) : Int) = 92 := by simpa using g1
                                      omega
    have hP : partP (L s) i = escP (L s) (i + 1) := by unfold partP; rw [if_pos g1']
    rw [hP]
    refine (escape_ok (h1.below b2) hi).use fun e w3 he => ?_
    obtain ⟨e3, he⟩ := he
    have E3 := (E1.trans (Ext.of_below b2)).trans e3
    cases hq : escP (L s) (i + 1) with
    | bad n => rw [hq] at he; subst he; exact ⟨E3, rfl⟩
    | ok x =>
      obtain ⟨j, rs, o⟩ := x
      rw [hq] at he
      obtain ⟨rfl, h3⟩ := he
      refine ⟨_, _, rfl, ?_⟩
      have k3 := (k1.below b2).keep e3 (by omega)
      refine stA_in k3 (b256_length _) List.length_replicate (b256_scal _) fun w4 s4 k4 e4 => ?_
      refine ⟨_, b256_size _, k4.all, E3.step e4 fun k hk h => by omega, rfl, Blk.keep h3 e4 (by omega)⟩
  · have g1' : at_ (L s) i ≠ 92 := by have : ((at_ (L s) i : Nat) : Int) ≠ 92 := by simpa using g1
                                      omega
    have hc := at_lt (L s) i
    have hP : partP (L s) i = .ok (i + 1, [(at_ (L s) i, at_ (L s) i)], some (at_ (L s) i)) := by unfold partP; rw [if_neg g1']
    rw [hP]
    have hgo : ∃ (n32 : Int), cellH w2.heap b (0 + 1) = some (.int .i64 n32) ∧ stW b (0 + 1) [.int .i64 (IntKind.wrap .i64 (n32 + 1))] (fun (w33 : World) => Cl Try.prog 145 [.pointer (some ⟨w.heap.size, 0, none⟩), .int .i64 (IntKind.wrap .i64 ((at_ (L s) i : Nat) : Int)), .int .i64 (IntKind.wrap .i64 ((at_ (L s) i : Nat) : Int))] w33 (retG (fun (r35 : Value) (w34 : World) => r35 = .tuple #[] ∧ ∃ (cs36 : Array Value), cs36.size = 256 ∧ cellsAt w34.heap w.heap.size 0 cs36.toList ∧ stA w.heap.size 0 256 cs36 (fun (w37 : World) => ∃ (cs38 : Array Value), cs38.size = 256 ∧ cellsAt w37.heap w.heap.size 0 cs38.toList ∧ EscR w b s g dp a ln c (.ok (i + 1, [(at_ (L s) i, at_ (L s) i)], some (at_ (L s) i))) (.returned (.tuple #[.agg cs38, .bool false])) w37) w34)
        fun c1 w1 => EscR w b s g dp a ln c (.ok (i + 1, [(at_ (L s) i, at_ (L s) i)], some (at_ (L s) i))) (.panicked c1) w1)) w2 := by
      have h2 := h1.below b2
      have k2 := k1.below b2
      rw [← b256_false, ← inR_nil] at k2
      refine ⟨_, h2.cell 1, ?_⟩
      refine h2.mv (j := i + 1) (by rw [w64 (by omega)]; omega) fun w3 s3 h3 e3 => ?_
      have hw : IntKind.wrap .i64 ((at_ (L s) i : Nat) : Int) = ((at_ (L s) i : Nat) : Int) := w64 (by omega)
      refine (addR_ok (k2.keep e3 (by omega)) _ _ hc hw hw).use fun e w4 he => ?_
      obtain ⟨rfl, k4, e4⟩ := he
      refine ⟨rfl, self_out (w0 := w) (b := b) k4 fun w5 e5 => ?_⟩
      refine ⟨((E1.trans (Ext.of_below b2)).trans e3).step (e4.trans e5) fun k hk h => by omega, rfl, ?_⟩
      exact Blk.keep h3 (e4.trans e5) (by omega)
    refine ⟨fun g2 => ⟨fun g3 => ?_, fun g3 => hgo⟩, fun g2 => hgo⟩
    have g2' : at_ (L s) i = 93 := by have : ((at_ (L s) i : Nat) : Int) = 93 := by simpa using g2
                                      omega
    rcases hf with hf | hf
    · rw [hf] at g3; cases g3
    · exact absurd g2' hf
end Go.Proofs.Ytngbiaeliphdjaa.V
/- Printed by vcgen.py, a program of this session: formulas of Go functions, each with the proof that it gives the function's contract. No statement of the seat is proved here. -/
namespace Go.Proofs.Ytngbiaeliphdjaa.V
open Go.Vc Go.Proofs
set_option linter.unusedVariables false
set_option maxRecDepth 100000
/-- (*impl.reader).set -/
def V144 (b1 o2 : Nat) (R : Rt) : Pred := fun w =>
  lI w b1 (o2 + 1) fun n3 => stW b1 (o2 + 1) [.int .i64 (IntKind.wrap .i64 (n3 + 1))] (fun w4 => clV 143 ([.pointer (some ⟨b1, o2, none⟩)]) w4 R fun r7 w6 => ∃ n5, r7 = .int .u8 n5 ∧ ∃ (J8 : World → Prop), ((cB (n5 == 94) (lI w6 b1 (o2 + 1) fun n9 => stW b1 (o2 + 1) [.int .i64 (IntKind.wrap .i64 (n9 + 1))] (fun w10 => J8  w10) w6) (J8  w6))) ∧ ∀ (d11 : Nat → Value)  w12, J8  w12 → newC (List.replicate 256 (.bool false)) 177 (fun b13 w14 => ∃ (I15 : Nat → Bool → World → Prop), (∃ k17, I15 k17 true w14) ∧ ∀ k16 (d19 : Nat → Value) t20 w18, I15 k16 t20 w18 → ∃ (J21 : World → Prop), ((cB t20 (J21  w18) (clV 143 ([.pointer (some ⟨b1, o2, none⟩)]) w18 R fun r24 w23 => ∃ n22, r24 = .int .u8 n22 ∧ (cB (n22 != 93) (J21  w23) (lI w23 b1 (o2 + 1) fun n25 => stW b1 (o2 + 1) [.int .i64 (IntKind.wrap .i64 (n25 + 1))] (fun w26 => (cB (n5 == 94) (∃ (I27 : Nat → Int → World → Prop), (∃ k29, I27 k29 0 w26) ∧ ∀ k28 (d31 : Nat → Value) n32 w30, I27 k28 n32 w30 → (cB (decide (n32 < 256)) ((0 ≤ (n32 : Int) ∧ (n32 : Int) < ((256 : Nat) : Int)) ∧ lB w30 b13 (0 + (Int.toNat n32) * 1) fun t33 => (0 ≤ (n32 : Int) ∧ (n32 : Int) < ((256 : Nat) : Int)) ∧ stW b13 (0 + (Int.toNat n32) * 1) [.bool (!t33)] (fun w34 => (∃ m35, m35 < k28 ∧ I27 m35 (IntKind.wrap .i64 (n32 + 1)) w34)) w30) (clL 146 ([.pointer (some ⟨b13, 0, none⟩)]) w30 R fun a36 l36 c36 w37 => R (.returned (.slice a36 l36 c36)) w37))) (clL 146 ([.pointer (some ⟨b13, 0, none⟩)]) w26 R fun a39 l39 c39 w40 => R (.returned (.slice a39 l39 c39)) w40))) w23))))) ∧ ∀ (d42 : Nat → Value)  w43, J21  w43 → clV 161 ([.pointer (some ⟨b1, o2, none⟩), .bool t20]) w43 R fun r47 w46 => ∃ (cs44 : Array Value), ∃ t45, r47 = .tuple #[.agg cs44, .bool t45] ∧ newC (List.replicate 256 (.bool false)) 177 (fun b48 w49 => stA b48 0 256 cs44 (fun w50 => ∃ (J51 : World → Prop), ((cB (!t45) (clV 143 ([.pointer (some ⟨b1, o2, none⟩)]) w50 R fun r54 w53 => ∃ n52, r54 = .int .u8 n52 ∧ (cB (n52 == 45) (drw (fun w55 => lI w55 b1 (o2 + 1) fun n56 => lS w55 b1 o2 fun s57 => ∃ (J58 : World → Prop), ((cB (decide ((IntKind.wrap .i64 (n56 + 1)) ≥ ((ByteArray.size s57 : Nat) : Int))) (lS w55 b1 o2 fun s59 => clU 76 ([.pointer (some ⟨b1, o2, none⟩), .int .i64 ((ByteArray.size s59 : Nat) : Int)]) w55 R fun w60 => J58  w60) (J58  w55))) ∧ ∀ (d62 : Nat → Value)  w63, J58  w63 → drw (fun w64 => lS w64 b1 o2 fun s65 => lI w64 b1 (o2 + 1) fun n66 => (ixT s65 (IntKind.wrap .i64 (n66 + 1))) ∧ (cB ((byteAt s65 (Int.toNat (IntKind.wrap .i64 (n66 + 1)))) != 93) (lI w64 b1 (o2 + 1) fun n67 => stW b1 (o2 + 1) [.int .i64 (IntKind.wrap .i64 (n67 + 1))] (fun w68 => lI w68 b1 (o2 + 1) fun n69 => clV 161 ([.pointer (some ⟨b1, o2, none⟩), .bool false]) w68 R fun r73 w72 => ∃ (cs70 : Array Value), ∃ t71, r73 = .tuple #[.agg cs70, .bool t71] ∧ newC (List.replicate 256 (.bool false)) 177 (fun b74 w75 => stA b74 0 256 cs70 (fun w76 => drw (fun w77 => (cB t71 (clU 76 ([.pointer (some ⟨b1, o2, none⟩), .int .i64 n69]) w77 R fun w78 => drw (fun w80 => ∃ (cs81 : Array Value), cs81.size = 256 ∧ cellsAt w80.heap b48 0 cs81.toList ∧ ∃ (cs82 : Array Value), cs82.size = 256 ∧ cellsAt w80.heap b74 0 cs82.toList ∧ clI 162 ([.agg cs81]) w80 R fun n83 w84 => cellsAt w84.heap b74 0 cs82.toList ∧ clI 162 ([.agg cs82]) w84 R fun n86 w87 => clU 145 ([.pointer (some ⟨b48, 0, none⟩), .int .i64 n83, .int .i64 n86]) w87 R fun w89 => J51  w89) w78) (∃ (cs91 : Array Value), cs91.size = 256 ∧ cellsAt w77.heap b74 0 cs91.toList ∧ ∃ (cs92 : Array Value), cs92.size = 256 ∧ cellsAt w77.heap b48 0 cs92.toList ∧ clI 162 ([.agg cs91]) w77 R fun n93 w94 => cellsAt w94.heap b48 0 cs92.toList ∧ clI 162 ([.agg cs92]) w94 R fun n96 w97 => (cB (decide (n93 < n96)) (clU 76 ([.pointer (some ⟨b1, o2, none⟩), .int .i64 n69]) w97 R fun w99 => drw (fun w101 => ∃ (cs102 : Array Value), cs102.size = 256 ∧ cellsAt w101.heap b48 0 cs102.toList ∧ ∃ (cs103 : Array Value), cs103.size = 256 ∧ cellsAt w101.heap b74 0 cs103.toList ∧ clI 162 ([.agg cs102]) w101 R fun n104 w105 => cellsAt w105.heap b74 0 cs103.toList ∧ clI 162 ([.agg cs103]) w105 R fun n107 w108 => clU 145 ([.pointer (some ⟨b48, 0, none⟩), .int .i64 n104, .int .i64 n107]) w108 R fun w110 => J51  w110) w99) (drw (fun w112 => ∃ (cs113 : Array Value), cs113.size = 256 ∧ cellsAt w112.heap b48 0 cs113.toList ∧ ∃ (cs114 : Array Value), cs114.size = 256 ∧ cellsAt w112.heap b74 0 cs114.toList ∧ clI 162 ([.agg cs113]) w112 R fun n115 w116 => cellsAt w116.heap b74 0 cs114.toList ∧ clI 162 ([.agg cs114]) w116 R fun n118 w119 => clU 145 ([.pointer (some ⟨b48, 0, none⟩), .int .i64 n115, .int .i64 n118]) w119 R fun w121 => J51  w121) w97))))) w76) w75) w72) w64) (J51  w64))) w63) w53) (J51  w53))) (J51  w50))) ∧ ∀ (d123 : Nat → Value)  w124, J51  w124 → ∃ (cs125 : Array Value), cs125.size = 256 ∧ cellsAt w124.heap b48 0 cs125.toList ∧ ∃ (I126 : Nat → Int → World → Prop), (∃ k128, I126 k128 0 w124) ∧ ∀ k127 (d130 : Nat → Value) n131 w129, I126 k127 n131 w129 → (cB (decide (n131 < 256)) (∃ t132, (Instr.index 177 (.agg cs125) (.int .i64 n131)).run Try.prog w129 = .ok (.bool t132) w129 ∧ (0 ≤ (n131 : Int) ∧ (n131 : Int) < ((256 : Nat) : Int)) ∧ lB w129 b13 (0 + (Int.toNat n131) * 1) fun t133 => (cB t133 ((0 ≤ (n131 : Int) ∧ (n131 : Int) < ((256 : Nat) : Int)) ∧ stW b13 (0 + (Int.toNat n131) * 1) [.bool true] (fun w134 => (∃ m135, m135 < k127 ∧ I126 m135 (IntKind.wrap .i64 (n131 + 1)) w134)) w129) ((0 ≤ (n131 : Int) ∧ (n131 : Int) < ((256 : Nat) : Int)) ∧ stW b13 (0 + (Int.toNat n131) * 1) [.bool t132] (fun w136 => (∃ m137, m137 < k127 ∧ I126 m137 (IntKind.wrap .i64 (n131 + 1)) w136)) w129))) ((∃ m138, m138 < k16 ∧ I15 m138 false w129)))) w49) w46) w12) w
def scr144 : Scr := (.q 1 (.q 8 (.q 4 (.q 1 (.cut (dr [] [(25,7)]) (.cond (.q 8 .nil) .nil) (.q 1 (.q 1 (.loop (dr [(5, some .bool)] [(6,7),(32,94)]) (.cutS (dr [] [(32,6)]) (.run [0,1] (.split 33 (.r [2,3,4,5] (.lit .nil)) (.r [2,3,4,5] (.cond .nil (.q 8 (.q 1 (.cond (.q 1 (.loop (dr [(134, some (.int .i64))] [(13,1),(135,9)]) (.q 1 (.cond (.q 2 (.q 7 (.q 2 .nil))) (.q 2 .nil))))) (.q 2 .nil)))))))) (.q 9 (.cutS (dr [] [(8,3),(44,68)]) (.run [0,1,2] (.split 46 (.r [3,4,5,6] (.cond (.q 11 (.cut (dr [] [(62,7)]) (.cond (.q 7 .nil) .nil) (.q 11 (.cond (.q 8 (.q 5 (.q 8 (.run [0,1] (.split 97 (.r [2,3,4,5,6,7] (.lit (.q 3 (.r [0,2,1,3,4] .nil)))) (.r [2,4,3,5,6,7] (.cond (.q 3 (.r [0,2,1,3,4] .nil)) (.r [0,2,1,3,4] .nil)))))))) .nil)))) .nil)) (.r [3,4,5,6] (.lit .nil)))) (.q 2 (.loop (dr [(113, some (.int .i64))] [(11,2),(114,12)]) (.q 1 (.cond (.q 4 (.run [0,1,2,3,4] (.split 121 (.r [5,6,7,8] (.q 2 .nil)) (.r [5,6,7,8] (.q 2 .nil))))) (.q 1 .nil))))))))))))))))
theorem vc144 {b1 o2} {R w} (h : V144 b1 o2 R w) : Cl Try.prog 144 [.pointer (some ⟨b1, o2, none⟩)] w R :=
  cl_of scr144 Try.func144 (by kernel_rfl) _ _ (by kernel_rfl) h
/-- (*impl.reader).number -/
def V148 (b1 o2 : Nat) (R : Rt) : Pred := fun w =>
  lI w b1 (o2 + 1) fun n3 => clV 143 ([.pointer (some ⟨b1, o2, none⟩)]) w R fun r6 w5 => ∃ n4, r6 = .int .u8 n4 ∧ ∃ (J7 : World → Prop), ((cB (decide (n4 < 48)) (lI w5 b1 (o2 + 1) fun n8 => clU 76 ([.pointer (some ⟨b1, o2, none⟩), .int .i64 n8]) w5 R fun w9 => J7  w9) ((cB (decide (n4 > 57)) (lI w5 b1 (o2 + 1) fun n11 => clU 76 ([.pointer (some ⟨b1, o2, none⟩), .int .i64 n11]) w5 R fun w12 => J7  w12) (J7  w5))))) ∧ ∀ (d14 : Nat → Value)  w15, J7  w15 → ∃ (I16 : Nat → Int → World → Prop), (∃ k18, I16 k18 0 w15) ∧ ∀ k17 (d20 : Nat → Value) n21 w19, I16 k17 n21 w19 → drw (fun w22 => clB 75 ([.pointer (some ⟨b1, o2, none⟩)]) w22 R fun t23 w24 => (cB (!t23) (lS w24 b1 o2 fun s26 => lI w24 b1 (o2 + 1) fun n27 => (ixT s26 n27) ∧ (cB (decide ((byteAt s26 (Int.toNat n27)) ≥ 48)) (lS w24 b1 o2 fun s28 => lI w24 b1 (o2 + 1) fun n29 => (ixT s28 n29) ∧ (cB (decide ((byteAt s28 (Int.toNat n29)) ≤ 57)) (drw (fun w30 => lS w30 b1 o2 fun s31 => lI w30 b1 (o2 + 1) fun n32 => (ixT s31 n32) ∧ ∃ n33, (Builtin.min_ #[3, 3] 3 #[.int .i64 1000, .int .i64 (IntKind.wrap .i64 ((IntKind.wrap .i64 (10 * n21)) + (IntKind.wrap .i64 (IntKind.wrap .u8 ((byteAt s31 (Int.toNat n32)) - 48)))))]).run Try.prog w30 = .ok (.int .i64 n33) w30 ∧ lI w30 b1 (o2 + 1) fun n34 => stW b1 (o2 + 1) [.int .i64 (IntKind.wrap .i64 (n34 + 1))] (fun w35 => (∃ m36, m36 < k17 ∧ I16 m36 n33 w35)) w30) w24) ((cB (decide (n21 > 50)) (clU 76 ([.pointer (some ⟨b1, o2, none⟩), .int .i64 n3]) w24 R fun w37 => R (.returned (.int .i64 n21)) w37) (R (.returned (.int .i64 n21)) w24))))) ((cB (decide (n21 > 50)) (clU 76 ([.pointer (some ⟨b1, o2, none⟩), .int .i64 n3]) w24 R fun w39 => R (.returned (.int .i64 n21)) w39) (R (.returned (.int .i64 n21)) w24))))) ((cB (decide (n21 > 50)) (clU 76 ([.pointer (some ⟨b1, o2, none⟩), .int .i64 n3]) w24 R fun w41 => R (.returned (.int .i64 n21)) w41) (R (.returned (.int .i64 n21)) w24))))) w19
def scr148 : Scr := (.q 1 (.q 5 (.q 3 (.cutS (dr [] [(12,12)]) (.run [0,1,2] (.split 14 (.r [3,4,5] (.lit (.q 6 .nil))) (.r [3,4,5] (.cond (.q 6 .nil) .nil)))) (.q 1 (.loop (dr [(5, some (.int .i64))] [(24,49)]) (.run [0,1,2,3] (.split 27 (.run [4,5,6,7,8,9,10,11,12,13,14,15] (.split 39 (.r [16,17,18,19,20,21,22,23,24,25,26] (.cond (.q 16 (.q 8 .nil)) (.q 2 (.cond (.q 3 (.q 2 .nil)) (.q 2 .nil))))) (.r [16,17,18,19,20,21,22,23,24,25,26] (.lit (.q 2 (.cond (.q 3 (.q 2 .nil)) (.q 2 .nil))))))) (.r [4,5,6,7,8,9,10,11,12,13,14,15,16,17,18,19,20,21,22,23,24,25,26] (.lit (.q 2 (.cond (.q 3 (.q 2 .nil)) (.q 2 .nil)))))))))))))
theorem vc148 {b1 o2} {R w} (h : V148 b1 o2 R w) : Cl Try.prog 148 [.pointer (some ⟨b1, o2, none⟩)] w R :=
  cl_of scr148 Try.func148 (by kernel_rfl) _ _ (by kernel_rfl) h
/-- (*impl.reader).counts -/
def V127 (b1 o2 : Nat) (n3 : Int) (R : Rt) : Pred := fun w =>
  clB 75 ([.pointer (some ⟨b1, o2, none⟩)]) w R fun t4 w5 => (cB t4 (R (.returned (.int .i64 n3)) w5) (newC [.int .i64 n3] 3 (fun b7 w8 => newC [.int .i64 0, .slice none 0 0, .int .i64 0, .int .i64 0, .bool false, .int .i64 0, .slice none 0 0] 111 (fun b9 w10 => stW b9 0 [.int .i64 4, .slice none 0 0, .int .i64 0, .int .i64 0, .bool false, .int .i64 0, .slice (some ⟨b7, 0, none⟩) 1 1] (fun w11 => drw (fun w12 => lS w12 b1 o2 fun s13 => lI w12 b1 (o2 + 1) fun n14 => (ixT s13 n14) ∧ ∃ (J15 : World → Prop), ((cB ((byteAt s13 (Int.toNat n14)) == 42) (stW b9 3 [.int .i64 (-1)] (fun w16 => lI w16 b1 (o2 + 1) fun n17 => stW b1 (o2 + 1) [.int .i64 (IntKind.wrap .i64 (n17 + 1))] (fun w18 => J15  w18) w16) w12) ((cB ((byteAt s13 (Int.toNat n14)) == 43) (stW b9 2 [.int .i64 1] (fun w19 => stW b9 3 [.int .i64 (-1)] (fun w20 => lI w20 b1 (o2 + 1) fun n21 => stW b1 (o2 + 1) [.int .i64 (IntKind.wrap .i64 (n21 + 1))] (fun w22 => J15  w22) w20) w19) w12) ((cB ((byteAt s13 (Int.toNat n14)) == 63) (stW b9 3 [.int .i64 1] (fun w23 => lI w23 b1 (o2 + 1) fun n24 => stW b1 (o2 + 1) [.int .i64 (IntKind.wrap .i64 (n24 + 1))] (fun w25 => J15  w25) w23) w12) ((cB ((byteAt s13 (Int.toNat n14)) == 123) (lI w12 b1 (o2 + 1) fun n26 => stW b1 (o2 + 1) [.int .i64 (IntKind.wrap .i64 (n26 + 1))] (fun w27 => clI 148 ([.pointer (some ⟨b1, o2, none⟩)]) w27 R fun n28 w29 => stW b9 2 [.int .i64 n28] (fun w31 => lI w31 b9 2 fun n32 => stW b9 3 [.int .i64 n32] (fun w33 => clV 143 ([.pointer (some ⟨b1, o2, none⟩)]) w33 R fun r36 w35 => ∃ n34, r36 = .int .u8 n34 ∧ (cB (n34 == 44) (lI w35 b1 (o2 + 1) fun n37 => stW b1 (o2 + 1) [.int .i64 (IntKind.wrap .i64 (n37 + 1))] (fun w38 => stW b9 3 [.int .i64 (-1)] (fun w39 => clV 143 ([.pointer (some ⟨b1, o2, none⟩)]) w39 R fun r42 w41 => ∃ n40, r42 = .int .u8 n40 ∧ (cB (n40 != 125) (lI w41 b1 (o2 + 1) fun n43 => clI 148 ([.pointer (some ⟨b1, o2, none⟩)]) w41 R fun n44 w45 => stW b9 3 [.int .i64 n44] (fun w47 => lI w47 b9 3 fun n48 => lI w47 b9 2 fun n49 => (cB (decide (n48 < n49)) (clU 76 ([.pointer (some ⟨b1, o2, none⟩), .int .i64 n43]) w47 R fun w50 => clV 143 ([.pointer (some ⟨b1, o2, none⟩)]) w50 R fun r54 w53 => ∃ n52, r54 = .int .u8 n52 ∧ (cB (n52 != 125) (lI w53 b1 (o2 + 1) fun n55 => clU 76 ([.pointer (some ⟨b1, o2, none⟩), .int .i64 n55]) w53 R fun w56 => lI w56 b1 (o2 + 1) fun n58 => stW b1 (o2 + 1) [.int .i64 (IntKind.wrap .i64 (n58 + 1))] (fun w59 => J15  w59) w56) (lI w53 b1 (o2 + 1) fun n60 => stW b1 (o2 + 1) [.int .i64 (IntKind.wrap .i64 (n60 + 1))] (fun w61 => J15  w61) w53))) (clV 143 ([.pointer (some ⟨b1, o2, none⟩)]) w47 R fun r64 w63 => ∃ n62, r64 = .int .u8 n62 ∧ (cB (n62 != 125) (lI w63 b1 (o2 + 1) fun n65 => clU 76 ([.pointer (some ⟨b1, o2, none⟩), .int .i64 n65]) w63 R fun w66 => lI w66 b1 (o2 + 1) fun n68 => stW b1 (o2 + 1) [.int .i64 (IntKind.wrap .i64 (n68 + 1))] (fun w69 => J15  w69) w66) (lI w63 b1 (o2 + 1) fun n70 => stW b1 (o2 + 1) [.int .i64 (IntKind.wrap .i64 (n70 + 1))] (fun w71 => J15  w71) w63))))) w45) (clV 143 ([.pointer (some ⟨b1, o2, none⟩)]) w41 R fun r74 w73 => ∃ n72, r74 = .int .u8 n72 ∧ (cB (n72 != 125) (lI w73 b1 (o2 + 1) fun n75 => clU 76 ([.pointer (some ⟨b1, o2, none⟩), .int .i64 n75]) w73 R fun w76 => lI w76 b1 (o2 + 1) fun n78 => stW b1 (o2 + 1) [.int .i64 (IntKind.wrap .i64 (n78 + 1))] (fun w79 => J15  w79) w76) (lI w73 b1 (o2 + 1) fun n80 => stW b1 (o2 + 1) [.int .i64 (IntKind.wrap .i64 (n80 + 1))] (fun w81 => J15  w81) w73))))) w38) w35) (clV 143 ([.pointer (some ⟨b1, o2, none⟩)]) w35 R fun r84 w83 => ∃ n82, r84 = .int .u8 n82 ∧ (cB (n82 != 125) (lI w83 b1 (o2 + 1) fun n85 => clU 76 ([.pointer (some ⟨b1, o2, none⟩), .int .i64 n85]) w83 R fun w86 => lI w86 b1 (o2 + 1) fun n88 => stW b1 (o2 + 1) [.int .i64 (IntKind.wrap .i64 (n88 + 1))] (fun w89 => J15  w89) w86) (lI w83 b1 (o2 + 1) fun n90 => stW b1 (o2 + 1) [.int .i64 (IntKind.wrap .i64 (n90 + 1))] (fun w91 => J15  w91) w83))))) w31) w29) w12) (R (.returned (.int .i64 n3)) w12))))))))) ∧ ∀ (d92 : Nat → Value)  w93, J15  w93 → drw (fun w94 => clB 75 ([.pointer (some ⟨b1, o2, none⟩)]) w94 R fun t95 w96 => (cB (!t95) (lS w96 b1 o2 fun s98 => lI w96 b1 (o2 + 1) fun n99 => (ixT s98 n99) ∧ (cB ((byteAt s98 (Int.toNat n99)) == 63) (stW b9 4 [.bool true] (fun w100 => lI w100 b1 (o2 + 1) fun n101 => stW b1 (o2 + 1) [.int .i64 (IntKind.wrap .i64 (n101 + 1))] (fun w102 => lI w102 b9 0 fun n103 => lL w102 b9 1 fun a104 l104 c104 => lI w102 b9 2 fun n105 => lI w102 b9 3 fun n106 => lB w102 b9 4 fun t107 => lI w102 b9 5 fun n108 => lL w102 b9 6 fun a109 l109 c109 => clI 110 ([.pointer (some ⟨b1, o2, none⟩), .agg #[.int .i64 n103, .slice a104 l104 c104, .int .i64 n105, .int .i64 n106, .bool t107, .int .i64 n108, .slice a109 l109 c109]]) w102 R fun n110 w111 => R (.returned (.int .i64 n110)) w111) w100) w96) (lI w96 b9 0 fun n113 => lL w96 b9 1 fun a114 l114 c114 => lI w96 b9 2 fun n115 => lI w96 b9 3 fun n116 => lB w96 b9 4 fun t117 => lI w96 b9 5 fun n118 => lL w96 b9 6 fun a119 l119 c119 => clI 110 ([.pointer (some ⟨b1, o2, none⟩), .agg #[.int .i64 n113, .slice a114 l114 c114, .int .i64 n115, .int .i64 n116, .bool t117, .int .i64 n118, .slice a119 l119 c119]]) w96 R fun n120 w121 => R (.returned (.int .i64 n120)) w121))) (lI w96 b9 0 fun n123 => lL w96 b9 1 fun a124 l124 c124 => lI w96 b9 2 fun n125 => lI w96 b9 3 fun n126 => lB w96 b9 4 fun t127 => lI w96 b9 5 fun n128 => lL w96 b9 6 fun a129 l129 c129 => clI 110 ([.pointer (some ⟨b1, o2, none⟩), .agg #[.int .i64 n123, .slice a124 l124 c124, .int .i64 n125, .int .i64 n126, .bool t127, .int .i64 n128, .slice a129 l129 c129]]) w96 R fun n130 w131 => R (.returned (.int .i64 n130)) w131))) w93) w11) w10) w8) w5))
def scr127 : Scr := (.q 1 (.q 2 (.cond (.q 2 .nil) (.q 5 (.q 9 (.q 2 (.cut (dr [] [(4,1),(6,1),(22,1),(25,89)]) (.cond (.q 2 (.q 8 .nil)) (.q 2 (.cond (.q 4 (.q 8 .nil)) (.q 2 (.cond (.q 2 (.q 8 .nil)) (.q 2 (.cond (.q 8 (.q 4 (.q 4 (.q 3 (.cond (.q 8 (.q 2 (.q 3 (.cond (.q 5 (.q 4 (.q 5 (.cond (.q 3 (.q 3 (.cond (.q 6 (.q 8 .nil)) (.q 8 .nil)))) (.q 3 (.cond (.q 6 (.q 8 .nil)) (.q 8 .nil))))))) (.q 3 (.cond (.q 6 (.q 8 .nil)) (.q 8 .nil))))))) (.q 3 (.cond (.q 6 (.q 8 .nil)) (.q 8 .nil)))))))) (.q 2 .nil)))))))) (.run [0,1,2,3] (.split 117 (.r [4,5,6,7,8,9,10,11,12,13,14] (.cond (.q 2 (.q 8 (.q 4 .nil))) (.q 4 .nil))) (.r [4,5,6,7,8,9,10,11,12,13,14] (.lit (.q 4 .nil))))))))))))
theorem vc127 {b1 o2 n3} {R w} (h : V127 b1 o2 n3 R w) : Cl Try.prog 127 [.pointer (some ⟨b1, o2, none⟩), .int .i64 n3] w R :=
  cl_of scr127 Try.func127 (by kernel_rfl) _ _ (by kernel_rfl) h
/-- (*impl.reader).atom -/
def V126 (b1 o2 : Nat) (n3 : Int) (R : Rt) : Pred := fun w =>
  (cB (n3 == 40) (∃ (J4 : World → Prop), (lI w b1 (o2 + 2) fun n5 => (cB (n5 == 9) (lI w b1 (o2 + 1) fun n6 => clU 76 ([.pointer (some ⟨b1, o2, none⟩), .int .i64 n6]) w R fun w7 => J4  w7) (lI w b1 (o2 + 3) fun n9 => (cB (n9 == 6) (lI w b1 (o2 + 1) fun n10 => clU 76 ([.pointer (some ⟨b1, o2, none⟩), .int .i64 n10]) w R fun w11 => J4  w11) (J4  w))))) ∧ ∀ (d13 : Nat → Value)  w14, J4  w14 → lI w14 b1 (o2 + 2) fun n15 => stW b1 (o2 + 2) [.int .i64 (IntKind.wrap .i64 (n15 + 1))] (fun w16 => lI w16 b1 (o2 + 3) fun n17 => stW b1 (o2 + 3) [.int .i64 (IntKind.wrap .i64 (n17 + 1))] (fun w18 => lI w18 b1 (o2 + 2) fun n19 => lI w18 b1 (o2 + 1) fun n20 => stW b1 (o2 + 1) [.int .i64 (IntKind.wrap .i64 (n20 + 1))] (fun w21 => clI 74 ([.pointer (some ⟨b1, o2, none⟩)]) w21 R fun n22 w23 => clV 143 ([.pointer (some ⟨b1, o2, none⟩)]) w23 R fun r27 w26 => ∃ n25, r27 = .int .u8 n25 ∧ (cB (n25 != 41) (lI w26 b1 (o2 + 1) fun n28 => clU 76 ([.pointer (some ⟨b1, o2, none⟩), .int .i64 n28]) w26 R fun w29 => lI w29 b1 (o2 + 1) fun n31 => stW b1 (o2 + 1) [.int .i64 (IntKind.wrap .i64 (n31 + 1))] (fun w32 => lI w32 b1 (o2 + 3) fun n33 => stW b1 (o2 + 3) [.int .i64 (IntKind.wrap .i64 (n33 - 1))] (fun w34 => newC [.int .i64 n22] 3 (fun b35 w36 => clI 110 ([.pointer (some ⟨b1, o2, none⟩), .agg #[.int .i64 5, .slice none 0 0, .int .i64 0, .int .i64 0, .bool false, .int .i64 n19, .slice (some ⟨b35, 0, none⟩) 1 1]]) w36 R fun n37 w38 => R (.returned (.int .i64 n37)) w38) w34) w32) w29) (lI w26 b1 (o2 + 1) fun n40 => stW b1 (o2 + 1) [.int .i64 (IntKind.wrap .i64 (n40 + 1))] (fun w41 => lI w41 b1 (o2 + 3) fun n42 => stW b1 (o2 + 3) [.int .i64 (IntKind.wrap .i64 (n42 - 1))] (fun w43 => newC [.int .i64 n22] 3 (fun b44 w45 => clI 110 ([.pointer (some ⟨b1, o2, none⟩), .agg #[.int .i64 5, .slice none 0 0, .int .i64 0, .int .i64 0, .bool false, .int .i64 n19, .slice (some ⟨b44, 0, none⟩) 1 1]]) w45 R fun n46 w47 => R (.returned (.int .i64 n46)) w47) w43) w41) w26))) w18) w16) w14) ((cB (n3 == 91) (clL 144 ([.pointer (some ⟨b1, o2, none⟩)]) w R fun a49 l49 c49 w50 => clI 110 ([.pointer (some ⟨b1, o2, none⟩), .agg #[.int .i64 1, .slice a49 l49 c49, .int .i64 0, .int .i64 0, .bool false, .int .i64 0, .slice none 0 0]]) w50 R fun n52 w53 => R (.returned (.int .i64 n52)) w53) ((cB (n3 == 46) (lI w b1 (o2 + 1) fun n55 => stW b1 (o2 + 1) [.int .i64 (IntKind.wrap .i64 (n55 + 1))] (fun w56 => newC (List.replicate 256 (.bool false)) 177 (fun b57 w58 => clU 145 ([.pointer (some ⟨b57, 0, none⟩), .int .i64 0, .int .i64 9]) w58 R fun w59 => clU 145 ([.pointer (some ⟨b57, 0, none⟩), .int .i64 11, .int .i64 255]) w59 R fun w61 => clL 146 ([.pointer (some ⟨b57, 0, none⟩)]) w61 R fun a63 l63 c63 w64 => clI 110 ([.pointer (some ⟨b1, o2, none⟩), .agg #[.int .i64 1, .slice a63 l63 c63, .int .i64 0, .int .i64 0, .bool false, .int .i64 0, .slice none 0 0]]) w64 R fun n66 w67 => R (.returned (.int .i64 n66)) w67) w56) w) ((cB (n3 == 94) (lI w b1 (o2 + 1) fun n69 => stW b1 (o2 + 1) [.int .i64 (IntKind.wrap .i64 (n69 + 1))] (fun w70 => clI 110 ([.pointer (some ⟨b1, o2, none⟩), .agg #[.int .i64 6, .slice none 0 0, .int .i64 0, .int .i64 0, .bool false, .int .i64 0, .slice none 0 0]]) w70 R fun n71 w72 => R (.returned (.int .i64 n71)) w72) w) ((cB (n3 == 36) (lI w b1 (o2 + 1) fun n74 => stW b1 (o2 + 1) [.int .i64 (IntKind.wrap .i64 (n74 + 1))] (fun w75 => clI 110 ([.pointer (some ⟨b1, o2, none⟩), .agg #[.int .i64 7, .slice none 0 0, .int .i64 0, .int .i64 0, .bool false, .int .i64 0, .slice none 0 0]]) w75 R fun n76 w77 => R (.returned (.int .i64 n76)) w77) w) ((cB (n3 == 92) (clV 147 ([.pointer (some ⟨b1, o2, none⟩)]) w R fun r82 w81 => ∃ (cs79 : Array Value), ∃ t80, r82 = .tuple #[.agg cs79, .bool t80] ∧ newC (List.replicate 256 (.bool false)) 177 (fun b83 w84 => stA b83 0 256 cs79 (fun w85 => clL 146 ([.pointer (some ⟨b83, 0, none⟩)]) w85 R fun a86 l86 c86 w87 => clI 110 ([.pointer (some ⟨b1, o2, none⟩), .agg #[.int .i64 1, .slice a86 l86 c86, .int .i64 0, .int .i64 0, .bool false, .int .i64 0, .slice none 0 0]]) w87 R fun n89 w90 => R (.returned (.int .i64 n89)) w90) w84) w81) (∃ (J92 : Bool → World → Prop), ((cB (n3 == 41) (J92 true w) ((cB (n3 == 93) (J92 true w) ((cB (n3 == 123) (J92 true w) ((cB (n3 == 125) (J92 true w) ((cB (n3 == 42) (J92 true w) ((cB (n3 == 43) (J92 true w) ((cB (n3 == 63) (J92 true w) (J92 (n3 == 124) w))))))))))))))) ∧ ∀ (d93 : Nat → Value) t94 w95, J92 t94 w95 → (cB t94 (lI w95 b1 (o2 + 1) fun n96 => clU 76 ([.pointer (some ⟨b1, o2, none⟩), .int .i64 n96]) w95 R fun w97 => lI w97 b1 (o2 + 1) fun n99 => stW b1 (o2 + 1) [.int .i64 (IntKind.wrap .i64 (n99 + 1))] (fun w100 => newC [.int .i64 (IntKind.wrap .i64 n3), .int .i64 (IntKind.wrap .i64 n3)] 134 (fun b101 w102 => clI 110 ([.pointer (some ⟨b1, o2, none⟩), .agg #[.int .i64 1, .slice (some ⟨b101, 0, none⟩) 1 1, .int .i64 0, .int .i64 0, .bool false, .int .i64 0, .slice none 0 0]]) w102 R fun n103 w104 => R (.returned (.int .i64 n103)) w104) w100) w97) (lI w95 b1 (o2 + 1) fun n106 => stW b1 (o2 + 1) [.int .i64 (IntKind.wrap .i64 (n106 + 1))] (fun w107 => newC [.int .i64 (IntKind.wrap .i64 n3), .int .i64 (IntKind.wrap .i64 n3)] 134 (fun b108 w109 => clI 110 ([.pointer (some ⟨b1, o2, none⟩), .agg #[.int .i64 1, .slice (some ⟨b108, 0, none⟩) 1 1, .int .i64 0, .int .i64 0, .bool false, .int .i64 0, .slice none 0 0]]) w109 R fun n110 w111 => R (.returned (.int .i64 n110)) w111) w107) w95))))))))))))))
def scr126 : Scr := (.q 1 (.q 1 (.q 2 (.cond (.cutS (dr [] [(13,18)]) (.run [0,1,2,3,4,5] (.split 18 (.r [6,7,8,9,10,11] (.lit (.q 6 .nil))) (.r [6,7,8,9,10,11] (.cond (.q 6 .nil) .nil)))) (.q 8 (.q 8 (.q 5 (.q 8 (.q 3 (.q 3 (.cond (.q 6 (.q 8 (.q 8 (.q 7 .nil)))) (.q 8 (.q 8 (.q 7 .nil))))))))))) (.q 2 (.cond (.q 6 .nil) (.q 2 (.cond (.q 8 (.q 1 (.q 1 (.q 1 (.q 5 .nil))))) (.q 2 (.cond (.q 8 (.q 4 .nil)) (.q 2 (.cond (.q 8 (.q 4 .nil)) (.q 2 (.cond (.q 8 (.q 5 .nil)) (.q 2 (.cut (dr [(144, some .bool)] [(146,7)]) (.cond .nil (.q 2 (.cond .nil (.q 2 (.cond .nil (.q 2 (.cond .nil (.q 2 (.cond .nil (.q 2 (.cond .nil (.q 2 (.cond .nil (.q 2 .nil)))))))))))))) (.cond (.q 6 (.q 8 (.q 10 .nil))) (.q 8 (.q 10 .nil)))))))))))))))))))
theorem vc126 {b1 o2 n3} {R w} (h : V126 b1 o2 n3 R w) : Cl Try.prog 126 [.pointer (some ⟨b1, o2, none⟩), .int .u8 n3] w R :=
  cl_of scr126 Try.func126 (by kernel_rfl) _ _ (by kernel_rfl) h
/-- (*impl.reader).seq -/
def V109 (b1 o2 : Nat) (R : Rt) : Pred := fun w =>
  ∃ (I3 : Nat → Option Addr → Nat → Nat → World → Prop), (∃ k5, I3 k5 none 0 0 w) ∧ ∀ k4 (d7 : Nat → Value) a8 l8 c8 w6, I3 k4 a8 l8 c8 w6 → clB 75 ([.pointer (some ⟨b1, o2, none⟩)]) w6 R fun t9 w10 => (cB (!t9) (drw (fun w12 => lS w12 b1 o2 fun s13 => lI w12 b1 (o2 + 1) fun n14 => (ixT s13 n14) ∧ (cB ((byteAt s13 (Int.toNat n14)) == 124) (clI 110 ([.pointer (some ⟨b1, o2, none⟩), .agg #[.int .i64 2, .slice none 0 0, .int .i64 0, .int .i64 0, .bool false, .int .i64 0, .slice a8 l8 c8]]) w12 R fun n15 w16 => R (.returned (.int .i64 n15)) w16) ((cB ((byteAt s13 (Int.toNat n14)) == 41) (clI 110 ([.pointer (some ⟨b1, o2, none⟩), .agg #[.int .i64 2, .slice none 0 0, .int .i64 0, .int .i64 0, .bool false, .int .i64 0, .slice a8 l8 c8]]) w12 R fun n18 w19 => R (.returned (.int .i64 n18)) w19) (clI 126 ([.pointer (some ⟨b1, o2, none⟩), .int .u8 (byteAt s13 (Int.toNat n14))]) w12 R fun n21 w22 => clI 127 ([.pointer (some ⟨b1, o2, none⟩), .int .i64 n21]) w22 R fun n24 w25 => newC [.int .i64 n24] 3 (fun b27 w28 => ∃ a29 l29 c29, ∃ w30, (Builtin.append_ #[109, 109] 109 #[.slice a8 l8 c8, .slice (some ⟨b27, 0, none⟩) 1 1]).run Try.prog w28 = .ok (.slice a29 l29 c29) w30 ∧ (∃ m31, m31 < k4 ∧ I3 m31 a29 l29 c29 w30)) w25))))) w10) (clI 110 ([.pointer (some ⟨b1, o2, none⟩), .agg #[.int .i64 2, .slice none 0 0, .int .i64 0, .int .i64 0, .bool false, .int .i64 0, .slice a8 l8 c8]]) w10 R fun n32 w33 => R (.returned (.int .i64 n32)) w33))
def scr109 : Scr := (.q 1 (.q 1 (.loop (dr [(3, some .slice)] [(4,29)]) (.q 3 (.cond (.q 10 (.run [0,1,2] (.split 20 (.r [3,4,5] (.lit (.q 5 .nil))) (.r [3,4,5] (.cond (.q 5 .nil) (.q 4 (.q 7 .nil))))))) (.q 5 .nil))))))
theorem vc109 {b1 o2} {R w} (h : V109 b1 o2 R w) : Cl Try.prog 109 [.pointer (some ⟨b1, o2, none⟩)] w R :=
  cl_of scr109 Try.func109 (by kernel_rfl) _ _ (by kernel_rfl) h
/-- (*impl.reader).pattern -/
def V74 (b1 o2 : Nat) (R : Rt) : Pred := fun w =>
  clI 109 ([.pointer (some ⟨b1, o2, none⟩)]) w R fun n3 w4 => newC [.int .i64 n3] 3 (fun b6 w7 => ∃ (I8 : Nat → Option Addr → Nat → Nat → World → Prop), (∃ k10, I8 k10 (some ⟨b6, 0, none⟩) 1 1 w7) ∧ ∀ k9 (d12 : Nat → Value) a13 l13 c13 w11, I8 k9 a13 l13 c13 w11 → drw (fun w14 => clB 75 ([.pointer (some ⟨b1, o2, none⟩)]) w14 R fun t15 w16 => (cB (!t15) (lS w16 b1 o2 fun s18 => lI w16 b1 (o2 + 1) fun n19 => (ixT s18 n19) ∧ (cB ((byteAt s18 (Int.toNat n19)) == 124) (lI w16 b1 (o2 + 1) fun n20 => stW b1 (o2 + 1) [.int .i64 (IntKind.wrap .i64 (n20 + 1))] (fun w21 => clI 109 ([.pointer (some ⟨b1, o2, none⟩)]) w21 R fun n22 w23 => newC [.int .i64 n22] 3 (fun b25 w26 => ∃ a27 l27 c27, ∃ w28, (Builtin.append_ #[109, 109] 109 #[.slice a13 l13 c13, .slice (some ⟨b25, 0, none⟩) 1 1]).run Try.prog w26 = .ok (.slice a27 l27 c27) w28 ∧ (∃ m29, m29 < k9 ∧ I8 m29 a27 l27 c27 w28)) w23) w16) ((cB (((l13 : Nat) : Int) == 1) (ixS a13 l13 0 fun b30 o31 => lI w16 b30 o31 fun n32 => R (.returned (.int .i64 n32)) w16) (clI 110 ([.pointer (some ⟨b1, o2, none⟩), .agg #[.int .i64 3, .slice none 0 0, .int .i64 0, .int .i64 0, .bool false, .int .i64 0, .slice a13 l13 c13]]) w16 R fun n33 w34 => R (.returned (.int .i64 n33)) w34))))) ((cB (((l13 : Nat) : Int) == 1) (ixS a13 l13 0 fun b36 o37 => lI w16 b36 o37 fun n38 => R (.returned (.int .i64 n38)) w16) (clI 110 ([.pointer (some ⟨b1, o2, none⟩), .agg #[.int .i64 3, .slice none 0 0, .int .i64 0, .int .i64 0, .bool false, .int .i64 0, .slice a13 l13 c13]]) w16 R fun n39 w40 => R (.returned (.int .i64 n39)) w40))))) w11) w4
def scr74 : Scr := (.q 1 (.q 4 (.loop (dr [(3, some .slice)] [(7,27)]) (.run [0,1,2,3] (.split 10 (.r [4,5,6,7,8,9,10,11,12,13,14] (.cond (.q 8 (.q 6 .nil)) (.q 3 (.cond (.q 4 .nil) (.q 5 .nil))))) (.r [4,5,6,7,8,9,10,11,12,13,14] (.lit (.q 3 (.cond (.q 4 .nil) (.q 5 .nil))))))))))
theorem vc74 {b1 o2} {R w} (h : V74 b1 o2 R w) : Cl Try.prog 74 [.pointer (some ⟨b1, o2, none⟩)] w R :=
  cl_of scr74 Try.func74 (by kernel_rfl) _ _ (by kernel_rfl) h
end Go.Proofs.Ytngbiaeliphdjaa.V
/- A set in brackets, in the program's reader. No statement of the seat is proved here. -/
namespace Go.Proofs.Ytngbiaeliphdjaa.V
open Go.Vc Go.Proofs Go.RowKit
set_option linter.unusedVariables false
set_option linter.unusedSimpArgs false

/-- What a set gives. -/
def SetR (w : World) (b : Nat) (s : ByteArray) (g : Nat) (dp : Int) (a : Option Addr) (ln c : Nat) (r : Pr (Nat × List (Int × Int))) : Ending → World → Prop := fun e w' => Ext (fun k => k = b) w w' ∧
  match r with
  | .bad n => e = PanicB n
  | .ok (j, rs) => ∃ a' c', e = .returned (.slice a' rs.length c') ∧ Row w.heap.size w' 134 2 a' rs.length c' (rngC rs) ∧ Rd w' b s j g dp a ln c
theorem byteI (s : ByteArray) {j : Nat} {n : Int} (h : n = j) : byteAt s (Int.toNat n) = (at_ (L s) j : Int) := by subst h; rfl

theorem set_ok {w : World} {b : Nat} {s : ByteArray} {i g : Nat} {dp : Int} {a : Option Addr} {ln c : Nat} (h : Rd w b s i g dp a ln c) (hs : s.size ≤ 120) (hi : i < s.size) :
    Cl Try.prog 144 [.pointer (some ⟨b, 0, none⟩)] w (SetR w b s g dp a ln c (setP (L s) i)) := by
  apply vc144
  unfold V144
  have hsz := size_L s
  have hbl := h.lt
  refine ⟨i, h.cell 1, ?_⟩
  refine h.mv (j := i + 1) (by rw [w64 (by omega)]; omega) fun w4 s4 h4 e4 => ?_
  by_cases hl : i + 1 < s.size
  case neg =>
    refine (need_bad h4 hl).use fun e w8 he => ?_
    obtain ⟨rfl, b8⟩ := he
    refine ⟨e4.trans (Ext.of_below b8), ?_⟩
    unfold setP
    rw [if_pos (by omega), ← hsz]; rfl
  refine (need_ret h4 hl).ret fun w6 b6 => ⟨_, rfl, ?_⟩
  have h6 := h4.below b6
  have E6 : Ext (fun k => k = b) w w6 := e4.trans (Ext.of_below b6)
  obtain ⟨i0, hi0⟩ : ∃ i0, i0 = if at_ (L s) (i + 1) = 94 then i + 2 else i + 1 := ⟨_, rfl⟩
  have hP : setP (L s) i = clsFin (decide (at_ (L s) (i + 1) = 94)) (clsP (L s) i0 true []) := by
    unfold setP; rw [if_neg (by omega), ← hi0]
  rw [hP]
  generalize hC : clsP (L s) i0 true [] = C
  have hi0l : i0 ≤ s.size := by rw [hi0]; split <;> omega
  refine ⟨fun w' => Rd w' b s i0 g dp a ln c ∧ Ext (fun k => k = b) w w', ⟨fun g1 => ?_, fun g1 => ?_⟩, ?_⟩
  · have : ((at_ (L s) (i + 1) : Nat) : Int) = 94 := by simpa using g1
    have e : i0 = i + 2 := by rw [hi0, if_pos (by omega)]
    refine ⟨_, h6.cell 1, ?_⟩
    exact h6.mv (j := i + 2) (by rw [w64 (by omega)]; omega) fun w7 s7 h7 e7 => ⟨by rw [e]; exact h7, E6.trans e7⟩
  · have : ¬ ((at_ (L s) (i + 1) : Nat) : Int) = 94 := by simpa using g1
    have e : i0 = i + 1 := by rw [hi0, if_neg (by omega)]
    exact ⟨by rw [e]; exact h6, E6⟩
  rintro - w12 ⟨h12, E12⟩
  have hz12 := E12.size
  refine newC_in fun w14 s14 k14 e14 => ?_
  generalize hb13 : w12.heap.size = b13 at *
  -- all that the loop keeps
  let St (w' : World) (j : Nat) (rs : Rs) : Prop := Rd w' b s j g dp a ln c ∧ Blk w'.heap b13 177 (b256 (inR rs)) ∧ Ext (fun k => k = b) w w'
  have hst : ∀ {w' w'' : World} {j : Nat} {rs : Rs}, St w' j rs → Below w'.heap.size w' w'' → St w'' j rs := fun h k => ⟨h.1.below k, h.2.1.below k, h.2.2.trans (Ext.of_below k)⟩
  have hstE : ∀ {w' w'' : World} {j : Nat} {rs : Rs}, St w' j rs → Ext (fun _ => False) w' w'' → St w'' j rs := fun h k => ⟨Blk.keep h.1 k fun h => h, h.2.1.keep k fun h => h, h.2.2.trans (Ext.mono k fun _ _ h => h.elim)⟩
  have hpan : ∀ {w' w'' : World} {j n : Nat} {rs : Rs}, St w' j rs → Ext (fun k => k = b) w' w'' → C = .bad n → SetR w b s g dp a ln c (clsFin (decide (at_ (L s) (i + 1) = 94)) C) (PanicB n) w'' := by
    intro w' w'' j n rs h e hn
    rw [hn]
    exact ⟨h.2.2.trans e, rfl⟩
  refine ⟨fun k first w' => ∃ j rs, clsP (L s) j first rs = C ∧ k = s.size + 1 - j ∧ j ≤ s.size ∧ St w' j rs, ⟨_, i0, [], hC, rfl, hi0l, Blk.keep h12 e14 (fun h => h), ?_, E12.trans (Ext.mono e14 fun _ _ h => h.elim)⟩, ?_⟩
  · rw [inR_nil, b256_false]; exact k14
  rintro k d first w18 ⟨j, rs, hCl, rfl, hj, hS⟩
  have hb13b : b13 ≠ b := by omega
  have hout : ¬ j < s.size → C = .bad s.size := fun hn => by rw [← hCl, clsP_out (by omega), hsz]
  refine ⟨fun w' => St w' j rs ∧ (first = true ∨ j < s.size ∧ at_ (L s) j ≠ 93), ?_, ?_⟩
  · -- the test ahead of a round
    refine ⟨fun g1 => ⟨hS, .inl g1⟩, fun g1 => ?_⟩
    by_cases hjl : j < s.size
    case neg =>
      refine (need_bad hS.1 hjl).use fun e w23 he => ?_
      obtain ⟨rfl, b23⟩ := he
      exact hpan hS (Ext.of_below b23) (hout hjl)
    refine (need_ret hS.1 hjl).ret fun w23 b23 => ⟨_, rfl, fun g2 => ?_, fun g2 => ?_⟩
    · have : ¬ ((at_ (L s) j : Nat) : Int) = 93 := by simpa using g2
      exact ⟨hst hS b23, .inr ⟨hjl, by omega⟩⟩
    · have g2' : at_ (L s) j = 93 := by have : ((at_ (L s) j : Nat) : Int) = 93 := by simpa using g2
                                        omega
      have hCe : C = .ok (j + 1, rs) := by rw [← hCl, clsP_end (by omega) g1 g2']
      have hS23 := hst hS b23
      refine ⟨_, hS23.1.cell 1, ?_⟩
      refine hS23.1.mv (j := j + 1) (by rw [w64 (by omega)]; omega) fun w26 s26 h26 e26 => ?_
      have k26 := hS23.2.1.keep e26 hb13b
      have E26 := hS23.2.2.trans e26
      rw [hCe]
      have hend : ∀ {w' : World} {f : Nat → Bool}, Blk w'.heap b13 177 (b256 f) → Rd w' b s (j + 1) g dp a ln c → Ext (fun k => k = b) w w' → (f = fun n => inR rs n != decide (at_ (L s) (i + 1) = 94)) →
          Cl Try.prog 146 [.pointer (some ⟨b13, 0, none⟩)] w' (retG (fun (r38 : Value) (w37 : World) => ∃ (a36 : Option Addr), ∃ (l36 : Nat), ∃ (c36 : Nat), r38 = .slice a36 l36 c36 ∧ SetR w b s g dp a ln c (.ok (j + 1, runs fun n => inR rs n != decide (at_ (L s) (i + 1) = 94))) (.returned (.slice a36 l36 c36)) w37)
            fun c1 w1 => SetR w b s g dp a ln c (.ok (j + 1, runs fun n => inR rs n != decide (at_ (L s) (i + 1) = 94))) (.panicked c1) w1) := by
        intro w' f hB hR hE hf
        subst hf
        refine (ranges_ok hB).use fun e w'' he => ?_
        obtain ⟨a', c', rfl, hRow, hbel⟩ := he
        exact ⟨a', _, c', rfl, hE.trans (Ext.of_below hbel), a', c', rfl, hRow.mono hE.size, hR.below hbel⟩
      refine ⟨fun g3 => ?_, fun g3 => ?_⟩
      · have g3' : at_ (L s) (i + 1) = 94 := by have : ((at_ (L s) (i + 1) : Nat) : Int) = 94 := by simpa using g3
                                                omega
        refine ⟨fun k n w' => ∃ q : Nat, n = q ∧ q ≤ 256 ∧ k = 256 - q ∧ Rd w' b s (j + 1) g dp a ln c ∧ Blk w'.heap b13 177 (b256 fun n => if n < q then !inR rs n else inR rs n) ∧ Ext (fun k => k = b) w w', ⟨_, 0, rfl, by omega, rfl, h26, by simpa using k26, E26⟩, ?_⟩
        rintro k d n w30 ⟨q, rfl, hq, rfl, h30, k30, E30⟩
        refine ⟨fun g4 => ?_, fun g4 => ?_⟩
        · have g4' : q < 256 := by have := of_decide_eq_true g4; omega
          rw [show 0 + Int.toNat (q : Int) * 1 = q from by omega]
          refine ⟨⟨by omega, by show (q : Int) < 256; omega⟩, inR rs q, by rw [k30.cell, b256_get _ _ g4']; simp, ⟨by omega, by show (q : Int) < 256; omega⟩, ?_⟩
          refine stW_in k30 (by rw [b256_length]; show q + 1 ≤ 256; omega) fun w34 s34 k34 e34 => ?_
          refine ⟨_, by omega, q + 1, by rw [w64 (by omega)]; omega, by omega, rfl, Blk.keep h30 e34 (by omega), ?_, E30.step e34 fun k hk h => by omega⟩
          have : segSet (b256 fun n => if n < q then !inR rs n else inR rs n) q [.bool (!inR rs q)] = b256 fun n => if n < q + 1 then !inR rs n else inR rs n := by
            show (b256 _).set q _ = _
            rw [b256_set]
            apply b256_ext
            intro n hn
            by_cases hnq : n = q
            · subst hnq; simp
            · rw [if_neg hnq]
              by_cases h1 : n < q
              · rw [if_pos h1, if_pos (by omega)]
              · rw [if_neg h1, if_neg (by omega)]
          rw [← this]; exact k34
        · have : q = 256 := by have := of_decide_eq_false g4; omega
          subst this
          have hfe : (b256 fun n => if n < 256 then !inR rs n else inR rs n) = b256 fun n => inR rs n != decide (at_ (L s) (i + 1) = 94) := by
            apply b256_ext
            intro n hn
            rw [if_pos hn, g3']; simp
          rw [hfe] at k30
          exact hend k30 h30 E30 rfl
      · have g3' : ¬ at_ (L s) (i + 1) = 94 := by have : ¬ ((at_ (L s) (i + 1) : Nat) : Int) = 94 := by simpa using g3
                                                  omega
        exact hend k26 h26 E26 (by funext n; rw [decide_eq_false g3']; simp)
  · rintro - w43 ⟨hS43, hfj⟩
    by_cases hjl : j < s.size
    case neg =>
      refine (part_bad hS43.1 first hjl).use fun e w46 he => ?_
      obtain ⟨rfl, b46⟩ := he
      exact hpan hS43 (Ext.of_below b46) (hout hjl)
    have hn : ¬ (first = false ∧ at_ (L s) j = 93) := by
      rintro ⟨h1, h2⟩
      rcases hfj with h | h
      · rw [h] at h1; cases h1
      · exact h.2 h2
    refine (part_ok hS43.1 (by omega) first hjl (hfj.imp id (·.2))).use fun e w46 he => ?_
    obtain ⟨e46, he⟩ := he
    cases hp : partP (L s) j with
    | bad n =>
      rw [hp] at he; subst he
      exact hpan hS43 e46 (by rw [← hCl, clsP_bad (by omega) hn hp])
    | ok x =>
    obtain ⟨j1, r, o⟩ := x
    have hj1 := partP_gt (by omega) hp
    rw [hp] at he
    obtain ⟨rfl, h46⟩ := he
    have S46 : St w46 j1 rs := ⟨h46, hS43.2.1.keep e46 hb13b, hS43.2.2.trans e46⟩
    refine ⟨_, _, rfl, ?_⟩
    refine newC_in fun w49 s49 k49 e49 => ?_
    have S49 := hstE S46 e49
    have hlt13 := S46.2.1.lt
    have hbl46 := Blk.lt h46
    refine stA_in k49 (b256_length _) List.length_replicate (b256_scal _) fun w50 s50 k50 e50 => ?_
    have hz46 := S46.2.2.size
    have S50 : St w50 j1 rs := ⟨Blk.keep S49.1 e50 (by omega), S49.2.1.keep e50 (by omega), S49.2.2.step e50 fun k hk h => by omega⟩
    generalize hb48 : w46.heap.size = b48 at *
    -- behind the range, if there is one
    refine ⟨fun w' => ∃ j2 r', clsP (L s) j first rs = clsP (L s) j2 false (rs ++ r') ∧ j < j2 ∧ j2 ≤ s.size ∧ St w' j2 rs ∧ Blk w'.heap b48 177 (b256 (inR r')), ?_, ?_⟩
    · cases o with
      | none =>
        refine ⟨fun g1 => by simp at g1, fun _ => ⟨j1, r, clsP_many (by omega) hn hp, by omega, by omega, S50, k50⟩⟩
      | some v =>
        obtain ⟨rfl, hv⟩ := partP_one hp
        have hone := clsP_one (rs := rs) (by omega) hn hp
        refine ⟨fun _ => ?_, fun g1 => by simp at g1⟩
        by_cases hj1l : j1 < s.size
        case neg =>
          refine (need_bad S50.1 hj1l).use fun e w53 he => ?_
          obtain ⟨rfl, b53⟩ := he
          exact hpan S50 (Ext.of_below b53) (by rw [← hCl, hone, if_pos (by omega), hsz])
        rw [if_neg (by omega)] at hone
        refine (need_ret S50.1 hj1l).ret fun w53 b53 => ⟨_, rfl, fun g2 => ?_, fun g2 => ?_⟩
        case refine_2 =>
          have : at_ (L s) j1 ≠ 45 := by have : ((at_ (L s) j1 : Nat) : Int) ≠ 45 := by simpa using g2
                                         omega
          rw [if_pos this] at hone
          exact ⟨j1, _, hone, by omega, by omega, hst S50 b53, k50.below b53⟩
        have g2' : at_ (L s) j1 = 45 := by have : ((at_ (L s) j1 : Nat) : Int) = 45 := by simpa using g2
                                           omega
        rw [if_neg (by omega)] at hone
        refine drw_in fun w55 q55 e55 => ?_
        have S55 := hstE (hst S50 b53) e55
        have k55 := (k50.below b53).keep e55 fun h => h
        have hw1 : IntKind.wrap .i64 ((j1 : Int) + 1) = ((j1 + 1 : Nat) : Int) := by rw [w64 (by omega)]; omega
        refine ⟨j1, S55.1.cell 1, s, S55.1.cell 0, ?_⟩
        rw [hw1]
        refine ⟨fun w' => w' = w55 ∧ j1 + 1 < s.size, ⟨fun g3 => ?_, fun g3 => ⟨rfl, by have := of_decide_eq_false g3; omega⟩⟩, ?_⟩
        · have g3' := of_decide_eq_true g3
          refine ⟨s, S55.1.cell 0, (fail_ok b s.size rfl w55).use fun e w57 he => ?_⟩
          obtain ⟨rfl, rfl⟩ := he
          exact hpan S55 (Ext.refl _ _) (by rw [← hCl, hone, if_pos (by omega), hsz])
        rintro - w63 ⟨rfl, hj12⟩
        rw [if_neg (by omega)] at hone
        refine drw_in fun w64 q64 e64 => ?_
        have S64 := hstE S55 e64
        have k64 := k55.keep e64 fun h => h
        refine ⟨s, S64.1.cell 0, j1, S64.1.cell 1, ?_⟩
        dsimp only
        rw [hw1, byteI s (j := j1 + 1) rfl]
        refine ⟨⟨by omega, by omega⟩, fun g4 => ?_, fun g4 => ?_⟩
        case refine_2 =>
          have : at_ (L s) (j1 + 1) = 93 := by have : ((at_ (L s) (j1 + 1) : Nat) : Int) = 93 := by simpa using g4
                                               omega
          rw [if_pos this] at hone
          exact ⟨j1, _, hone, by omega, by omega, S64, k64⟩
        have g4' : at_ (L s) (j1 + 1) ≠ 93 := by have : ((at_ (L s) (j1 + 1) : Nat) : Int) ≠ 93 := by simpa using g4
                                                 omega
        rw [if_neg g4'] at hone
        refine ⟨j1, S64.1.cell 1, ?_⟩
        refine S64.1.mv (j := j1 + 1) hw1 fun w68 s68 h68 e68 => ?_
        have k68 := k64.keep e68 (by omega)
        have S68 : St w68 (j1 + 1) rs := ⟨h68, S64.2.1.keep e68 hb13b, S64.2.2.trans e68⟩
        refine ⟨_, h68.cell 1, ?_⟩
        refine (part_ok h68 (by omega) false hj12 (.inr g4')).use fun e w72 he => ?_
        obtain ⟨e72, he⟩ := he
        cases hq : partP (L s) (j1 + 1) with
        | bad n =>
          rw [hq] at he hone; subst he
          exact hpan S68 e72 (by rw [← hCl, hone])
        | ok x =>
        obtain ⟨j2, r2, o2⟩ := x
        have hj2 := partP_gt (by omega) hq
        rw [hq] at he hone
        obtain ⟨rfl, h72⟩ := he
        refine ⟨_, _, rfl, ?_⟩
        have S72 : St w72 j2 rs := ⟨h72, S68.2.1.keep e72 hb13b, S68.2.2.trans e72⟩
        have k72 := k68.keep e72 (by omega)
        have hlt13' := S72.2.1.lt
        have hlt48 := k72.lt
        have hbl72 := Blk.lt h72
        refine newC_in fun w75 s75 k75 e75 => ?_
        have S75 := hstE S72 e75
        have k48 := k72.keep e75 fun h => h
        refine stA_in k75 (b256_length _) List.length_replicate (b256_scal _) fun w76 s76 k76 e76 => ?_
        have hz72 := S72.2.2.size
        have S76 : St w76 j2 rs := ⟨Blk.keep S75.1 e76 (by omega), S75.2.1.keep e76 (by omega), S75.2.2.step e76 fun k hk h => by omega⟩
        have k48' := k48.keep e76 (by omega)
        refine drw_in fun w77 q77 e77 => ?_
        have S77 := hstE S76 e77
        have k48'' := k48'.keep e77 fun h => h
        have k74 := k76.keep e77 fun h => h
        cases o2 with
        | none =>
          refine ⟨fun _ => ?_, fun g => by simp at g⟩
          refine (fail_ok b (j1 + 1) rfl w77).use fun e w78 he => ?_
          obtain ⟨rfl, rfl⟩ := he
          exact hpan S77 (Ext.refl _ _) (by rw [← hCl, hone])
        | some v2 =>
        obtain ⟨rfl, hv2⟩ := partP_one hq
        simp only [] at hone
        refine ⟨fun g => by simp at g, fun _ => ?_⟩
        have lowv : ∀ (v : Nat), v < 256 → ∀ w, Cl Try.prog 162 [.agg ⟨b256 (inR [(v, v)])⟩] w (RetB (.int .i64 v) w) := fun v hv w =>
          low_ok _ v hv (by rw [inR_one]; simp) (fun n hn => by rw [inR_one]; exact decide_eq_false (by omega)) w
        refine ⟨⟨b256 (inR [(v2, v2)])⟩, b256_size _, k74.all, ⟨b256 (inR [(v, v)])⟩, b256_size _, k48''.all, ?_⟩
        refine (lowv v2 hv2 w77).ret fun w94 b94 => ⟨_, rfl, (k48''.below b94).all, ?_⟩
        refine (lowv v hv w94).ret fun w97 b97 => ⟨_, rfl, fun g5 => ?_, fun g5 => ?_⟩
        · have g5' := of_decide_eq_true g5
          refine (fail_ok b (j1 + 1) rfl w97).use fun e w99 he => ?_
          obtain ⟨rfl, rfl⟩ := he
          exact hpan S77 (Ext.of_below (b94.vstep b97)) (by rw [← hCl, hone, if_pos (by omega)])
        · have g5' := of_decide_eq_false g5
          rw [if_neg (by omega)] at hone
          refine drw_in fun w112 q112 e112 => ?_
          have B112 : Below w77.heap.size w77 w112 := Ext.to (b94.vstep b97) e112 fun _ h => h.elim
          have S112 := hst S77 B112
          have k48b := k48''.below B112
          have k74b := k74.below B112
          refine ⟨⟨b256 (inR [(v, v)])⟩, b256_size _, k48b.all, ⟨b256 (inR [(v2, v2)])⟩, b256_size _, k74b.all, ?_⟩
          refine (lowv v hv w112).ret fun w116 b116 => ⟨_, rfl, (k74b.below b116).all, ?_⟩
          refine (lowv v2 hv2 w116).ret fun w119 b119 => ⟨_, rfl, ?_⟩
          have B119 := b116.vstep b119
          refine (addR_ok (k48b.below B119) v v2 hv2 rfl rfl).use fun e w121 he => ?_
          obtain ⟨rfl, k121, e121⟩ := he
          have S119 := hst S112 B119
          refine ⟨rfl, j2, [(v, v)] ++ [(v, v2)], ?_, by omega, by omega, ⟨Blk.keep S119.1 e121 (by omega), S119.2.1.keep e121 (by omega), S119.2.2.step e121 fun k hk h => by omega⟩, k121⟩
          rw [hone, List.append_assoc]
    · rintro - w124 ⟨j2, r', hc2, hj2, hj2l, S124, k124⟩
      refine ⟨⟨b256 (inR r')⟩, b256_size _, k124.all, ?_⟩
      refine ⟨fun k n w' => ∃ q : Nat, n = q ∧ q ≤ 256 ∧ k = 256 - q ∧ Rd w' b s j2 g dp a ln c ∧ Blk w'.heap b13 177 (b256 fun n => inR rs n || (decide (n < q) && inR r' n)) ∧ Ext (fun k => k = b) w w', ⟨_, 0, rfl, by omega, rfl, S124.1, by simpa using S124.2.1, S124.2.2⟩, ?_⟩
      rintro k d n w30 ⟨q, rfl, hq, rfl, h30, k30, E30⟩
      refine ⟨fun g4 => ?_, fun g4 => ?_⟩
      · have g4' : q < 256 := by have := of_decide_eq_true g4; omega
        have hback : ∀ w34 : World, ∀ v : Bool, v = (inR rs q || inR r' q) → Ext (fun k => k = b13) w30 w34 → Blk w34.heap b13 177 (segSet (b256 fun n => inR rs n || (decide (n < q) && inR r' n)) q [.bool v]) →
            ∃ m, m < 256 - q ∧ ∃ q' : Nat, IntKind.wrap .i64 ((q : Int) + 1) = q' ∧ q' ≤ 256 ∧ m = 256 - q' ∧ Rd w34 b s j2 g dp a ln c ∧ Blk w34.heap b13 177 (b256 fun n => inR rs n || (decide (n < q') && inR r' n)) ∧ Ext (fun k => k = b) w w34 := by
          intro w34 v hv e34 k34
          refine ⟨_, by omega, q + 1, by rw [w64 (by omega)]; omega, by omega, rfl, Blk.keep h30 e34 (by omega), ?_, E30.step e34 fun k hk h => by omega⟩
          have : segSet (b256 fun n => inR rs n || (decide (n < q) && inR r' n)) q [.bool v] = b256 fun n => inR rs n || (decide (n < q + 1) && inR r' n) := by
            show (b256 _).set q _ = _
            rw [b256_set]
            apply b256_ext
            intro n hn
            by_cases hnq : n = q
            · subst hnq; simp [hv]
            · rw [if_neg hnq, show decide (n < q) = decide (n < q + 1) from decide_eq_decide.2 (by omega)]
          rw [← this]; exact k34
        rw [show 0 + Int.toNat (q : Int) * 1 = q from by omega]
        have hqi : 0 ≤ (q : Int) ∧ (q : Int) < ((256 : Nat) : Int) := ⟨by omega, by omega⟩
        refine ⟨inR r' q, idx256 (inR r') q g4' w30, hqi, inR rs q, by rw [k30.cell, b256_get _ _ g4']; simp, fun g5 => ⟨hqi, ?_⟩, fun g5 => ⟨hqi, ?_⟩⟩
        · exact stW_in k30 (by rw [b256_length]; show q + 1 ≤ 256; omega) fun w34 s34 k34 e34 => hback w34 true (by rw [g5]; simp) e34 k34
        · exact stW_in k30 (by rw [b256_length]; show q + 1 ≤ 256; omega) fun w34 s34 k34 e34 => hback w34 (inR r' q) (by rw [g5]; simp) e34 k34
      · have : q = 256 := by have := of_decide_eq_false g4; omega
        subst this
        refine ⟨s.size + 1 - j2, by omega, j2, rs ++ r', by rw [← hc2, hCl], rfl, hj2l, h30, ?_, E30⟩
        rw [b256_ext (g := fun n => inR rs n || (decide (n < 256) && inR r' n)) fun n hn => by rw [inR_app]; simp [hn]]
        exact k30
end Go.Proofs.Ytngbiaeliphdjaa.V
/- Pieces in memory; the program's put. No statement of the seat is proved here. -/
namespace Go.Vc
open Go.RowKit
set_option linter.unusedVariables false
set_option linter.unusedSimpArgs false
/-- A piece as its cells hold it. -/
structure Raw where
  kind : Int
  sa : Option Addr
  sl : Nat
  sc : Nat
  min : Int
  max : Int
  lazy : Bool
  num : Int
  ka : Option Addr
  kl : Nat
  kc : Nat
def Raw.cells (r : Raw) : List Value := [.int .i64 r.kind, .slice r.sa r.sl r.sc, .int .i64 r.min, .int .i64 r.max, .bool r.lazy, .int .i64 r.num, .slice r.ka r.kl r.kc]
def rawC (l : List Raw) : List Value := l.flatMap Raw.cells
theorem rawC_append (l m : List Raw) : rawC (l ++ m) = rawC l ++ rawC m := by simp [rawC]
theorem rawC_one (r : Raw) : rawC [r] = r.cells := by simp [rawC]
theorem rawC_length (l : List Raw) : (rawC l).length = l.length * 7 := by
  induction l with
  | nil => rfl
  | cons b r ih => rw [show b :: r = [b] ++ r from rfl, rawC_append, List.length_append, ih, rawC_one]; simp [Raw.cells]; omega
theorem rawC_at : ∀ (l : List Raw) (i : Nat) (h : i < l.length) (o : Nat), o < 7 → (rawC l)[i * 7 + o]? = l[i].cells[o]?
  | b :: r, 0, h, o, ho => by
    rw [show rawC (b :: r) = b.cells ++ rawC r from by simp [rawC]]
    rw [List.getElem?_append_left (by simp [Raw.cells]; omega)]; simp
  | b :: r, i + 1, h, o, ho => by
    rw [show rawC (b :: r) = b.cells ++ rawC r from by simp [rawC]]
    have hl : b.cells.length = 7 := rfl
    rw [List.getElem?_append_right (by rw [hl]; omega), hl, show (i + 1) * 7 + o - 7 = i * 7 + o from by omega]
    simpa using rawC_at r i (by simpa using h) o ho
theorem rawC_scal (l : List Raw) : (rawC l).all scal = true := by
  simp only [rawC, List.all_flatMap, List.all_eq_true]
  intro b _ v hv
  simp only [Raw.cells, List.mem_cons, List.not_mem_nil, or_false] at hv
  rcases hv with rfl | rfl | rfl | rfl | rfl | rfl | rfl <;> rfl
def intC (l : List Int) : List Value := l.map fun n => .int .i64 n
theorem intC_append (l m : List Int) : intC (l ++ m) = intC l ++ intC m := by simp [intC]
theorem intC_length (l : List Int) : (intC l).length = l.length * 1 := by simp [intC]
def ob (a : Option Addr) : List Nat := (blkOf a).toList
theorem mem_ob {a : Option Addr} {k : Nat} : k ∈ ob a ↔ blkOf a = some k := by unfold ob; cases blkOf a <;> simp [eq_comm]
def Raw.blocks (r : Raw) : List Nat := ob r.sa ++ ob r.ka
/-- The piece that these cells mean. -/
structure RawOk (w : World) (r : Raw) (p : Pc) : Prop where
  kind : r.kind = p.kind
  min : r.min = p.min
  max : r.max = p.max
  lazy : r.lazy = p.lazy
  num : r.num = p.num
  set : Vec w.heap 134 2 r.sa r.sl r.sc (rngC p.set)
  kids : Vec w.heap 3 1 r.ka r.kl r.kc (intC p.kids)
theorem RawOk.keep {S : Nat → Prop} {w w' : World} {r : Raw} {p : Pc} (h : RawOk w r p) (e : Ext S w w') (hs : ∀ k ∈ r.blocks, ¬ S k) : RawOk w' r p :=
  ⟨h.kind, h.min, h.max, h.lazy, h.num, h.set.keep e fun b hb => hs b (List.mem_append_left _ (mem_ob.2 hb)), h.kids.keep e fun b hb => hs b (List.mem_append_right _ (mem_ob.2 hb))⟩
theorem RawOk.lt {w : World} {r : Raw} {p : Pc} (h : RawOk w r p) : ∀ k ∈ r.blocks, k < w.heap.size := by
  intro k hk
  rcases List.mem_append.1 hk with hk | hk
  · exact h.set.lt k (mem_ob.1 hk)
  · exact h.kids.lt k (mem_ob.1 hk)
/-- A row of pieces, in blocks of its own, no two of them one. -/
def blks (a : Option Addr) (rs : List Raw) : List Nat := ob a ++ rs.flatMap Raw.blocks
structure Pcs (N : Nat) (w : World) (a : Option Addr) (l c : Nat) (rs : List Raw) (ps : List Pc) : Prop where
  row : Vec w.heap 111 7 a l c (rawC rs)
  len : rs.length = l
  len' : ps.length = l
  all : ∀ (i : Nat) (r : Raw) (p : Pc), rs[i]? = some r → ps[i]? = some p → RawOk w r p
  nodup : (blks a rs).Nodup
  low : ∀ b ∈ blks a rs, N ≤ b
theorem Pcs.nil (N : Nat) (w : World) : Pcs N w none 0 0 [] [] := ⟨Vec.nil _ _ _, rfl, rfl, by intro i r p h; simp at h, by simp [blks, ob, blkOf], by simp [blks, ob, blkOf]⟩
theorem Pcs.each {N : Nat} {w : World} {a : Option Addr} {l c : Nat} {rs : List Raw} {ps : List Pc} (h : Pcs N w a l c rs ps) {r : Raw} (hr : r ∈ rs) : ∃ p, p ∈ ps ∧ RawOk w r p := by
  obtain ⟨i, hi⟩ := List.getElem?_of_mem hr
  have hil : i < ps.length := by rw [h.len', ← h.len]; exact (List.getElem?_eq_some_iff.1 hi).1
  exact ⟨ps[i], List.getElem_mem _, h.all i r _ hi (List.getElem?_eq_getElem hil)⟩
theorem Pcs.lt {N : Nat} {w : World} {a : Option Addr} {l c : Nat} {rs : List Raw} {ps : List Pc} (h : Pcs N w a l c rs ps) : ∀ b ∈ blks a rs, b < w.heap.size := by
  intro b hb
  rcases List.mem_append.1 hb with hb | hb
  · exact h.row.lt b (mem_ob.1 hb)
  · obtain ⟨r, hr, hb⟩ := List.mem_flatMap.1 hb
    obtain ⟨p, _, hp⟩ := h.each hr
    exact hp.lt b hb
theorem Pcs.keep {S : Nat → Prop} {N : Nat} {w w' : World} {a : Option Addr} {l c : Nat} {rs : List Raw} {ps : List Pc} (h : Pcs N w a l c rs ps) (e : Ext S w w') (hs : ∀ k ∈ blks a rs, ¬ S k) : Pcs N w' a l c rs ps :=
  ⟨h.row.keep e fun b hb => hs b (List.mem_append_left _ (mem_ob.2 hb)), h.len, h.len', fun i r p hr hp => (h.all i r p hr hp).keep e fun k hk => hs k (List.mem_append_right _ (List.mem_flatMap.2 ⟨r, List.mem_of_getElem? hr, hk⟩)), h.nodup, h.low⟩
theorem Pcs.below {N : Nat} {w w' : World} {a : Option Addr} {l c : Nat} {rs : List Raw} {ps : List Pc} (h : Pcs N w a l c rs ps) (e : Below w.heap.size w w') : Pcs N w' a l c rs ps :=
  h.keep (S := fun _ => False) (Ext.of_below e) fun _ _ h => h
/-- What a step may have changed: the block b, the blocks B; what it leaves as its own is B or new. -/
def Step (b : Nat) (B : List Nat) (w w' : World) (B' : List Nat) : Prop := Ext (fun k => k = b ∨ k ∈ B) w w' ∧ ∀ k ∈ B', k ∈ B ∨ w.heap.size ≤ k
theorem Step.refl (b : Nat) (B : List Nat) (w : World) : Step b B w w B := ⟨Ext.refl _ _, fun k hk => .inl hk⟩
theorem Step.trans {b : Nat} {B B1 B2 : List Nat} {w w1 w2 : World} (h : Step b B w w1 B1) (k : Step b B1 w1 w2 B2) : Step b B w w2 B2 := by
  refine ⟨h.1.step k.1 fun i hi hk => ?_, fun i hi => ?_⟩
  · rcases hk with hk | hk
    · exact .inl hk
    · rcases h.2 i hk with h1 | h1
      · exact .inr h1
      · omega
  · rcases k.2 i hi with h1 | h1
    · exact h.2 i h1
    · exact .inr (Nat.le_trans h.1.size h1)
theorem Step.of_ext {b : Nat} {B : List Nat} {w w' : World} (h : Ext (fun k => k = b) w w') : Step b B w w' B := ⟨Ext.mono h fun _ _ hk => .inl hk, fun k hk => .inl hk⟩
theorem Step.of_below {b : Nat} {B : List Nat} {w w' : World} (h : Below w.heap.size w w') : Step b B w w' B := ⟨Ext.of_below h, fun k hk => .inl hk⟩
end Go.Vc
namespace Go.Proofs.Ytngbiaeliphdjaa.V
open Go.Vc Go.Proofs Go.RowKit
set_option linter.unusedVariables false
set_option linter.unusedSimpArgs false

theorem elemPc : Elem Try.prog 35 111 7 88 := ⟨by kernel_rfl, by kernel_rfl, by kernel_rfl, ⟨[.int .i64 0, .slice none 0 0, .int .i64 0, .int .i64 0, .bool false, .int .i64 0, .slice none 0 0], by kernel_rfl, rfl⟩⟩
theorem elemInt : Elem Try.prog 109 3 1 8 := ⟨by kernel_rfl, by kernel_rfl, by kernel_rfl, ⟨[.int .i64 0], by kernel_rfl, rfl⟩⟩

/-- One piece more. -/
theorem Pcs_app {N : Nat} {w : World} {a : Option Addr} {l c : Nat} {rs : List Raw} {ps : List Pc} (h : Pcs N w a l c rs ps) (hN : N ≤ w.heap.size) {r : Raw} {p : Pc} (hr : RawOk w r p) (hb : r.blocks.Nodup) (hd : ∀ k ∈ r.blocks, k ∉ blks a rs ∧ N ≤ k) (hl : l ≤ 1000) :
    ∃ a2 c2 w', (Builtin.append_ #[35, 35] 35 #[.slice a l c, .slice (some ⟨w.heap.size, 0, none⟩) 1 1]).run Try.prog (newW w (.cells ⟨r.cells⟩ 111)) = .ok (.slice a2 (l + 1) c2) w' ∧ Pcs N w' a2 (l + 1) c2 (rs ++ [r]) (ps ++ [p]) ∧
      Ext (fun k => k ∈ ob a) w w' ∧ (a2 = a ∨ a2 = some ⟨w.heap.size + 1, 0, none⟩) := by
  have E1 : Ext (fun _ => False) w (newW w (.cells ⟨r.cells⟩ 111)) := (Ext.refl _ w).vnew _
  obtain ⟨a2, c2, w', h1, h2, h3, h4⟩ := append_run (P := Try.prog) (T := 35) (T' := 35) (T'' := 35) elemPc.und elemPc.und elemPc.size elemPc.bytes (by rw [show zeroL Try.prog 111 = some _ from elemPc.zero.choose_spec.1]; simp)
    (by rw [show zeroL Try.prog 111 = some _ from elemPc.zero.choose_spec.1]; intro y hy; cases hy; exact elemPc.zero.choose_spec.2) (h.row.keep E1 fun _ _ h => h) (a' := some ⟨w.heap.size, 0, none⟩) (n := 1) (c' := 1) (ys := r.cells) rfl rfl (.inr ⟨_, _, rfl, cellsAt_newW w _ _⟩) (fun h => by cases h) (by omega) (by omega)
  rw [size_newW] at h4
  have E2 : Ext (fun k => k ∈ ob a) w w' := (Ext.mono E1 fun _ _ h => h.elim).trans (Ext.mono h3 fun k _ hk => mem_ob.2 hk)
  have hnd := List.nodup_append.1 h.nodup
  have hblk : ∀ k, k ∈ blks a2 (rs ++ [r]) → k ∈ blks a rs ∨ k ∈ r.blocks ∨ k = w.heap.size + 1 := by
    intro k hk
    simp only [blks, List.flatMap_append, List.mem_append, List.flatMap_cons, List.flatMap_nil, List.append_nil] at hk ⊢
    rcases hk with hk | hk | hk
    · rcases h4 with rfl | rfl
      · exact .inl (.inl hk)
      · right; right; rw [mem_ob] at hk; simp [blkOf] at hk; omega
    · exact .inl (.inr hk)
    · exact .inr (.inl hk)
  refine ⟨a2, c2, w', h1, ⟨by rw [rawC_append, rawC_one]; exact h2, by simp [h.len], by simp [h.len'], ?_, ?_, ?_⟩, E2, h4⟩
  · intro i x y hx hy
    rw [List.getElem?_append] at hx hy
    rw [h.len] at hx
    rw [h.len'] at hy
    split at hx
    · rename_i hi
      rw [if_pos hi] at hy
      refine (h.all i x y hx hy).keep E2 fun k hk hka => ?_
      exact hnd.2.2 k hka k (List.mem_flatMap.2 ⟨x, List.mem_of_getElem? hx, hk⟩) rfl
    · rename_i hi
      rw [if_neg hi] at hy
      have hx' : x = r := by
        have := List.mem_of_getElem? hx; simpa using this
      have hy' : y = p := by
        have := List.mem_of_getElem? hy; simpa using this
      subst hx' hy'
      exact hr.keep E2 fun k hk hka => (hd k hk).1 (List.mem_append_left _ hka)
  · -- all blocks differ
    have hr2 : ∀ k ∈ rs.flatMap Raw.blocks, k ∉ r.blocks := fun k hk hk2 => (hd k hk2).1 (List.mem_append_right _ hk)
    unfold blks
    rw [List.flatMap_append, List.nodup_append]
    refine ⟨by unfold ob; cases blkOf a2 <;> simp, ?_, ?_⟩
    · rw [List.nodup_append]
      refine ⟨hnd.2.1, by simpa using hb, ?_⟩
      intro x hx y hy hxy
      subst hxy
      exact hr2 x hx (by simpa using hy)
    · intro x hx y hy hxy
      subst hxy
      rcases h4 with rfl | rfl
      · rcases List.mem_append.1 hy with hy | hy
        · exact hnd.2.2 x hx x hy rfl
        · exact (hd x (by simpa using hy)).1 (List.mem_append_left _ hx)
      · have hxe : x = w.heap.size + 1 := by rw [mem_ob] at hx; simp [blkOf] at hx; omega
        rcases List.mem_append.1 hy with hy | hy
        · have := h.lt x (List.mem_append_right _ hy); omega
        · have := hr.lt x (by simpa using hy); omega
  · intro k hk
    rcases hblk k hk with h1 | h1 | h1
    · exact h.low k h1
    · exact (hd k h1).2
    · omega
end Go.Proofs.Ytngbiaeliphdjaa.V
/- Lemmas on rows in memory, marks, boxes. No statement of the seat is proved here. -/
namespace Go.Vc
open Go.RowKit
set_option linter.unusedVariables false
set_option linter.unusedSimpArgs false
theorem Vec.open {h : Array Obj} {e : TypeId} {sz : Nat} {a : Option Addr} {l c : Nat} {xs : List Value} (hv : Vec h e sz a l c xs) (hl : 0 < l * sz) : ∃ b, a = some ⟨b, 0, none⟩ ∧ ∀ o, o < l * sz → cellH h b o = xs[o]? := by
  obtain ⟨h1, h2, h3⟩ := hv
  rcases h3 with ⟨rfl, rfl⟩ | ⟨b, cs, rfl, hb, h6, h7⟩
  · have : l = 0 := by omega
    subst this; simp at hl
  · refine ⟨b, rfl, fun o ho => ?_⟩
    rw [hb.cell, ← h7, List.getElem?_take, if_pos ho]
theorem Vec.st {w : World} {e : TypeId} {sz : Nat} {b : Nat} {l c : Nat} {xs : List Value} (h : Vec w.heap e sz (some ⟨b, 0, none⟩) l c xs) {o : Nat} (ho : o < l * sz) {v : Value} {K : World → Prop}
    (hK : ∀ w1, w1.heap.size = w.heap.size → Vec w1.heap e sz (some ⟨b, 0, none⟩) l c (xs.set o v) → Ext (fun k => k = b) w w1 → K w1) : stW b o [v] K w := by
  obtain ⟨h1, h2, h3⟩ := h
  rcases h3 with ⟨h3, _⟩ | ⟨b', cs, hb', hB, h6, h7⟩
  · cases h3
  obtain rfl : b = b' := by injection hb' with hb'; injection hb'
  have hle := Nat.mul_le_mul_right sz h2
  refine stW_in hB (by simp only [List.length_singleton]; omega) fun w1 s1 k1 e1 => hK w1 s1 ⟨by rw [List.length_set]; exact h1, h2, .inr ⟨b, _, rfl, k1, by rw [segSet_length]; exact h6, ?_⟩⟩ e1
  show (cs.set o v).take (l * sz) = _
  rw [List.take_set, h7]
theorem rngC_at : ∀ (l : List (Int × Int)) (i : Nat) (h : i < l.length), (rngC l)[i * 2]? = some (.int .i64 l[i].1) ∧ (rngC l)[i * 2 + 1]? = some (.int .i64 l[i].2)
  | x :: r, 0, h => ⟨rfl, rfl⟩
  | x :: r, i + 1, h => by
    have := rngC_at r i (by simpa using h)
    rw [show (i + 1) * 2 = i * 2 + 2 from by omega, show i * 2 + 2 + 1 = (i * 2 + 1) + 2 from by omega]
    exact this
theorem intC_at (l : List Int) (i : Nat) (h : i < l.length) : (intC l)[i]? = some (.int .i64 l[i]) := by simp [intC, h]
def mkRng (k : Nat) : List (Int × Int) → List (Int × Int)
  | [] => []
  | _ :: r => ((k : Int), ((k + 1 : Nat) : Int)) :: mkRng (k + 2) r
theorem mkRng_length (s : List (Int × Int)) : ∀ k, (mkRng k s).length = s.length := by
  induction s with
  | nil => intro k; rfl
  | cons x r ih => intro k; simp [mkRng, ih]
theorem mkRng_append (s t : List (Int × Int)) : ∀ k, mkRng k (s ++ t) = mkRng k s ++ mkRng (k + 2 * s.length) t := by
  induction s with
  | nil => intro k; rfl
  | cons x r ih => intro k; simp only [List.cons_append, mkRng, ih, List.length_cons]; rw [show k + 2 + 2 * r.length = k + 2 * (r.length + 1) from by omega]
end Go.Vc
namespace Go.Proofs.Ytngbiaeliphdjaa.V
open Go.Vc Go.Proofs Go.RowKit
set_option linter.unusedVariables false
set_option linter.unusedSimpArgs false
theorem raw_at {w : World} {b l : Nat} {rs : List Raw} (hc : ∀ o, o < l * 7 → cellH w.heap b o = (rawC rs)[o]?) (hl : rs.length = l) {i : Nat} (hi : i < rs.length) (o : Nat) (ho : o < 7) : cellH w.heap b (0 + i * 7 + o) = rs[i].cells[o]? := by
  rw [Nat.zero_add, hc _ (by omega)]
  exact rawC_at rs i hi o ho
/-- A pattern's value as a box on the heap holds it. -/
def Box (w : World) (b : Nat) (t : Bool) (n m : Int) (a : Option Addr) (l c : Nat) : Prop := Blk w.heap b 37 [.bool t, .int .i64 n, .int .i64 m, .slice a l c]
theorem box_in {w : World} {t : Bool} {n m : Int} {a : Option Addr} {l c : Nat} {K : Nat → World → Prop} (h : ∀ w2, w2.heap.size = w.heap.size + 1 → Box w2 w.heap.size t n m a l c → Below w.heap.size w w2 → K w.heap.size w2) :
    newC [.bool false, .int .i64 0, .int .i64 0, .slice none 0 0] 37 (fun b (w8 : World) => stW b 0 [.bool t, .int .i64 n, .int .i64 m, .slice a l c] (fun w9 => K b w9) w8) w := by
  refine newC_in fun w1 s1 k1 e1 => ?_
  refine stW_in k1 (by show 0 + 4 ≤ 4; decide) fun w2 s2 k2 e2 => ?_
  exact h w2 (by omega) k2 (Ext.to (Ext.to (Below.refl _ _) e1 fun _ h => h.elim) e2 fun i h => by omega)
end Go.Proofs.Ytngbiaeliphdjaa.V
/- Printed by vcgen.py, a program of this session: formulas of Go functions, each with the proof that it gives the function's contract. No statement of the seat is proved here. -/
namespace Go.Proofs.Ytngbiaeliphdjaa.V
open Go.Vc Go.Proofs
set_option linter.unusedVariables false
set_option maxRecDepth 100000
/-- (*impl.list).add -/
def V129 (b1 o2 : Nat) (n3 : Int) (g4 : Nat → Int) (R : Rt) : Pred := fun w =>
  newC [.int .i64 n3, .int .i64 (g4 0), .int .i64 (g4 1), .int .i64 (g4 2), .int .i64 (g4 3), .int .i64 (g4 4), .int .i64 (g4 5), .int .i64 (g4 6), .int .i64 (g4 7), .int .i64 (g4 8), .int .i64 (g4 9), .int .i64 (g4 10), .int .i64 (g4 11), .int .i64 (g4 12), .int .i64 (g4 13), .int .i64 (g4 14), .int .i64 (g4 15), .int .i64 (g4 16), .int .i64 (g4 17), .int .i64 (g4 18), .int .i64 (g4 19)] 142 (fun b5 w6 => drw (fun w7 => lI w7 b5 0 fun n8 => (0 ≤ (n8 : Int) ∧ (n8 : Int) < ((201 : Nat) : Int)) ∧ lB w7 b1 (o2 + 1 + (Int.toNat n8) * 1) fun t9 => (cB (!t9) (drw (fun w10 => lI w10 b5 0 fun n11 => (0 ≤ (n11 : Int) ∧ (n11 : Int) < ((201 : Nat) : Int)) ∧ stW b1 (o2 + 1 + (Int.toNat n11) * 1) [.bool true] (fun w12 => drw (fun w13 => lL w13 b1 o2 fun a14 l14 c14 => lI w13 b5 0 fun n15 => ∃ (g16 : Nat → Int), intsAt w13.heap b5 1 20 g16 ∧ newC [.int .i64 n15, .int .i64 (g16 0), .int .i64 (g16 1), .int .i64 (g16 2), .int .i64 (g16 3), .int .i64 (g16 4), .int .i64 (g16 5), .int .i64 (g16 6), .int .i64 (g16 7), .int .i64 (g16 8), .int .i64 (g16 9), .int .i64 (g16 10), .int .i64 (g16 11), .int .i64 (g16 12), .int .i64 (g16 13), .int .i64 (g16 14), .int .i64 (g16 15), .int .i64 (g16 16), .int .i64 (g16 17), .int .i64 (g16 18), .int .i64 (g16 19)] 142 (fun b17 w18 => cellH w18.heap b1 o2 = some (.slice a14 l14 c14) ∧ ∃ a19 l19 c19, ∃ w20, (Builtin.append_ #[137, 137] 137 #[.slice a14 l14 c14, .slice (some ⟨b17, 0, none⟩) 1 1]).run Try.prog w18 = .ok (.slice a19 l19 c19) w20 ∧ stW b1 o2 [.slice a19 l19 c19] (fun w21 => R (.returned (.tuple #[])) w21) w20) w13) w12) w10) w7) (R (.returned (.tuple #[])) w7))) w6) w
def scr129 : Scr := (.q 1 (.q 8 (.cond (.q 7 (.q 11 .nil)) .nil)))
theorem vc129 {b1 o2 n3 g4} {R w} (h : V129 b1 o2 n3 g4 R w) : Cl Try.prog 129 [.pointer (some ⟨b1, o2, none⟩), .agg #[.int .i64 n3, .int .i64 (g4 0), .int .i64 (g4 1), .int .i64 (g4 2), .int .i64 (g4 3), .int .i64 (g4 4), .int .i64 (g4 5), .int .i64 (g4 6), .int .i64 (g4 7), .int .i64 (g4 8), .int .i64 (g4 9), .int .i64 (g4 10), .int .i64 (g4 11), .int .i64 (g4 12), .int .i64 (g4 13), .int .i64 (g4 14), .int .i64 (g4 15), .int .i64 (g4 16), .int .i64 (g4 17), .int .i64 (g4 18), .int .i64 (g4 19)]] w R :=
  cl_of scr129 Try.func129 (by kernel_rfl) _ _ (by kernel_rfl) h
/-- impl.none -/
def V130  (R : Rt) : Pred := fun w =>
  newC [.int .i64 0, .int .i64 0, .int .i64 0, .int .i64 0, .int .i64 0, .int .i64 0, .int .i64 0, .int .i64 0, .int .i64 0, .int .i64 0, .int .i64 0, .int .i64 0, .int .i64 0, .int .i64 0, .int .i64 0, .int .i64 0, .int .i64 0, .int .i64 0, .int .i64 0, .int .i64 0] 140 (fun b1 w2 => ∃ (I3 : Nat → Int → World → Prop), (∃ k5, I3 k5 0 w2) ∧ ∀ k4 (d7 : Nat → Value) n8 w6, I3 k4 n8 w6 → (cB (decide (n8 < 10)) ((0 ≤ (n8 : Int) ∧ (n8 : Int) < ((10 : Nat) : Int)) ∧ stW b1 (0 + (Int.toNat n8) * 2) [.int .i64 (-1), .int .i64 (-1)] (fun w9 => (∃ m10, m10 < k4 ∧ I3 m10 (IntKind.wrap .i64 (n8 + 1)) w9)) w6) (∃ (g11 : Nat → Int), intsAt w6.heap b1 0 20 g11 ∧ stW b1 0 [.int .i64 (g11 0), .int .i64 (g11 1), .int .i64 (g11 2), .int .i64 (g11 3), .int .i64 (g11 4), .int .i64 (g11 5), .int .i64 (g11 6), .int .i64 (g11 7), .int .i64 (g11 8), .int .i64 (g11 9), .int .i64 (g11 10), .int .i64 (g11 11), .int .i64 (g11 12), .int .i64 (g11 13), .int .i64 (g11 14), .int .i64 (g11 15), .int .i64 (g11 16), .int .i64 (g11 17), .int .i64 (g11 18), .int .i64 (g11 19)] (fun w12 => ∃ (g13 : Nat → Int), intsAt w12.heap b1 0 20 g13 ∧ R (.returned (.agg #[.int .i64 (g13 0), .int .i64 (g13 1), .int .i64 (g13 2), .int .i64 (g13 3), .int .i64 (g13 4), .int .i64 (g13 5), .int .i64 (g13 6), .int .i64 (g13 7), .int .i64 (g13 8), .int .i64 (g13 9), .int .i64 (g13 10), .int .i64 (g13 11), .int .i64 (g13 12), .int .i64 (g13 13), .int .i64 (g13 14), .int .i64 (g13 15), .int .i64 (g13 16), .int .i64 (g13 17), .int .i64 (g13 18), .int .i64 (g13 19)])) w12) w6))) w
def scr130 : Scr := (.q 1 (.q 1 (.loop (dr [(2, some (.int .i64))] [(1,1),(3,6)]) (.q 1 (.cond (.q 2 (.q 4 (.q 2 .nil))) (.q 2 .nil))))))
theorem vc130 {R w} (h : V130  R w) : Cl Try.prog 130 [] w R :=
  cl_of scr130 Try.func130 (by kernel_rfl) _ _ (by kernel_rfl) h
/-- (impl.spans).with -/
def V151 (g1 g2 : Nat → Int) (R : Rt) : Pred := fun w =>
  newC [.int .i64 (g1 0), .int .i64 (g1 1), .int .i64 (g1 2), .int .i64 (g1 3), .int .i64 (g1 4), .int .i64 (g1 5), .int .i64 (g1 6), .int .i64 (g1 7), .int .i64 (g1 8), .int .i64 (g1 9), .int .i64 (g1 10), .int .i64 (g1 11), .int .i64 (g1 12), .int .i64 (g1 13), .int .i64 (g1 14), .int .i64 (g1 15), .int .i64 (g1 16), .int .i64 (g1 17), .int .i64 (g1 18), .int .i64 (g1 19)] 140 (fun b3 w4 => newC [.int .i64 (g2 0), .int .i64 (g2 1), .int .i64 (g2 2), .int .i64 (g2 3), .int .i64 (g2 4), .int .i64 (g2 5), .int .i64 (g2 6), .int .i64 (g2 7), .int .i64 (g2 8), .int .i64 (g2 9), .int .i64 (g2 10), .int .i64 (g2 11), .int .i64 (g2 12), .int .i64 (g2 13), .int .i64 (g2 14), .int .i64 (g2 15), .int .i64 (g2 16), .int .i64 (g2 17), .int .i64 (g2 18), .int .i64 (g2 19)] 140 (fun b5 w6 => newC [.int .i64 0, .int .i64 0, .int .i64 0, .int .i64 0, .int .i64 0, .int .i64 0, .int .i64 0, .int .i64 0, .int .i64 0, .int .i64 0, .int .i64 0, .int .i64 0, .int .i64 0, .int .i64 0, .int .i64 0, .int .i64 0, .int .i64 0, .int .i64 0, .int .i64 0, .int .i64 0] 140 (fun b7 w8 => ∃ (g9 : Nat → Int), intsAt w8.heap b5 0 20 g9 ∧ ∃ (I10 : Nat → Int → World → Prop), (∃ k12, I10 k12 0 w8) ∧ ∀ k11 (d14 : Nat → Value) n15 w13, I10 k11 n15 w13 → (cB (decide (n15 < 10)) (∃ n16, ∃ n17, (Instr.index 140 (.agg #[.int .i64 (g9 0), .int .i64 (g9 1), .int .i64 (g9 2), .int .i64 (g9 3), .int .i64 (g9 4), .int .i64 (g9 5), .int .i64 (g9 6), .int .i64 (g9 7), .int .i64 (g9 8), .int .i64 (g9 9), .int .i64 (g9 10), .int .i64 (g9 11), .int .i64 (g9 12), .int .i64 (g9 13), .int .i64 (g9 14), .int .i64 (g9 15), .int .i64 (g9 16), .int .i64 (g9 17), .int .i64 (g9 18), .int .i64 (g9 19)]) (.int .i64 n15)).run Try.prog w13 = .ok (.agg #[.int .i64 n16, .int .i64 n17]) w13 ∧ newC [.int .i64 0, .int .i64 0] 31 (fun b18 w19 => stW b18 0 [.int .i64 n16, .int .i64 n17] (fun w20 => lI w20 b18 0 fun n21 => (cB (decide (n21 ≥ 0)) (lI w20 b18 0 fun n22 => lI w20 b18 1 fun n23 => (0 ≤ (n15 : Int) ∧ (n15 : Int) < ((10 : Nat) : Int)) ∧ stW b3 (0 + (Int.toNat n15) * 2) [.int .i64 n22, .int .i64 n23] (fun w24 => (∃ m25, m25 < k11 ∧ I10 m25 (IntKind.wrap .i64 (n15 + 1)) w24)) w20) ((∃ m26, m26 < k11 ∧ I10 m26 (IntKind.wrap .i64 (n15 + 1)) w20)))) w19) w13) (∃ (g27 : Nat → Int), intsAt w13.heap b3 0 20 g27 ∧ stW b7 0 [.int .i64 (g27 0), .int .i64 (g27 1), .int .i64 (g27 2), .int .i64 (g27 3), .int .i64 (g27 4), .int .i64 (g27 5), .int .i64 (g27 6), .int .i64 (g27 7), .int .i64 (g27 8), .int .i64 (g27 9), .int .i64 (g27 10), .int .i64 (g27 11), .int .i64 (g27 12), .int .i64 (g27 13), .int .i64 (g27 14), .int .i64 (g27 15), .int .i64 (g27 16), .int .i64 (g27 17), .int .i64 (g27 18), .int .i64 (g27 19)] (fun w28 => ∃ (g29 : Nat → Int), intsAt w28.heap b7 0 20 g29 ∧ R (.returned (.agg #[.int .i64 (g29 0), .int .i64 (g29 1), .int .i64 (g29 2), .int .i64 (g29 3), .int .i64 (g29 4), .int .i64 (g29 5), .int .i64 (g29 6), .int .i64 (g29 7), .int .i64 (g29 8), .int .i64 (g29 9), .int .i64 (g29 10), .int .i64 (g29 11), .int .i64 (g29 12), .int .i64 (g29 13), .int .i64 (g29 14), .int .i64 (g29 15), .int .i64 (g29 16), .int .i64 (g29 17), .int .i64 (g29 18), .int .i64 (g29 19)])) w28) w13))) w6) w4) w
def scr151 : Scr := (.q 3 (.q 2 (.loop (dr [(8, some (.int .i64))] [(5,2),(9,10)]) (.q 1 (.cond (.q 5 (.q 3 (.cond (.q 4 (.q 2 .nil)) (.q 2 .nil)))) (.q 2 .nil))))))
theorem vc151 {g1 g2} {R w} (h : V151 g1 g2 R w) : Cl Try.prog 151 [.agg #[.int .i64 (g1 0), .int .i64 (g1 1), .int .i64 (g1 2), .int .i64 (g1 3), .int .i64 (g1 4), .int .i64 (g1 5), .int .i64 (g1 6), .int .i64 (g1 7), .int .i64 (g1 8), .int .i64 (g1 9), .int .i64 (g1 10), .int .i64 (g1 11), .int .i64 (g1 12), .int .i64 (g1 13), .int .i64 (g1 14), .int .i64 (g1 15), .int .i64 (g1 16), .int .i64 (g1 17), .int .i64 (g1 18), .int .i64 (g1 19)], .agg #[.int .i64 (g2 0), .int .i64 (g2 1), .int .i64 (g2 2), .int .i64 (g2 3), .int .i64 (g2 4), .int .i64 (g2 5), .int .i64 (g2 6), .int .i64 (g2 7), .int .i64 (g2 8), .int .i64 (g2 9), .int .i64 (g2 10), .int .i64 (g2 11), .int .i64 (g2 12), .int .i64 (g2 13), .int .i64 (g2 14), .int .i64 (g2 15), .int .i64 (g2 16), .int .i64 (g2 17), .int .i64 (g2 18), .int .i64 (g2 19)]] w R :=
  cl_of scr151 Try.func151 (by kernel_rfl) _ _ (by kernel_rfl) h
/-- (*impl.finder).then -/
def V131 (b1 o2 : Nat) (a3 : Option Addr) (l3 c3 f4 : Nat) (fi4 cp4 : Array Value) (R : Rt) : Pred := fun w =>
  newC ([.slice none 0 0] ++ List.replicate 201 (.bool false)) 163 (fun b5 w6 => ∃ (I7 : Nat → Int → World → Prop), (∃ k9, I7 k9 0 w6) ∧ ∀ k8 (d11 : Nat → Value) n12 w10, I7 k8 n12 w10 → (cB (decide (n12 < ((l3 : Nat) : Int))) (ixS a3 l3 n12 fun b13 o14 => lI w10 b13 (o14 + (Int.toNat n12) * 21) fun n15 => ∃ (g16 : Nat → Int), intsAt w10.heap b13 (o14 + (Int.toNat n12) * 21 + 1) 20 g16 ∧ newC [.int .i64 0, .int .i64 0, .int .i64 0, .int .i64 0, .int .i64 0, .int .i64 0, .int .i64 0, .int .i64 0, .int .i64 0, .int .i64 0, .int .i64 0, .int .i64 0, .int .i64 0, .int .i64 0, .int .i64 0, .int .i64 0, .int .i64 0, .int .i64 0, .int .i64 0, .int .i64 0, .int .i64 0] 142 (fun b17 w18 => stW b17 0 [.int .i64 n15, .int .i64 (g16 0), .int .i64 (g16 1), .int .i64 (g16 2), .int .i64 (g16 3), .int .i64 (g16 4), .int .i64 (g16 5), .int .i64 (g16 6), .int .i64 (g16 7), .int .i64 (g16 8), .int .i64 (g16 9), .int .i64 (g16 10), .int .i64 (g16 11), .int .i64 (g16 12), .int .i64 (g16 13), .int .i64 (g16 14), .int .i64 (g16 15), .int .i64 (g16 16), .int .i64 (g16 17), .int .i64 (g16 18), .int .i64 (g16 19)] (fun w19 => lI w19 b17 0 fun n20 => clL f4 (fi4.toList ++ [.int .i64 n20] ++ cp4.toList) w19 R fun a21 l21 c21 w22 => ∃ (I24 : Nat → Int → World → Prop), (∃ k26, I24 k26 0 w22) ∧ ∀ k25 (d28 : Nat → Value) n29 w27, I24 k25 n29 w27 → (cB (decide (n29 < ((l21 : Nat) : Int))) (ixS a21 l21 n29 fun b30 o31 => lI w27 b30 (o31 + (Int.toNat n29) * 21) fun n32 => ∃ (g33 : Nat → Int), intsAt w27.heap b30 (o31 + (Int.toNat n29) * 21 + 1) 20 g33 ∧ newC [.int .i64 0, .int .i64 0, .int .i64 0, .int .i64 0, .int .i64 0, .int .i64 0, .int .i64 0, .int .i64 0, .int .i64 0, .int .i64 0, .int .i64 0, .int .i64 0, .int .i64 0, .int .i64 0, .int .i64 0, .int .i64 0, .int .i64 0, .int .i64 0, .int .i64 0, .int .i64 0, .int .i64 0] 142 (fun b34 w35 => stW b34 0 [.int .i64 n32, .int .i64 (g33 0), .int .i64 (g33 1), .int .i64 (g33 2), .int .i64 (g33 3), .int .i64 (g33 4), .int .i64 (g33 5), .int .i64 (g33 6), .int .i64 (g33 7), .int .i64 (g33 8), .int .i64 (g33 9), .int .i64 (g33 10), .int .i64 (g33 11), .int .i64 (g33 12), .int .i64 (g33 13), .int .i64 (g33 14), .int .i64 (g33 15), .int .i64 (g33 16), .int .i64 (g33 17), .int .i64 (g33 18), .int .i64 (g33 19)] (fun w36 => drw (fun w37 => lI w37 b34 0 fun n38 => ∃ (g39 : Nat → Int), intsAt w37.heap b17 1 20 g39 ∧ ∃ (g40 : Nat → Int), intsAt w37.heap b34 1 20 g40 ∧ clV 151 ([.agg #[.int .i64 (g39 0), .int .i64 (g39 1), .int .i64 (g39 2), .int .i64 (g39 3), .int .i64 (g39 4), .int .i64 (g39 5), .int .i64 (g39 6), .int .i64 (g39 7), .int .i64 (g39 8), .int .i64 (g39 9), .int .i64 (g39 10), .int .i64 (g39 11), .int .i64 (g39 12), .int .i64 (g39 13), .int .i64 (g39 14), .int .i64 (g39 15), .int .i64 (g39 16), .int .i64 (g39 17), .int .i64 (g39 18), .int .i64 (g39 19)], .agg #[.int .i64 (g40 0), .int .i64 (g40 1), .int .i64 (g40 2), .int .i64 (g40 3), .int .i64 (g40 4), .int .i64 (g40 5), .int .i64 (g40 6), .int .i64 (g40 7), .int .i64 (g40 8), .int .i64 (g40 9), .int .i64 (g40 10), .int .i64 (g40 11), .int .i64 (g40 12), .int .i64 (g40 13), .int .i64 (g40 14), .int .i64 (g40 15), .int .i64 (g40 16), .int .i64 (g40 17), .int .i64 (g40 18), .int .i64 (g40 19)]]) w37 R fun r43 w42 => ∃ (g41 : Nat → Int), r43 = .agg #[.int .i64 (g41 0), .int .i64 (g41 1), .int .i64 (g41 2), .int .i64 (g41 3), .int .i64 (g41 4), .int .i64 (g41 5), .int .i64 (g41 6), .int .i64 (g41 7), .int .i64 (g41 8), .int .i64 (g41 9), .int .i64 (g41 10), .int .i64 (g41 11), .int .i64 (g41 12), .int .i64 (g41 13), .int .i64 (g41 14), .int .i64 (g41 15), .int .i64 (g41 16), .int .i64 (g41 17), .int .i64 (g41 18), .int .i64 (g41 19)] ∧ cellH w42.heap b34 0 = some (.int .i64 n38) ∧ clU 129 ([.pointer (some ⟨b5, 0, none⟩), .agg #[.int .i64 n38, .int .i64 (g41 0), .int .i64 (g41 1), .int .i64 (g41 2), .int .i64 (g41 3), .int .i64 (g41 4), .int .i64 (g41 5), .int .i64 (g41 6), .int .i64 (g41 7), .int .i64 (g41 8), .int .i64 (g41 9), .int .i64 (g41 10), .int .i64 (g41 11), .int .i64 (g41 12), .int .i64 (g41 13), .int .i64 (g41 14), .int .i64 (g41 15), .int .i64 (g41 16), .int .i64 (g41 17), .int .i64 (g41 18), .int .i64 (g41 19)]]) w42 R fun w44 => (∃ m46, m46 < k25 ∧ I24 m46 (IntKind.wrap .i64 (n29 + 1)) w44)) w36) w35) w27) ((∃ m47, m47 < k8 ∧ I7 m47 (IntKind.wrap .i64 (n12 + 1)) w27)))) w18) w10) (lL w10 b5 0 fun a48 l48 c48 => R (.returned (.slice a48 l48 c48)) w10))) w
def scr131 : Scr := (.q 1 (.q 1 (.q 3 (.loop (dr [(14, some (.int .i64))] [(9,1),(11,1),(15,23)]) (.q 1 (.cond (.q 4 (.q 6 (.loop (dr [(23, some (.int .i64))] [(11,1),(24,13)]) (.q 1 (.cond (.q 4 (.q 9 (.q 2 .nil))) (.q 2 .nil)))))) (.q 3 .nil)))))))
theorem vc131 {b1 o2 a3 l3 c3 f4 fi4 cp4} {R w} (h : V131 b1 o2 a3 l3 c3 f4 fi4 cp4 R w) : Cl Try.prog 131 [.pointer (some ⟨b1, o2, none⟩), .slice a3 l3 c3, .func (.func f4) fi4 cp4] w R :=
  cl_of scr131 Try.func131 (by kernel_rfl) _ _ (by kernel_rfl) h
/-- (*impl.finder).ways$1 -/
def V132 (n1 : Int) (b2 o3 b4 o5 : Nat) (R : Rt) : Pred := fun w =>
  lP w b2 o3 fun b6 o7 => lI w b4 o5 fun n8 => clL 114 ([.pointer (some ⟨b6, o7, none⟩), .int .i64 n8, .int .i64 n1]) w R fun a9 l9 c9 w10 => R (.returned (.slice a9 l9 c9)) w10
def scr132 : Scr := (.q 1 (.q 5 .nil))
theorem vc132 {n1 b2 o3 b4 o5} {R w} (h : V132 n1 b2 o3 b4 o5 R w) : Cl Try.prog 132 [.int .i64 n1, .pointer (some ⟨b2, o3, none⟩), .pointer (some ⟨b4, o5, none⟩)] w R :=
  cl_of scr132 Try.func132 (by kernel_rfl) _ _ (by kernel_rfl) h
/-- (*impl.finder).ways$2 -/
def V133 (n1 : Int) (b2 o3 b4 o5 : Nat) (R : Rt) : Pred := fun w =>
  drw (fun w6 => lP w6 b2 o3 fun b7 o8 => lL w6 b4 (o5 + 6) fun a9 l9 c9 => ixS a9 l9 0 fun b10 o11 => lI w6 b10 o11 fun n12 => clL 114 ([.pointer (some ⟨b7, o8, none⟩), .int .i64 n12, .int .i64 n1]) w6 R fun a13 l13 c13 w14 => R (.returned (.slice a13 l13 c13)) w14) w
def scr133 : Scr := (.q 1 (.q 8 .nil))
theorem vc133 {n1 b2 o3 b4 o5} {R w} (h : V133 n1 b2 o3 b4 o5 R w) : Cl Try.prog 133 [.int .i64 n1, .pointer (some ⟨b2, o3, none⟩), .pointer (some ⟨b4, o5, none⟩)] w R :=
  cl_of scr133 Try.func133 (by kernel_rfl) _ _ (by kernel_rfl) h
/-- (*impl.finder).ways$3 -/
def V134 (n1 : Int) (b2 o3 b4 o5 b6 o7 : Nat) (R : Rt) : Pred := fun w =>
  lP w b2 o3 fun b8 o9 => lI w b4 o5 fun n10 => lI w b6 o7 fun n11 => clL 135 ([.pointer (some ⟨b8, o9, none⟩), .int .i64 n10, .int .i64 n1, .int .i64 n11]) w R fun a12 l12 c12 w13 => R (.returned (.slice a12 l12 c12)) w13
def scr134 : Scr := (.q 1 (.q 6 .nil))
theorem vc134 {n1 b2 o3 b4 o5 b6 o7} {R w} (h : V134 n1 b2 o3 b4 o5 b6 o7 R w) : Cl Try.prog 134 [.int .i64 n1, .pointer (some ⟨b2, o3, none⟩), .pointer (some ⟨b4, o5, none⟩), .pointer (some ⟨b6, o7, none⟩)] w R :=
  cl_of scr134 Try.func134 (by kernel_rfl) _ _ (by kernel_rfl) h
/-- (*impl.finder).more -/
def V135 (b1 o2 : Nat) (n3 n4 n5 : Int) (R : Rt) : Pred := fun w =>
  newC [.int .i64 0, .int .i64 0, .int .i64 0] 159 (fun b6 w7 => stW b6 0 [.int .i64 n3, .int .i64 n4, .int .i64 n5] (fun w8 => drw (fun w9 => lM w9 b1 (o2 + 5) fun m10 => lI w9 b6 0 fun n11 => lI w9 b6 1 fun n12 => lI w9 b6 2 fun n13 => ∃ a14 l14 c14, ∃ t15, (Instr.lookup 126 (.map m10) (.agg #[.int .i64 n11, .int .i64 n12, .int .i64 n13]) true).run Try.prog w9 = .ok (.tuple #[.slice a14 l14 c14, .bool t15]) w9 ∧ (cB t15 (R (.returned (.slice a14 l14 c14)) w9) (lL w9 b1 (o2 + 3) fun a16 l16 c16 => ixS a16 l16 n3 fun b17 o18 => lI w9 b17 (o18 + (Int.toNat n3) * 7) fun n19 => lL w9 b17 (o18 + (Int.toNat n3) * 7 + 1) fun a20 l20 c20 => lI w9 b17 (o18 + (Int.toNat n3) * 7 + 2) fun n21 => lI w9 b17 (o18 + (Int.toNat n3) * 7 + 3) fun n22 => lB w9 b17 (o18 + (Int.toNat n3) * 7 + 4) fun t23 => lI w9 b17 (o18 + (Int.toNat n3) * 7 + 5) fun n24 => lL w9 b17 (o18 + (Int.toNat n3) * 7 + 6) fun a25 l25 c25 => newC [.int .i64 0, .slice none 0 0, .int .i64 0, .int .i64 0, .bool false, .int .i64 0, .slice none 0 0] 111 (fun b26 w27 => stW b26 0 [.int .i64 n19, .slice a20 l20 c20, .int .i64 n21, .int .i64 n22, .bool t23, .int .i64 n24, .slice a25 l25 c25] (fun w28 => newC ([.slice none 0 0] ++ List.replicate 201 (.bool false)) 163 (fun b29 w30 => lB w30 b26 4 fun t31 => ∃ (J32 : World → Prop), ((cB t31 (clV 130 ([]) w30 R fun r35 w34 => ∃ (g33 : Nat → Int), r35 = .agg #[.int .i64 (g33 0), .int .i64 (g33 1), .int .i64 (g33 2), .int .i64 (g33 3), .int .i64 (g33 4), .int .i64 (g33 5), .int .i64 (g33 6), .int .i64 (g33 7), .int .i64 (g33 8), .int .i64 (g33 9), .int .i64 (g33 10), .int .i64 (g33 11), .int .i64 (g33 12), .int .i64 (g33 13), .int .i64 (g33 14), .int .i64 (g33 15), .int .i64 (g33 16), .int .i64 (g33 17), .int .i64 (g33 18), .int .i64 (g33 19)] ∧ clU 129 ([.pointer (some ⟨b29, 0, none⟩), .agg #[.int .i64 n4, .int .i64 (g33 0), .int .i64 (g33 1), .int .i64 (g33 2), .int .i64 (g33 3), .int .i64 (g33 4), .int .i64 (g33 5), .int .i64 (g33 6), .int .i64 (g33 7), .int .i64 (g33 8), .int .i64 (g33 9), .int .i64 (g33 10), .int .i64 (g33 11), .int .i64 (g33 12), .int .i64 (g33 13), .int .i64 (g33 14), .int .i64 (g33 15), .int .i64 (g33 16), .int .i64 (g33 17), .int .i64 (g33 18), .int .i64 (g33 19)]]) w34 R fun w36 => J32  w36) (J32  w30))) ∧ ∀ (d38 : Nat → Value)  w39, J32  w39 → (cB (n5 != 0) (∃ (J40 : Int → World → Prop), ((cB (decide (n5 > 0)) (J40 (IntKind.wrap .i64 (n5 - 1)) w39) (J40 (-1) w39))) ∧ ∀ (d41 : Nat → Value) n42 w43, J40 n42 w43 → lL w43 b26 6 fun a44 l44 c44 => ixS a44 l44 0 fun b45 o46 => lI w43 b45 o46 fun n47 => clL 114 ([.pointer (some ⟨b1, o2, none⟩), .int .i64 n47, .int .i64 n4]) w43 R fun a48 l48 c48 w49 => ∃ (I51 : Nat → Int → World → Prop), (∃ k53, I51 k53 0 w49) ∧ ∀ k52 (d55 : Nat → Value) n56 w54, I51 k52 n56 w54 → (cB (decide (n56 < ((l48 : Nat) : Int))) (ixS a48 l48 n56 fun b57 o58 => lI w54 b57 (o58 + (Int.toNat n56) * 21) fun n59 => ∃ (g60 : Nat → Int), intsAt w54.heap b57 (o58 + (Int.toNat n56) * 21 + 1) 20 g60 ∧ newC [.int .i64 0, .int .i64 0, .int .i64 0, .int .i64 0, .int .i64 0, .int .i64 0, .int .i64 0, .int .i64 0, .int .i64 0, .int .i64 0, .int .i64 0, .int .i64 0, .int .i64 0, .int .i64 0, .int .i64 0, .int .i64 0, .int .i64 0, .int .i64 0, .int .i64 0, .int .i64 0, .int .i64 0] 142 (fun b61 w62 => stW b61 0 [.int .i64 n59, .int .i64 (g60 0), .int .i64 (g60 1), .int .i64 (g60 2), .int .i64 (g60 3), .int .i64 (g60 4), .int .i64 (g60 5), .int .i64 (g60 6), .int .i64 (g60 7), .int .i64 (g60 8), .int .i64 (g60 9), .int .i64 (g60 10), .int .i64 (g60 11), .int .i64 (g60 12), .int .i64 (g60 13), .int .i64 (g60 14), .int .i64 (g60 15), .int .i64 (g60 16), .int .i64 (g60 17), .int .i64 (g60 18), .int .i64 (g60 19)] (fun w63 => lI w63 b61 0 fun n64 => (cB (n64 == n4) ((∃ m65, m65 < k52 ∧ I51 m65 (IntKind.wrap .i64 (n56 + 1)) w63)) (lI w63 b61 0 fun n66 => clL 135 ([.pointer (some ⟨b1, o2, none⟩), .int .i64 n3, .int .i64 n66, .int .i64 n42]) w63 R fun a67 l67 c67 w68 => ∃ (I70 : Nat → Int → World → Prop), (∃ k72, I70 k72 0 w68) ∧ ∀ k71 (d74 : Nat → Value) n75 w73, I70 k71 n75 w73 → (cB (decide (n75 < ((l67 : Nat) : Int))) (ixS a67 l67 n75 fun b76 o77 => lI w73 b76 (o77 + (Int.toNat n75) * 21) fun n78 => ∃ (g79 : Nat → Int), intsAt w73.heap b76 (o77 + (Int.toNat n75) * 21 + 1) 20 g79 ∧ newC [.int .i64 0, .int .i64 0, .int .i64 0, .int .i64 0, .int .i64 0, .int .i64 0, .int .i64 0, .int .i64 0, .int .i64 0, .int .i64 0, .int .i64 0, .int .i64 0, .int .i64 0, .int .i64 0, .int .i64 0, .int .i64 0, .int .i64 0, .int .i64 0, .int .i64 0, .int .i64 0, .int .i64 0] 142 (fun b80 w81 => stW b80 0 [.int .i64 n78, .int .i64 (g79 0), .int .i64 (g79 1), .int .i64 (g79 2), .int .i64 (g79 3), .int .i64 (g79 4), .int .i64 (g79 5), .int .i64 (g79 6), .int .i64 (g79 7), .int .i64 (g79 8), .int .i64 (g79 9), .int .i64 (g79 10), .int .i64 (g79 11), .int .i64 (g79 12), .int .i64 (g79 13), .int .i64 (g79 14), .int .i64 (g79 15), .int .i64 (g79 16), .int .i64 (g79 17), .int .i64 (g79 18), .int .i64 (g79 19)] (fun w82 => drw (fun w83 => lI w83 b80 0 fun n84 => ∃ (g85 : Nat → Int), intsAt w83.heap b61 1 20 g85 ∧ ∃ (g86 : Nat → Int), intsAt w83.heap b80 1 20 g86 ∧ clV 151 ([.agg #[.int .i64 (g85 0), .int .i64 (g85 1), .int .i64 (g85 2), .int .i64 (g85 3), .int .i64 (g85 4), .int .i64 (g85 5), .int .i64 (g85 6), .int .i64 (g85 7), .int .i64 (g85 8), .int .i64 (g85 9), .int .i64 (g85 10), .int .i64 (g85 11), .int .i64 (g85 12), .int .i64 (g85 13), .int .i64 (g85 14), .int .i64 (g85 15), .int .i64 (g85 16), .int .i64 (g85 17), .int .i64 (g85 18), .int .i64 (g85 19)], .agg #[.int .i64 (g86 0), .int .i64 (g86 1), .int .i64 (g86 2), .int .i64 (g86 3), .int .i64 (g86 4), .int .i64 (g86 5), .int .i64 (g86 6), .int .i64 (g86 7), .int .i64 (g86 8), .int .i64 (g86 9), .int .i64 (g86 10), .int .i64 (g86 11), .int .i64 (g86 12), .int .i64 (g86 13), .int .i64 (g86 14), .int .i64 (g86 15), .int .i64 (g86 16), .int .i64 (g86 17), .int .i64 (g86 18), .int .i64 (g86 19)]]) w83 R fun r89 w88 => ∃ (g87 : Nat → Int), r89 = .agg #[.int .i64 (g87 0), .int .i64 (g87 1), .int .i64 (g87 2), .int .i64 (g87 3), .int .i64 (g87 4), .int .i64 (g87 5), .int .i64 (g87 6), .int .i64 (g87 7), .int .i64 (g87 8), .int .i64 (g87 9), .int .i64 (g87 10), .int .i64 (g87 11), .int .i64 (g87 12), .int .i64 (g87 13), .int .i64 (g87 14), .int .i64 (g87 15), .int .i64 (g87 16), .int .i64 (g87 17), .int .i64 (g87 18), .int .i64 (g87 19)] ∧ cellH w88.heap b80 0 = some (.int .i64 n84) ∧ clU 129 ([.pointer (some ⟨b29, 0, none⟩), .agg #[.int .i64 n84, .int .i64 (g87 0), .int .i64 (g87 1), .int .i64 (g87 2), .int .i64 (g87 3), .int .i64 (g87 4), .int .i64 (g87 5), .int .i64 (g87 6), .int .i64 (g87 7), .int .i64 (g87 8), .int .i64 (g87 9), .int .i64 (g87 10), .int .i64 (g87 11), .int .i64 (g87 12), .int .i64 (g87 13), .int .i64 (g87 14), .int .i64 (g87 15), .int .i64 (g87 16), .int .i64 (g87 17), .int .i64 (g87 18), .int .i64 (g87 19)]]) w88 R fun w90 => (∃ m92, m92 < k71 ∧ I70 m92 (IntKind.wrap .i64 (n75 + 1)) w90)) w82) w81) w73) ((∃ m93, m93 < k52 ∧ I51 m93 (IntKind.wrap .i64 (n56 + 1)) w73)))))) w62) w54) (clV 130 ([]) w54 R fun r96 w95 => ∃ (g94 : Nat → Int), r96 = .agg #[.int .i64 (g94 0), .int .i64 (g94 1), .int .i64 (g94 2), .int .i64 (g94 3), .int .i64 (g94 4), .int .i64 (g94 5), .int .i64 (g94 6), .int .i64 (g94 7), .int .i64 (g94 8), .int .i64 (g94 9), .int .i64 (g94 10), .int .i64 (g94 11), .int .i64 (g94 12), .int .i64 (g94 13), .int .i64 (g94 14), .int .i64 (g94 15), .int .i64 (g94 16), .int .i64 (g94 17), .int .i64 (g94 18), .int .i64 (g94 19)] ∧ clU 129 ([.pointer (some ⟨b29, 0, none⟩), .agg #[.int .i64 n4, .int .i64 (g94 0), .int .i64 (g94 1), .int .i64 (g94 2), .int .i64 (g94 3), .int .i64 (g94 4), .int .i64 (g94 5), .int .i64 (g94 6), .int .i64 (g94 7), .int .i64 (g94 8), .int .i64 (g94 9), .int .i64 (g94 10), .int .i64 (g94 11), .int .i64 (g94 12), .int .i64 (g94 13), .int .i64 (g94 14), .int .i64 (g94 15), .int .i64 (g94 16), .int .i64 (g94 17), .int .i64 (g94 18), .int .i64 (g94 19)]]) w95 R fun w97 => drw (fun w99 => lM w99 b1 (o2 + 5) fun m100 => lI w99 b6 0 fun n101 => lI w99 b6 1 fun n102 => lI w99 b6 2 fun n103 => lL w99 b29 0 fun a104 l104 c104 => ∃ w105, (Instr.mapUpdate 126 (.map m100) (.agg #[.int .i64 n101, .int .i64 n102, .int .i64 n103]) (.slice a104 l104 c104)).run Try.prog w99 = .ok () w105 ∧ lL w105 b29 0 fun a106 l106 c106 => R (.returned (.slice a106 l106 c106)) w105) w97))) (clV 130 ([]) w39 R fun r109 w108 => ∃ (g107 : Nat → Int), r109 = .agg #[.int .i64 (g107 0), .int .i64 (g107 1), .int .i64 (g107 2), .int .i64 (g107 3), .int .i64 (g107 4), .int .i64 (g107 5), .int .i64 (g107 6), .int .i64 (g107 7), .int .i64 (g107 8), .int .i64 (g107 9), .int .i64 (g107 10), .int .i64 (g107 11), .int .i64 (g107 12), .int .i64 (g107 13), .int .i64 (g107 14), .int .i64 (g107 15), .int .i64 (g107 16), .int .i64 (g107 17), .int .i64 (g107 18), .int .i64 (g107 19)] ∧ clU 129 ([.pointer (some ⟨b29, 0, none⟩), .agg #[.int .i64 n4, .int .i64 (g107 0), .int .i64 (g107 1), .int .i64 (g107 2), .int .i64 (g107 3), .int .i64 (g107 4), .int .i64 (g107 5), .int .i64 (g107 6), .int .i64 (g107 7), .int .i64 (g107 8), .int .i64 (g107 9), .int .i64 (g107 10), .int .i64 (g107 11), .int .i64 (g107 12), .int .i64 (g107 13), .int .i64 (g107 14), .int .i64 (g107 15), .int .i64 (g107 16), .int .i64 (g107 17), .int .i64 (g107 18), .int .i64 (g107 19)]]) w108 R fun w110 => drw (fun w112 => lM w112 b1 (o2 + 5) fun m113 => lI w112 b6 0 fun n114 => lI w112 b6 1 fun n115 => lI w112 b6 2 fun n116 => lL w112 b29 0 fun a117 l117 c117 => ∃ w118, (Instr.mapUpdate 126 (.map m113) (.agg #[.int .i64 n114, .int .i64 n115, .int .i64 n116]) (.slice a117 l117 c117)).run Try.prog w112 = .ok () w118 ∧ lL w118 b29 0 fun a119 l119 c119 => R (.returned (.slice a119 l119 c119)) w118) w110))) w28) w27) w9))) w8) w7) w
def scr135 : Scr := (.q 1 (.q 6 (.q 11 (.q 1 (.cond (.q 2 .nil) (.q 10 (.q 1 (.q 2 (.cut (dr [] [(44,4)]) (.cond (.q 4 .nil) .nil) (.q 2 (.cond (.q 1 (.q 2 (.cut [(14, some (.int .i64)), (52, none), (53, none)] (.cond (.q 3 .nil) .nil) (.q 9 (.loop (dr [(62, some (.int .i64))] [(16,1),(18,1),(63,29)]) (.q 1 (.cond (.q 4 (.q 4 (.cond (.q 2 .nil) (.q 8 (.loop (dr [(77, some (.int .i64))] [(18,1),(78,13)]) (.q 1 (.cond (.q 4 (.q 9 (.q 2 .nil))) (.q 2 .nil)))))))) (.q 4 (.q 8 (.q 3 .nil)))))))))) (.q 4 (.q 8 (.q 3 .nil))))))))))))))
theorem vc135 {b1 o2 n3 n4 n5} {R w} (h : V135 b1 o2 n3 n4 n5 R w) : Cl Try.prog 135 [.pointer (some ⟨b1, o2, none⟩), .int .i64 n3, .int .i64 n4, .int .i64 n5] w R :=
  cl_of scr135 Try.func135 (by kernel_rfl) _ _ (by kernel_rfl) h
/-- (*impl.finder).ways -/
def V114 (b1 o2 : Nat) (n3 n4 : Int) (R : Rt) : Pred := fun w =>
  newC [.pointer (some ⟨b1, o2, none⟩)] 82 (fun b5 w6 => newC [.int .i64 n3] 3 (fun b7 w8 => lI w8 b7 0 fun n9 => newC [.int .i64 0, .int .i64 0, .int .i64 0] 159 (fun b10 w11 => stW b10 0 [.int .i64 n9, .int .i64 n4, .int .i64 (-2)] (fun w12 => drw (fun w13 => lP w13 b5 0 fun b14 o15 => lM w13 b14 (o15 + 5) fun m16 => lI w13 b10 0 fun n17 => lI w13 b10 1 fun n18 => lI w13 b10 2 fun n19 => ∃ a20 l20 c20, ∃ t21, (Instr.lookup 126 (.map m16) (.agg #[.int .i64 n17, .int .i64 n18, .int .i64 n19]) true).run Try.prog w13 = .ok (.tuple #[.slice a20 l20 c20, .bool t21]) w13 ∧ (cB t21 (R (.returned (.slice a20 l20 c20)) w13) (drw (fun w22 => lP w22 b5 0 fun b23 o24 => lL w22 b23 (o24 + 3) fun a25 l25 c25 => lI w22 b7 0 fun n26 => ixS a25 l25 n26 fun b27 o28 => lI w22 b27 (o28 + (Int.toNat n26) * 7) fun n29 => lL w22 b27 (o28 + (Int.toNat n26) * 7 + 1) fun a30 l30 c30 => lI w22 b27 (o28 + (Int.toNat n26) * 7 + 2) fun n31 => lI w22 b27 (o28 + (Int.toNat n26) * 7 + 3) fun n32 => lB w22 b27 (o28 + (Int.toNat n26) * 7 + 4) fun t33 => lI w22 b27 (o28 + (Int.toNat n26) * 7 + 5) fun n34 => lL w22 b27 (o28 + (Int.toNat n26) * 7 + 6) fun a35 l35 c35 => newC [.int .i64 0, .slice none 0 0, .int .i64 0, .int .i64 0, .bool false, .int .i64 0, .slice none 0 0] 111 (fun b36 w37 => cellsAt w37.heap b27 (o28 + (Int.toNat n26) * 7) [.int .i64 n29, .slice a30 l30 c30, .int .i64 n31, .int .i64 n32, .bool t33, .int .i64 n34, .slice a35 l35 c35] ∧ cellH w37.heap b7 0 = some (.int .i64 n26) ∧ cellH w37.heap b23 (o24 + 3) = some (.slice a25 l25 c25) ∧ cellH w37.heap b5 0 = some (.pointer (some ⟨b23, o24, none⟩)) ∧ stW b36 0 [.int .i64 n29, .slice a30 l30 c30, .int .i64 n31, .int .i64 n32, .bool t33, .int .i64 n34, .slice a35 l35 c35] (fun w38 => newC ([.slice none 0 0] ++ List.replicate 201 (.bool false)) 163 (fun b39 w40 => lI w40 b36 0 fun n41 => ∃ (J42 : World → Prop), ((cB (n41 == 1) (lP w40 b5 0 fun b43 o44 => lS w40 b43 (o44 + 4) fun s45 => (cB (decide (n4 < ((ByteArray.size s45 : Nat) : Int))) (lP w40 b5 0 fun b46 o47 => lS w40 b46 (o47 + 4) fun s48 => (ixT s48 n4) ∧ lL w40 b36 1 fun a49 l49 c49 => ∃ (I50 : Nat → Int → World → Prop), (∃ k52, I50 k52 0 w40) ∧ ∀ k51 (d54 : Nat → Value) n55 w53, I50 k51 n55 w53 → (cB (decide (n55 < ((l49 : Nat) : Int))) (ixS a49 l49 n55 fun b56 o57 => lI w53 b56 (o57 + (Int.toNat n55) * 2) fun n58 => lI w53 b56 (o57 + (Int.toNat n55) * 2 + 1) fun n59 => newC [.int .i64 0, .int .i64 0] 134 (fun b60 w61 => stW b60 0 [.int .i64 n58, .int .i64 n59] (fun w62 => lI w62 b60 0 fun n63 => (cB (decide (n63 ≤ (IntKind.wrap .i64 (byteAt s48 (Int.toNat n4))))) (lI w62 b60 1 fun n64 => (cB (decide ((IntKind.wrap .i64 (byteAt s48 (Int.toNat n4))) ≤ n64)) (clV 130 ([]) w62 R fun r67 w66 => ∃ (g65 : Nat → Int), r67 = .agg #[.int .i64 (g65 0), .int .i64 (g65 1), .int .i64 (g65 2), .int .i64 (g65 3), .int .i64 (g65 4), .int .i64 (g65 5), .int .i64 (g65 6), .int .i64 (g65 7), .int .i64 (g65 8), .int .i64 (g65 9), .int .i64 (g65 10), .int .i64 (g65 11), .int .i64 (g65 12), .int .i64 (g65 13), .int .i64 (g65 14), .int .i64 (g65 15), .int .i64 (g65 16), .int .i64 (g65 17), .int .i64 (g65 18), .int .i64 (g65 19)] ∧ clU 129 ([.pointer (some ⟨b39, 0, none⟩), .agg #[.int .i64 (IntKind.wrap .i64 (n4 + 1)), .int .i64 (g65 0), .int .i64 (g65 1), .int .i64 (g65 2), .int .i64 (g65 3), .int .i64 (g65 4), .int .i64 (g65 5), .int .i64 (g65 6), .int .i64 (g65 7), .int .i64 (g65 8), .int .i64 (g65 9), .int .i64 (g65 10), .int .i64 (g65 11), .int .i64 (g65 12), .int .i64 (g65 13), .int .i64 (g65 14), .int .i64 (g65 15), .int .i64 (g65 16), .int .i64 (g65 17), .int .i64 (g65 18), .int .i64 (g65 19)]]) w66 R fun w68 => (∃ m70, m70 < k51 ∧ I50 m70 (IntKind.wrap .i64 (n55 + 1)) w68)) ((∃ m71, m71 < k51 ∧ I50 m71 (IntKind.wrap .i64 (n55 + 1)) w62)))) ((∃ m72, m72 < k51 ∧ I50 m72 (IntKind.wrap .i64 (n55 + 1)) w62)))) w61) w53) (J42  w53))) (J42  w40))) ((cB (n41 == 6) ((cB (n4 == 0) (clV 130 ([]) w40 R fun r75 w74 => ∃ (g73 : Nat → Int), r75 = .agg #[.int .i64 (g73 0), .int .i64 (g73 1), .int .i64 (g73 2), .int .i64 (g73 3), .int .i64 (g73 4), .int .i64 (g73 5), .int .i64 (g73 6), .int .i64 (g73 7), .int .i64 (g73 8), .int .i64 (g73 9), .int .i64 (g73 10), .int .i64 (g73 11), .int .i64 (g73 12), .int .i64 (g73 13), .int .i64 (g73 14), .int .i64 (g73 15), .int .i64 (g73 16), .int .i64 (g73 17), .int .i64 (g73 18), .int .i64 (g73 19)] ∧ clU 129 ([.pointer (some ⟨b39, 0, none⟩), .agg #[.int .i64 n4, .int .i64 (g73 0), .int .i64 (g73 1), .int .i64 (g73 2), .int .i64 (g73 3), .int .i64 (g73 4), .int .i64 (g73 5), .int .i64 (g73 6), .int .i64 (g73 7), .int .i64 (g73 8), .int .i64 (g73 9), .int .i64 (g73 10), .int .i64 (g73 11), .int .i64 (g73 12), .int .i64 (g73 13), .int .i64 (g73 14), .int .i64 (g73 15), .int .i64 (g73 16), .int .i64 (g73 17), .int .i64 (g73 18), .int .i64 (g73 19)]]) w74 R fun w76 => J42  w76) (J42  w40))) ((cB (n41 == 7) (lP w40 b5 0 fun b78 o79 => lS w40 b78 (o79 + 4) fun s80 => (cB (n4 == ((ByteArray.size s80 : Nat) : Int)) (clV 130 ([]) w40 R fun r83 w82 => ∃ (g81 : Nat → Int), r83 = .agg #[.int .i64 (g81 0), .int .i64 (g81 1), .int .i64 (g81 2), .int .i64 (g81 3), .int .i64 (g81 4), .int .i64 (g81 5), .int .i64 (g81 6), .int .i64 (g81 7), .int .i64 (g81 8), .int .i64 (g81 9), .int .i64 (g81 10), .int .i64 (g81 11), .int .i64 (g81 12), .int .i64 (g81 13), .int .i64 (g81 14), .int .i64 (g81 15), .int .i64 (g81 16), .int .i64 (g81 17), .int .i64 (g81 18), .int .i64 (g81 19)] ∧ clU 129 ([.pointer (some ⟨b39, 0, none⟩), .agg #[.int .i64 n4, .int .i64 (g81 0), .int .i64 (g81 1), .int .i64 (g81 2), .int .i64 (g81 3), .int .i64 (g81 4), .int .i64 (g81 5), .int .i64 (g81 6), .int .i64 (g81 7), .int .i64 (g81 8), .int .i64 (g81 9), .int .i64 (g81 10), .int .i64 (g81 11), .int .i64 (g81 12), .int .i64 (g81 13), .int .i64 (g81 14), .int .i64 (g81 15), .int .i64 (g81 16), .int .i64 (g81 17), .int .i64 (g81 18), .int .i64 (g81 19)]]) w82 R fun w84 => J42  w84) (J42  w40))) ((cB (n41 == 2) (clV 130 ([]) w40 R fun r88 w87 => ∃ (g86 : Nat → Int), r88 = .agg #[.int .i64 (g86 0), .int .i64 (g86 1), .int .i64 (g86 2), .int .i64 (g86 3), .int .i64 (g86 4), .int .i64 (g86 5), .int .i64 (g86 6), .int .i64 (g86 7), .int .i64 (g86 8), .int .i64 (g86 9), .int .i64 (g86 10), .int .i64 (g86 11), .int .i64 (g86 12), .int .i64 (g86 13), .int .i64 (g86 14), .int .i64 (g86 15), .int .i64 (g86 16), .int .i64 (g86 17), .int .i64 (g86 18), .int .i64 (g86 19)] ∧ newC [.int .i64 n4, .int .i64 (g86 0), .int .i64 (g86 1), .int .i64 (g86 2), .int .i64 (g86 3), .int .i64 (g86 4), .int .i64 (g86 5), .int .i64 (g86 6), .int .i64 (g86 7), .int .i64 (g86 8), .int .i64 (g86 9), .int .i64 (g86 10), .int .i64 (g86 11), .int .i64 (g86 12), .int .i64 (g86 13), .int .i64 (g86 14), .int .i64 (g86 15), .int .i64 (g86 16), .int .i64 (g86 17), .int .i64 (g86 18), .int .i64 (g86 19)] 142 (fun b89 w90 => lL w90 b36 6 fun a91 l91 c91 => ∃ (I92 : Nat → Option Addr → Nat → Nat → Int → World → Prop), (∃ k94, I92 k94 (some ⟨b89, 0, none⟩) 1 1 0 w90) ∧ ∀ k93 (d96 : Nat → Value) a97 l97 c97 n98 w95, I92 k93 a97 l97 c97 n98 w95 → (cB (decide (n98 < ((l91 : Nat) : Int))) (ixS a91 l91 n98 fun b99 o100 => lI w95 b99 (o100 + (Int.toNat n98) * 1) fun n101 => newC [.int .i64 0] 3 (fun b102 w103 => stW b102 0 [.int .i64 n101] (fun w104 => lP w104 b5 0 fun b105 o106 => clL 131 ([.pointer (some ⟨b105, o106, none⟩), .slice a97 l97 c97, .func (.func 132) #[] #[.pointer (some ⟨b5, 0, none⟩), .pointer (some ⟨b102, 0, none⟩)]]) w104 R fun a107 l107 c107 w108 => (∃ m110, m110 < k93 ∧ I92 m110 a107 l107 c107 (IntKind.wrap .i64 (n98 + 1)) w108)) w103) w95) (∃ (I111 : Nat → Int → World → Prop), (∃ k113, I111 k113 0 w95) ∧ ∀ k112 (d115 : Nat → Value) n116 w114, I111 k112 n116 w114 → (cB (decide (n116 < ((l97 : Nat) : Int))) (ixS a97 l97 n116 fun b117 o118 => lI w114 b117 (o118 + (Int.toNat n116) * 21) fun n119 => ∃ (g120 : Nat → Int), intsAt w114.heap b117 (o118 + (Int.toNat n116) * 21 + 1) 20 g120 ∧ newC [.int .i64 0, .int .i64 0, .int .i64 0, .int .i64 0, .int .i64 0, .int .i64 0, .int .i64 0, .int .i64 0, .int .i64 0, .int .i64 0, .int .i64 0, .int .i64 0, .int .i64 0, .int .i64 0, .int .i64 0, .int .i64 0, .int .i64 0, .int .i64 0, .int .i64 0, .int .i64 0, .int .i64 0] 142 (fun b121 w122 => stW b121 0 [.int .i64 n119, .int .i64 (g120 0), .int .i64 (g120 1), .int .i64 (g120 2), .int .i64 (g120 3), .int .i64 (g120 4), .int .i64 (g120 5), .int .i64 (g120 6), .int .i64 (g120 7), .int .i64 (g120 8), .int .i64 (g120 9), .int .i64 (g120 10), .int .i64 (g120 11), .int .i64 (g120 12), .int .i64 (g120 13), .int .i64 (g120 14), .int .i64 (g120 15), .int .i64 (g120 16), .int .i64 (g120 17), .int .i64 (g120 18), .int .i64 (g120 19)] (fun w123 => lI w123 b121 0 fun n124 => ∃ (g125 : Nat → Int), intsAt w123.heap b121 1 20 g125 ∧ clU 129 ([.pointer (some ⟨b39, 0, none⟩), .agg #[.int .i64 n124, .int .i64 (g125 0), .int .i64 (g125 1), .int .i64 (g125 2), .int .i64 (g125 3), .int .i64 (g125 4), .int .i64 (g125 5), .int .i64 (g125 6), .int .i64 (g125 7), .int .i64 (g125 8), .int .i64 (g125 9), .int .i64 (g125 10), .int .i64 (g125 11), .int .i64 (g125 12), .int .i64 (g125 13), .int .i64 (g125 14), .int .i64 (g125 15), .int .i64 (g125 16), .int .i64 (g125 17), .int .i64 (g125 18), .int .i64 (g125 19)]]) w123 R fun w126 => (∃ m128, m128 < k112 ∧ I111 m128 (IntKind.wrap .i64 (n116 + 1)) w126)) w122) w114) (J42  w114))))) w87) ((cB (n41 == 3) (lL w40 b36 6 fun a129 l129 c129 => ∃ (I130 : Nat → Int → World → Prop), (∃ k132, I130 k132 0 w40) ∧ ∀ k131 (d134 : Nat → Value) n135 w133, I130 k131 n135 w133 → (cB (decide (n135 < ((l129 : Nat) : Int))) (ixS a129 l129 n135 fun b136 o137 => lI w133 b136 (o137 + (Int.toNat n135) * 1) fun n138 => lP w133 b5 0 fun b139 o140 => clL 114 ([.pointer (some ⟨b139, o140, none⟩), .int .i64 n138, .int .i64 n4]) w133 R fun a141 l141 c141 w142 => ∃ (I144 : Nat → Int → World → Prop), (∃ k146, I144 k146 0 w142) ∧ ∀ k145 (d148 : Nat → Value) n149 w147, I144 k145 n149 w147 → (cB (decide (n149 < ((l141 : Nat) : Int))) (ixS a141 l141 n149 fun b150 o151 => lI w147 b150 (o151 + (Int.toNat n149) * 21) fun n152 => ∃ (g153 : Nat → Int), intsAt w147.heap b150 (o151 + (Int.toNat n149) * 21 + 1) 20 g153 ∧ newC [.int .i64 0, .int .i64 0, .int .i64 0, .int .i64 0, .int .i64 0, .int .i64 0, .int .i64 0, .int .i64 0, .int .i64 0, .int .i64 0, .int .i64 0, .int .i64 0, .int .i64 0, .int .i64 0, .int .i64 0, .int .i64 0, .int .i64 0, .int .i64 0, .int .i64 0, .int .i64 0, .int .i64 0] 142 (fun b154 w155 => stW b154 0 [.int .i64 n152, .int .i64 (g153 0), .int .i64 (g153 1), .int .i64 (g153 2), .int .i64 (g153 3), .int .i64 (g153 4), .int .i64 (g153 5), .int .i64 (g153 6), .int .i64 (g153 7), .int .i64 (g153 8), .int .i64 (g153 9), .int .i64 (g153 10), .int .i64 (g153 11), .int .i64 (g153 12), .int .i64 (g153 13), .int .i64 (g153 14), .int .i64 (g153 15), .int .i64 (g153 16), .int .i64 (g153 17), .int .i64 (g153 18), .int .i64 (g153 19)] (fun w156 => lI w156 b154 0 fun n157 => ∃ (g158 : Nat → Int), intsAt w156.heap b154 1 20 g158 ∧ clU 129 ([.pointer (some ⟨b39, 0, none⟩), .agg #[.int .i64 n157, .int .i64 (g158 0), .int .i64 (g158 1), .int .i64 (g158 2), .int .i64 (g158 3), .int .i64 (g158 4), .int .i64 (g158 5), .int .i64 (g158 6), .int .i64 (g158 7), .int .i64 (g158 8), .int .i64 (g158 9), .int .i64 (g158 10), .int .i64 (g158 11), .int .i64 (g158 12), .int .i64 (g158 13), .int .i64 (g158 14), .int .i64 (g158 15), .int .i64 (g158 16), .int .i64 (g158 17), .int .i64 (g158 18), .int .i64 (g158 19)]]) w156 R fun w159 => (∃ m161, m161 < k145 ∧ I144 m161 (IntKind.wrap .i64 (n149 + 1)) w159)) w155) w147) ((∃ m162, m162 < k131 ∧ I130 m162 (IntKind.wrap .i64 (n135 + 1)) w147)))) (J42  w133))) ((cB (n41 == 5) (drw (fun w163 => lP w163 b5 0 fun b164 o165 => lL w163 b36 6 fun a166 l166 c166 => ixS a166 l166 0 fun b167 o168 => lI w163 b167 o168 fun n169 => clL 114 ([.pointer (some ⟨b164, o165, none⟩), .int .i64 n169, .int .i64 n4]) w163 R fun a170 l170 c170 w171 => ∃ (I173 : Nat → Int → World → Prop), (∃ k175, I173 k175 0 w171) ∧ ∀ k174 (d177 : Nat → Value) n178 w176, I173 k174 n178 w176 → (cB (decide (n178 < ((l170 : Nat) : Int))) (ixS a170 l170 n178 fun b179 o180 => lI w176 b179 (o180 + (Int.toNat n178) * 21) fun n181 => ∃ (g182 : Nat → Int), intsAt w176.heap b179 (o180 + (Int.toNat n178) * 21 + 1) 20 g182 ∧ newC [.int .i64 0, .int .i64 0, .int .i64 0, .int .i64 0, .int .i64 0, .int .i64 0, .int .i64 0, .int .i64 0, .int .i64 0, .int .i64 0, .int .i64 0, .int .i64 0, .int .i64 0, .int .i64 0, .int .i64 0, .int .i64 0, .int .i64 0, .int .i64 0, .int .i64 0, .int .i64 0, .int .i64 0] 142 (fun b183 w184 => stW b183 0 [.int .i64 n181, .int .i64 (g182 0), .int .i64 (g182 1), .int .i64 (g182 2), .int .i64 (g182 3), .int .i64 (g182 4), .int .i64 (g182 5), .int .i64 (g182 6), .int .i64 (g182 7), .int .i64 (g182 8), .int .i64 (g182 9), .int .i64 (g182 10), .int .i64 (g182 11), .int .i64 (g182 12), .int .i64 (g182 13), .int .i64 (g182 14), .int .i64 (g182 15), .int .i64 (g182 16), .int .i64 (g182 17), .int .i64 (g182 18), .int .i64 (g182 19)] (fun w185 => lI w185 b36 5 fun n186 => lI w185 b183 0 fun n187 => (0 ≤ (n186 : Int) ∧ (n186 : Int) < ((10 : Nat) : Int)) ∧ stW b183 (1 + (Int.toNat n186) * 2) [.int .i64 n4, .int .i64 n187] (fun w188 => lI w188 b183 0 fun n189 => ∃ (g190 : Nat → Int), intsAt w188.heap b183 1 20 g190 ∧ clU 129 ([.pointer (some ⟨b39, 0, none⟩), .agg #[.int .i64 n189, .int .i64 (g190 0), .int .i64 (g190 1), .int .i64 (g190 2), .int .i64 (g190 3), .int .i64 (g190 4), .int .i64 (g190 5), .int .i64 (g190 6), .int .i64 (g190 7), .int .i64 (g190 8), .int .i64 (g190 9), .int .i64 (g190 10), .int .i64 (g190 11), .int .i64 (g190 12), .int .i64 (g190 13), .int .i64 (g190 14), .int .i64 (g190 15), .int .i64 (g190 16), .int .i64 (g190 17), .int .i64 (g190 18), .int .i64 (g190 19)]]) w188 R fun w191 => (∃ m193, m193 < k174 ∧ I173 m193 (IntKind.wrap .i64 (n178 + 1)) w191)) w185) w184) w176) (J42  w176))) w40) ((cB (n41 == 4) (clV 130 ([]) w40 R fun r196 w195 => ∃ (g194 : Nat → Int), r196 = .agg #[.int .i64 (g194 0), .int .i64 (g194 1), .int .i64 (g194 2), .int .i64 (g194 3), .int .i64 (g194 4), .int .i64 (g194 5), .int .i64 (g194 6), .int .i64 (g194 7), .int .i64 (g194 8), .int .i64 (g194 9), .int .i64 (g194 10), .int .i64 (g194 11), .int .i64 (g194 12), .int .i64 (g194 13), .int .i64 (g194 14), .int .i64 (g194 15), .int .i64 (g194 16), .int .i64 (g194 17), .int .i64 (g194 18), .int .i64 (g194 19)] ∧ newC [.int .i64 n4, .int .i64 (g194 0), .int .i64 (g194 1), .int .i64 (g194 2), .int .i64 (g194 3), .int .i64 (g194 4), .int .i64 (g194 5), .int .i64 (g194 6), .int .i64 (g194 7), .int .i64 (g194 8), .int .i64 (g194 9), .int .i64 (g194 10), .int .i64 (g194 11), .int .i64 (g194 12), .int .i64 (g194 13), .int .i64 (g194 14), .int .i64 (g194 15), .int .i64 (g194 16), .int .i64 (g194 17), .int .i64 (g194 18), .int .i64 (g194 19)] 142 (fun b197 w198 => lI w198 b36 2 fun n199 => ∃ (I200 : Nat → Option Addr → Nat → Nat → Int → World → Prop), (∃ k202, I200 k202 (some ⟨b197, 0, none⟩) 1 1 0 w198) ∧ ∀ k201 (d204 : Nat → Value) a205 l205 c205 n206 w203, I200 k201 a205 l205 c205 n206 w203 → (cB (decide (n206 < n199)) (lP w203 b5 0 fun b207 o208 => clL 131 ([.pointer (some ⟨b207, o208, none⟩), .slice a205 l205 c205, .func (.func 133) #[] #[.pointer (some ⟨b5, 0, none⟩), .pointer (some ⟨b36, 0, none⟩)]]) w203 R fun a209 l209 c209 w210 => (∃ m212, m212 < k201 ∧ I200 m212 a209 l209 c209 (IntKind.wrap .i64 (n206 + 1)) w210)) (newC [.int .i64 0] 3 (fun b213 w214 => stW b213 0 [.int .i64 (-1)] (fun w215 => lI w215 b36 3 fun n216 => (cB (decide (n216 ≥ 0)) (lI w215 b36 3 fun n217 => lI w215 b36 2 fun n218 => stW b213 0 [.int .i64 (IntKind.wrap .i64 (n217 - n218))] (fun w219 => lP w219 b5 0 fun b220 o221 => clL 131 ([.pointer (some ⟨b220, o221, none⟩), .slice a205 l205 c205, .func (.func 134) #[] #[.pointer (some ⟨b5, 0, none⟩), .pointer (some ⟨b7, 0, none⟩), .pointer (some ⟨b213, 0, none⟩)]]) w219 R fun a222 l222 c222 w223 => ∃ (I225 : Nat → Int → World → Prop), (∃ k227, I225 k227 0 w223) ∧ ∀ k226 (d229 : Nat → Value) n230 w228, I225 k226 n230 w228 → (cB (decide (n230 < ((l222 : Nat) : Int))) (ixS a222 l222 n230 fun b231 o232 => lI w228 b231 (o232 + (Int.toNat n230) * 21) fun n233 => ∃ (g234 : Nat → Int), intsAt w228.heap b231 (o232 + (Int.toNat n230) * 21 + 1) 20 g234 ∧ newC [.int .i64 0, .int .i64 0, .int .i64 0, .int .i64 0, .int .i64 0, .int .i64 0, .int .i64 0, .int .i64 0, .int .i64 0, .int .i64 0, .int .i64 0, .int .i64 0, .int .i64 0, .int .i64 0, .int .i64 0, .int .i64 0, .int .i64 0, .int .i64 0, .int .i64 0, .int .i64 0, .int .i64 0] 142 (fun b235 w236 => stW b235 0 [.int .i64 n233, .int .i64 (g234 0), .int .i64 (g234 1), .int .i64 (g234 2), .int .i64 (g234 3), .int .i64 (g234 4), .int .i64 (g234 5), .int .i64 (g234 6), .int .i64 (g234 7), .int .i64 (g234 8), .int .i64 (g234 9), .int .i64 (g234 10), .int .i64 (g234 11), .int .i64 (g234 12), .int .i64 (g234 13), .int .i64 (g234 14), .int .i64 (g234 15), .int .i64 (g234 16), .int .i64 (g234 17), .int .i64 (g234 18), .int .i64 (g234 19)] (fun w237 => lI w237 b235 0 fun n238 => ∃ (g239 : Nat → Int), intsAt w237.heap b235 1 20 g239 ∧ clU 129 ([.pointer (some ⟨b39, 0, none⟩), .agg #[.int .i64 n238, .int .i64 (g239 0), .int .i64 (g239 1), .int .i64 (g239 2), .int .i64 (g239 3), .int .i64 (g239 4), .int .i64 (g239 5), .int .i64 (g239 6), .int .i64 (g239 7), .int .i64 (g239 8), .int .i64 (g239 9), .int .i64 (g239 10), .int .i64 (g239 11), .int .i64 (g239 12), .int .i64 (g239 13), .int .i64 (g239 14), .int .i64 (g239 15), .int .i64 (g239 16), .int .i64 (g239 17), .int .i64 (g239 18), .int .i64 (g239 19)]]) w237 R fun w240 => (∃ m242, m242 < k226 ∧ I225 m242 (IntKind.wrap .i64 (n230 + 1)) w240)) w236) w228) (J42  w228))) w215) (lP w215 b5 0 fun b243 o244 => clL 131 ([.pointer (some ⟨b243, o244, none⟩), .slice a205 l205 c205, .func (.func 134) #[] #[.pointer (some ⟨b5, 0, none⟩), .pointer (some ⟨b7, 0, none⟩), .pointer (some ⟨b213, 0, none⟩)]]) w215 R fun a245 l245 c245 w246 => ∃ (I248 : Nat → Int → World → Prop), (∃ k250, I248 k250 0 w246) ∧ ∀ k249 (d252 : Nat → Value) n253 w251, I248 k249 n253 w251 → (cB (decide (n253 < ((l245 : Nat) : Int))) (ixS a245 l245 n253 fun b254 o255 => lI w251 b254 (o255 + (Int.toNat n253) * 21) fun n256 => ∃ (g257 : Nat → Int), intsAt w251.heap b254 (o255 + (Int.toNat n253) * 21 + 1) 20 g257 ∧ newC [.int .i64 0, .int .i64 0, .int .i64 0, .int .i64 0, .int .i64 0, .int .i64 0, .int .i64 0, .int .i64 0, .int .i64 0, .int .i64 0, .int .i64 0, .int .i64 0, .int .i64 0, .int .i64 0, .int .i64 0, .int .i64 0, .int .i64 0, .int .i64 0, .int .i64 0, .int .i64 0, .int .i64 0] 142 (fun b258 w259 => stW b258 0 [.int .i64 n256, .int .i64 (g257 0), .int .i64 (g257 1), .int .i64 (g257 2), .int .i64 (g257 3), .int .i64 (g257 4), .int .i64 (g257 5), .int .i64 (g257 6), .int .i64 (g257 7), .int .i64 (g257 8), .int .i64 (g257 9), .int .i64 (g257 10), .int .i64 (g257 11), .int .i64 (g257 12), .int .i64 (g257 13), .int .i64 (g257 14), .int .i64 (g257 15), .int .i64 (g257 16), .int .i64 (g257 17), .int .i64 (g257 18), .int .i64 (g257 19)] (fun w260 => lI w260 b258 0 fun n261 => ∃ (g262 : Nat → Int), intsAt w260.heap b258 1 20 g262 ∧ clU 129 ([.pointer (some ⟨b39, 0, none⟩), .agg #[.int .i64 n261, .int .i64 (g262 0), .int .i64 (g262 1), .int .i64 (g262 2), .int .i64 (g262 3), .int .i64 (g262 4), .int .i64 (g262 5), .int .i64 (g262 6), .int .i64 (g262 7), .int .i64 (g262 8), .int .i64 (g262 9), .int .i64 (g262 10), .int .i64 (g262 11), .int .i64 (g262 12), .int .i64 (g262 13), .int .i64 (g262 14), .int .i64 (g262 15), .int .i64 (g262 16), .int .i64 (g262 17), .int .i64 (g262 18), .int .i64 (g262 19)]]) w260 R fun w263 => (∃ m265, m265 < k249 ∧ I248 m265 (IntKind.wrap .i64 (n253 + 1)) w263)) w259) w251) (J42  w251))))) w214) w203))) w195) (J42  w40))))))))))))))) ∧ ∀ (d266 : Nat → Value)  w267, J42  w267 → drw (fun w268 => lP w268 b5 0 fun b269 o270 => lM w268 b269 (o270 + 5) fun m271 => lI w268 b10 0 fun n272 => lI w268 b10 1 fun n273 => lI w268 b10 2 fun n274 => lL w268 b39 0 fun a275 l275 c275 => ∃ w276, (Instr.mapUpdate 126 (.map m271) (.agg #[.int .i64 n272, .int .i64 n273, .int .i64 n274]) (.slice a275 l275 c275)).run Try.prog w268 = .ok () w276 ∧ lL w276 b39 0 fun a277 l277 c277 => R (.returned (.slice a277 l277 c277)) w276) w267) w38) w37) w22) w13))) w12) w11) w8) w6) w
def scr114 : Scr := (.q 3 (.q 5 (.q 11 (.q 1 (.cond (.q 2 .nil) (.q 10 (.q 1 (.q 2 (.q 2 (.cut (dr [] [(12,1),(14,2),(17,1),(19,1),(21,1),(23,1),(25,3),(29,1),(56,167)]) (.cond (.q 7 (.cond (.q 8 (.q 4 (.loop (dr [(73, some (.int .i64))] [(14,1),(74,19)]) (.q 1 (.cond (.q 4 (.run [0,1,2,3,4] (.split 81 (.r [5,6,7,8,9] (.cond (.q 5 (.q 2 .nil)) (.q 2 .nil))) (.r [5,6,7,8,9] (.lit (.q 2 .nil)))))) .nil))))) .nil)) (.q 2 (.cond (.q 2 (.cond (.q 4 .nil) .nil)) (.q 2 (.cond (.q 7 (.cond (.q 4 .nil) .nil)) (.q 2 (.cond (.q 5 (.q 4 (.loop (dr [(15, some .slice), (123, some (.int .i64))] [(17,1),(124,8)]) (.q 1 (.cond (.q 4 (.q 5 (.q 2 .nil))) (.q 3 (.loop (dr [(134, some (.int .i64))] [(19,1),(135,6)]) (.q 1 (.cond (.q 4 (.q 2 (.q 2 .nil))) .nil))))))))) (.q 2 (.cond (.q 4 (.loop (dr [(146, some (.int .i64))] [(21,1),(23,1),(147,16)]) (.q 1 (.cond (.q 3 (.q 6 (.loop (dr [(155, some (.int .i64))] [(23,1),(156,6)]) (.q 1 (.cond (.q 4 (.q 2 (.q 2 .nil))) (.q 2 .nil)))))) .nil)))) (.q 2 (.cond (.r [0,1,2,3,4,5,8,6,7] (.loop (dr [(173, some (.int .i64))] [(25,1),(174,14)]) (.q 1 (.cond (.q 4 (.q 9 (.q 2 (.q 2 .nil)))) .nil)))) (.q 2 (.cond (.q 5 (.q 3 (.loop (dr [(26, some .slice), (196, some (.int .i64))] [(197,6)]) (.q 1 (.cond (.q 5 (.q 2 .nil)) (.q 2 (.q 3 (.cond (.q 6 (.q 6 (.loop (dr [(216, some (.int .i64))] [(29,1),(217,6)]) (.q 1 (.cond (.q 4 (.q 2 (.q 2 .nil))) .nil))))) (.q 6 (.loop (dr [(216, some (.int .i64))] [(29,1),(217,6)]) (.q 1 (.cond (.q 4 (.q 2 (.q 2 .nil))) .nil)))))))))))) .nil))))))))))))) (.q 8 (.q 3 .nil))))))))))))
theorem vc114 {b1 o2 n3 n4} {R w} (h : V114 b1 o2 n3 n4 R w) : Cl Try.prog 114 [.pointer (some ⟨b1, o2, none⟩), .int .i64 n3, .int .i64 n4] w R :=
  cl_of scr114 Try.func114 (by kernel_rfl) _ _ (by kernel_rfl) h
end Go.Proofs.Ytngbiaeliphdjaa.V
/- Ways in the program's memory; its small functions on them. No statement of the seat is proved here. -/
namespace Go.Vc
open Go.RowKit
set_option linter.unusedVariables false
set_option linter.unusedSimpArgs false
/-- A group's span as two numbers, -1 for none. -/
def spI (g : Gr) (i : Nat) : Int := match g (i / 2) with
  | some p => if i % 2 = 0 then (p.1 : Int) else (p.2 : Int)
  | none => -1
def grC (g : Nat → Int) : List Value := (List.range 20).map fun i => .int .i64 (g i)
def wayC (w : Wy) : List Value := .int .i64 (w.1 : Int) :: grC (spI w.2)
def waysC (ws : List Wy) : List Value := ws.flatMap wayC
theorem grC_length (g : Nat → Int) : (grC g).length = 20 := by simp [grC]
theorem grC_get (g : Nat → Int) (i : Nat) (h : i < 20) : (grC g)[i]? = some (.int .i64 (g i)) := by simp [grC, h]
theorem grC_ext {f g : Nat → Int} (h : ∀ n, n < 20 → f n = g n) : grC f = grC g := by
  unfold grC
  apply List.map_congr_left
  intro i hi
  rw [h i (by simpa using hi)]
theorem grC_set (g : Nat → Int) (i : Nat) (x : Int) : (grC g).set i (.int .i64 x) = grC (fun n => if n = i then x else g n) := by
  apply List.ext_getElem?
  intro k
  rw [List.getElem?_set]
  by_cases hk : k < 20
  · rw [grC_get _ k hk, grC_get _ k hk, grC_length]
    by_cases hik : i = k
    · subst hik; simp [hk]
    · rw [if_neg hik, if_neg (by omega)]
  · have h1 : (grC g)[k]? = none := List.getElem?_eq_none (by rw [grC_length]; omega)
    have h2 : (grC fun n => if n = i then x else g n)[k]? = none := List.getElem?_eq_none (by rw [grC_length]; omega)
    rw [h1, h2, grC_length]
    by_cases hik : i = k
    · rw [if_pos hik, if_neg (by omega)]
    · rw [if_neg hik]
theorem wayC_length (w : Wy) : (wayC w).length = 21 := by simp [wayC, grC_length]
theorem waysC_append (l m : List Wy) : waysC (l ++ m) = waysC l ++ waysC m := by simp [waysC]
theorem waysC_one (w : Wy) : waysC [w] = wayC w := by simp [waysC]
theorem waysC_length (l : List Wy) : (waysC l).length = l.length * 21 := by
  induction l with
  | nil => rfl
  | cons b r ih => rw [show b :: r = [b] ++ r from rfl, waysC_append, List.length_append, ih, waysC_one, wayC_length]; simp; omega
theorem waysC_at : ∀ (l : List Wy) (i : Nat) (h : i < l.length) (o : Nat), o < 21 → (waysC l)[i * 21 + o]? = (wayC l[i])[o]?
  | b :: r, 0, h, o, ho => by
    rw [show waysC (b :: r) = wayC b ++ waysC r from by simp [waysC]]
    rw [List.getElem?_append_left (by rw [wayC_length]; omega)]; simp
  | b :: r, i + 1, h, o, ho => by
    rw [show waysC (b :: r) = wayC b ++ waysC r from by simp [waysC]]
    rw [List.getElem?_append_right (by rw [wayC_length]; omega), wayC_length, show (i + 1) * 21 + o - 21 = i * 21 + o from by omega]
    simpa using waysC_at r i (by simpa using h) o ho
theorem wayC_scal (w : Wy) : (wayC w).all scal = true := by simp [wayC, grC, scal]
/-- The numbers of a way, from memory. -/
theorem ints_of {h : Array Obj} {b o : Nat} {g : Nat → Int} (hc : ∀ i, i < 20 → cellH h b (o + i) = (grC g)[i]?) : intsAt h b o 20 g := fun i hi => by rw [hc i hi, grC_get g i hi]
theorem Blk.way {h : Array Obj} {b : Nat} {e : TypeId} {w : Wy} (hb : Blk h b e (wayC w)) : cellH h b 0 = some (.int .i64 (w.1 : Int)) ∧ intsAt h b 1 20 (spI w.2) := by
  refine ⟨hb.cell 0, ints_of fun i hi => ?_⟩
  rw [hb.cell, show 1 + i = i + 1 from by omega]
  rfl
theorem Blk.gr {h : Array Obj} {b : Nat} {e : TypeId} {g : Nat → Int} (hb : Blk h b e (grC g)) : intsAt h b 0 20 g := ints_of fun i hi => by rw [hb.cell, Nat.zero_add]
theorem Vec.way {h : Array Obj} {b l : Nat} {ws : List Wy} (hc : ∀ o, o < l * 21 → cellH h b o = (waysC ws)[o]?) (hl : ws.length = l) {i : Nat} (hi : i < ws.length) :
    cellH h b (0 + i * 21) = some (.int .i64 (ws[i].1 : Int)) ∧ intsAt h b (0 + i * 21 + 1) 20 (spI ws[i].2) := by
  refine ⟨?_, ints_of fun k hk => ?_⟩
  · rw [Nat.zero_add, hc _ (by omega)]
    exact waysC_at ws i hi 0 (by decide)
  · rw [Nat.zero_add, hc _ (by omega), show i * 21 + 1 + k = i * 21 + (k + 1) from by omega, waysC_at ws i hi (k + 1) (by omega)]
    rfl
/-- Few places, few ways. -/
theorem nodup_le : ∀ (n : Nat) (l : List Nat), l.Nodup → (∀ x ∈ l, x < n) → l.length ≤ n
  | 0, l, _, h => by
    cases l with
    | nil => simp
    | cons x r => have := h x (by simp); omega
  | n + 1, l, hn, h => by
    by_cases hm : n ∈ l
    · have h1 := nodup_le n (l.erase n) (hn.erase n) fun x hx => by
        have := (hn.mem_erase_iff).1 hx
        have := h x this.2
        omega
      rw [List.length_erase_of_mem hm] at h1
      omega
    · have h1 := nodup_le n l hn fun x hx => by
        have := h x hx
        have : x ≠ n := fun e => hm (e ▸ hx)
        omega
      omega
theorem DD.short {n : Nat} {ws : List Wy} (h : DD ws) (hb : ∀ x ∈ ws, x.1 ≤ n) : ws.length ≤ n + 1 := by
  have := nodup_le (n + 1) (ws.map Prod.fst) h (by
    intro x hx
    obtain ⟨y, hy, rfl⟩ := List.mem_map.1 hx
    have := hb y hy; omega)
  simpa using this
end Go.Vc
namespace Go.Proofs.Ytngbiaeliphdjaa.V
open Go.Vc Go.Proofs Go.RowKit
set_option linter.unusedVariables false
set_option linter.unusedSimpArgs false
theorem elemWay : Elem Try.prog 137 142 21 168 := ⟨by kernel_rfl, by kernel_rfl, by kernel_rfl, ⟨.int .i64 0 :: grC fun _ => 0, by kernel_rfl, by simp [grC_length]⟩⟩
theorem none_ok (w : World) : Cl Try.prog 130 [] w (RetB (.agg ⟨grC (spI gNone)⟩) w) := by
  apply vc130
  unfold V130
  refine newC_in fun w1 s1 k1 e1 => ?_
  have k1' : Blk w1.heap w.heap.size 140 (grC fun _ => 0) := k1
  have B1 : Below w.heap.size w w1 := Ext.to (Below.refl _ _) e1 fun _ h => h.elim
  generalize hb : w.heap.size = b at *
  refine ⟨fun k n w' => ∃ i : Nat, n = i ∧ i ≤ 10 ∧ k = 10 - i ∧ Blk w'.heap b 140 (grC fun j => if j < 2 * i then -1 else 0) ∧ Below w.heap.size w w', ⟨_, 0, rfl, by omega, rfl, ?_, hb ▸ B1⟩, ?_⟩
  · rw [grC_ext (g := fun _ => 0) fun j _ => by rw [if_neg (by omega)]]; exact k1'
  rintro k d n w2 ⟨i, rfl, hi, rfl, k2, B2⟩
  refine ⟨fun g => ?_, fun g => ?_⟩
  · have g' : i < 10 := by have := of_decide_eq_true g; omega
    refine ⟨⟨by omega, by omega⟩, ?_⟩
    rw [show 0 + Int.toNat (i : Int) * 2 = 2 * i from by omega]
    refine stW_in k2 (by rw [grC_length]; show 2 * i + 2 ≤ 20; omega) fun w3 s3 k3 e3 => ?_
    refine ⟨10 - (i + 1), by omega, i + 1, by rw [w64 (by omega)]; omega, by omega, rfl, ?_, Ext.to B2 e3 fun x hx => by omega⟩
    have : segSet (grC fun j => if j < 2 * i then -1 else 0) (2 * i) [.int .i64 (-1), .int .i64 (-1)] = grC fun j => if j < 2 * (i + 1) then -1 else 0 := by
      show ((grC _).set (2 * i) _).set (2 * i + 1) _ = _
      rw [grC_set, grC_set]
      apply grC_ext
      intro j hj
      by_cases h1 : j = 2 * i + 1
      · rw [if_pos h1, if_pos (by omega)]
      · rw [if_neg h1]
        by_cases h2 : j = 2 * i
        · rw [if_pos h2, if_pos (by omega)]
        · rw [if_neg h2]
          by_cases h3 : j < 2 * i
          · rw [if_pos h3, if_pos (by omega)]
          · rw [if_neg h3, if_neg (by omega)]
    rw [this] at k3; exact k3
  · have g' : i = 10 := by have := of_decide_eq_false g; omega
    subst g'
    rw [grC_ext (g := spI gNone) fun j hj => by rw [if_pos (by omega)]; rfl] at k2
    refine ⟨spI gNone, k2.gr, ?_⟩
    refine stW_in (vs := grC (spI gNone)) k2 (by rw [grC_length]; decide) fun w3 s3 k3 e3 => ?_
    have : segSet (grC (spI gNone)) 0 (grC (spI gNone)) = grC (spI gNone) := by rw [segSet_eq _ _ _ (by omega)]; simp
    rw [this] at k3
    exact ⟨spI gNone, k3.gr, rfl, Ext.to B2 e3 fun x hx => by omega⟩
theorem idx140 (g : Nat → Int) (n : Nat) (h : n < 10) (w : World) : (Instr.index 140 (.agg ⟨grC g⟩) (.int .i64 n)).run Try.prog w = .ok (.agg #[.int .i64 (g (2 * n)), .int .i64 (g (2 * n + 1))]) w := by
  unfold Instr.index
  rw [bind_run (show (asIntOf (.int .i64 (n : Int))).run Try.prog w = .ok (.i64, (n : Int)) w from rfl)]
  simp only []
  rw [bind_run (underlying_run (show Try.prog.underlying 140 = some (.array 10 31) from by kernel_rfl) w)]
  simp only []
  rw [if_pos (by omega), bind_run (sizeOf_run (show sizeP Try.prog 31 = some 2 from by kernel_rfl) w)]
  rw [show Int.toNat (n : Int) * 2 = 2 * n from by omega]
  rw [part_run_agg (n := 2) (show Try.prog.underlying 31 = some (.struct (Try.prog.fieldsOf 31)) from by kernel_rfl) (.inl ⟨_, rfl⟩) (by kernel_rfl)]
  have : ((grC g).drop (2 * n)).take 2 = [.int .i64 (g (2 * n)), .int .i64 (g (2 * n + 1))] := by
    apply List.ext_getElem?
    intro k
    rw [List.getElem?_take]
    match k with
    | 0 => rw [if_pos (by omega), List.getElem?_drop, grC_get _ _ (by omega)]; rfl
    | 1 => rw [if_pos (by omega), List.getElem?_drop, grC_get _ _ (by omega)]; rfl
    | k + 2 => rw [if_neg (by omega)]; rfl
  show Result.ok (Value.agg ⟨((grC g).drop (2 * n)).take 2⟩) w = _
  rw [this]
theorem with_ok (x y : Gr) (w : World) : Cl Try.prog 151 [.agg ⟨grC (spI x)⟩, .agg ⟨grC (spI y)⟩] w (RetB (.agg ⟨grC (spI (gOver x y))⟩) w) := by
  refine vc151 (g1 := spI x) (g2 := spI y) ?_
  unfold V151
  refine newC_in fun w1 s1 k1 e1 => ?_
  refine newC_in fun w2 s2 k2 e2 => ?_
  refine newC_in fun w3 s3 k3 e3 => ?_
  generalize hb1 : w.heap.size = b1 at *
  generalize hb2 : w1.heap.size = b2 at *
  generalize hb3 : w2.heap.size = b3 at *
  have k1' : Blk w3.heap b1 140 (grC (spI x)) := (k1.keep e2 fun h => h).keep e3 fun h => h
  have k2' : Blk w3.heap b2 140 (grC (spI y)) := k2.keep e3 fun h => h
  have k3' : Blk w3.heap b3 140 (grC fun _ => 0) := k3
  have B3 : Below w.heap.size w w3 := Ext.to (Ext.to (Ext.to (Below.refl _ _) e1 fun _ h => h.elim) e2 fun _ h => h.elim) e3 fun _ h => h.elim
  refine ⟨spI y, k2'.gr, fun k n w' => ∃ i : Nat, n = i ∧ i ≤ 10 ∧ k = 10 - i ∧ Blk w'.heap b1 140 (grC fun j => if j < 2 * i then spI (gOver x y) j else spI x j) ∧ Blk w'.heap b3 140 (grC fun _ => 0) ∧ Below w.heap.size w w', ⟨_, 0, rfl, by omega, rfl, ?_, k3', B3⟩, ?_⟩
  · rw [grC_ext (g := spI x) fun j _ => by rw [if_neg (by omega)]]; exact k1'
  rintro k d n w4 ⟨i, rfl, hi, rfl, k4, k4', B4⟩
  have hz4 := k4'.lt
  refine ⟨fun g => ?_, fun g => ?_⟩
  · have g' : i < 10 := by have := of_decide_eq_true g; omega
    refine ⟨_, _, idx140 (spI y) i g' w4, ?_⟩
    refine newC_in fun w5 s5 k5 e5 => ?_
    refine stW_in k5 (by show 0 + 2 ≤ 2; decide) fun w6 s6 k6 e6 => ?_
    have k6' : Blk w6.heap w4.heap.size 31 [.int .i64 (spI y (2 * i)), .int .i64 (spI y (2 * i + 1))] := k6
    have hn1 : b1 ≠ w4.heap.size := by have := k4.lt; omega
    have k46 := (k4.keep e5 fun h => h).keep e6 hn1
    have k46' := (k4'.keep e5 fun h => h).keep e6 (by omega)
    have B6 : Below w.heap.size w w6 := Ext.to (Ext.to B4 e5 fun _ h => h.elim) e6 fun z hz => by have := B4.size; omega
    have ev : (2 * i) / 2 = i ∧ (2 * i + 1) / 2 = i ∧ (2 * i) % 2 = 0 ∧ (2 * i + 1) % 2 ≠ 0 := by omega
    have e1w : IntKind.wrap .i64 ((i : Int) + 1) = ((i + 1 : Nat) : Int) := by rw [w64 (by omega)]; omega
    rw [e1w]
    -- what two numbers become
    have hstep : ∀ (f : Nat → Int), (∀ j, j < 2 * i → f j = spI (gOver x y) j) → f (2 * i) = spI (gOver x y) (2 * i) → f (2 * i + 1) = spI (gOver x y) (2 * i + 1) → (∀ j, 2 * i + 1 < j → f j = spI x j) → grC f = grC fun j => if j < 2 * (i + 1) then spI (gOver x y) j else spI x j := by
      intro f h1 h2 h3 h4
      apply grC_ext
      intro j hj
      by_cases hj1 : j < 2 * (i + 1)
      · rw [if_pos hj1]
        by_cases hj2 : j < 2 * i
        · exact h1 j hj2
        · by_cases hj3 : j = 2 * i
          · subst hj3; exact h2
          · obtain rfl : j = 2 * i + 1 := by omega
            exact h3
      · rw [if_neg hj1]; exact h4 j (by omega)
    refine ⟨_, k6'.cell 0, fun g2 => ?_, fun g2 => ?_⟩
    · have g2' := of_decide_eq_true g2
      obtain ⟨p, hp⟩ : ∃ p, y i = some p := by
        cases hy : y i with
        | some p => exact ⟨p, rfl⟩
        | none => unfold spI at g2'; rw [ev.1, hy] at g2'; simp at g2'
      refine ⟨_, k6'.cell 0, _, k6'.cell 1, ⟨by omega, by omega⟩, ?_⟩
      rw [show 0 + Int.toNat (i : Int) * 2 = 2 * i from by omega]
      refine stW_in k46 (by rw [grC_length]; show 2 * i + 2 ≤ 20; omega) fun w7 s7 k7 e7 => ?_
      refine ⟨10 - (i + 1), by omega, i + 1, rfl, by omega, rfl, ?_, k46'.keep e7 (by omega), Ext.to B6 e7 fun z hz => by omega⟩
      have hset : segSet (grC fun j => if j < 2 * i then spI (gOver x y) j else spI x j) (2 * i) [.int .i64 (spI y (2 * i)), .int .i64 (spI y (2 * i + 1))] = grC fun j => if j < 2 * (i + 1) then spI (gOver x y) j else spI x j := by
        show ((grC _).set (2 * i) _).set (2 * i + 1) _ = _
        rw [grC_set, grC_set]
        apply hstep
        · intro j hj; rw [if_neg (by omega), if_neg (by omega), if_pos hj]
        · rw [if_neg (by omega), if_pos rfl]; unfold spI gOver; rw [ev.1, hp]; rfl
        · rw [if_pos rfl]; unfold spI gOver; rw [ev.2.1, hp]; rfl
        · intro j hj; rw [if_neg (by omega), if_neg (by omega), if_neg (by omega)]
      rw [hset] at k7; exact k7
    · have g2' := of_decide_eq_false g2
      have hp : y i = none := by
        cases hy : y i with
        | none => rfl
        | some p => unfold spI at g2'; rw [ev.1, hy] at g2'; simp only [ev.2.2.1, if_true] at g2'; omega
      refine ⟨10 - (i + 1), by omega, i + 1, rfl, by omega, rfl, ?_, k46', B6⟩
      rw [← hstep (fun j => if j < 2 * i then spI (gOver x y) j else spI x j)]
      · exact k46
      · intro j hj; rw [if_pos hj]
      · rw [if_neg (by omega)]; unfold spI gOver; rw [ev.1, hp]; rfl
      · rw [if_neg (by omega)]; unfold spI gOver; rw [ev.2.1, hp]; rfl
      · intro j hj; rw [if_neg (by omega)]
  · have g' : i = 10 := by have := of_decide_eq_false g; omega
    subst g'
    rw [grC_ext (g := spI (gOver x y)) fun j hj => by rw [if_pos (by omega)]] at k4
    refine ⟨spI (gOver x y), k4.gr, ?_⟩
    refine stW_in (vs := grC (spI (gOver x y))) k4' (by rw [grC_length, grC_length]; decide) fun w5 s5 k5 e5 => ?_
    have : segSet (grC fun _ => 0) 0 (grC (spI (gOver x y))) = grC (spI (gOver x y)) := by
      rw [segSet_eq _ _ _ (by rw [grC_length, grC_length]; decide), grC_length]
      rw [List.drop_of_length_le (by rw [grC_length]; decide)]
      simp
    rw [this] at k5
    exact ⟨spI (gOver x y), k5.gr, rfl, Ext.to B4 e5 fun z hz => by omega⟩
end Go.Proofs.Ytngbiaeliphdjaa.V
/- Where a pattern matches a text: plain lists, no program in sight. No statement of the seat is proved here. -/
namespace Go.Vc
set_option linter.unusedVariables false
set_option linter.unusedSimpArgs false
structure Mt where
  ok : Bool
  fr : Nat
  to : Nat
  gs : List (Int × Int)
def mt0 : Mt := ⟨false, 0, 0, []⟩
def spanP (g : Gr) (j : Nat) : Int × Int := match g (j + 1) with
  | some p => ((p.1 : Int), (p.2 : Int))
  | none => (-1, -1)
def mtP (G i : Nat) (x : Wy) : Mt := ⟨true, i, x.1, (List.range G).map (spanP x.2)⟩
def waysP (P : Pat) (t : Bytes) (i : Nat) : List Mt := (endsP P.pieces t (P.pieces.length - 1) i).map (mtP P.groups i)
def findP (P : Pat) (t : Bytes) (i : Nat) : Mt := if i ≤ t.length then (match waysP P t i with
  | m :: _ => m
  | [] => findP P t (i + 1)) else mt0
  termination_by t.length + 1 - i
/-- Where the next one may begin. -/
def nextM (m : Mt) : Nat := if m.fr = m.to then m.to + 1 else m.to
def allP (P : Pat) (t : Bytes) (i : Nat) : List Mt :=
  if i ≤ t.length then (if (findP P t i).ok = true then findP P t i :: (if i < nextM (findP P t i) then allP P t (nextM (findP P t i)) else []) else []) else []
  termination_by t.length + 1 - i
def wholeP (P : Pat) (t : Bytes) : Mt := ((waysP P t 0).find? fun m => m.to == t.length).getD mt0
/-- A pattern and a text that are well-formed. -/
structure PtOk (P : Pat) (t : Bytes) : Prop where
  wf : Wf P.groups P.pieces
  g9 : P.groups ≤ 9
  len : P.pieces.length ≤ 482
  n200 : t.length ≤ 200
  small : AllS P.pieces
  pos : 0 < P.pieces.length
structure MtOk (G n i : Nat) (m : Mt) : Prop where
  ok : m.ok = true
  fr : m.fr = i
  lo : i ≤ m.to
  hi : m.to ≤ n
  gs : m.gs.length = G
  gr : ∀ g ∈ m.gs, g = (-1, -1) ∨ ∃ f e : Nat, g = ((f : Int), (e : Int)) ∧ i ≤ f ∧ f ≤ e ∧ e ≤ m.to
theorem PtOk.ends {P : Pat} {t : Bytes} (h : PtOk P t) (k i : Nat) (hi : i ≤ t.length) : ∀ w ∈ endsP P.pieces t k i, WOk P.groups t.length i w :=
  endsP_ok (fun x hx h5 => by
    obtain ⟨j, hj⟩ := List.getElem?_of_mem hx
    have := (h.wf j x hj).num h5
    omega) k i hi
theorem mtP_ok {G n i : Nat} {w : Wy} (h : WOk G n i w) : MtOk G n i (mtP G i w) := by
  refine ⟨rfl, rfl, h.lo, h.hi, by simp [mtP], fun g hg => ?_⟩
  obtain ⟨j, _, rfl⟩ := List.mem_map.1 hg
  unfold spanP
  cases hw : w.2 (j + 1) with
  | none => exact .inl rfl
  | some p =>
    have := h.gr (j + 1) p.1 p.2 hw
    exact .inr ⟨p.1, p.2, rfl, this.2.2.1, this.2.2.2.1, this.2.2.2.2⟩
theorem PtOk.ways {P : Pat} {t : Bytes} (h : PtOk P t) {i : Nat} (hi : i ≤ t.length) : ∀ m ∈ waysP P t i, MtOk P.groups t.length i m := by
  intro m hm
  obtain ⟨w, hw, rfl⟩ := List.mem_map.1 hm
  exact mtP_ok (h.ends _ i hi w hw)
theorem PtOk.waysLen {P : Pat} {t : Bytes} (h : PtOk P t) {i : Nat} (hi : i ≤ t.length) : (waysP P t i).length ≤ 201 := by
  unfold waysP
  rw [List.length_map]
  have := (endsP_dd P.pieces t (P.pieces.length - 1) i).short fun x hx => (h.ends _ i hi x hx).hi
  have := h.n200
  omega
theorem PtOk.find {P : Pat} {t : Bytes} (h : PtOk P t) : ∀ (m i : Nat), m = t.length + 1 - i → findP P t i = mt0 ∨ ∃ j, i ≤ j ∧ j ≤ t.length ∧ MtOk P.groups t.length j (findP P t i) := by
  intro m
  induction m using Nat.strongRecOn with
  | _ m ih =>
  intro i hm
  rw [findP]
  by_cases hi : i ≤ t.length
  · rw [if_pos hi]
    cases hw : waysP P t i with
    | nil =>
      rcases ih (t.length + 1 - (i + 1)) (by omega) (i + 1) rfl with h1 | ⟨j, h1, h2, h3⟩
      · exact .inl h1
      · exact .inr ⟨j, by omega, h2, h3⟩
    | cons x r => exact .inr ⟨i, Nat.le_refl _, hi, h.ways hi x (by rw [hw]; exact List.mem_cons_self ..)⟩
  · rw [if_neg hi]; exact .inl rfl
theorem PtOk.findOk {P : Pat} {t : Bytes} (h : PtOk P t) {i : Nat} (ho : (findP P t i).ok = true) : i ≤ (findP P t i).fr ∧ MtOk P.groups t.length (findP P t i).fr (findP P t i) := by
  rcases h.find _ i rfl with h1 | ⟨j, h1, h2, h3⟩
  · rw [h1] at ho; cases ho
  · rw [h3.fr]; exact ⟨h1, h3⟩
theorem PtOk.findNo {P : Pat} {t : Bytes} (h : PtOk P t) {i : Nat} (ho : (findP P t i).ok = false) : findP P t i = mt0 := by
  rcases h.find _ i rfl with h1 | ⟨j, h1, h2, h3⟩
  · exact h1
  · rw [h3.ok] at ho; cases ho
theorem PtOk.next {P : Pat} {t : Bytes} (h : PtOk P t) {i : Nat} (ho : (findP P t i).ok = true) : i < nextM (findP P t i) := by
  have h1 := h.findOk ho
  have := h1.2.lo
  unfold nextM
  split <;> omega
theorem allP_end {P : Pat} {t : Bytes} {i : Nat} (hi : ¬ i ≤ t.length) : allP P t i = [] := by rw [allP, if_neg hi]
theorem allP_no {P : Pat} {t : Bytes} {i : Nat} (ho : (findP P t i).ok = false) : allP P t i = [] := by
  rw [allP]
  split
  · rw [if_neg (by rw [ho]; decide)]
  · rfl
theorem PtOk.all_step {P : Pat} {t : Bytes} (h : PtOk P t) {i : Nat} (hi : i ≤ t.length) (ho : (findP P t i).ok = true) : allP P t i = findP P t i :: allP P t (nextM (findP P t i)) := by
  rw [allP, if_pos hi, if_pos ho, if_pos (h.next ho)]
/-- Matches one behind the other from a place on. -/
inductive Chain (G n : Nat) : Nat → List Mt → Prop
  | nil (i : Nat) : Chain G n i []
  | cons {i : Nat} {m : Mt} {r : List Mt} (h : i ≤ m.fr) (hm : MtOk G n m.fr m) (hr : Chain G n (nextM m) r) : Chain G n i (m :: r)
theorem PtOk.chain {P : Pat} {t : Bytes} (h : PtOk P t) : ∀ (m i : Nat), m = t.length + 1 - i → Chain P.groups t.length i (allP P t i) := by
  intro m
  induction m using Nat.strongRecOn with
  | _ m ih =>
  intro i hm
  by_cases hi : i ≤ t.length
  · cases ho : (findP P t i).ok with
    | false => rw [allP_no ho]; exact .nil _
    | true =>
      rw [h.all_step hi ho]
      have h1 := h.findOk ho
      exact .cons h1.1 h1.2 (ih _ (by have := h.next ho; omega) _ rfl)
  · rw [allP_end hi]; exact .nil _
theorem Chain.mem {G n i : Nat} {ms : List Mt} (h : Chain G n i ms) : ∀ m ∈ ms, i ≤ m.fr ∧ MtOk G n m.fr m := by
  induction h with
  | nil i => intro m hm; cases hm
  | @cons i m0 r h1 hm hr ih =>
    intro m h
    rcases List.mem_cons.1 h with rfl | h
    · exact ⟨h1, hm⟩
    · have h4 := ih m h
      have := hm.lo
      have h3 : i ≤ nextM m0 := by unfold nextM; split <;> omega
      exact ⟨Nat.le_trans h3 h4.1, h4.2⟩
theorem Chain.len {G n i : Nat} {ms : List Mt} (h : Chain G n i ms) : i ≤ n + 1 → ms.length + i ≤ n + 1 := by
  induction h with
  | nil i => intro h; simpa using h
  | @cons i m r h1 hm hr ih =>
    intro _
    have := hm.lo
    have := hm.hi
    have h3 : i < nextM m := by unfold nextM; split <;> omega
    have h4 : nextM m ≤ n + 1 := by unfold nextM; split <;> omega
    have := ih h4
    simp only [List.length_cons]
    omega
theorem PtOk.allLen {P : Pat} {t : Bytes} (h : PtOk P t) : (allP P t 0).length ≤ 201 := by
  have := (h.chain _ 0 rfl).len (by omega)
  have := h.n200
  omega
/-- Matches that a law can mark. -/
def MsS (ms : List Mt) : Prop := ms.length ≤ 201 ∧ ∀ m ∈ ms, m.gs.length ≤ 9
theorem PtOk.waysS {P : Pat} {t : Bytes} (h : PtOk P t) {i : Nat} (hi : i ≤ t.length) : MsS (waysP P t i) := ⟨h.waysLen hi, fun m hm => by have := (h.ways hi m hm).gs; have := h.g9; omega⟩
theorem PtOk.allS {P : Pat} {t : Bytes} (h : PtOk P t) : MsS (allP P t 0) := ⟨h.allLen, fun m hm => by have := ((h.chain _ 0 rfl).mem m hm).2.gs; have := h.g9; omega⟩
theorem PtOk.findS {P : Pat} {t : Bytes} (h : PtOk P t) (i : Nat) : (findP P t i).gs.length ≤ 9 := by
  rcases h.find _ i rfl with h1 | ⟨j, h1, h2, h3⟩
  · rw [h1]; simp [mt0]
  · have := h3.gs; have := h.g9; omega
theorem PtOk.wholeS {P : Pat} {t : Bytes} (h : PtOk P t) : (wholeP P t).gs.length ≤ 9 := by
  unfold wholeP
  cases hf : (waysP P t 0).find? fun m => m.to == t.length with
  | none => simp [mt0]
  | some m => exact (h.waysS (Nat.zero_le _)).2 m (List.mem_of_find?_eq_some hf)
end Go.Vc
/- Matches in memory; they are compared, marked, looked for. No statement of the seat is proved here. -/
namespace Go.Vc
open Go.RowKit
set_option linter.unusedVariables false
set_option linter.unusedSimpArgs false
abbrev G3' := Option Addr × Nat × Nat
abbrev ME := Mt × G3'
def mC (e : ME) : List Value := [.bool e.1.ok, .int .i64 (e.1.fr : Int), .int .i64 (e.1.to : Int), .slice e.2.1 e.2.2.1 e.2.2.2]
def msC (es : List ME) : List Value := es.flatMap mC
theorem msC_append (l m : List ME) : msC (l ++ m) = msC l ++ msC m := by simp [msC]
theorem msC_one (e : ME) : msC [e] = mC e := by simp [msC]
theorem msC_length (l : List ME) : (msC l).length = l.length * 4 := by
  induction l with
  | nil => rfl
  | cons b r ih => rw [show b :: r = [b] ++ r from rfl, msC_append, List.length_append, ih, msC_one]; simp [mC]; omega
theorem msC_at : ∀ (l : List ME) (i : Nat) (h : i < l.length) (o : Nat), o < 4 → (msC l)[i * 4 + o]? = (mC l[i])[o]?
  | b :: r, 0, h, o, ho => by
    rw [show msC (b :: r) = mC b ++ msC r from by simp [msC]]
    rw [List.getElem?_append_left (by simp [mC]; omega)]; simp
  | b :: r, i + 1, h, o, ho => by
    rw [show msC (b :: r) = mC b ++ msC r from by simp [msC]]
    have hl : (mC b).length = 4 := rfl
    rw [List.getElem?_append_right (by rw [hl]; omega), hl, show (i + 1) * 4 + o - 4 = i * 4 + o from by omega]
    simpa using msC_at r i (by simpa using h) o ho
/-- The groups of a match. -/
def MOk (w : World) (e : ME) : Prop := Vec w.heap 31 2 e.2.1 e.2.2.1 e.2.2.2 (rngC e.1.gs)
def mblk (e : ME) : List Nat := ob e.2.1
def mblks (a : Option Addr) (es : List ME) : List Nat := ob a ++ es.flatMap mblk
/-- Matches, in blocks of their own, no two of them one. -/
structure Ms (N : Nat) (w : World) (a : Option Addr) (l c : Nat) (es : List ME) : Prop where
  row : Vec w.heap 29 4 a l c (msC es)
  len : es.length = l
  all : ∀ e ∈ es, MOk w e
  nodup : (mblks a es).Nodup
  low : ∀ b ∈ mblks a es, N ≤ b
theorem Ms.nil (N : Nat) (w : World) : Ms N w none 0 0 [] := ⟨Vec.nil _ _ _, rfl, by simp, by simp [mblks, ob, blkOf], by simp [mblks, ob, blkOf]⟩
theorem MOk.keep {S : Nat → Prop} {w w' : World} {e : ME} (h : MOk w e) (E : Ext S w w') (hs : ∀ k ∈ mblk e, ¬ S k) : MOk w' e := Vec.keep h E fun b hb => hs b (mem_ob.2 hb)
theorem MOk.below {w w' : World} {e : ME} (h : MOk w e) (E : Below w.heap.size w w') : MOk w' e := h.keep (S := fun _ => False) (Ext.of_below E) fun _ _ h => h
theorem MOk.lt {w : World} {e : ME} (h : MOk w e) : ∀ b ∈ mblk e, b < w.heap.size := fun b hb => Vec.lt h b (mem_ob.1 hb)
theorem mem_mblks {a : Option Addr} {es : List ME} {e : ME} (he : e ∈ es) {k : Nat} (hk : k ∈ mblk e) : k ∈ mblks a es := List.mem_append_right _ (List.mem_flatMap.2 ⟨e, he, hk⟩)
section
variable {N : Nat} {w w' : World} {a : Option Addr} {l c : Nat} {es : List ME}
theorem Ms.lt (h : Ms N w a l c es) : ∀ b ∈ mblks a es, b < w.heap.size := by
  intro b hb
  rcases List.mem_append.1 hb with hb | hb
  · exact h.row.lt b (mem_ob.1 hb)
  · obtain ⟨e, he, hb⟩ := List.mem_flatMap.1 hb
    exact (h.all e he).lt b hb
theorem Ms.keep {S : Nat → Prop} (h : Ms N w a l c es) (E : Ext S w w') (hs : ∀ k ∈ mblks a es, ¬ S k) : Ms N w' a l c es :=
  ⟨h.row.keep E fun b hb => hs b (List.mem_append_left _ (mem_ob.2 hb)), h.len, fun e he => (h.all e he).keep E fun k hk => hs k (mem_mblks he hk), h.nodup, h.low⟩
theorem Ms.below (h : Ms N w a l c es) (E : Below w.heap.size w w') : Ms N w' a l c es := h.keep (S := fun _ => False) (Ext.of_below E) fun _ _ h => h
theorem Ms.mono (h : Ms N w a l c es) {M : Nat} (hm : M ≤ N) : Ms M w a l c es := ⟨h.row, h.len, h.all, h.nodup, fun b hb => Nat.le_trans hm (h.low b hb)⟩
theorem Ms.cells (h : Ms N w a l c es) {i : Nat} (hi : i < es.length) : ∃ b, a = some ⟨b, 0, none⟩ ∧ ∀ o, o < 4 → cellH w.heap b (0 + i * 4 + o) = (mC es[i])[o]? := by
  have hl := h.len
  obtain ⟨b, hb, hc⟩ := h.row.open (by omega)
  exact ⟨b, hb, fun o ho => by rw [Nat.zero_add, hc _ (by omega)]; exact msC_at es i hi o ho⟩
/-- One match of a row. -/
theorem Ms.mid {A B : List ME} {e : ME} (h : Ms N w a l c (A ++ e :: B)) : MOk w e ∧ A.length < l ∧ ∀ k ∈ mblk e, k ∉ ob a ∧ ∀ q ∈ A ++ B, k ∉ mblk q := by
  have hl := h.len
  rw [List.length_append, List.length_cons] at hl
  have hn := h.nodup
  unfold mblks at hn
  rw [List.flatMap_append, List.flatMap_cons] at hn
  obtain ⟨n1, n2, n3⟩ := List.nodup_append.1 hn
  obtain ⟨n4, n5, n6⟩ := List.nodup_append.1 n2
  obtain ⟨n7, n8, n9⟩ := List.nodup_append.1 n5
  refine ⟨h.all e (by simp), by omega, fun k hk => ⟨fun ha => n3 k ha k (by simp [hk]) rfl, fun q hq hkq => ?_⟩⟩
  rcases List.mem_append.1 hq with hq | hq
  · exact n6 k (List.mem_flatMap.2 ⟨q, hq, hkq⟩) k (by simp [hk]) rfl
  · exact n9 k hk k (List.mem_flatMap.2 ⟨q, hq, hkq⟩) rfl
theorem mblks_eq {A B : List ME} {e e' : ME} (hb : e'.2 = e.2) : mblks a (A ++ e' :: B) = mblks a (A ++ e :: B) := by
  unfold mblks
  rw [List.flatMap_append, List.flatMap_append, List.flatMap_cons, List.flatMap_cons, show mblk e' = mblk e from by unfold mblk; rw [hb]]
theorem Ms.upd {S : Nat → Prop} {A B : List ME} {e e' : ME} (h : Ms N w a l c (A ++ e :: B)) (hr : Vec w'.heap 29 4 a l c (msC (A ++ e' :: B))) (hok : MOk w' e') (hb : e'.2 = e.2) (E : Ext S w w') (hS : ∀ k, S k → k ∈ ob a ∨ k ∈ mblk e) : Ms N w' a l c (A ++ e' :: B) := by
  have hm := h.mid
  have hbl : mblks a (A ++ e' :: B) = mblks a (A ++ e :: B) := mblks_eq hb
  refine ⟨hr, by have := h.len; simpa using this, fun q hq => ?_, by rw [hbl]; exact h.nodup, by rw [hbl]; exact h.low⟩
  have other : ∀ q ∈ A ++ B, MOk w' q := fun q hq => by
    have hq' : q ∈ A ++ e :: B := by
      rcases List.mem_append.1 hq with h | h
      · exact List.mem_append_left _ h
      · exact List.mem_append_right _ (List.mem_cons_of_mem _ h)
    refine (h.all q hq').keep E fun k hk hs => ?_
    rcases hS k hs with h1 | h1
    · exact (List.nodup_append.1 h.nodup).2.2 k h1 k (List.mem_flatMap.2 ⟨q, hq', hk⟩) rfl
    · exact (hm.2.2 k h1).2 q hq hk
  rcases List.mem_append.1 hq with hq | hq
  · exact other q (List.mem_append_left _ hq)
  · rcases List.mem_cons.1 hq with rfl | hq
    · exact hok
    · exact other q (List.mem_append_right _ hq)
theorem msC_set {A B : List ME} {e e' : ME} {o : Nat} {v : Value} (ho : o < 4) (hc : mC e' = (mC e).set o v) : (msC (A ++ e :: B)).set (A.length * 4 + o) v = msC (A ++ e' :: B) := by
  rw [show A ++ e :: B = A ++ ([e] ++ B) from rfl, show A ++ e' :: B = A ++ ([e'] ++ B) from rfl, msC_append, msC_append, msC_append, msC_append, msC_one, msC_one, hc]
  rw [List.set_append_right _ _ (by rw [msC_length]; omega), msC_length, show A.length * 4 + o - A.length * 4 = o from by omega]
  rw [List.set_append_left _ _ (by show o < 4; exact ho)]
/-- A match's number is stored. -/
theorem Ms.st {b : Nat} {A B : List ME} {e e' : ME} (h : Ms N w (some ⟨b, 0, none⟩) l c (A ++ e :: B)) {o off : Nat} {v : Value} (ho : o < 4) (hoff : off = A.length * 4 + o) (hc : mC e' = (mC e).set o v) (hb : e'.2 = e.2) (hg : e'.1.gs = e.1.gs) {K : World → Prop} (hK : ∀ w1, Ms N w1 (some ⟨b, 0, none⟩) l c (A ++ e' :: B) → Ext (fun k => k = b) w w1 → K w1) : stW b off [v] K w := by
  subst hoff
  have hm := h.mid
  refine h.row.st (by omega) fun w1 s1 v1 e1 => hK w1 (h.upd (by rw [msC_set ho hc] at v1; exact v1) ?_ hb e1 fun k hk => .inl (by subst hk; simp [ob, blkOf])) e1
  have h1 : MOk w1 e := hm.1.keep e1 fun k hk hkb => (hm.2.2 k hk).1 (by subst hkb; simp [ob, blkOf])
  unfold MOk at *
  rw [hb, hg]; exact h1
/-- The groups of a match are changed. -/
theorem Ms.setG {A B : List ME} {e : ME} (h : Ms N w a l c (A ++ e :: B)) {s : List (Int × Int)} (hv : Vec w'.heap 31 2 e.2.1 e.2.2.1 e.2.2.2 (rngC s)) (E : Ext (fun x => blkOf e.2.1 = some x) w w') : Ms N w' a l c (A ++ ({ e.1 with gs := s }, e.2) :: B) := by
  have hm := h.mid
  refine h.upd ?_ hv rfl E fun k hk => .inr (mem_ob.2 hk)
  have := h.row.keep E fun k hk hk' => (hm.2.2 k (mem_ob.2 hk')).1 (mem_ob.2 hk)
  rw [show msC (A ++ ({ e.1 with gs := s }, e.2) :: B) = msC (A ++ e :: B) from by unfold msC; rw [List.flatMap_append, List.flatMap_append, List.flatMap_cons, List.flatMap_cons]; rfl]
  exact this
end
end Go.Vc
namespace Go.Proofs.Ytngbiaeliphdjaa.V
open Go.Vc Go.Proofs Go.RowKit
set_option linter.unusedVariables false
set_option linter.unusedSimpArgs false
theorem elemMt : Elem Try.prog 25 29 4 48 := ⟨by kernel_rfl, by kernel_rfl, by kernel_rfl, ⟨[.bool false, .int .i64 0, .int .i64 0, .slice none 0 0], by kernel_rfl, rfl⟩⟩
theorem elemSpan : Elem Try.prog 27 31 2 16 := ⟨by kernel_rfl, by kernel_rfl, by kernel_rfl, ⟨[.int .i64 0, .int .i64 0], by kernel_rfl, rfl⟩⟩
end Go.Proofs.Ytngbiaeliphdjaa.V
/- Printed by vcgen.py, a program of this session: formulas of Go functions, each with the proof that it gives the function's contract. No statement of the seat is proved here. -/
namespace Go.Proofs.Ytngbiaeliphdjaa.V
open Go.Vc Go.Proofs
set_option linter.unusedVariables false
set_option maxRecDepth 100000
/-- impl.newFinder -/
def V70 (s1 s2 : ByteArray) (R : Rt) : Pred := fun w =>
  clV 26 ([.string s1]) w R fun r8 w7 => ∃ t3, ∃ n4, ∃ n5, ∃ a6 l6 c6, r8 = .agg #[.bool t3, .int .i64 n4, .int .i64 n5, .slice a6 l6 c6] ∧ newC [.bool false, .int .i64 0, .int .i64 0, .slice none 0 0] 37 (fun b9 w10 => stW b9 0 [.bool t3, .int .i64 n4, .int .i64 n5, .slice a6 l6 c6] (fun w11 => lB w11 b9 0 fun t12 => lI w11 b9 1 fun n13 => lI w11 b9 2 fun n14 => lL w11 b9 3 fun a15 l15 c15 => ∃ (m16 : Option Nat), ∃ w17, (Instr.makeMap 126 none).run Try.prog w11 = .ok (.map m16) w17 ∧ newC [.bool t12, .int .i64 n13, .int .i64 n14, .slice a15 l15 c15, .string s2, .map m16] 128 (fun b18 w19 => lB w19 b9 0 fun t20 => (cB t20 (R (.returned (.tuple #[.pointer (some ⟨b18, 0, none⟩), .bool (decide (((ByteArray.size s2 : Nat) : Int) ≤ 200))])) w19) (R (.returned (.tuple #[.pointer (some ⟨b18, 0, none⟩), .bool false])) w19))) w17) w10) w7
def scr70 : Scr := (.q 2 (.q 4 (.run [0,1,2,3,4,5,6,7] (.split 16 (.r [8,9,10,11,12,13] .nil) (.r [8,9,10,11,12,13] .nil)))))
theorem vc70 {s1 s2} {R w} (h : V70 s1 s2 R w) : Cl Try.prog 70 [.string s1, .string s2] w R :=
  cl_of scr70 Try.func70 (by kernel_rfl) _ _ (by kernel_rfl) h
/-- (*impl.finder).from -/
def V80 (b1 o2 : Nat) (n3 : Int) (R : Rt) : Pred := fun w =>
  (cB (decide (n3 < 0)) (R (.returned (.slice none 0 0)) w) (lS w b1 (o2 + 4) fun s4 => (cB (decide (n3 > ((ByteArray.size s4 : Nat) : Int))) (R (.returned (.slice none 0 0)) w) (lL w b1 (o2 + 3) fun a5 l5 c5 => clL 114 ([.pointer (some ⟨b1, o2, none⟩), .int .i64 (IntKind.wrap .i64 (((l5 : Nat) : Int) - 1)), .int .i64 n3]) w R fun a6 l6 c6 w7 => ∃ (I9 : Nat → Option Addr → Nat → Nat → Int → World → Prop), (∃ k11, I9 k11 none 0 0 0 w7) ∧ ∀ k10 (d13 : Nat → Value) a14 l14 c14 n15 w12, I9 k10 a14 l14 c14 n15 w12 → (cB (decide (n15 < ((l6 : Nat) : Int))) (ixS a6 l6 n15 fun b16 o17 => lI w12 b16 (o17 + (Int.toNat n15) * 21) fun n18 => ∃ (g19 : Nat → Int), intsAt w12.heap b16 (o17 + (Int.toNat n15) * 21 + 1) 20 g19 ∧ newC [.int .i64 0, .int .i64 0, .int .i64 0, .int .i64 0, .int .i64 0, .int .i64 0, .int .i64 0, .int .i64 0, .int .i64 0, .int .i64 0, .int .i64 0, .int .i64 0, .int .i64 0, .int .i64 0, .int .i64 0, .int .i64 0, .int .i64 0, .int .i64 0, .int .i64 0, .int .i64 0, .int .i64 0] 142 (fun b20 w21 => stW b20 0 [.int .i64 n18, .int .i64 (g19 0), .int .i64 (g19 1), .int .i64 (g19 2), .int .i64 (g19 3), .int .i64 (g19 4), .int .i64 (g19 5), .int .i64 (g19 6), .int .i64 (g19 7), .int .i64 (g19 8), .int .i64 (g19 9), .int .i64 (g19 10), .int .i64 (g19 11), .int .i64 (g19 12), .int .i64 (g19 13), .int .i64 (g19 14), .int .i64 (g19 15), .int .i64 (g19 16), .int .i64 (g19 17), .int .i64 (g19 18), .int .i64 (g19 19)] (fun w22 => lI w22 b20 0 fun n23 => newC [.bool false, .int .i64 0, .int .i64 0, .slice none 0 0] 29 (fun b24 w25 => stW b24 0 [.bool true, .int .i64 n3, .int .i64 n23, .slice none 0 0] (fun w26 => ∃ (I27 : Nat → Int → World → Prop), (∃ k29, I27 k29 1 w26) ∧ ∀ k28 (d31 : Nat → Value) n32 w30, I27 k28 n32 w30 → lI w30 b1 (o2 + 2) fun n33 => (cB (decide (n32 ≤ n33)) (drw (fun w34 => lL w34 b24 3 fun a35 l35 c35 => (0 ≤ (n32 : Int) ∧ (n32 : Int) < ((10 : Nat) : Int)) ∧ lI w34 b20 (1 + (Int.toNat n32) * 2) fun n36 => lI w34 b20 (1 + (Int.toNat n32) * 2 + 1) fun n37 => newC [.int .i64 n36, .int .i64 n37] 31 (fun b38 w39 => cellH w39.heap b24 3 = some (.slice a35 l35 c35) ∧ ∃ a40 l40 c40, ∃ w41, (Builtin.append_ #[27, 27] 27 #[.slice a35 l35 c35, .slice (some ⟨b38, 0, none⟩) 1 1]).run Try.prog w39 = .ok (.slice a40 l40 c40) w41 ∧ stW b24 3 [.slice a40 l40 c40] (fun w42 => (∃ m43, m43 < k28 ∧ I27 m43 (IntKind.wrap .i64 (n32 + 1)) w42)) w41) w34) w30) (lB w30 b24 0 fun t44 => lI w30 b24 1 fun n45 => lI w30 b24 2 fun n46 => lL w30 b24 3 fun a47 l47 c47 => newC [.bool t44, .int .i64 n45, .int .i64 n46, .slice a47 l47 c47] 29 (fun b48 w49 => ∃ a50 l50 c50, ∃ w51, (Builtin.append_ #[25, 25] 25 #[.slice a14 l14 c14, .slice (some ⟨b48, 0, none⟩) 1 1]).run Try.prog w49 = .ok (.slice a50 l50 c50) w51 ∧ (∃ m52, m52 < k10 ∧ I9 m52 a50 l50 c50 (IntKind.wrap .i64 (n15 + 1)) w51)) w30))) w25) w22) w21) w12) (R (.returned (.slice a14 l14 c14)) w12))))))
def scr80 : Scr := (.q 1 (.run [0,1,2] (.split 12 (.r [3,4,5,6,7,8,9,10] (.lit (.q 1 .nil))) (.r [3,4,5,6,7,8,9,10] (.cond (.q 1 .nil) (.q 1 (.q 12 (.loop (dr [(5, some .slice), (32, some (.int .i64))] [(7,3),(33,30)]) (.q 1 (.cond (.q 4 (.q 6 (.q 1 (.loop (dr [(9, some (.int .i64))] [(40,18)]) (.q 7 (.cond (.q 10 (.q 3 .nil)) (.q 5 (.q 2 .nil)))))))) (.q 2 .nil)))))))))))
theorem vc80 {b1 o2 n3} {R w} (h : V80 b1 o2 n3 R w) : Cl Try.prog 80 [.pointer (some ⟨b1, o2, none⟩), .int .i64 n3] w R :=
  cl_of scr80 Try.func80 (by kernel_rfl) _ _ (by kernel_rfl) h
/-- (*impl.finder).find -/
def V71 (b1 o2 : Nat) (n3 : Int) (R : Rt) : Pred := fun w =>
  newC [.bool false, .int .i64 0, .int .i64 0, .slice none 0 0] 29 (fun b4 w5 => (cB (decide (n3 < 0)) (stW b4 0 [.bool false, .int .i64 0, .int .i64 0, .slice none 0 0] (fun w6 => lB w6 b4 0 fun t7 => lI w6 b4 1 fun n8 => lI w6 b4 2 fun n9 => lL w6 b4 3 fun a10 l10 c10 => R (.returned (.agg #[.bool t7, .int .i64 n8, .int .i64 n9, .slice a10 l10 c10])) w6) w5) (∃ (I11 : Nat → Int → World → Prop), (∃ k13, I11 k13 n3 w5) ∧ ∀ k12 (d15 : Nat → Value) n16 w14, I11 k12 n16 w14 → lS w14 b1 (o2 + 4) fun s17 => (cB (decide (n16 ≤ ((ByteArray.size s17 : Nat) : Int))) (clL 80 ([.pointer (some ⟨b1, o2, none⟩), .int .i64 n16]) w14 R fun a18 l18 c18 w19 => (cB (decide (((l18 : Nat) : Int) > 0)) (ixS a18 l18 0 fun b21 o22 => lB w19 b21 o22 fun t23 => lI w19 b21 (o22 + 1) fun n24 => lI w19 b21 (o22 + 2) fun n25 => lL w19 b21 (o22 + 3) fun a26 l26 c26 => stW b4 0 [.bool t23, .int .i64 n24, .int .i64 n25, .slice a26 l26 c26] (fun w27 => lB w27 b4 0 fun t28 => lI w27 b4 1 fun n29 => lI w27 b4 2 fun n30 => lL w27 b4 3 fun a31 l31 c31 => R (.returned (.agg #[.bool t28, .int .i64 n29, .int .i64 n30, .slice a31 l31 c31])) w27) w19) ((∃ m32, m32 < k12 ∧ I11 m32 (IntKind.wrap .i64 (n16 + 1)) w19)))) (stW b4 0 [.bool false, .int .i64 0, .int .i64 0, .slice none 0 0] (fun w33 => lB w33 b4 0 fun t34 => lI w33 b4 1 fun n35 => lI w33 b4 2 fun n36 => lL w33 b4 3 fun a37 l37 c37 => R (.returned (.agg #[.bool t34, .int .i64 n35, .int .i64 n36, .slice a37 l37 c37])) w33) w14))))) w
def scr71 : Scr := (.q 1 (.q 2 (.cond (.q 2 .nil) (.loop (dr [(1, some (.int .i64))] [(5,1),(9,18)]) (.q 7 (.cond (.q 4 (.q 3 (.cond (.q 4 .nil) (.q 3 .nil)))) (.q 2 .nil)))))))
theorem vc71 {b1 o2 n3} {R w} (h : V71 b1 o2 n3 R w) : Cl Try.prog 71 [.pointer (some ⟨b1, o2, none⟩), .int .i64 n3] w R :=
  cl_of scr71 Try.func71 (by kernel_rfl) _ _ (by kernel_rfl) h
/-- impl.Ways -/
def V30 (s1 s2 : ByteArray) (n3 : Int) (R : Rt) : Pred := fun w =>
  clV 70 ([.string s1, .string s2]) w R fun r8 w7 => ∃ b4, ∃ o5, ∃ t6, r8 = .tuple #[.pointer (some ⟨b4, o5, none⟩), .bool t6] ∧ (cB (!t6) (R (.returned (.slice none 0 0)) w7) (clL 80 ([.pointer (some ⟨b4, o5, none⟩), .int .i64 n3]) w7 R fun a9 l9 c9 w10 => R (.returned (.slice a9 l9 c9)) w10))
def scr30 : Scr := (.q 1 (.q 8 (.q 2 (.cond (.q 1 .nil) (.q 4 .nil)))))
theorem vc30 {s1 s2 n3} {R w} (h : V30 s1 s2 n3 R w) : Cl Try.prog 30 [.string s1, .string s2, .int .i64 n3] w R :=
  cl_of scr30 Try.func30 (by kernel_rfl) _ _ (by kernel_rfl) h
/-- impl.All -/
def V22 (s1 s2 : ByteArray) (R : Rt) : Pred := fun w =>
  clV 70 ([.string s1, .string s2]) w R fun r7 w6 => ∃ b3, ∃ o4, ∃ t5, r7 = .tuple #[.pointer (some ⟨b3, o4, none⟩), .bool t5] ∧ (cB (!t5) (R (.returned (.slice none 0 0)) w6) (∃ (I8 : Nat → Option Addr → Nat → Nat → Int → World → Prop), (∃ k10, I8 k10 none 0 0 0 w6) ∧ ∀ k9 (d12 : Nat → Value) a13 l13 c13 n14 w11, I8 k9 a13 l13 c13 n14 w11 → (cB (decide (n14 ≤ ((ByteArray.size s2 : Nat) : Int))) (clV 71 ([.pointer (some ⟨b3, o4, none⟩), .int .i64 n14]) w11 R fun r20 w19 => ∃ t15, ∃ n16, ∃ n17, ∃ a18 l18 c18, r20 = .agg #[.bool t15, .int .i64 n16, .int .i64 n17, .slice a18 l18 c18] ∧ newC [.bool false, .int .i64 0, .int .i64 0, .slice none 0 0] 29 (fun b21 w22 => stW b21 0 [.bool t15, .int .i64 n16, .int .i64 n17, .slice a18 l18 c18] (fun w23 => lB w23 b21 0 fun t24 => (cB (!t24) (R (.returned (.slice a13 l13 c13)) w23) (lB w23 b21 0 fun t25 => lI w23 b21 1 fun n26 => lI w23 b21 2 fun n27 => lL w23 b21 3 fun a28 l28 c28 => newC [.bool t25, .int .i64 n26, .int .i64 n27, .slice a28 l28 c28] 29 (fun b29 w30 => ∃ a31 l31 c31, ∃ w32, (Builtin.append_ #[25, 25] 25 #[.slice a13 l13 c13, .slice (some ⟨b29, 0, none⟩) 1 1]).run Try.prog w30 = .ok (.slice a31 l31 c31) w32 ∧ lI w32 b21 2 fun n33 => lI w32 b21 1 fun n34 => lI w32 b21 2 fun n35 => (cB (n34 == n35) ((∃ m36, m36 < k9 ∧ I8 m36 a31 l31 c31 (IntKind.wrap .i64 (n33 + 1)) w32)) ((∃ m37, m37 < k9 ∧ I8 m37 a31 l31 c31 n33 w32)))) w23))) w22) w19) (R (.returned (.slice a13 l13 c13)) w11))))
def scr22 : Scr := (.q 1 (.q 8 (.q 2 (.cond (.q 1 .nil) (.q 1 (.q 1 (.loop (dr [(7, some .slice), (8, some (.int .i64))] [(9,1),(18,23)]) (.q 4 (.cond (.q 5 (.q 3 (.cond (.q 2 .nil) (.q 5 (.q 3 (.q 5 (.cond (.q 3 .nil) .nil))))))) (.q 2 .nil))))))))))
theorem vc22 {s1 s2} {R w} (h : V22 s1 s2 R w) : Cl Try.prog 22 [.string s1, .string s2] w R :=
  cl_of scr22 Try.func22 (by kernel_rfl) _ _ (by kernel_rfl) h
/-- impl.Count -/
def V24 (s1 s2 : ByteArray) (R : Rt) : Pred := fun w =>
  clL 22 ([.string s1, .string s2]) w R fun a3 l3 c3 w4 => R (.returned (.int .i64 ((l3 : Nat) : Int))) w4
def scr24 : Scr := (.q 1 (.q 5 .nil))
theorem vc24 {s1 s2} {R w} (h : V24 s1 s2 R w) : Cl Try.prog 24 [.string s1, .string s2] w R :=
  cl_of scr24 Try.func24 (by kernel_rfl) _ _ (by kernel_rfl) h
end Go.Proofs.Ytngbiaeliphdjaa.V
/- Printed by vcgen.py, a program of this session: formulas of Go functions, each with the proof that it gives the function's contract. No statement of the seat is proved here. -/
namespace Go.Proofs.Ytngbiaeliphdjaa.V
open Go.Vc Go.Proofs
set_option linter.unusedVariables false
set_option maxRecDepth 100000
/-- spec.l2of -/
def V68 (s1 s2 : ByteArray) (R : Rt) : Pred := fun w =>
  clV 27 ([.string s1]) w R fun r8 w7 => ∃ t3, ∃ n4, ∃ n5, ∃ a6 l6 c6, r8 = .agg #[.bool t3, .int .i64 n4, .int .i64 n5, .slice a6 l6 c6] ∧ newC [.bool false, .int .i64 0, .int .i64 0, .slice none 0 0] 37 (fun b9 w10 => stW b9 0 [.bool t3, .int .i64 n4, .int .i64 n5, .slice a6 l6 c6] (fun w11 => lB w11 b9 0 fun t12 => (cB (!t12) (newC [.bool false, .int .i64 0, .int .i64 0, .slice none 0 0, .string (⟨#[]⟩ : ByteArray), .slice none 0 0, .slice none 0 0] 124 (fun b13 w14 => R (.returned (.tuple #[.pointer (some ⟨b13, 0, none⟩), .bool false])) w14) w11) ((cB (decide (((ByteArray.size s2 : Nat) : Int) > 200)) (newC [.bool false, .int .i64 0, .int .i64 0, .slice none 0 0, .string (⟨#[]⟩ : ByteArray), .slice none 0 0, .slice none 0 0] 124 (fun b15 w16 => R (.returned (.tuple #[.pointer (some ⟨b15, 0, none⟩), .bool false])) w16) w11) (lB w11 b9 0 fun t17 => lI w11 b9 1 fun n18 => lI w11 b9 2 fun n19 => lL w11 b9 3 fun a20 l20 c20 => clP 108 ([.agg #[.bool t17, .int .i64 n18, .int .i64 n19, .slice a20 l20 c20], .string s2]) w11 R fun b21 o22 w23 => R (.returned (.tuple #[.pointer (some ⟨b21, o22, none⟩), .bool true])) w23))))) w10) w7
def scr68 : Scr := (.q 2 (.q 4 (.run [0,1,2,3] (.split 12 (.r [4,5,6,7] (.lit (.q 4 .nil))) (.r [4,5,6,7] (.cond (.q 4 .nil) (.q 5 .nil)))))))
theorem vc68 {s1 s2} {R w} (h : V68 s1 s2 R w) : Cl Try.prog 68 [.string s1, .string s2] w R :=
  cl_of scr68 Try.func68 (by kernel_rfl) _ _ (by kernel_rfl) h
/-- spec.l2machine -/
def V108 (t1 : Bool) (n2 n3 : Int) (a4 : Option Addr) (l4 c4 : Nat) (s5 : ByteArray) (R : Rt) : Pred := fun w =>
  newC [.bool t1, .int .i64 n2, .int .i64 n3, .slice a4 l4 c4] 37 (fun b6 w7 => lL w7 b6 3 fun a8 l8 c8 => drw (fun w9 => lB w9 b6 0 fun t10 => lI w9 b6 1 fun n11 => lI w9 b6 2 fun n12 => lL w9 b6 3 fun a13 l13 c13 => ((∃ a14 l14 c14, ∃ w15, (Instr.makeSlice 59 (.int .i64 (IntKind.wrap .i64 (((l8 : Nat) : Int) * (IntKind.wrap .i64 (((ByteArray.size s5 : Nat) : Int) + 1))))) (.int .i64 (IntKind.wrap .i64 (((l8 : Nat) : Int) * (IntKind.wrap .i64 (((ByteArray.size s5 : Nat) : Int) + 1)))))).run Try.prog w9 = .ok (.slice a14 l14 c14) w15 ∧ cellsAt w15.heap b6 0 [.bool t10, .int .i64 n11, .int .i64 n12, .slice a13 l13 c13] ∧ ∃ a16 l16 c16, ∃ w17, (Instr.makeSlice 122 (.int .i64 (IntKind.wrap .i64 (((l8 : Nat) : Int) * (IntKind.wrap .i64 (((ByteArray.size s5 : Nat) : Int) + 1))))) (.int .i64 (IntKind.wrap .i64 (((l8 : Nat) : Int) * (IntKind.wrap .i64 (((ByteArray.size s5 : Nat) : Int) + 1)))))).run Try.prog w15 = .ok (.slice a16 l16 c16) w17 ∧ cellsAt w17.heap b6 0 [.bool t10, .int .i64 n11, .int .i64 n12, .slice a13 l13 c13] ∧ newC [.bool t10, .int .i64 n11, .int .i64 n12, .slice a13 l13 c13, .string s5, .slice a14 l14 c14, .slice a16 l16 c16] 124 (fun b18 w19 => R (.returned (.pointer (some ⟨b18, 0, none⟩))) w19) w17) ∧ (∃ a20 l20 c20, ∃ w21, (Instr.makeSlice 122 (.int .i64 (IntKind.wrap .i64 (((l8 : Nat) : Int) * (IntKind.wrap .i64 (((ByteArray.size s5 : Nat) : Int) + 1))))) (.int .i64 (IntKind.wrap .i64 (((l8 : Nat) : Int) * (IntKind.wrap .i64 (((ByteArray.size s5 : Nat) : Int) + 1)))))).run Try.prog w9 = .ok (.slice a20 l20 c20) w21 ∧ cellsAt w21.heap b6 0 [.bool t10, .int .i64 n11, .int .i64 n12, .slice a13 l13 c13] ∧ ∃ a22 l22 c22, ∃ w23, (Instr.makeSlice 59 (.int .i64 (IntKind.wrap .i64 (((l8 : Nat) : Int) * (IntKind.wrap .i64 (((ByteArray.size s5 : Nat) : Int) + 1))))) (.int .i64 (IntKind.wrap .i64 (((l8 : Nat) : Int) * (IntKind.wrap .i64 (((ByteArray.size s5 : Nat) : Int) + 1)))))).run Try.prog w21 = .ok (.slice a22 l22 c22) w23 ∧ cellsAt w23.heap b6 0 [.bool t10, .int .i64 n11, .int .i64 n12, .slice a13 l13 c13] ∧ newC [.bool t10, .int .i64 n11, .int .i64 n12, .slice a13 l13 c13, .string s5, .slice a22 l22 c22, .slice a20 l20 c20] 124 (fun b24 w25 => R (.returned (.pointer (some ⟨b24, 0, none⟩))) w25) w23))) w7) w
def scr108 : Scr := (.q 2 (.q 8 (.run [0,1,2,4] (.alt (.r [5,6,7,8] .nil) (.r [3,6,7,8] .nil)))))
theorem vc108 {t1 n2 n3 a4 l4 c4 s5} {R w} (h : V108 t1 n2 n3 a4 l4 c4 s5 R w) : Cl Try.prog 108 [.agg #[.bool t1, .int .i64 n2, .int .i64 n3, .slice a4 l4 c4], .string s5] w R :=
  cl_of scr108 Try.func108 (by kernel_rfl) _ _ (by kernel_rfl) h
/-- (*spec.l2M).ways -/
def V88 (b1 o2 : Nat) (n3 : Int) (R : Rt) : Pred := fun w =>
  lL w b1 (o2 + 3) fun a4 l4 c4 => clL 121 ([.pointer (some ⟨b1, o2, none⟩), .int .i64 (IntKind.wrap .i64 (((l4 : Nat) : Int) - 1)), .int .i64 n3]) w R fun a5 l5 c5 w6 => ∃ (I8 : Nat → Option Addr → Nat → Nat → Int → World → Prop), (∃ k10, I8 k10 none 0 0 0 w6) ∧ ∀ k9 (d12 : Nat → Value) a13 l13 c13 n14 w11, I8 k9 a13 l13 c13 n14 w11 → (cB (decide (n14 < ((l5 : Nat) : Int))) (ixS a5 l5 n14 fun b15 o16 => lI w11 b15 (o16 + (Int.toNat n14) * 2) fun n17 => lL w11 b15 (o16 + (Int.toNat n14) * 2 + 1) fun a18 l18 c18 => newC [.int .i64 0, .slice none 0 0] 150 (fun b19 w20 => stW b19 0 [.int .i64 n17, .slice a18 l18 c18] (fun w21 => lI w21 b19 0 fun n22 => newC [.bool false, .int .i64 0, .int .i64 0, .slice none 0 0] 29 (fun b23 w24 => stW b23 0 [.bool true, .int .i64 n3, .int .i64 n22, .slice none 0 0] (fun w25 => lL w25 b19 1 fun a26 l26 c26 => ∃ (I27 : Nat → Int → World → Prop), (∃ k29, I27 k29 0 w25) ∧ ∀ k28 (d31 : Nat → Value) n32 w30, I27 k28 n32 w30 → (cB (decide (n32 < ((l26 : Nat) : Int))) (ixS a26 l26 n32 fun b33 o34 => lI w30 b33 (o34 + (Int.toNat n32) * 2) fun n35 => lI w30 b33 (o34 + (Int.toNat n32) * 2 + 1) fun n36 => newC [.int .i64 0, .int .i64 0] 31 (fun b37 w38 => stW b37 0 [.int .i64 n35, .int .i64 n36] (fun w39 => lI w39 b37 0 fun n40 => (cB (n40 == (-2)) (stW b37 0 [.int .i64 (-1), .int .i64 (-1)] (fun w41 => lL w41 b23 3 fun a42 l42 c42 => lI w41 b37 0 fun n43 => lI w41 b37 1 fun n44 => newC [.int .i64 n43, .int .i64 n44] 31 (fun b45 w46 => ∃ a47 l47 c47, ∃ w48, (Builtin.append_ #[27, 27] 27 #[.slice a42 l42 c42, .slice (some ⟨b45, 0, none⟩) 1 1]).run Try.prog w46 = .ok (.slice a47 l47 c47) w48 ∧ stW b23 3 [.slice a47 l47 c47] (fun w49 => (∃ m50, m50 < k28 ∧ I27 m50 (IntKind.wrap .i64 (n32 + 1)) w49)) w48) w41) w39) (lL w39 b23 3 fun a51 l51 c51 => lI w39 b37 0 fun n52 => lI w39 b37 1 fun n53 => newC [.int .i64 n52, .int .i64 n53] 31 (fun b54 w55 => ∃ a56 l56 c56, ∃ w57, (Builtin.append_ #[27, 27] 27 #[.slice a51 l51 c51, .slice (some ⟨b54, 0, none⟩) 1 1]).run Try.prog w55 = .ok (.slice a56 l56 c56) w57 ∧ stW b23 3 [.slice a56 l56 c56] (fun w58 => (∃ m59, m59 < k28 ∧ I27 m59 (IntKind.wrap .i64 (n32 + 1)) w58)) w57) w39))) w38) w30) (lB w30 b23 0 fun t60 => lI w30 b23 1 fun n61 => lI w30 b23 2 fun n62 => lL w30 b23 3 fun a63 l63 c63 => newC [.bool t60, .int .i64 n61, .int .i64 n62, .slice a63 l63 c63] 29 (fun b64 w65 => ∃ a66 l66 c66, ∃ w67, (Builtin.append_ #[25, 25] 25 #[.slice a13 l13 c13, .slice (some ⟨b64, 0, none⟩) 1 1]).run Try.prog w65 = .ok (.slice a66 l66 c66) w67 ∧ (∃ m68, m68 < k9 ∧ I8 m68 a66 l66 c66 (IntKind.wrap .i64 (n14 + 1)) w67)) w30))) w24) w21) w20) w11) (R (.returned (.slice a13 l13 c13)) w11))
def scr88 : Scr := (.q 1 (.q 1 (.q 12 (.loop (dr [(5, some .slice), (22, some (.int .i64))] [(7,2),(10,1),(23,30)]) (.q 1 (.cond (.q 4 (.q 6 (.q 4 (.loop (dr [(33, some (.int .i64))] [(10,1),(34,14)]) (.q 1 (.cond (.q 4 (.q 3 (.cond (.q 2 (.q 7 (.q 2 .nil))) (.q 7 (.q 2 .nil))))) (.q 5 (.q 2 .nil)))))))) (.q 2 .nil)))))))
theorem vc88 {b1 o2 n3} {R w} (h : V88 b1 o2 n3 R w) : Cl Try.prog 88 [.pointer (some ⟨b1, o2, none⟩), .int .i64 n3] w R :=
  cl_of scr88 Try.func88 (by kernel_rfl) _ _ (by kernel_rfl) h
/-- (*spec.l2M).find -/
def V92 (b1 o2 : Nat) (n3 : Int) (R : Rt) : Pred := fun w =>
  newC [.bool false, .int .i64 0, .int .i64 0, .slice none 0 0] 29 (fun b4 w5 => ∃ (I6 : Nat → Int → World → Prop), (∃ k8, I6 k8 n3 w5) ∧ ∀ k7 (d10 : Nat → Value) n11 w9, I6 k7 n11 w9 → lS w9 b1 (o2 + 4) fun s12 => (cB (decide (n11 ≤ ((ByteArray.size s12 : Nat) : Int))) (clL 88 ([.pointer (some ⟨b1, o2, none⟩), .int .i64 n11]) w9 R fun a13 l13 c13 w14 => (cB (decide (((l13 : Nat) : Int) > 0)) (ixS a13 l13 0 fun b16 o17 => lB w14 b16 o17 fun t18 => lI w14 b16 (o17 + 1) fun n19 => lI w14 b16 (o17 + 2) fun n20 => lL w14 b16 (o17 + 3) fun a21 l21 c21 => stW b4 0 [.bool t18, .int .i64 n19, .int .i64 n20, .slice a21 l21 c21] (fun w22 => lB w22 b4 0 fun t23 => lI w22 b4 1 fun n24 => lI w22 b4 2 fun n25 => lL w22 b4 3 fun a26 l26 c26 => R (.returned (.agg #[.bool t23, .int .i64 n24, .int .i64 n25, .slice a26 l26 c26])) w22) w14) ((∃ m27, m27 < k7 ∧ I6 m27 (IntKind.wrap .i64 (n11 + 1)) w14)))) (stW b4 0 [.bool false, .int .i64 0, .int .i64 0, .slice none 0 0] (fun w28 => lB w28 b4 0 fun t29 => lI w28 b4 1 fun n30 => lI w28 b4 2 fun n31 => lL w28 b4 3 fun a32 l32 c32 => R (.returned (.agg #[.bool t29, .int .i64 n30, .int .i64 n31, .slice a32 l32 c32])) w28) w9))) w
def scr92 : Scr := (.q 1 (.q 2 (.loop (dr [(5, some (.int .i64))] [(6,1),(8,18)]) (.q 7 (.cond (.q 4 (.q 3 (.cond (.q 4 .nil) (.q 3 .nil)))) (.q 2 .nil))))))
theorem vc92 {b1 o2 n3} {R w} (h : V92 b1 o2 n3 R w) : Cl Try.prog 92 [.pointer (some ⟨b1, o2, none⟩), .int .i64 n3] w R :=
  cl_of scr92 Try.func92 (by kernel_rfl) _ _ (by kernel_rfl) h
/-- (*spec.l2M).all -/
def V69 (b1 o2 : Nat) (R : Rt) : Pred := fun w =>
  ∃ (I3 : Nat → Option Addr → Nat → Nat → Int → World → Prop), (∃ k5, I3 k5 none 0 0 0 w) ∧ ∀ k4 (d7 : Nat → Value) a8 l8 c8 n9 w6, I3 k4 a8 l8 c8 n9 w6 → lS w6 b1 (o2 + 4) fun s10 => (cB (decide (n9 ≤ ((ByteArray.size s10 : Nat) : Int))) (clV 92 ([.pointer (some ⟨b1, o2, none⟩), .int .i64 n9]) w6 R fun r16 w15 => ∃ t11, ∃ n12, ∃ n13, ∃ a14 l14 c14, r16 = .agg #[.bool t11, .int .i64 n12, .int .i64 n13, .slice a14 l14 c14] ∧ newC [.bool false, .int .i64 0, .int .i64 0, .slice none 0 0] 29 (fun b17 w18 => stW b17 0 [.bool t11, .int .i64 n12, .int .i64 n13, .slice a14 l14 c14] (fun w19 => lB w19 b17 0 fun t20 => (cB (!t20) (R (.returned (.slice a8 l8 c8)) w19) (lB w19 b17 0 fun t21 => lI w19 b17 1 fun n22 => lI w19 b17 2 fun n23 => lL w19 b17 3 fun a24 l24 c24 => newC [.bool t21, .int .i64 n22, .int .i64 n23, .slice a24 l24 c24] 29 (fun b25 w26 => ∃ a27 l27 c27, ∃ w28, (Builtin.append_ #[25, 25] 25 #[.slice a8 l8 c8, .slice (some ⟨b25, 0, none⟩) 1 1]).run Try.prog w26 = .ok (.slice a27 l27 c27) w28 ∧ lI w28 b17 2 fun n29 => lI w28 b17 2 fun n30 => lI w28 b17 1 fun n31 => (cB (n30 == n31) ((∃ m32, m32 < k4 ∧ I3 m32 a27 l27 c27 (IntKind.wrap .i64 (n29 + 1)) w28)) ((∃ m33, m33 < k4 ∧ I3 m33 a27 l27 c27 n29 w28)))) w19))) w18) w15) (R (.returned (.slice a8 l8 c8)) w6))
def scr69 : Scr := (.q 1 (.q 1 (.q 1 (.loop (dr [(3, some .slice), (4, some (.int .i64))] [(2,1),(5,28)]) (.q 7 (.cond (.q 5 (.q 3 (.cond (.q 2 .nil) (.q 5 (.q 3 (.q 5 (.cond (.q 3 .nil) .nil))))))) (.q 2 .nil)))))))
theorem vc69 {b1 o2} {R w} (h : V69 b1 o2 R w) : Cl Try.prog 69 [.pointer (some ⟨b1, o2, none⟩)] w R :=
  cl_of scr69 Try.func69 (by kernel_rfl) _ _ (by kernel_rfl) h
/-- spec.All -/
def V21 (s1 s2 : ByteArray) (R : Rt) : Pred := fun w =>
  clV 68 ([.string s1, .string s2]) w R fun r7 w6 => ∃ b3, ∃ o4, ∃ t5, r7 = .tuple #[.pointer (some ⟨b3, o4, none⟩), .bool t5] ∧ (cB (!t5) (R (.returned (.slice none 0 0)) w6) (clL 69 ([.pointer (some ⟨b3, o4, none⟩)]) w6 R fun a8 l8 c8 w9 => R (.returned (.slice a8 l8 c8)) w9))
def scr21 : Scr := (.q 1 (.q 8 (.q 2 (.cond (.q 1 .nil) (.q 3 .nil)))))
theorem vc21 {s1 s2} {R w} (h : V21 s1 s2 R w) : Cl Try.prog 21 [.string s1, .string s2] w R :=
  cl_of scr21 Try.func21 (by kernel_rfl) _ _ (by kernel_rfl) h
/-- spec.Count -/
def V39 (s1 s2 : ByteArray) (R : Rt) : Pred := fun w =>
  clL 21 ([.string s1, .string s2]) w R fun a3 l3 c3 w4 => R (.returned (.int .i64 ((l3 : Nat) : Int))) w4
def scr39 : Scr := (.q 1 (.q 4 (.q 3 .nil)))
theorem vc39 {s1 s2} {R w} (h : V39 s1 s2 R w) : Cl Try.prog 39 [.string s1, .string s2] w R :=
  cl_of scr39 Try.func39 (by kernel_rfl) _ _ (by kernel_rfl) h
/-- spec.Ways -/
def V46 (s1 s2 : ByteArray) (n3 : Int) (R : Rt) : Pred := fun w =>
  clV 68 ([.string s1, .string s2]) w R fun r8 w7 => ∃ b4, ∃ o5, ∃ t6, r8 = .tuple #[.pointer (some ⟨b4, o5, none⟩), .bool t6] ∧ (cB (!t6) (R (.returned (.slice none 0 0)) w7) ((cB (decide (n3 < 0)) (R (.returned (.slice none 0 0)) w7) ((cB (decide (n3 > ((ByteArray.size s2 : Nat) : Int))) (R (.returned (.slice none 0 0)) w7) (clL 88 ([.pointer (some ⟨b4, o5, none⟩), .int .i64 n3]) w7 R fun a9 l9 c9 w10 => R (.returned (.slice a9 l9 c9)) w10))))))
def scr46 : Scr := (.q 1 (.q 8 (.run [0,1,2] (.split 17 (.r [3,4,5,6,7,8,9,10,11] (.lit (.q 1 .nil))) (.run [3,4,5,6] (.split 21 (.r [7,8,9,10,11] (.lit (.q 1 .nil))) (.r [7,8,9,10,11] (.cond (.q 1 .nil) (.q 4 .nil)))))))))
theorem vc46 {s1 s2 n3} {R w} (h : V46 s1 s2 n3 R w) : Cl Try.prog 46 [.string s1, .string s2, .int .i64 n3] w R :=
  cl_of scr46 Try.func46 (by kernel_rfl) _ _ (by kernel_rfl) h
end Go.Proofs.Ytngbiaeliphdjaa.V
/- The memo of the program's finder: a map with keys of three numbers. No statement of the seat is proved here. -/
namespace Go.Vc
open Go.RowKit
set_option linter.unusedVariables false
set_option linter.unusedSimpArgs false
abbrev GoodM := Int → Int → Int → Option Addr → Nat → Nat → Prop
def keyV (a b c : Int) : Value := .agg #[.int .i64 a, .int .i64 b, .int .i64 c]
/-- A map whose entries are good. -/
def MapIs (w : World) (m : Nat) (G : GoodM) : Prop := ∃ es clock, w.heap[m]? = some (.map es clock) ∧ ∀ e ∈ es.toList, ∃ k i j a l c, e.key = keyV k i j ∧ e.val = .slice a l c ∧ G k i j a l c
theorem MapIs.lt {w : World} {m : Nat} {G : GoodM} (h : MapIs w m G) : m < w.heap.size := by
  obtain ⟨es, clock, h, _⟩ := h
  exact (Array.getElem?_eq_some_iff.1 h).1
theorem MapIs.mono {w : World} {m : Nat} {G G' : GoodM} (h : MapIs w m G) (hg : ∀ k i j a l c, G k i j a l c → G' k i j a l c) : MapIs w m G' := by
  obtain ⟨es, clock, h, h2⟩ := h
  refine ⟨es, clock, h, fun e he => ?_⟩
  obtain ⟨k, i, j, a, l, c, h3, h4, h5⟩ := h2 e he
  exact ⟨k, i, j, a, l, c, h3, h4, hg _ _ _ _ _ _ h5⟩
theorem MapIs.keep {S : Nat → Prop} {w w' : World} {m : Nat} {G : GoodM} (h : MapIs w m G) (e : Ext S w w') (hs : ¬ S m) : MapIs w' m G := by
  have hl := h.lt
  obtain ⟨es, clock, h, h2⟩ := h
  exact ⟨es, clock, by rw [e.block m hl hs]; exact h, h2⟩
end Go.Vc
namespace Go.Proofs.Ytngbiaeliphdjaa.V
open Go.Vc Go.Proofs Go.RowKit
set_option linter.unusedVariables false
set_option linter.unusedSimpArgs false
theorem key_check (e : Bool) (a b c : Int) (w : World) : (Instr.checkKey e 10000 159 (.agg #[.int .i64 a, .int .i64 b, .int .i64 c])).run Try.prog w = .ok () w := by kernel_rfl
theorem eqF_step {f : Field} {fs : List Field} {xs ys : List Value} {o : Nat} {x y : Int} (hn : ¬ f.name = "_") (ht : f.type = 3) (ho : f.offset = o) (hx : xs[o]? = some (.int .i64 x)) (hy : ys[o]? = some (.int .i64 y)) (w : World) :
    (Op.eqFields (9998 + 1) ⟨xs⟩ ⟨ys⟩ (f :: fs)).run Try.prog w = if (x == y) = true then (Op.eqFields (9998 + 1) ⟨xs⟩ ⟨ys⟩ fs).run Try.prog w else .ok false w := by
  have hp : ∀ (xs : List Value) (o : Nat) (v : Value), xs[o]? = some v → (part 3 ⟨xs⟩ o).run Try.prog w = .ok v w := fun xs o v h => part_run_one (show Try.prog.underlying 3 = some (.int .i64) from by kernel_rfl) (by intro fs h; cases h) (by intro n e h; cases h) h w
  simp only [Op.eqFields]
  rw [if_pos (by simpa using hn), ht, ho, bind_run (hp xs o _ hx), bind_run (hp ys o _ hy), bind_run (run_equalIn_int w 9998 3 .i64 .i64 x y Try.underlying3)]
  cases h : (x == y) <;> simp
theorem key_eq (a b c a' b' c' : Int) (w : World) : ∃ r : Bool, (Op.equal 159 (.agg #[.int .i64 a, .int .i64 b, .int .i64 c]) (.agg #[.int .i64 a', .int .i64 b', .int .i64 c'])).run Try.prog w = .ok r w ∧ (r = true → a = a' ∧ b = b' ∧ c = c') := by
  unfold Op.equal
  rw [show Op.maxDepth = 9998 + 1 + 1 from rfl]
  rw [run_equalIn_struct w (9998 + 1) 159 _ _ (by kernel_rfl) (by kernel_rfl)]
  have h1 : (Try.prog.fieldsOf 159).toList.map (fun f => (f.name == "_", f.type, f.offset)) = [(false, 3, 0), (false, 3, 1), (false, 3, 2)] := by kernel_rfl
  generalize (Try.prog.fieldsOf 159).toList = fs at *
  rcases fs with _ | ⟨f1, _ | ⟨f2, _ | ⟨f3, _ | ⟨f4, r⟩⟩⟩⟩
  case cons.cons.cons.nil =>
    simp only [List.map_cons, List.map_nil, List.cons.injEq, Prod.mk.injEq, beq_eq_false_iff_ne, ne_eq, and_true] at h1
    obtain ⟨⟨n1, t1, o1⟩, ⟨n2, t2, o2⟩, n3, t3, o3⟩ := h1
    refine ⟨(a == a') && ((b == b') && (c == c')), ?_, by simp⟩
    rw [eqF_step n1 t1 o1 (x := a) (y := a') rfl rfl, eqF_step n2 t2 o2 (x := b) (y := b') rfl rfl, eqF_step n3 t3 o3 (x := c) (y := c') rfl rfl]
    cases h1 : (a == a') <;> cases h2 : (b == b') <;> cases h3 : (c == c') <;> simp [Op.eqFields]
  all_goals simp at h1

theorem find_run (a b c : Int) (w : World) : ∀ (es : List MapEntry) (i : Nat), (∀ e ∈ es, ∃ k i j, e.key = keyV k i j) →
    ∃ r, (Instr.findAsking 159 (keyV a b c) es i).run Try.prog w = .ok r w ∧ ∀ j v, r = some (j, v) → i ≤ j ∧ ∃ e, es[j - i]? = some e ∧ e.key = keyV a b c ∧ v = e.val
  | [], i, _ => ⟨none, rfl, by intro j v h; cases h⟩
  | e :: es, i, h => by
    obtain ⟨k, p, q, hk⟩ := h e (List.mem_cons_self ..)
    obtain ⟨r, hr, hrt⟩ := key_eq a b c k p q w
    simp only [Instr.findAsking]
    rw [hk, bind_run (show (Op.equal 159 (keyV a b c) (keyV k p q)).run Try.prog w = .ok r w from hr)]
    cases r with
    | true =>
      obtain ⟨rfl, rfl, rfl⟩ := hrt rfl
      refine ⟨some (i, e.val), rfl, fun j v hj => ?_⟩
      cases hj
      exact ⟨Nat.le_refl _, e, by simp, hk, rfl⟩
    | false =>
      obtain ⟨r, h1, h2⟩ := find_run a b c w es (i + 1) fun e he => h e (List.mem_cons_of_mem _ he)
      refine ⟨r, h1, fun j v hj => ?_⟩
      obtain ⟨h3, e', h4, h5, h6⟩ := h2 j v hj
      refine ⟨by omega, e', ?_, h5, h6⟩
      rw [show j - i = (j - (i + 1)) + 1 from by omega]
      simpa using h4
theorem findKey_run (a b c : Int) (w : World) (es : List MapEntry) (h : ∀ e ∈ es, ∃ k i j, e.key = keyV k i j) :
    ∃ r, (Instr.findKey 159 (keyV a b c) es).run Try.prog w = .ok r w ∧ ∀ j v, r = some (j, v) → ∃ e, es[j]? = some e ∧ e.key = keyV a b c ∧ v = e.val := by
  obtain ⟨r, h1, h2⟩ := find_run a b c w es 0 h
  have hu : Try.prog.underlying 159 = some (.struct (Try.prog.fieldsOf 159)) := by kernel_rfl
  unfold Instr.findKey
  rw [bind_run (underlying_run hu w)]
  cases es with
  | nil => exact ⟨none, rfl, by intro j v h; cases h⟩
  | cons e es =>
    simp only [Instr.findNow, Instr.sameNow]
    exact ⟨r, h1, fun j v hj => by simpa using (h2 j v hj).2⟩
theorem lookup_run {w : World} {m : Nat} {G : GoodM} (h : MapIs w m G) (a b c : Int) :
    ∃ (ad : Option Addr) (l cp : Nat) (t : Bool), (Instr.lookup 126 (.map (some m)) (.agg #[.int .i64 a, .int .i64 b, .int .i64 c]) true).run Try.prog w = .ok (.tuple #[.slice ad l cp, .bool t]) w ∧ (t = true → G a b c ad l cp) := by
  obtain ⟨es, clock, hm, hes⟩ := h
  have hu : Try.prog.underlying 126 = some (.map 159 137) := by kernel_rfl
  obtain ⟨r, h1, h2⟩ := findKey_run a b c w es.toList fun e he => by
    obtain ⟨k, i, j, _, _, _, h3, _⟩ := hes e he
    exact ⟨k, i, j, h3⟩
  have hrun : ∀ {v : Value} {t : Bool}, (r = none → v = .slice none 0 0 ∧ t = false) → (∀ y, r = some y → v = y.2 ∧ t = true) → (Instr.lookup 126 (.map (some m)) (.agg #[.int .i64 a, .int .i64 b, .int .i64 c]) true).run Try.prog w = .ok (.tuple #[v, .bool t]) w := by
    intro v t hn hy
    unfold Instr.lookup
    rw [bind_run (underlying_run hu w)]
    simp only []
    rw [bind_run (MapKept.run_getObj_map hm)]
    simp only []
    rw [bind_run (show (pure es : Sem (Array MapEntry)).run Try.prog w = .ok es w from rfl)]
    rw [bind_run (key_check _ a b c w)]
    rw [bind_run (show (Instr.findKey 159 (.agg #[.int .i64 a, .int .i64 b, .int .i64 c]) es.toList).run Try.prog w = .ok r w from h1)]
    cases r with
    | none =>
      obtain ⟨rfl, rfl⟩ := hn rfl
      simp only []
      rw [bind_run (show (zeroValue 137).run Try.prog w = .ok (.slice none 0 0) w from by kernel_rfl)]
      rfl
    | some y =>
      obtain ⟨j, v⟩ := y
      obtain ⟨rfl, rfl⟩ := hy _ rfl
      rfl
  cases r with
  | none => exact ⟨none, 0, 0, false, hrun (fun _ => ⟨rfl, rfl⟩) (fun y h => by cases h), by simp⟩
  | some y =>
    obtain ⟨j, v⟩ := y
    obtain ⟨e, h3, h4, rfl⟩ := h2 j v rfl
    obtain ⟨k, i, q, ad, l, cp, h5, h6, h7⟩ := hes e (List.mem_of_getElem? h3)
    rw [h5] at h4
    unfold keyV at h4
    simp only [Value.agg.injEq, Array.mk.injEq, List.cons.injEq, Value.int.injEq, true_and, and_true] at h4
    obtain ⟨rfl, rfl, rfl⟩ := h4
    exact ⟨ad, l, cp, true, hrun (fun h => by cases h) (fun y h => by cases h; exact ⟨h6.symm, rfl⟩), fun _ => h7⟩
theorem update_run {w : World} {m : Nat} {G : GoodM} (h : MapIs w m G) {a b c : Int} {ad : Option Addr} {l cp : Nat} (hg : G a b c ad l cp) :
    ∃ w', (Instr.mapUpdate 126 (.map (some m)) (.agg #[.int .i64 a, .int .i64 b, .int .i64 c]) (.slice ad l cp)).run Try.prog w = .ok () w' ∧ w'.heap.size = w.heap.size ∧ MapIs w' m G ∧ Ext (fun k => k = m) w w' := by
  have hlt := h.lt
  obtain ⟨es, clock, hm, hes⟩ := h
  have hu : Try.prog.underlying 126 = some (.map 159 137) := by kernel_rfl
  obtain ⟨r, h1, h2⟩ := findKey_run a b c w es.toList fun e he => by
    obtain ⟨k, i, j, _, _, _, h3, _⟩ := hes e he
    exact ⟨k, i, j, h3⟩
  have hset : ∀ (es' : Array MapEntry) (clock' : Nat), (∀ e ∈ es'.toList, e ∈ es.toList ∨ (e.key = keyV a b c ∧ e.val = .slice ad l cp)) → ∃ w', (setObj m (.map es' clock')).run Try.prog w = .ok () w' ∧ w'.heap.size = w.heap.size ∧ MapIs w' m G ∧ Ext (fun k => k = m) w w' := by
    intro es' clock' hall
    refine ⟨{ w with heap := w.heap.setIfInBounds m (.map es' clock') }, ?_, by simp, ⟨es', clock', by simp [hlt], fun e he => ?_⟩, ⟨rfl, rfl, rfl, by simp, fun k hk hkm => by simp [Ne.symm hkm]⟩⟩
    · exact MapKept.run_setObj_map _ hm
    · rcases hall e he with h3 | ⟨h3, h4⟩
      · exact hes e h3
      · exact ⟨a, b, c, ad, l, cp, h3, h4, hg⟩
  have hrun : ∀ {es' : Array MapEntry} {clock' : Nat} {w' : World}, (r = none → es' = es.push { key := keyV a b c, val := .slice ad l cp, born := clock } ∧ clock' = clock + 1) → (∀ y, r = some y → es' = es.modify y.1 (fun e => { e with key := keyV a b c, val := .slice ad l cp }) ∧ clock' = clock) → (setObj m (.map es' clock')).run Try.prog w = .ok () w' → (Instr.mapUpdate 126 (.map (some m)) (.agg #[.int .i64 a, .int .i64 b, .int .i64 c]) (.slice ad l cp)).run Try.prog w = .ok () w' := by
    intro es' clock' w' hn hy hs
    unfold Instr.mapUpdate
    rw [bind_run (underlying_run hu w)]
    simp only []
    rw [bind_run (MapKept.run_getObj_map hm)]
    simp only []
    rw [bind_run (key_check _ a b c w), bind_run (show (Instr.findKey 159 (.agg #[.int .i64 a, .int .i64 b, .int .i64 c]) es.toList).run Try.prog w = .ok r w from h1)]
    cases r with
    | none =>
      obtain ⟨rfl, rfl⟩ := hn rfl
      exact hs
    | some y =>
      obtain ⟨j, v⟩ := y
      obtain ⟨rfl, rfl⟩ := hy _ rfl
      obtain ⟨e, h3, h4, rfl⟩ := h2 j v rfl
      simp only []
      have hej : es[j]? = some e := by simpa using h3
      have hk : (Instr.keyThatStays (((es[j]?).map (·.key)).getD (.agg #[.int .i64 a, .int .i64 b, .int .i64 c])) (.agg #[.int .i64 a, .int .i64 b, .int .i64 c])).run Try.prog w = .ok (.agg #[.int .i64 a, .int .i64 b, .int .i64 c]) w := by
        rw [hej]
        show (Instr.keyThatStays e.key _).run Try.prog w = _
        rw [h4]
        unfold Instr.keyThatStays
        rw [if_pos (by unfold keyV; simp [Instr.sameBits])]
        rfl
      rw [bind_run hk]
      exact hs
  cases r with
  | none =>
    obtain ⟨w', e1, rest⟩ := hset (es.push { key := keyV a b c, val := .slice ad l cp, born := clock }) (clock + 1) fun e he => by
      simp only [Array.toList_push, List.mem_append, List.mem_singleton] at he
      rcases he with he | rfl
      · exact .inl he
      · exact .inr ⟨rfl, rfl⟩
    exact ⟨w', hrun (fun _ => ⟨rfl, rfl⟩) (fun y h => by cases h) e1, rest⟩
  | some y =>
    obtain ⟨j, v⟩ := y
    obtain ⟨w', e1, rest⟩ := hset (es.modify j fun e => { e with key := keyV a b c, val := .slice ad l cp }) clock fun e' he' => by
      obtain ⟨q, hq⟩ := List.getElem?_of_mem he'
      rw [Array.toList_modify, List.getElem?_modify] at hq
      cases hh : es.toList[q]? with
      | none => rw [hh] at hq; cases hq
      | some y =>
        rw [hh] at hq
        by_cases hjq : j = q
        · simp only [Option.map_eq_map, Option.map_some, Option.some.injEq, if_pos hjq] at hq; subst hq; exact .inr ⟨rfl, rfl⟩
        · simp only [Option.map_eq_map, Option.map_some, Option.some.injEq, if_neg hjq] at hq; subst hq; exact .inl (List.mem_of_getElem? hh)
    exact ⟨w', hrun (fun h => by cases h) (fun y h => by cases h; exact ⟨rfl, rfl⟩) e1, rest⟩
end Go.Proofs.Ytngbiaeliphdjaa.V
/- The program's finder in memory; what add does. No statement of the seat is proved here. -/
namespace Go.Proofs.Ytngbiaeliphdjaa.V
open Go.Vc Go.Proofs Go.RowKit
set_option linter.unusedVariables false
set_option linter.unusedSimpArgs false
/-- A finder: its block, its memo, its pattern's pieces, its text. -/
structure Cx where
  bf : Nat
  m : Nat
  N : Nat
  P : Pat
  t : ByteArray
  pa : Option Addr
  pl : Nat
  pc : Nat
  rs : List Raw
def Cx.ps (c : Cx) : List Pc := c.P.pieces
def Cx.n (c : Cx) : Nat := (L c.t).length
def Cx.ends (c : Cx) (k i : Nat) : List Wy := endsP c.P.pieces (L c.t) k i
def Cx.sub (c : Cx) (k : Nat) : Nat → List Wy := c.ends ((c.P.pieces.getD k pSta).kids.getD 0 0).toNat
def Cx.more (c : Cx) (k : Nat) (left : Option Nat) (i : Nat) : List Wy := moreP (c.sub k) c.n (c.P.pieces.getD k pSta).lazy left i
def leftI : Option Nat → Int
  | none => -1
  | some n => n
/-- Ways in memory, apart from the blocks X. -/
def WaysAt (c : Cx) (X : Nat → Prop) (w : World) (a : Option Addr) (l cp : Nat) (ws : List Wy) : Prop := Vec w.heap 142 21 a l cp (waysC ws) ∧ ∀ k, blkOf a = some k → ¬ X k ∧ k ≠ c.m
def Good (c : Cx) (X : Nat → Prop) (w : World) : GoodM := fun x y z a l cp => (∀ k i : Nat, x = k → y = i → z = -2 → WaysAt c X w a l cp (c.ends k i)) ∧ (∀ (k i : Nat) (left : Option Nat), x = k → y = i → z = leftI left → WaysAt c X w a l cp (c.more k left i))
/-- The finder stands; what it holds is apart from X. -/
structure FInv (c : Cx) (X : Nat → Prop) (w : World) : Prop where
  fb : Blk w.heap c.bf 128 [.bool c.P.ok, .int .i64 (c.P.at_ : Int), .int .i64 (c.P.groups : Int), .slice c.pa c.pl c.pc, .string c.t, .map (some c.m)]
  pcs : Pcs c.N w c.pa c.pl c.pc c.rs c.P.pieces
  memo : MapIs w c.m (Good c X w)
  ne1 : c.bf ≠ c.m
  ne2 : c.m ∉ blks c.pa c.rs
  priv : ∀ x, X x → x ≠ c.bf ∧ x ≠ c.m ∧ x ∉ blks c.pa c.rs ∧ x < w.heap.size
theorem WaysAt.lt {c : Cx} {X : Nat → Prop} {w : World} {a : Option Addr} {l cp : Nat} {ws : List Wy} (h : WaysAt c X w a l cp ws) : ∀ k, blkOf a = some k → k < w.heap.size := h.1.lt
theorem WaysAt.len {c : Cx} {X : Nat → Prop} {w : World} {a : Option Addr} {l cp : Nat} {ws : List Wy} (h : WaysAt c X w a l cp ws) : ws.length = l := by
  have := h.1.1; rw [waysC_length] at this; omega
/-- Private blocks change, new ones become private. -/
theorem WaysAt.grow {c : Cx} {X Y S : Nat → Prop} {w w' : World} {a : Option Addr} {l cp : Nat} {ws : List Wy} (h : WaysAt c X w a l cp ws) (e : Ext S w w') (hS : ∀ x, S x → X x ∨ x = c.m) (hY : ∀ x, Y x → X x ∨ w.heap.size ≤ x) : WaysAt c Y w' a l cp ws :=
  ⟨h.1.keep e fun b hb hs => by
    rcases hS b hs with h1 | h1
    · exact (h.2 b hb).1 h1
    · exact (h.2 b hb).2 h1, fun k hk => ⟨fun hy => by
    rcases hY k hy with h1 | h1
    · exact (h.2 k hk).1 h1
    · have := h.lt k hk; omega, (h.2 k hk).2⟩⟩
theorem WaysAt.below {c : Cx} {X : Nat → Prop} {w w' : World} {a : Option Addr} {l cp : Nat} {ws : List Wy} (h : WaysAt c X w a l cp ws) (e : Below w.heap.size w w') : WaysAt c X w' a l cp ws :=
  h.grow (S := fun _ => False) (Ext.of_below e) (fun _ h => h.elim) fun _ h => .inl h
theorem FInv.grow {c : Cx} {X Y S : Nat → Prop} {w w' : World} (h : FInv c X w) (e : Ext S w w') (hS : ∀ x, S x → X x) (hY : ∀ x, Y x → X x ∨ w.heap.size ≤ x) (hYl : ∀ x, Y x → x < w'.heap.size) : FInv c Y w' := by
  have hp := h.priv
  have hm := h.memo.lt
  have hb := h.fb.lt
  have hB := h.pcs.lt
  refine ⟨h.fb.keep e fun hs => (hp _ (hS _ hs)).1 rfl, h.pcs.keep e fun k hk hs => (hp _ (hS _ hs)).2.2.1 hk, (h.memo.keep e fun hs => (hp _ (hS _ hs)).2.1 rfl).mono fun x y z a l cp hg => ?_, h.ne1, h.ne2, fun x hx => ?_⟩
  · exact ⟨fun k i h1 h2 h3 => (hg.1 k i h1 h2 h3).grow e (fun x hx => .inl (hS x hx)) hY, fun k i left h1 h2 h3 => (hg.2 k i left h1 h2 h3).grow e (fun x hx => .inl (hS x hx)) hY⟩
  · rcases hY x hx with h1 | h1
    · have := hp x h1
      exact ⟨this.1, this.2.1, this.2.2.1, hYl x hx⟩
    · exact ⟨by omega, by omega, fun hk => by have := hB x hk; omega, hYl x hx⟩
theorem FInv.below {c : Cx} {X : Nat → Prop} {w w' : World} (h : FInv c X w) (e : Below w.heap.size w w') : FInv c X w' :=
  h.grow (S := fun _ => False) (Ext.of_below e) (fun _ h => h.elim) (fun _ h => .inl h) fun x hx => Nat.lt_of_lt_of_le (h.priv x hx).2.2.2 e.size
theorem FInv.drop {c : Cx} {X Y : Nat → Prop} {w : World} (h : FInv c X w) (hY : ∀ x, Y x → X x) : FInv c Y w :=
  h.grow (S := fun _ => False) (Ext.refl _ _) (fun _ h => h.elim) (fun x hx => .inl (hY x hx)) fun x hx => (h.priv x (hY x hx)).2.2.2
/-- Ways, as a call gives them. -/
def ResW (c : Cx) (X : Nat → Prop) (w : World) (ws : List Wy) : Ending → World → Prop := fun e w' => ∃ a l cp, e = .returned (.slice a l cp) ∧ WaysAt c X w' a l cp ws ∧ FInv c X w' ∧ Ext (fun x => x = c.m) w w'
/-- The contract of ways at a piece. -/
def WaysC (c : Cx) (k : Nat) : Prop := ∀ (X : Nat → Prop) (w : World) (i : Nat), FInv c X w → i ≤ c.n → Cl Try.prog 114 [.pointer (some ⟨c.bf, 0, none⟩), .int .i64 k, .int .i64 i] w (ResW c X w (c.ends k i))
def MoreC (c : Cx) (k : Nat) : Prop := ∀ (X : Nat → Prop) (w : World) (i : Nat) (left : Option Nat), FInv c X w → i ≤ c.n → (∀ q, left = some q → q ≤ 50) → Cl Try.prog 135 [.pointer (some ⟨c.bf, 0, none⟩), .int .i64 k, .int .i64 i, .int .i64 (leftI left)] w (ResW c X w (c.more k left i))
/-! ### Lists -/
def seenL (ws : List Wy) : List Value := (List.range 201).map fun p => .bool (has ws p)
theorem seenL_get (ws : List Wy) (p : Nat) (h : p < 201) : (seenL ws)[p]? = some (.bool (has ws p)) := by simp [seenL, h]
theorem seenL_length (ws : List Wy) : (seenL ws).length = 201 := by simp [seenL]
theorem seenL_nil : seenL [] = List.replicate 201 (.bool false) := by simp [seenL, has, List.map_const']
theorem seenL_set (ws : List Wy) (x : Wy) (hx : x.1 < 201) : (seenL ws).set x.1 (.bool true) = seenL (ws ++ [x]) := by
  apply List.ext_getElem?
  intro k
  rw [List.getElem?_set, seenL_length]
  by_cases hk : k < 201
  · rw [seenL_get _ k hk, seenL_get _ k hk, has_append]
    by_cases hxk : x.1 = k
    · rw [if_pos hxk, if_pos (by omega)]; simp [has, hxk]
    · rw [if_neg hxk]; simp [has, hxk]
  · have h1 : (seenL ws)[k]? = none := List.getElem?_eq_none (by rw [seenL_length]; omega)
    have h2 : (seenL (ws ++ [x]))[k]? = none := List.getElem?_eq_none (by rw [seenL_length]; omega)
    rw [h1, h2, if_neg (by omega)]
/-- A list of ways that is gathered: the block b, its row. -/
def LisAt (w : World) (b : Nat) (a : Option Addr) (l cp : Nat) (ws : List Wy) : Prop := Blk w.heap b 163 (.slice a l cp :: seenL ws) ∧ Vec w.heap 142 21 a l cp (waysC ws)
theorem LisAt.keep {S : Nat → Prop} {w w' : World} {b : Nat} {a : Option Addr} {l cp : Nat} {ws : List Wy} (h : LisAt w b a l cp ws) (e : Ext S w w') (hb : ¬ S b) (ha : ∀ k, blkOf a = some k → ¬ S k) : LisAt w' b a l cp ws := ⟨h.1.keep e hb, h.2.keep e ha⟩
theorem LisAt.ne {w : World} {b : Nat} {a : Option Addr} {l cp : Nat} {ws : List Wy} (h : LisAt w b a l cp ws) : ∀ k, blkOf a = some k → k ≠ b := by
  intro k hk hkb
  subst hkb
  obtain ⟨h0, _, _, h3⟩ := h
  rcases h3 with ⟨rfl, _⟩ | ⟨b', cs', rfl, hb, _⟩
  · simp [blkOf] at hk
  · simp only [blkOf, Option.some.injEq] at hk
    subst hk
    unfold Blk at hb h0
    rw [h0] at hb
    simp at hb
theorem add_way {w : World} {b : Nat} {a : Option Addr} {l cp : Nat} {ws : List Wy} (h : LisAt w b a l cp ws) (x : Wy) (hx : x.1 ≤ 200) (hl : ws.length ≤ 1000) :
    Cl Try.prog 129 [.pointer (some ⟨b, 0, none⟩), .agg ⟨wayC x⟩] w (fun e w' => e = .returned (.tuple #[]) ∧ ∃ a' l' cp', LisAt w' b a' l' cp' (addW ws x) ∧ Ext (fun k => k = b ∨ blkOf a = some k) w w' ∧ ∀ k, blkOf a' = some k → blkOf a = some k ∨ w.heap.size ≤ k) := by
  refine vc129 (n3 := (x.1 : Int)) (g4 := spI x.2) ?_
  unfold V129
  have hbl := h.1.lt
  have hll : ws.length = l := by have := h.2.1; rw [waysC_length] at this; omega
  refine newC_in fun w1 s1 k1 e1 => ?_
  have k1' : Blk w1.heap w.heap.size 142 (wayC x) := k1
  refine drw_in fun w2 q2 e2 => ?_
  have B2 : Below w.heap.size w w2 := Ext.to (Ext.to (Below.refl _ _) e1 fun _ h => h.elim) e2 fun _ h => h.elim
  have k2 := k1'.keep e2 fun h => h
  have h2 : LisAt w2 b a l cp ws := h.keep (S := fun _ => False) (Ext.of_below B2) (fun h => h) fun _ _ h => h
  have e0 : 0 + 1 + Int.toNat (x.1 : Int) * 1 = x.1 + 1 := by omega
  refine ⟨_, k2.way.1, ⟨by omega, by omega⟩, has ws x.1, ?_, fun g => ?_, fun g => ?_⟩
  · rw [e0, h2.1.cell]
    show (seenL ws)[x.1]? = _
    exact seenL_get ws x.1 (by omega)
  · have g' : has ws x.1 = false := by simpa using g
    refine drw_in fun w3 q3 e3 => ?_
    have k3 := k2.keep e3 fun h => h
    have h3 := h2.keep e3 (fun h => h) fun _ _ h => h
    refine ⟨_, k3.way.1, ⟨by omega, by omega⟩, ?_⟩
    rw [e0]
    refine stW_in h3.1 (by show x.1 + 1 + 1 ≤ (seenL ws).length + 1; rw [seenL_length]; omega) fun w4 s4 k4 e4 => ?_
    have hset : segSet (.slice a l cp :: seenL ws) (x.1 + 1) [.bool true] = .slice a l cp :: seenL (ws ++ [x]) := by
      show (Value.slice a l cp :: seenL ws).set (x.1 + 1) _ = _
      rw [List.set_cons_succ, seenL_set ws x (by omega)]
    rw [hset] at k4
    refine drw_in fun w5 q5 e5 => ?_
    have k5 := k4.keep e5 fun h => h
    have E5 : Ext (fun k => k = b) w w5 := (((Ext.of_below B2).trans (Ext.mono e3 fun _ _ h => h.elim)).trans e4).trans (Ext.mono e5 fun _ _ h => h.elim)
    have kw5 : Blk w5.heap w.heap.size 142 (wayC x) := (k3.keep e4 (by omega)).keep e5 fun h => h
    have v5 : Vec w5.heap 142 21 a l cp (waysC ws) := h.2.keep E5 fun k hk hkb => h.ne k hk hkb
    refine ⟨a, l, cp, k5.cell 0, _, kw5.way.1, _, kw5.way.2, ?_⟩
    have E6 : Ext (fun _ => False) w5 (newW w5 (.cells ⟨wayC x⟩ 142)) := (Ext.refl _ w5).vnew _
    obtain ⟨a2, c2, w7, r1, r2, r3, r4⟩ := append_run (P := Try.prog) (T := 137) (T' := 137) (T'' := 137) elemWay.und elemWay.und elemWay.size elemWay.bytes (by rw [show zeroL Try.prog 142 = some _ from elemWay.zero.choose_spec.1]; simp)
      (by rw [show zeroL Try.prog 142 = some _ from elemWay.zero.choose_spec.1]; intro y hy; cases hy; exact elemWay.zero.choose_spec.2) (v5.keep E6 fun _ _ h => h) (a' := some ⟨w5.heap.size, 0, none⟩) (n := 1) (c' := 1) (ys := wayC x) (by rw [wayC_length]) (wayC_scal x) (.inr ⟨_, _, rfl, cellsAt_newW w5 _ _⟩) (fun h => by cases h) (by omega) (by omega)
    rw [size_newW] at r4
    have E7 : Ext (fun k => blkOf a = some k) w5 w7 := (Ext.mono E6 fun _ _ h => h.elim).trans r3
    refine ⟨k5.vnew _ |>.cell 0, a2, l + 1, c2, w7, r1, ?_⟩
    have k7 : Blk w7.heap b 163 (.slice a l cp :: seenL (ws ++ [x])) := k5.keep E7 fun hk => h.ne b hk rfl
    refine stW_in k7 (by show 0 + 1 ≤ (seenL (ws ++ [x])).length + 1; omega) fun w8 s8 k8 e8 => ?_
    have hz5 := E5.size
    have hne : ∀ k, blkOf a2 = some k → k ≠ b := by
      intro k hk
      rcases r4 with rfl | rfl
      · exact h.ne k hk
      · simp only [blkOf, Option.some.injEq] at hk; omega
    refine ⟨rfl, a2, l + 1, c2, ?_, ?_, ?_⟩
    · rw [show addW ws x = ws ++ [x] from by simp [addW, g']]
      refine ⟨k8, ?_⟩
      rw [waysC_append, waysC_one]
      exact r2.keep e8 fun k hk hkb => hne k hk hkb
    · exact ((Ext.mono E5 fun _ _ h => .inl h).trans (Ext.mono E7 fun _ _ h => .inr h)).trans (Ext.mono e8 fun _ _ h => .inl h)
    · intro k hk
      rcases r4 with rfl | rfl
      · exact .inl hk
      · simp only [blkOf, Option.some.injEq] at hk; exact .inr (by omega)
  · refine ⟨rfl, a, l, cp, ?_, Ext.of_below B2, fun k hk => .inl hk⟩
    rw [addW_has (by simpa using g : has ws x.1 = true)]
    exact h2
/-- A list that is gathered while the finder stands. -/
structure LSt (c : Cx) (X0 : Nat → Prop) (w0 : World) (b : Nat) (X : Nat → Prop) (w : World) (ws : List Wy) : Prop where
  sub : ∀ x, X0 x → X x
  mem : X b
  new : w0.heap.size ≤ b
  row : ∃ a l cp, LisAt w b a l cp ws ∧ ∀ k, blkOf a = some k → X k ∧ w0.heap.size ≤ k
  fin : FInv c X w
  ext : Ext (fun x => x = c.m) w0 w
theorem LSt.below {c : Cx} {X0 X : Nat → Prop} {w0 w w' : World} {b : Nat} {ws : List Wy} (h : LSt c X0 w0 b X w ws) (e : Below w.heap.size w w') : LSt c X0 w0 b X w' ws := by
  obtain ⟨a, l, cp, h1, h2⟩ := h.row
  exact ⟨h.sub, h.mem, h.new, ⟨a, l, cp, h1.keep (S := fun _ => False) (Ext.of_below e) (fun h => h) (fun _ _ h => h), h2⟩, h.fin.below e, h.ext.trans (Ext.of_below e)⟩
/-- A call of the finder leaves the list. -/
theorem LSt.call {c : Cx} {X0 X : Nat → Prop} {w0 w w' : World} {b : Nat} {ws : List Wy} (h : LSt c X0 w0 b X w ws) (hf : FInv c X w') (e : Ext (fun x => x = c.m) w w') : LSt c X0 w0 b X w' ws := by
  obtain ⟨a, l, cp, h1, h2⟩ := h.row
  exact ⟨h.sub, h.mem, h.new, ⟨a, l, cp, h1.keep e (fun hb => (h.fin.priv b h.mem).2.1 hb) (fun k hk hkm => (h.fin.priv k (h2 k hk).1).2.1 hkm), h2⟩, hf, h.ext.trans e⟩
theorem LSt.add {c : Cx} {X0 X : Nat → Prop} {w0 w : World} {b : Nat} {ws : List Wy} (h : LSt c X0 w0 b X w ws) (x : Wy) (hx : x.1 ≤ 200) (hl : ws.length ≤ 1000) :
    Cl Try.prog 129 [.pointer (some ⟨b, 0, none⟩), .agg ⟨wayC x⟩] w (fun e w' => e = .returned (.tuple #[]) ∧ ∃ X', LSt c X0 w0 b X' w' (addW ws x) ∧ Ext X w w' ∧ ∀ y, X' y → X y ∨ w.heap.size ≤ y) := by
  obtain ⟨a, l, cp, h1, h2⟩ := h.row
  refine (add_way h1 x hx hl).use fun e w' he => ?_
  obtain ⟨rfl, a', l', cp', h3, h4, h5⟩ := he
  have hE : Ext X w w' := Ext.mono h4 fun k _ hk => by
    rcases hk with rfl | hk
    · exact h.mem
    · exact (h2 k hk).1
  have hz := h.ext.size
  refine ⟨rfl, fun y => X y ∨ (blkOf a' = some y ∧ w.heap.size ≤ y), ⟨fun y hy => .inl (h.sub y hy), .inl h.mem, h.new, ⟨a', l', cp', h3, fun k hk => ?_⟩, h.fin.grow hE (fun _ h => h) (fun y hy => ?_) (fun y hy => ?_), h.ext.step h4 fun i hi hk => ?_⟩, hE, fun y hy => ?_⟩
  · rcases h5 k hk with h6 | h6
    · exact ⟨.inl (h2 k h6).1, (h2 k h6).2⟩
    · exact ⟨.inr ⟨hk, h6⟩, by omega⟩
  · rcases hy with hy | hy
    · exact .inl hy
    · exact .inr hy.2
  · rcases hy with hy | hy
    · exact Nat.lt_of_lt_of_le (h.fin.priv y hy).2.2.2 hE.size
    · exact h3.2.lt y hy.1
  · rcases hk with rfl | hk
    · have := h.new; omega
    · have := (h2 i hk).2; omega
  · rcases hy with hy | hy
    · exact .inl hy
    · exact .inr hy.2
/-- A new list. -/
theorem LSt.start {c : Cx} {X0 : Nat → Prop} {w0 w w' : World} (hf : FInv c X0 w) (e0 : Ext (fun x => x = c.m) w0 w) (k : Blk w'.heap w.heap.size 163 ([.slice none 0 0] ++ List.replicate 201 (.bool false))) (e : Ext (fun _ => False) w w') : LSt c X0 w0 w.heap.size (fun y => X0 y ∨ y = w.heap.size) w' [] := by
  refine ⟨fun _ h => .inl h, .inr rfl, e0.size, ⟨none, 0, 0, ⟨?_, Vec.nil _ _ _⟩, by simp [blkOf]⟩, hf.grow e (fun _ h => h.elim) (fun y hy => ?_) (fun y hy => ?_), e0.trans (Ext.mono e fun _ _ h => h.elim)⟩
  · rw [seenL_nil]; exact k
  · rcases hy with hy | rfl
    · exact .inl hy
    · exact .inr (Nat.le_refl _)
  · rcases hy with hy | rfl
    · exact Nat.lt_of_lt_of_le (hf.priv y hy).2.2.2 e.size
    · exact k.lt
/-- What was gathered is handed back. -/
theorem LSt.res {c : Cx} {X0 X : Nat → Prop} {w0 w : World} {b : Nat} {ws : List Wy} (h : LSt c X0 w0 b X w ws) (hX0 : ∀ x, X0 x → x < w0.heap.size) (hm : c.m < w0.heap.size) : ∃ a l cp, cellH w.heap b 0 = some (.slice a l cp) ∧ WaysAt c X0 w a l cp ws ∧ FInv c X0 w := by
  obtain ⟨a, l, cp, h1, h2⟩ := h.row
  refine ⟨a, l, cp, h1.1.cell 0, ⟨h1.2, fun k hk => ⟨fun hx => ?_, ?_⟩⟩, h.fin.drop h.sub⟩
  · have := hX0 k hx; have := (h2 k hk).2; omega
  · have := (h2 k hk).2; omega
end Go.Proofs.Ytngbiaeliphdjaa.V
/- What then does in the program's finder. No statement of the seat is proved here. -/
namespace Go.Vc
set_option linter.unusedVariables false
def ovW (g : Gr) (b : Wy) : Wy := (b.1, gOver g b.2)
def ovL (next : Nat → List Wy) (x : Wy) : List Wy := (next x.1).map (ovW x.2)
theorem thenP_eq (cur : List Wy) (next : Nat → List Wy) : thenP cur next = addA [] (cur.flatMap (ovL next)) := rfl
theorem addA_short {n : Nat} {l : List Wy} (h : ∀ z ∈ l, z.1 ≤ n) : (addA [] l).length ≤ n + 1 :=
  (DD.addA (xs := l) (l := []) (by simp [DD])).short fun z hz => by
    rcases mem_addA hz with hz | hz
    · cases hz
    · exact h z hz
end Go.Vc
namespace Go.Proofs.Ytngbiaeliphdjaa.V
open Go.Vc Go.Proofs Go.RowKit
set_option linter.unusedVariables false
set_option linter.unusedSimpArgs false
/-- A way is copied into a block of its own. -/
theorem copy_way {w : World} {b : Nat} {cs : List Value} (hb : Blk w.heap b 142 cs) (hl : cs.length = 21) (x : Wy) {K : World → Prop} (h : ∀ w1, w1.heap.size = w.heap.size → Blk w1.heap b 142 (wayC x) → Ext (fun k => k = b) w w1 → K w1) : stW b 0 (wayC x) K w := by
  refine stW_in hb (by rw [wayC_length, hl]; decide) fun w1 s1 k1 e1 => h w1 s1 ?_ e1
  rw [segSet_eq _ _ _ (by rw [wayC_length, hl]; decide), wayC_length] at k1
  rw [List.drop_of_length_le (by omega)] at k1
  simpa using k1
/-- The element of a row of ways. -/
theorem WaysAt.elem {c : Cx} {X : Nat → Prop} {w : World} {a : Option Addr} {l cp : Nat} {A B : List Wy} {x : Wy} (h : WaysAt c X w a l cp (A ++ x :: B)) :
    ∃ b, a = some ⟨b, 0, none⟩ ∧ A.length < l ∧ cellH w.heap b (0 + A.length * 21) = some (.int .i64 (x.1 : Int)) ∧ intsAt w.heap b (0 + A.length * 21 + 1) 20 (spI x.2) := by
  have hl := h.len
  have hl' : A.length < l := by rw [← hl]; simp
  obtain ⟨b, rfl, hc⟩ := h.1.open (by omega)
  have := Vec.way hc hl (i := A.length) (by simp)
  simp only [List.getElem_append_right (Nat.le_refl _), Nat.sub_self, List.getElem_cons_zero] at this
  exact ⟨b, rfl, hl', this.1, this.2⟩
theorem then_ok {c : Cx} {X : Nat → Prop} {w : World} {cur : List Wy} {a : Option Addr} {l cp : Nat} {f : FuncId} {fi cv : Array Value} {next : Nat → List Wy} {b0 o0 : Nat} (hF : FInv c X w) (hcur : WaysAt c X w a l cp cur) (hcl : cur.length ≤ 1000) (hcb : ∀ x ∈ cur, x.1 ≤ c.n) (hn : c.n ≤ 200) (hnb : ∀ p, p ≤ c.n → ∀ x ∈ next p, x.1 ≤ c.n) (hnl : ∀ p, p ≤ c.n → (next p).length ≤ 1000)
    (hnext : ∀ (X' : Nat → Prop) (w' : World) (p : Nat), p ≤ c.n → FInv c X' w' → Ext (fun x => x = c.m) w w' → Cl Try.prog f (fi.toList ++ [.int .i64 p] ++ cv.toList) w' (ResW c X' w' (next p))) :
    Cl Try.prog 131 [.pointer (some ⟨b0, o0, none⟩), .slice a l cp, .func (.func f) fi cv] w (ResW c X w (thenP cur next)) := by
  apply vc131
  unfold V131
  have hm := hF.memo.lt
  have hX0 : ∀ x, X x → x < w.heap.size := fun x hx => (hF.priv x hx).2.2.2
  have hlen := hcur.len
  refine newC_in fun w6 s6 k6 e6 => ?_
  have S6 := LSt.start hF (Ext.refl _ w) k6 e6
  generalize hb5 : w.heap.size = b5 at *
  have c6 : WaysAt c (fun y => X y ∨ y = b5) w6 a l cp cur := hcur.grow e6 (fun _ h => h.elim) fun y hy => by
    rcases hy with hy | hy
    · exact .inl hy
    · exact .inr (by omega)
  refine ⟨fun k n w' => ∃ (A B : List Wy) (X' : Nat → Prop), cur = A ++ B ∧ n = A.length ∧ k = B.length ∧ LSt c X w b5 X' w' (addA [] (A.flatMap (ovL next))) ∧ WaysAt c X' w' a l cp cur, ⟨_, [], cur, _, rfl, rfl, rfl, S6, c6⟩, ?_⟩
  clear c6 S6 k6 e6 s6
  rintro k d n w10 ⟨A, B, X1, hAB, rfl, rfl, S10, c10⟩
  have hABl : cur.length = A.length + B.length := by rw [hAB]; simp
  have e0 : Int.toNat (A.length : Int) = A.length := by omega
  have e1 : IntKind.wrap .i64 ((A.length : Int) + 1) = ((A.length + 1 : Nat) : Int) := by rw [w64 (by omega)]; omega
  rw [e0, e1]
  have hbnd : ∀ (A' : List Wy), (∀ z ∈ A', z ∈ cur) → ∀ z ∈ A'.flatMap (ovL next), z.1 ≤ 200 := by
    intro A' hA' z hz
    simp only [List.mem_flatMap, ovL, List.mem_map] at hz
    obtain ⟨x, hx, b, hb, rfl⟩ := hz
    exact Nat.le_trans (hnb x.1 (hcb x (hA' x hx)) b hb) hn
  refine ⟨fun g => ?_, fun g => ?_⟩
  · have g' : A.length < l := by have := of_decide_eq_true g; omega
    obtain ⟨x, B', rfl⟩ : ∃ x B', B = x :: B' := by
      cases B with
      | nil => simp at hABl; omega
      | cons x B' => exact ⟨x, B', rfl⟩
    have hxm : x ∈ cur := by rw [hAB]; simp
    have hxb := hcb x hxm
    have c10' := c10
    rw [hAB] at c10'
    obtain ⟨ba, hba, _, hx1, hx2⟩ := c10'.elem
    refine ⟨ba, 0, ⟨hba, by omega, by omega⟩, _, hx1, _, hx2, ?_⟩
    refine newC_in fun w18 s18 k18 e18 => ?_
    generalize hb17 : w10.heap.size = b17 at *
    refine copy_way k18 rfl x fun w19 s19 k19 e19 => ?_
    have B19 : Below w10.heap.size w10 w19 := Ext.to (Ext.to (Below.refl _ _) e18 fun _ h => h.elim) e19 fun i hi => by omega
    have S19 := S10.below B19
    have c19 := c10.below B19
    have hz10 := S10.ext.size
    have hX17 : ¬ X1 b17 := fun h => by have := (S10.fin.priv b17 h).2.2.2; omega
    refine ⟨_, k19.way.1, ?_⟩
    refine (hnext X1 w19 x.1 hxb S19.fin S19.ext).use fun e w22 he => ?_
    obtain ⟨a21, l21, c21, rfl, r22, f22, e22⟩ := he
    refine ⟨a21, l21, c21, rfl, ?_⟩
    have S22 := S19.call f22 e22
    have c22 : WaysAt c X1 w22 a l cp cur := c19.grow e22 (fun _ h => .inr h) fun _ h => .inl h
    have hm17 : b17 ≠ c.m := by omega
    have k22 := k19.keep e22 hm17
    have hl21 := r22.len
    have hnl' := hnl x.1 hxb
    refine ⟨fun k n w' => ∃ (C D : List Wy) (X2 : Nat → Prop), next x.1 = C ++ D ∧ n = C.length ∧ k = D.length ∧ LSt c X w b5 X2 w' (addA (addA [] (A.flatMap (ovL next))) (C.map (ovW x.2))) ∧ WaysAt c X2 w' a l cp cur ∧ WaysAt c X2 w' a21 l21 c21 (next x.1) ∧ Blk w'.heap b17 142 (wayC x) ∧ ¬ X2 b17, ⟨_, [], next x.1, X1, rfl, rfl, rfl, S22, c22, r22, k22, hX17⟩, ?_⟩
    clear k22 c22 S22 r22 f22 e22 hX17 c19 S19 B19 k19 e19 s19 k18 e18 s18 hx1 hx2 c10' c10 S10
    rintro k d2 n w27 ⟨C, D, X2, hCD, rfl, rfl, S27, c27, r27, k27, hX27⟩
    have hCDl : (next x.1).length = C.length + D.length := by rw [hCD]; simp
    have e0' : Int.toNat (C.length : Int) = C.length := by omega
    have e1' : IntKind.wrap .i64 ((C.length : Int) + 1) = ((C.length + 1 : Nat) : Int) := by rw [w64 (by omega)]; omega
    rw [e0', e1']
    refine ⟨fun g2 => ?_, fun g2 => ?_⟩
    · have g2' : C.length < l21 := by have := of_decide_eq_true g2; omega
      obtain ⟨y, D', rfl⟩ : ∃ x B', D = x :: B' := by
        cases D with
        | nil => simp at hCDl; omega
        | cons x B' => exact ⟨x, B', rfl⟩
      have hym : y ∈ next x.1 := by rw [hCD]; simp
      have hyb := hnb x.1 hxb y hym
      have r27' := r27
      rw [hCD] at r27'
      obtain ⟨br, hbr, _, hy1, hy2⟩ := r27'.elem
      refine ⟨br, 0, ⟨hbr, by omega, by omega⟩, _, hy1, _, hy2, ?_⟩
      refine newC_in fun w35 s35 k35 e35 => ?_
      generalize hb34 : w27.heap.size = b34 at *
      refine copy_way k35 rfl y fun w36 s36 k36 e36 => ?_
      refine drw_in fun w37 q37 e37 => ?_
      have B37 : Below w27.heap.size w27 w37 := Ext.to (Ext.to (Ext.to (Below.refl _ _) e35 fun _ h => h.elim) e36 fun i hi => by omega) e37 fun _ h => h.elim
      have k37 := k36.keep e37 fun h => h
      have kx37 := k27.below B37
      refine ⟨_, k37.way.1, _, kx37.way.2, _, k37.way.2, ?_⟩
      refine (with_ok x.2 y.2 w37).ret fun w42 b42 => ⟨spI (gOver x.2 y.2), rfl, (k37.below b42).way.1, ?_⟩
      have B42 := B37.vstep b42
      have S42 := S27.below B42
      refine (S42.add (y.1, gOver x.2 y.2) (by show y.1 ≤ 200; omega) ?_).use fun e w44 he => ?_
      · rw [← addA_append]
        refine Nat.le_trans (addA_short (n := 200) fun z hz => ?_) (by decide)
        rcases List.mem_append.1 hz with hz | hz
        · exact hbnd A (fun z hz => by rw [hAB]; exact List.mem_append_left _ hz) z hz
        · obtain ⟨b, hb, rfl⟩ := List.mem_map.1 hz
          exact Nat.le_trans (hnb x.1 hxb b (by rw [hCD]; exact List.mem_append_left _ hb)) hn
      obtain ⟨rfl, X3, S44, e44, hX3⟩ := he
      have hz42 := B42.size
      refine ⟨rfl, D'.length, by simp, C ++ [y], D', X3, by rw [hCD]; simp, by simp, rfl, ?_, (c27.below B42).grow e44 (fun _ h => .inl h) hX3, (r27.below B42).grow e44 (fun _ h => .inl h) hX3, (k27.below B42).keep e44 hX27, fun h => ?_⟩
      · rw [List.map_append, addA_append]; exact S44
      · rcases hX3 b17 h with h | h
        · exact hX27 h
        · have := k27.lt; omega
    · have g2' : ¬ C.length < l21 := by have := of_decide_eq_false g2; omega
      have : D = [] := by
        cases D with
        | nil => rfl
        | cons x r => have := r27.len; simp at hCDl; omega
      subst this
      rw [List.append_nil] at hCD
      refine ⟨B'.length, by simp, A ++ [x], B', X2, by rw [hAB]; simp, by simp, rfl, ?_, c27⟩
      rw [List.flatMap_append, addA_append, List.flatMap_cons, List.flatMap_nil, List.append_nil]
      unfold ovL at *
      rw [hCD]
      exact S27
  · have g' : ¬ A.length < l := by have := of_decide_eq_false g; omega
    have : B = [] := by
      cases B with
      | nil => rfl
      | cons x r => simp at hABl; omega
    subst this
    rw [List.append_nil] at hAB
    subst hAB
    obtain ⟨a4, l4, c4, h1, h2, h3⟩ := S10.res (fun x hx => by have := hX0 x hx; omega) (by omega)
    exact ⟨a4, l4, c4, h1, a4, l4, c4, rfl, h2, h3, S10.ext⟩
end Go.Proofs.Ytngbiaeliphdjaa.V

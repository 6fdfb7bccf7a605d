/- The reference's Quote, and the law that both are one. No statement of the seat is proved here. -/
import Derived.Test.YtdbhnlelpcoldaaQuoW
namespace Go.Proofs.Ytdbhnlelpcoldaa.V
open Go.Vc Go.Proofs Go.RowKit
set_option linter.unusedVariables false
set_option linter.unusedSimpArgs false

/-- Bytes that a slice of the call's own holds. -/
def Own8 (w0 w : World) (a : Option Addr) (l c : Nat) (xs : Bytes) : Prop := Vec w.heap 5 1 a l c (u8s xs) ∧ l = xs.length ∧ (∀ b, blkOf a = some b → w0.heap.size ≤ b) ∧ Below w0.heap.size w0 w
theorem u8s_scal (ys : Bytes) : (u8s ys).all scal = true := by simp [u8s, scal]
theorem u8s_append (xs ys : Bytes) : u8s xs ++ u8s ys = u8s (xs ++ ys) := by simp [u8s]
theorem below_ext {S : Nat → Prop} {w0 w w' : World} (hb : Below w0.heap.size w0 w) (he : Ext S w w') (hs : ∀ k, S k → w0.heap.size ≤ k) : Below w0.heap.size w0 w' :=
  hb.trans ⟨he.os, he.tape, he.output, he.size, fun k hk => he.block k (Nat.lt_of_lt_of_le hk hb.size) fun h => by have := hs k h; omega⟩
theorem app8_run {w0 w : World} {a : Option Addr} {l c : Nat} {xs : Bytes} (h : Own8 w0 w a l c xs) {ys : Bytes} {n c' : Nat} (hn : n = ys.length) {a' : Option Addr}
    (hsrc : n = 0 ∧ a' = none ∨ ∃ b' o', a' = some ⟨b', o', none⟩ ∧ cellsAt w.heap b' o' (u8s ys)) (hbd : l + n ≤ 70368744177664) :
    ∃ a2 c2 w', (Builtin.append_ #[25, 25] 25 #[.slice a l c, .slice a' n c']).run Try.prog w = .ok (.slice a2 (l + n) c2) w' ∧ Own8 w0 w' a2 (l + n) c2 (xs ++ ys) := by
  obtain ⟨hv, hl, ho, hb⟩ := h
  obtain ⟨a2, c2, w', h1, h2, h3, h4⟩ := append_run (P := Try.prog) (T := 25) (T' := 25) (T'' := 25) (e := 5) (sz := 1) (by_ := 1) Try.underlying25 Try.underlying25 (by kernel_rfl) (by kernel_rfl) (by rw [show zeroL Try.prog 5 = some [.int .u8 0] from by kernel_rfl]; simp)
    (by rw [show zeroL Try.prog 5 = some [.int .u8 0] from by kernel_rfl]; intro z hz; cases hz; rfl) (w := w) hv (a' := a') (n := n) (c' := c') (ys := u8s ys) (by simp [u8s, hn]) (u8s_scal ys)
    (hsrc.imp (·.1) id) (fun h0 => hsrc.imp (·.2) (fun ⟨b', o', h, _⟩ => ⟨b', o', h⟩)) (by omega) hbd
  refine ⟨a2, c2, w', h1, by rw [← u8s_append]; exact h2, by rw [List.length_append, hl, hn], ?_, below_ext hb h3 fun k hk => ho k hk⟩
  intro b hb2
  rcases h4 with rfl | rfl
  · exact ho b hb2
  · simp only [blkOf, Option.some.injEq] at hb2
    have := hb.size; omega
/-- append of bytes that are written out. -/
theorem app8 (ys : Bytes) {cs : List Value} {n : Nat} (hn : n = ys.length) (hc : cs = u8s ys) {w0 w : World} {a : Option Addr} {l c : Nat} {xs : Bytes} (h : Own8 w0 w a l c xs) (hbd : l + n ≤ 70368744177664)
    {F : Option Addr → Nat → Nat → World → Prop} (hF : ∀ a2 c2 w', Own8 w0 w' a2 (l + n) c2 (xs ++ ys) → F a2 (l + n) c2 w') :
    newC cs 5 (fun (b : Nat) (w1 : World) => ∃ (a2 : Option Addr), ∃ (l2 : Nat), ∃ (c2 : Nat), ∃ (w2 : World), (Builtin.append_ #[25, 25] 25 #[.slice a l c, .slice (some ⟨b, 0, none⟩) n n]).run Try.prog w1 = .ok (.slice a2 l2 c2) w2 ∧ F a2 l2 c2 w2) w := by
  subst hc
  obtain ⟨hv, hl, ho, hb⟩ := h
  have hE : Ext (fun _ => False) w (newW w (.cells ⟨u8s ys⟩ 5)) := (Ext.refl _ w).vnew _
  have h' : Own8 w0 (newW w (.cells ⟨u8s ys⟩ 5)) a l c xs := ⟨hv.keep hE (fun _ _ h => h), hl, ho, below_ext hb hE (fun _ h => h.elim)⟩
  obtain ⟨a2, c2, w', h1, h2⟩ := app8_run h' (ys := ys) (n := n) (c' := n) (a' := some ⟨w.heap.size, 0, none⟩) hn (.inr ⟨_, _, rfl, cellsAt_newW w _ _⟩) hbd
  exact ⟨a2, l + n, c2, w', h1, hF a2 c2 w' h2⟩
theorem Own8.str {w0 w : World} {a : Option Addr} {l c : Nat} {xs : Bytes} (h : Own8 w0 w a l c xs) : (convert 25 9 (.slice a l c)).run Try.prog w = .ok (.string (B xs)) w := by
  obtain ⟨hv, hl, ho, hb⟩ := h
  obtain ⟨h1, h2, h3⟩ := hv
  rcases h3 with ⟨rfl, rfl⟩ | ⟨b, cs, rfl, hB, h4, h5⟩
  · have : xs = [] := by
      have : l = 0 := by omega
      rw [this] at hl; exact List.length_eq_zero_iff.1 hl.symm
    subst this
    exact conv_nil Try.underlying25 Try.underlying9 Try.underlying5
  · exact conv_run Try.underlying25 Try.underlying9 Try.underlying5 hl (hB.cellsAt (n := l * 1) (by simpa using h5) h1.symm)
theorem Own8.start (w : World) (cs : List Value) {w0 : World} (hb : Below w0.heap.size w0 w) (ys : Bytes) {n : Nat} (hn : n = ys.length) (hc : cs = u8s ys) : Own8 w0 (newW w (.cells ⟨cs⟩ 5)) (some ⟨w.heap.size, 0, none⟩) n n ys := by
  subst hc
  refine ⟨Vec.new w 5 1 n (u8s ys) (by simp [u8s, hn]), hn, ?_, hb.vnew hb.size _⟩
  intro b h; simp only [blkOf, Option.some.injEq] at h; have := hb.size; omega
theorem Own8.drew {w0 w : World} {a : Option Addr} {l c : Nat} {xs : Bytes} (h : Own8 w0 w a l c xs) : Own8 w0 (drewW w) a l c xs := ⟨h.1, h.2.1, h.2.2.1, h.2.2.2.vdrew⟩

theorem specQuote_ok (s : ByteArray) (w : World) : Cl Try.prog 12 [.string s] w (RetB (.string (B (quoT (L s)))) w) := by
  apply vc12
  unfold V12
  have hsz : s.size = (L s).length := size_L s
  refine ⟨fun h0 => ?_, fun h0 => ?_⟩
  · have h0' := of_decide_eq_true h0
    have : (L s).length > 200 := by omega
    refine ⟨?_, Below.refl _ _⟩
    simp only [quoT, this, if_true]; rfl
  have h0' := of_decide_eq_false h0
  refine ⟨fun k a l c n w' => ∃ i : Nat, n = i ∧ i ≤ s.size ∧ k = s.size - i ∧ Own8 w w' a l c (quoL ((L s).take i)), ⟨s.size, 0, rfl, by omega, by omega, Own8.start w _ (Below.refl _ _) [34] rfl rfl⟩, ?_⟩
  rintro k d a l c0 n w1 ⟨i, rfl, hi, rfl, hO⟩
  have hlen := quoL_len (L s) i (by omega)
  have hl := hO.2.1
  have hlb : l ≤ 900 := by omega
  refine ⟨fun h1 => ?_, fun h1 => ?_⟩
  · have h1' : (i : Int) < s.size := of_decide_eq_true h1
    have hb8 := byte_rng' s i
    have e0 : (Int.toNat (i : Int)) = i := by omega
    have ec : (byteAt s i).toNat = ((L s).getD i 0).toNat := by rw [byteAt_L]; omega
    have hsn := quoL_snoc (L s) i (by omega)
    rw [e0, w64 (by omega : -9223372036854775808 ≤ (i : Int) + 1 ∧ (i : Int) + 1 ≤ 9223372036854775807)]
    have fin : ∀ (ys : Bytes) (a2 : Option Addr) (n c2 : Nat) (w2 : World), quoB (byteAt s i).toNat = ys → Own8 w w2 a2 (l + n) c2 (quoL ((L s).take i) ++ ys) → ∃ m : Nat, m < s.size - i ∧ ∃ j : Nat, ((i : Int) + 1) = j ∧ j ≤ s.size ∧ m = s.size - j ∧ Own8 w w2 a2 (l + n) c2 (quoL ((L s).take j)) := by
      intro ys a2 n c2 w2 hy h2
      refine ⟨s.size - (i + 1), by omega, i + 1, by omega, by omega, rfl, ?_⟩
      rw [hsn, ← ec, hy]; exact h2
    generalize hn : byteAt s i = c at *
    refine ⟨⟨by omega, h1'⟩, ?_⟩
    have hexl : (c < 32 ∨ 126 < c) → c ≠ 10 → c ≠ 9 → c ≠ 34 → c ≠ 92 → ((16 : Int) ≠ 0) ∧ (0 ≤ (IntKind.wrap .u8 (Int.tdiv c 16) : Int) ∧ (IntKind.wrap .u8 (Int.tdiv c 16) : Int) < ((ByteArray.size hexS : Nat) : Int)) ∧ ((16 : Int) ≠ 0) ∧ (0 ≤ (Int.tmod c 16 : Int) ∧ (Int.tmod c 16 : Int) < ((ByteArray.size hexS : Nat) : Int)) ∧ newC [.int .u8 92, .int .u8 120, .int .u8 (byteAt hexS (Int.toNat (IntKind.wrap .u8 (Int.tdiv c 16)))), .int .u8 (byteAt hexS (Int.toNat (Int.tmod c 16)))] 5 (fun (b32 : Nat) (w33 : World) => ∃ (a34 : Option Addr), ∃ (l34 : Nat), ∃ (c34 : Nat), ∃ (w35 : World), (Builtin.append_ #[25, 25] 25 #[.slice a l c0, .slice (some ⟨b32, 0, none⟩) 4 4]).run Try.prog w33 = .ok (.slice a34 l34 c34) w35 ∧ (∃ (m36 : Nat), m36 < s.size - i ∧ ∃ j : Nat, ((i : Int) + 1) = j ∧ j ≤ s.size ∧ m36 = s.size - j ∧ Own8 w w35 a34 l34 c34 (quoL ((L s).take j)))) (drewW w1) := by
      intro hh n1 n2 n3 n4
      rw [quo16u c hb8, rem16 c hb8, hexS_size]
      refine ⟨by decide, ⟨by omega, by omega⟩, by decide, ⟨by omega, by omega⟩, ?_⟩
      refine app8 [92, 120, hexd (c.toNat / 16), hexd (c.toNat % 16)] (n := 4) rfl ?_ hO.drew (by omega) fun a2 c2 w' h2 => fin _ a2 4 c2 w' ?_ h2
      · rw [hex_at _ (by omega), hex_at _ (by omega)]
        have t1 : (c / 16).toNat = c.toNat / 16 := by omega
        have t2 : (c % 16).toNat = c.toNat % 16 := by omega
        rw [t1, t2]; rfl
      · unfold quoB
        rw [if_neg (by omega), if_neg (by omega), if_neg (by omega), if_pos (by omega)]
    have hcu : c = ((UInt8.ofNat c.toNat).toNat : Int) := by simp; omega
    have bsl : (c = 34 ∨ c = 92) → newC [.int .u8 92, .int .u8 c] 5 (fun (b21 : Nat) (w22 : World) => ∃ (a23 : Option Addr), ∃ (l23 : Nat), ∃ (c23 : Nat), ∃ (w24 : World), (Builtin.append_ #[25, 25] 25 #[.slice a l c0, .slice (some ⟨b21, 0, none⟩) 2 2]).run Try.prog w22 = .ok (.slice a23 l23 c23) w24 ∧ (∃ (m25 : Nat), m25 < s.size - i ∧ ∃ j : Nat, ((i : Int) + 1) = j ∧ j ≤ s.size ∧ m25 = s.size - j ∧ Own8 w w24 a23 l23 c23 (quoL ((L s).take j)))) w1 := by
      intro hh
      refine app8 [92, UInt8.ofNat c.toNat] (n := 2) rfl ?_ hO (by omega) fun a2 c2 w' h2 => fin _ a2 2 c2 w' ?_ h2
      · simp only [u8s, List.map_cons, List.map_nil]; rw [← hcu]; rfl
      · unfold quoB
        rw [if_neg (by omega), if_neg (by omega), if_pos (by omega)]
    refine ⟨fun g1 => ?_, fun g1 => ⟨fun g2 => ?_, fun g2 => ⟨fun g3 => bsl (.inl (by simpa using g3)), fun g3 => ⟨fun g4 => bsl (.inr (by simpa using g4)), fun g4 => ?_⟩⟩⟩⟩
    · have g1' : c = 10 := by simpa using g1
      exact app8 [92, 110] (n := 2) rfl rfl hO (by omega) fun a2 c2 w' h2 => fin _ a2 2 c2 w' (by unfold quoB; rw [if_pos (by omega)]) h2
    · have g1' : c ≠ 10 := by simpa using g1
      have g2' : c = 9 := by simpa using g2
      exact app8 [92, 116] (n := 2) rfl rfl hO (by omega) fun a2 c2 w' h2 => fin _ a2 2 c2 w' (by unfold quoB; rw [if_neg (by omega), if_pos (by omega)]) h2
    · have g1' : c ≠ 10 := by simpa using g1
      have g2' : c ≠ 9 := by simpa using g2
      have g3' : c ≠ 34 := by simpa using g3
      have g4' : c ≠ 92 := by simpa using g4
      refine ⟨fun g5 => hexl (.inl (of_decide_eq_true g5)) g1' g2' g3' g4', fun g5 => ⟨fun g6 => hexl (.inr (of_decide_eq_true g6)) g1' g2' g3' g4', fun g6 => ?_⟩⟩
      have g5' := of_decide_eq_false g5
      have g6' := of_decide_eq_false g6
      refine app8 [UInt8.ofNat c.toNat] (n := 1) rfl ?_ hO (by omega) fun a2 c2 w' h2 => fin _ a2 1 c2 w' ?_ h2
      · simp only [u8s, List.map_cons, List.map_nil]; rw [← hcu]
      · unfold quoB
        rw [if_neg (by omega), if_neg (by omega), if_neg (by omega), if_neg (by omega)]
  · have h1' : ¬ (i : Int) < s.size := of_decide_eq_false h1
    have hi' : i = (L s).length := by omega
    refine app8 [34] (n := 1) rfl rfl hO (by omega) fun a2 c2 w' h2 => ⟨_, h2.str, ?_, h2.2.2.2⟩
    have : ¬ (L s).length > 200 := by omega
    rw [hi', List.take_length]
    simp only [quoT, this, if_false]

theorem lawQuote_ok (s : ByteArray) (w : World) : Cl Try.prog 5 [.string s] w (RetB (.bool true) w) := by
  apply vc5
  unfold V5
  refine ⟨fun h1 => ⟨rfl, Below.refl _ _⟩, fun h1 => ?_⟩
  refine (specQuote_ok s w).ret fun w1 hb1 => ⟨_, rfl, (implQuote_ok s w1).ret fun w2 hb2 => ⟨_, rfl, fun h2 => ?_, fun h2 => ⟨rfl, hb1.vstep hb2⟩⟩⟩
  simp at h2
end Go.Proofs.Ytdbhnlelpcoldaa.V

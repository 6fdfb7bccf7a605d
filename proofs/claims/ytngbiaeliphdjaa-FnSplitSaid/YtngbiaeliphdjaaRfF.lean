/- Parts of a proof, put together: definitions, formulas of Go functions and lemmas. No statement of the seat is proved here. -/
import Derived.Test.YtngbiaeliphdjaaProg
import Derived.Laws.StructEq
import Derived.Test.YtngbiaeliphdjaaRfE
set_option maxHeartbeats 4000000
/- The functions that draw, over their cursor: what they draw, and how many draws there may be yet. No statement of the seat is proved here. -/
namespace Go.Proofs.Ytngbiaeliphdjaa.V
open Go.Vc Go.Proofs Go.RowKit
set_option linter.unusedVariables false
set_option linter.unusedSimpArgs false

theorem _root_.Go.Vc.GBytes.ext {S : Nat → Prop} {w w' : World} {B : Nat} {a : Option Addr} {l : Nat} (h : GBytes w B a l) (e : Ext S w w') (hB : B ≤ w.heap.size) (hs : ∀ k, k < B → ¬ S k) : GBytes w' B a l := by
  refine ⟨h.1, h.2.imp id ?_⟩
  rintro ⟨b, o, rfl, hb, hc⟩
  refine ⟨b, o, rfl, hb, fun i hi => ?_⟩
  obtain ⟨n, h1, h2, h3⟩ := hc i hi
  exact ⟨n, h1, h2, by rw [e.cellH (by omega) (hs b hb)]; exact h3⟩
def Cur (w : World) (b B : Nat) (a : Option Addr) (l c m : Nat) : Prop :=
  (∃ (p : Nat) (sd : Nat), Blk w.heap b 76 [.slice a l c, .int .i64 (p : Int), .int .u64 (sd : Int)] ∧ sd < 18446744073709551616 ∧ Bd l p sd m) ∧ GBytes w B a l ∧ B ≤ b ∧ l ≤ 1048576
theorem Cur.lt {w : World} {b B : Nat} {a : Option Addr} {l c m : Nat} (h : Cur w b B a l c m) : b < w.heap.size := by obtain ⟨⟨p, sd, h, _⟩, _⟩ := h; exact h.lt
theorem Cur.ext {S : Nat → Prop} {w w' : World} {b B : Nat} {a : Option Addr} {l c m : Nat} (h : Cur w b B a l c m) (e : Ext S w w') (hs : ∀ k, k ≤ b → ¬ S k) : Cur w' b B a l c m := by
  have hlt := h.lt
  obtain ⟨⟨p, sd, h1, h2⟩, h3, h4, h5⟩ := h
  exact ⟨⟨p, sd, h1.keep e (hs b (by omega)), h2⟩, h3.ext e (by omega) (fun k hk => hs k (by omega)), h4, h5⟩
theorem Cur.below {w w' : World} {b B : Nat} {a : Option Addr} {l c m : Nat} (h : Cur w b B a l c m) (e : Below w.heap.size w w') : Cur w' b B a l c m :=
  h.ext (S := fun _ => False) (Ext.of_below e) fun _ _ h => h
theorem Cur.blk {w w' : World} {b k : Nat} {e : TypeId} {cs : List Value} (hk : Blk w.heap k e cs) (hb : b < k) (E : Ext (fun k => k = b) w w') : Blk w'.heap k e cs := hk.keep E (by omega)
/-- What a drawing leaves: the value, and how many draws there may be yet. -/
def Drew (w : World) (b B : Nat) (a : Option Addr) (l c : Nat) (φ : Value → Nat → Prop) : Ending → World → Prop :=
  fun e w' => ∃ v m', e = .returned v ∧ φ v m' ∧ Cur w' b B a l c m' ∧ Ext (fun k => k = b) w w'
theorem u64w {n : Int} : IntKind.wrap .u64 n = n % 18446744073709551616 := by
  have h1 : (2 ^ IntKind.u64.bits : Int) = 18446744073709551616 := by decide
  have h3 : IntKind.u64.signed = false := rfl
  unfold IntKind.wrap
  simp only [h1, h3, Bool.false_and, Bool.false_eq_true, if_false]
theorem lg_u64 (sd : Nat) : IntKind.wrap .u64 ((IntKind.wrap .u64 ((sd : Int) * 6364136223846793005)) + 1442695040888963407) = ((lg sd % 18446744073709551616 : Nat) : Int) := by
  rw [u64w, u64w]; unfold lg; omega
theorem top_byte {sd : Nat} (h : sd < 18446744073709551616) : IntKind.wrap .i64 (IntKind.wrap .u64 (((BitVec.ofInt 64 (Int.fdiv (sd : Int) (2 ^ (min (Int.toNat 40) 64))) &&& BitVec.ofInt 64 255).toNat : Int))) = ((sd / 1099511627776 % 256 : Nat) : Int) := by
  have e : (2 : Int) ^ (min (Int.toNat 40) 64) = 1099511627776 := by decide
  rw [e, Int.fdiv_eq_ediv_of_nonneg _ (by decide)]
  have e2 : (BitVec.ofInt 64 ((sd : Int) / 1099511627776) &&& BitVec.ofInt 64 255).toNat = sd / 1099511627776 % 256 := by
    rw [BitVec.toNat_and]
    have h1 : (BitVec.ofInt 64 ((sd : Int) / 1099511627776)).toNat = sd / 1099511627776 := by
      rw [BitVec.toNat_ofInt]
      have : ((2 ^ 64 : Nat) : Int) = 18446744073709551616 := by decide
      rw [this]; omega
    have h2 : (BitVec.ofInt 64 255).toNat = 2 ^ 8 - 1 := by decide
    rw [h1, h2, Nat.and_two_pow_sub_one_eq_mod]
  rw [e2, u64w, w64 (by omega)]
  omega
theorem next_ok {w : World} {b B : Nat} {a : Option Addr} {l c m : Nat} (h : Cur w b B a l c m) (hm : 0 < m) :
    Cl Try.prog 115 [.pointer (some ⟨b, 0, none⟩)] w (Drew w b B a l c fun v m' => m' < m ∧ min (m - 1) 5059 ≤ m' ∧ ∃ n : Nat, v = .int .i64 (n : Int) ∧ n ≤ 255 ∧ (5000 < m → m ≤ 5059 → good n)) := by
  apply vc115
  unfold V115
  obtain ⟨⟨p, sd, hB, hsd, hbd⟩, hC, hb, hl⟩ := h
  have hpl := hB.lt
  have hp := hbd.1
  refine drw_in fun w1 q1 e1 => ?_
  have hB1 := hB.keep e1 fun h => h
  refine ⟨p, hB1.cell 1, a, l, c, hB1.cell 0, fun g => ?_, fun g => ?_⟩
  · have g' : p < l := by have := of_decide_eq_true g; omega
    refine drw_in fun w2 q2 e2 => ?_
    have hB2 := hB1.keep e2 fun h => h
    have hC2 := (hC.ext e1 (by omega) (fun _ _ h => h)).ext e2 (by have := e1.size; omega) (fun _ _ h => h)
    rcases hC2.2 with h0 | ⟨b', o', rfl, hb', hc⟩
    · omega
    obtain ⟨n, hn1, hn2, hn3⟩ := hc p g'
    refine ⟨_, l, c, hB2.cell 0, p, hB2.cell 1, b', o', ⟨rfl, by omega, by omega⟩, n, ?_, p, hB2.cell 1, ?_⟩
    · rw [show (Int.toNat (p : Int)) * 1 = p from by omega]; exact hn3
    refine stW_in hB2 (by show 0 + 1 + 1 ≤ 3; decide) fun w3 s3 k3 e3 => ?_
    refine ⟨sd, k3.cell 2, ?_⟩
    refine stW_in k3 (by show 0 + 2 + 1 ≤ 3; decide) fun w4 s4 k4 e4 => ?_
    have hE : Ext (fun k => k = b) w w4 := (((Ext.mono e1 fun _ _ h => h.elim).trans (Ext.mono e2 fun _ _ h => h.elim)).trans e3).trans e4
    have hw : IntKind.wrap .i64 ((p : Int) + 1) = ((p + 1 : Nat) : Int) := by rw [w64 (by omega)]; omega
    obtain ⟨sd', hsd', hlt'⟩ : ∃ sd' : Nat, (IntKind.wrap .u64 ((IntKind.wrap .u64 ((IntKind.wrap .u64 ((sd : Int) * 6364136223846793005)) + (IntKind.wrap .u64 n))) + 1442695040888963407)) = (sd' : Int) ∧ sd' < 18446744073709551616 := by
      rw [u64w]
      generalize (IntKind.wrap .u64 ((IntKind.wrap .u64 ((sd : Int) * 6364136223846793005)) + (IntKind.wrap .u64 n))) + 1442695040888963407 = x
      exact ⟨(x % 18446744073709551616).toNat, by omega, by omega⟩
    obtain ⟨m', hm1, hm2, hm3⟩ := bd_code hbd hm hl g' (sd' := sd')
    refine ⟨_, m', rfl, ⟨hm1, hm2, n.toNat, by rw [w64 (by omega), Int.toNat_of_nonneg hn1], by omega, fun h1 h2 => ?_⟩, ⟨⟨p + 1, sd', ?_, hlt', hm3⟩, hC.ext hE (by omega) (fun k hk => by omega), hb, hl⟩, hE⟩
    · have := (bd_good hbd h1 h2 (sd' := lg sd) rfl).1; omega
    · rw [← hw, ← hsd']; exact k4
  · have g' : l ≤ p := by have := of_decide_eq_false g; omega
    refine ⟨sd, hB1.cell 2, ?_⟩
    refine stW_in hB1 (by show 0 + 2 + 1 ≤ 3; decide) fun w3 s3 k3 e3 => ?_
    refine ⟨p, k3.cell 1, ?_⟩
    refine stW_in k3 (by show 0 + 1 + 1 ≤ 3; decide) fun w4 s4 k4 e4 => ?_
    have hE : Ext (fun k => k = b) w w4 := ((Ext.mono e1 fun _ _ h => h.elim).trans e3).trans e4
    have hw : IntKind.wrap .i64 ((p : Int) + 1) = ((p + 1 : Nat) : Int) := by rw [w64 (by omega)]; omega
    have k4' : Blk w4.heap b 76 [.slice a l c, .int .i64 ((p + 1 : Nat) : Int), .int .u64 ((lg sd % 18446744073709551616 : Nat) : Int)] := by rw [← hw, ← lg_u64]; exact k4
    have hlt : lg sd % 18446744073709551616 < 18446744073709551616 := Nat.mod_lt _ (by decide)
    have hcg : lg sd % 18446744073709551616 % 281474976710656 = lg sd % 281474976710656 := by omega
    generalize lg sd % 18446744073709551616 = sd' at *
    refine ⟨_, k4'.cell 2, by decide, _, m - 1, rfl, ⟨by omega, by omega, sd' / 1099511627776 % 256, by rw [top_byte hlt], by omega, fun h1 h2 => (bd_good hbd h1 h2 hcg).2⟩, ⟨⟨p + 1, sd', k4', hlt, bd_seq hbd hm g' hcg⟩, hC.ext hE (by omega) (fun k hk => by omega), hb, hl⟩, hE⟩
/-- A draw of at most 200 things. -/
theorem pick_ok {w : World} {b B : Nat} {a : Option Addr} {l c m : Nat} (h : Cur w b B a l c m) (hm : 0 < m) (n : Nat) (h1 : 2 ≤ n) (h2 : n ≤ 200) :
    Cl Try.prog 82 [.pointer (some ⟨b, 0, none⟩), .int .i64 (n : Int)] w (Drew w b B a l c fun v m' => m' < m ∧ min (m - 1) 5059 ≤ m' ∧ ∃ r : Nat, v = .int .i64 (r : Int) ∧ r < n ∧ (5000 < m → m ≤ 5059 → (n = 12 → r ≠ 4 ∧ r ≠ 5 ∧ r ≠ 6) ∧ (n = 6 → r ≠ 0))) := by
  apply vc82
  unfold V82
  refine ⟨fun g => by have := of_decide_eq_true g; omega, fun _ => ?_⟩
  refine (next_ok h hm).use fun e w1 he => ?_
  obtain ⟨_, m', rfl, ⟨h3, h4, x, rfl, hx, hg⟩, hC1, e1⟩ := he
  refine ⟨x, rfl, fun g1 => by have := of_decide_eq_true g1; omega, fun _ => ?_⟩
  refine ⟨by omega, _, m', rfl, ⟨h3, h4, x % n, ?_, Nat.mod_lt _ (by omega), fun h5 h6 => ?_⟩, hC1, e1⟩
  · rw [Int.tmod_eq_emod_of_nonneg (by omega), Int.natCast_emod]
  · have := hg h5 h6
    unfold good at this
    exact ⟨fun h => by subst h; omega, fun h => by subst h; omega⟩
theorem pick0_ok {w : World} {b B : Nat} {a : Option Addr} {l c m : Nat} (h : Cur w b B a l c m) {n : Int} (hn : n ≤ 1) :
    Cl Try.prog 82 [.pointer (some ⟨b, 0, none⟩), .int .i64 n] w (Drew w b B a l c fun v m' => m' = m ∧ v = .int .i64 0) := by
  apply vc82
  unfold V82
  exact ⟨fun _ => ⟨_, m, rfl, ⟨rfl, rfl⟩, h, Ext.refl _ _⟩, fun g => by have := of_decide_eq_false g; omega⟩
/-- Any draw. -/
theorem pickN_ok {w : World} {b B : Nat} {a : Option Addr} {l c m : Nat} (h : Cur w b B a l c m) (hm : 0 < m) (n : Nat) (h0 : 1 ≤ n) (h2 : n ≤ 200) :
    Cl Try.prog 82 [.pointer (some ⟨b, 0, none⟩), .int .i64 (n : Int)] w (Drew w b B a l c fun v m' => m' ≤ m ∧ min (m - 1) 5059 ≤ m' ∧ ∃ r : Nat, v = .int .i64 (r : Int) ∧ r < n) := by
  by_cases h1 : 2 ≤ n
  · refine (pick_ok h hm n h1 h2).use fun e w' he => ?_
    obtain ⟨v, m', h3, ⟨h4, h5, r, h6, h7, _⟩, h8, h9⟩ := he
    exact ⟨v, m', h3, ⟨by omega, h5, r, h6, h7⟩, h8, h9⟩
  · refine (pick0_ok h (by omega)).use fun e w' he => ?_
    obtain ⟨v, m', h3, ⟨h4, h5⟩, h8, h9⟩ := he
    exact ⟨v, m', h3, ⟨by omega, by omega, 0, h5, by omega⟩, h8, h9⟩
theorem elemU8 : Elem Try.prog 22 5 1 1 := ⟨Try.underlying22, by kernel_rfl, by kernel_rfl, ⟨[.int .u8 0], by kernel_rfl, rfl⟩⟩
theorem u8s_append (l m : Bytes) : u8s (l ++ m) = u8s l ++ u8s m := by simp [u8s]
/-- The bytes become a string. -/
theorem row_str {N : Nat} {w : World} {a : Option Addr} {l c : Nat} {xs : Bytes} (h : Row N w 5 1 a l c (u8s xs)) : (convert 22 9 (.slice a l c)).run Try.prog w = .ok (.string (Go.Vc.B xs)) w := by
  obtain ⟨⟨v1, v2, v3⟩, v4, v5⟩ := h
  have hx : xs.length = l := by have := v1; simp [u8s] at this; omega
  rcases v3 with ⟨rfl, rfl⟩ | ⟨bb, cs, rfl, hB, h4, h5⟩
  · have : l = 0 := by omega
    have : xs = [] := List.length_eq_zero_iff.1 (by omega)
    subst this
    exact conv_nil Try.underlying22 Try.underlying9 Try.underlying5
  · exact conv_run Try.underlying22 Try.underlying9 Try.underlying5 (by omega) (hB.cellsAt (n := l * 1) (by simpa using h5) v1.symm)
theorem bytes_ok {w : World} {b B : Nat} {a : Option Addr} {l c m : Nat} (h : Cur w b B a l c m) (n : Nat) (hn : n ≤ 1000000) (hm : n ≤ m) (ht : m ≤ 5059 ∨ n ≤ 5059) :
    Cl Try.prog 81 [.pointer (some ⟨b, 0, none⟩), .int .i64 (n : Int)] w (Drew w b B a l c fun v m' => m' ≤ m ∧ min m 5059 ≤ m' + n ∧ ∃ s : Bytes, v = .string (Go.Vc.B s) ∧ s.length = n) := by
  apply vc81
  unfold V81
  have hbl := h.lt
  refine ⟨fun k j ax lx cx w' => ∃ (i : Nat) (xs : Bytes) (m' : Nat), j = ((n - i : Nat) : Int) ∧ i ≤ n ∧ k = n - i ∧ i = lx ∧ xs.length = i ∧ m' ≤ m ∧ min m 5059 ≤ m' + i ∧ Row w.heap.size w' 5 1 ax lx cx (u8s xs) ∧ Cur w' b B a l c m' ∧ Ext (fun k => k = b) w w', ⟨_, 0, [], m, rfl, by omega, rfl, rfl, rfl, by omega, by omega, Row.nil _ _ (Nat.le_refl _), h, Ext.refl _ _⟩, ?_⟩
  rintro k d j ax lx cx w1 ⟨i, xs, m1, rfl, hi, rfl, hil, hx, hm1, hm2, hR, hC, hE⟩
  refine ⟨fun g => ?_, fun g => ?_⟩
  · have g' : i < n := by have := of_decide_eq_true g; omega
    refine (next_ok hC (by omega)).use fun e w2 he => ?_
    obtain ⟨_, m2, rfl, ⟨h3, h4, y, rfl, hy, _⟩, hC2, e2⟩ := he
    refine ⟨y, rfl, ?_⟩
    have hy : IntKind.wrap .u8 (y : Int) = ((UInt8.ofNat y).toNat : Int) := by rw [w8, UInt8.toNat_ofNat']; omega
    dsimp only
    rw [hy]
    obtain ⟨a3, c3, w3, r1, r2, r3⟩ := (hR.keep e2 fun k hk h => by omega).app1 elemU8 (ys := u8s [UInt8.ofNat y]) (n := 1) rfl rfl (by omega) (by omega)
    refine ⟨a3, _, c3, w3, r1, n - (i + 1), by omega, i + 1, xs ++ [UInt8.ofNat y], m2, ?_, by omega, rfl, by omega, by simp; omega, by omega, by omega, ?_, ?_, ?_⟩
    · rw [w64 (by omega)]; omega
    · rw [u8s_append]; exact r2
    · exact (hC2.ext r3 fun k hk (h : _ ≤ k) => by omega)
    · exact (hE.trans e2).step r3 fun i hi (h : _ ≤ i) => by omega
  · have : i = n := by have := of_decide_eq_false g; omega
    subst this
    exact ⟨Go.Vc.B xs, row_str hR, _, m1, rfl, ⟨hm1, hm2, xs, rfl, hx⟩, hC, hE⟩
/-- A cursor is made. -/
theorem cur_in {w : World} {a : Option Addr} {l c : Nat} (h : GBytes w w.heap.size a l) (hl : l ≤ 1048576) {K : Nat → World → Prop} (hK : ∀ w1 m, 5059 ≤ m → Cur w1 w.heap.size w.heap.size a l c m → Below w.heap.size w w1 → K w.heap.size w1) :
    newC [.slice a l c, .int .i64 0, .int .u64 0] 76 K w := by
  refine newC_in fun w1 s1 k1 e1 => ?_
  obtain ⟨m, hm, hb⟩ := bd_start (l := l) (sd := 0) hl
  exact hK w1 m hm ⟨⟨0, 0, k1, by decide, hb⟩, h.ext e1 (Nat.le_refl _) (fun _ _ h => h), Nat.le_refl _, hl⟩ (Ext.to (Below.refl _ _) e1 fun _ h => h.elim)
theorem texts_ok {w : World} {a : Option Addr} {l c : Nat} (h : GBytes w w.heap.size a l) (hl : l ≤ 1048576) :
    Cl Try.prog 32 [.slice a l c] w (fun e w' => ∃ s : Bytes, e = .returned (.string (Go.Vc.B s)) ∧ s.length ≤ 27 ∧ Below w.heap.size w w') := by
  apply vc32
  unfold V32
  refine cur_in h hl fun w1 m hm hC B1 => ?_
  refine (pick_ok hC (by omega) 28 (by omega) (by omega)).use fun e w2 he => ?_
  obtain ⟨_, m2, rfl, ⟨h3, h4, r, rfl, hr, _⟩, hC2, e2⟩ := he
  refine ⟨r, rfl, ?_⟩
  refine (bytes_ok hC2 r (by omega) (by omega) (by omega)).use fun e w3 he => ?_
  obtain ⟨_, m3, rfl, ⟨_, _, s, rfl, hs⟩, hC3, e3⟩ := he
  exact ⟨_, rfl, s, rfl, by omega, Ext.to (Ext.to B1 e2 fun i h => by omega) e3 fun i h => by omega⟩
end Go.Proofs.Ytngbiaeliphdjaa.V
/- How the pure reader reads a text that is put together of parts. No statement of the seat is proved here. -/
namespace Go.Vc
set_option linter.unusedVariables false
set_option linter.unusedSimpArgs false
/-- The text stands at this place. -/
def Fit (l : Bytes) (i : Nat) (s : Bytes) : Prop := i + s.length ≤ l.length ∧ ∀ k, k < s.length → at_ l (i + k) = at_ s k
theorem at_app_l {s t : Bytes} {k : Nat} (h : k < s.length) : at_ (s ++ t) k = at_ s k := by
  unfold at_; rw [List.getD_eq_getElem?_getD, List.getD_eq_getElem?_getD, List.getElem?_append_left h]
theorem at_app_r {s t : Bytes} {k : Nat} : at_ (s ++ t) (s.length + k) = at_ t k := by
  unfold at_; rw [List.getD_eq_getElem?_getD, List.getD_eq_getElem?_getD, List.getElem?_append_right (by omega), show s.length + k - s.length = k from by omega]
theorem Fit.app {l : Bytes} {i : Nat} {s t : Bytes} (h : Fit l i (s ++ t)) : Fit l i s ∧ Fit l (i + s.length) t := by
  obtain ⟨h1, h2⟩ := h
  rw [List.length_append] at h1 h2
  refine ⟨⟨by omega, fun k hk => ?_⟩, by omega, fun k hk => ?_⟩
  · rw [h2 k (by omega), at_app_l hk]
  · rw [show i + s.length + k = i + (s.length + k) from by omega, h2 _ (by omega), at_app_r]
theorem Fit.self (s : Bytes) : Fit s 0 s := ⟨by omega, fun k _ => by rw [Nat.zero_add]⟩
theorem Fit.at0 {l : Bytes} {i : Nat} {c : UInt8} {r : Bytes} (h : Fit l i (c :: r)) : i < l.length ∧ at_ l i = c.toNat := by
  obtain ⟨h1, h2⟩ := h
  simp only [List.length_cons] at h1 h2
  exact ⟨by omega, h2 0 (by omega)⟩
theorem Fit.tail {l : Bytes} {i : Nat} {c : UInt8} {r : Bytes} (h : Fit l i (c :: r)) : Fit l (i + 1) r := (Fit.app (s := [c]) (t := r) h).2
theorem Fit.le {l : Bytes} {i : Nat} {s : Bytes} (h : Fit l i s) : i + s.length ≤ l.length := h.1
def cntC (n : Nat) : Prop := n = 42 ∨ n = 43 ∨ n = 63 ∨ n = 123
/-- No count stands at this place. -/
def NC (l : Bytes) (j : Nat) : Prop := ¬ (j < l.length ∧ cntC (at_ l j))
def NQ (l : Bytes) (j : Nat) : Prop := ¬ (j < l.length ∧ at_ l j = 63)
theorem NC.q {l : Bytes} {j : Nat} (h : NC l j) : NQ l j := fun ⟨h1, h2⟩ => h ⟨h1, .inr (.inr (.inl h2))⟩
/-- The end, or the end of a group. -/
def EN (l : Bytes) (j : Nat) : Prop := j = l.length ∨ at_ l j = 41
theorem EN.nc {l : Bytes} {j : Nat} (h : EN l j) : NC l j := fun ⟨h1, h2⟩ => by
  unfold cntC at h2
  rcases h with h | h <;> omega
def HD (s : Bytes) : Prop := s = [] ∨ ¬ cntC (at_ s 0)
def subOf (l : Bytes) : Nat → St → Pr (St × Int)
  | 0 => fun _ => .bad 0
  | d + 1 => patP l d
def deepOf : Nat → Bool
  | 0 => true
  | _ + 1 => false
theorem subOf_ok (l : Bytes) (d : Nat) : SubOk l (subOf l d) := by
  cases d with
  | zero => intro i g out j g' out' k _ h; cases h
  | succ d => exact patP_len l d
/-- A sequence, and alternatives behind it. -/
def saL (l : Bytes) (d i g : Nat) (out : List Pc) (kids : List Int) : Pr (St × Int) := match seqL (subOf l d) (deepOf d) l i g out [] with
  | .bad e => .bad e
  | .ok ((j, g', out'), x) => altL (subOf l d) (deepOf d) l j g' out' (kids ++ [x])
theorem patP_sa (l : Bytes) (d i g : Nat) (out : List Pc) : patP l d (i, g, out) = saL l d i g out [] := by
  cases d <;> rfl
theorem altL_sa {l : Bytes} {d i g : Nat} {out : List Pc} {kids : List Int} (h : i < l.length) (hb : at_ l i = 124) : altL (subOf l d) (deepOf d) l i g out kids = saL l d (i + 1) g out kids := by
  unfold saL
  cases hs : seqL (subOf l d) (deepOf d) l (i + 1) g out [] with
  | bad e => exact altL_bad ⟨h, hb⟩ hs
  | ok r =>
    obtain ⟨⟨j, g', out'⟩, x⟩ := r
    have := seqL_len (subOf_ok l d) _ rfl (by omega) hs
    exact altL_go ⟨h, hb⟩ hs (by omega)
def altO (out : List Pc) : List Int → List Pc × Int
  | [k] => (out, k)
  | kids => (out ++ [pAlt kids], out.length)
theorem altE_O (i g : Nat) (out : List Pc) (kids : List Int) : altE i g out kids = .ok ((i, g, (altO out kids).1), (altO out kids).2) := by
  match kids with
  | [] => rfl
  | [k] => rfl
  | a :: b :: r => rfl
abbrev FF := List Pc → List Int → List Pc × List Int
/-- A part of a sequence. -/
def SqX (d g : Nat) (s : Bytes) (g' : Nat) (F : FF) : Prop := HD s ∧ ∀ (l : Bytes) (i : Nat) (out : List Pc) (kids : List Int), Fit l i s → NC l (i + s.length) →
  seqL (subOf l d) (deepOf d) l i g out kids = seqL (subOf l d) (deepOf d) l (i + s.length) g' (F out kids).1 (F out kids).2
/-- A pattern. -/
def PtX (d g : Nat) (s : Bytes) (g' : Nat) (F : FF) : Prop := ∀ (l : Bytes) (i : Nat) (out : List Pc) (kids : List Int), Fit l i s → EN l (i + s.length) →
  saL l d i g out kids = altE (i + s.length) g' (F out kids).1 (F out kids).2
/-- An atom. -/
def AtX (d g : Nat) (s : Bytes) (g' : Nat) (A : List Pc → List Pc × Int) : Prop := s ≠ [] ∧ ¬ cntC (at_ s 0) ∧ at_ s 0 ≠ 124 ∧ at_ s 0 ≠ 41 ∧ ∀ (l : Bytes) (i : Nat) (out : List Pc), Fit l i s →
  atomP (subOf l d) (deepOf d) l i g out = .ok ((i + s.length, g', (A out).1), (A out).2)
/-- A count. -/
def CnX (s : Bytes) (a b : Int) (z : Bool) : Prop := ∀ (l : Bytes) (i : Nat), Fit l i s → NQ l (i + s.length) → cntP l i = .ok (i + s.length, some (a, b, z))
theorem SqX.nil (d g : Nat) : SqX d g [] g fun out kids => (out, kids) := ⟨.inl rfl, fun l i out kids _ _ => rfl⟩
theorem SqX.app {d g g1 g2 : Nat} {s t : Bytes} {F G : FF} (h : SqX d g s g1 F) (k : SqX d g1 t g2 G) : SqX d g (s ++ t) g2 fun out kids => G (F out kids).1 (F out kids).2 := by
  refine ⟨?_, fun l i out kids hf hn => ?_⟩
  · rcases h.1 with rfl | h1
    · exact k.1
    · by_cases hs : s = []
      · subst hs; exact k.1
      · right; rw [at_app_l (List.length_pos_iff.2 hs)]; exact h1
  · have f := hf.app
    rw [List.length_append, ← Nat.add_assoc] at hn ⊢
    rw [h.2 l i out kids f.1 ?_, k.2 l _ _ _ f.2 hn]
    rcases k.1 with rfl | h2
    · simpa using hn
    · rintro ⟨h3, h4⟩
      by_cases ht : t = []
      · subst ht; exact hn (by simpa using ⟨h3, h4⟩)
      · have := f.2.2 0 (List.length_pos_iff.2 ht)
        rw [Nat.add_zero] at this
        rw [this] at h4; exact h2 h4
theorem SqX.pat {d g g' : Nat} {s : Bytes} {F : FF} (h : SqX d g s g' F) : PtX d g s g' fun out kids => ((F out []).1 ++ [pSeq (F out []).2], kids ++ [((F out []).1.length : Int)]) := by
  intro l i out kids hf he
  unfold saL
  rw [h.2 l i out [] hf he.nc]
  have hle := hf.le
  rw [seqL_out (by rintro ⟨h1, h2, h3⟩; rcases he with he | he; omega; exact h3 he)]
  simp only []
  rw [altL_out (by rintro ⟨h1, h2⟩; rcases he with he | he <;> omega)]
theorem PtX.alt {d g g1 g2 : Nat} {s y : Bytes} {F G : FF} (h : SqX d g s g1 F) (k : PtX d g1 y g2 G) : PtX d g (s ++ 124 :: y) g2 fun out kids => G ((F out []).1 ++ [pSeq (F out []).2]) (kids ++ [((F out []).1.length : Int)]) := by
  intro l i out kids hf he
  have f := hf.app
  have f0 := f.2.at0
  have e0 : at_ l (i + s.length) = 124 := f0.2
  have hnc : NC l (i + s.length) := by rintro ⟨_, h2⟩; unfold cntC at h2; omega
  have hl : i + (s ++ 124 :: y).length = i + s.length + 1 + y.length := by simp; omega
  rw [hl] at he ⊢
  unfold saL
  rw [h.2 l i out [] f.1 hnc]
  rw [seqL_out (by rintro ⟨h1, h2, h3⟩; exact h2 e0)]
  show altL (subOf l d) (deepOf d) l (i + s.length) g1 ((F out []).1 ++ [pSeq (F out []).2]) (kids ++ [((F out []).1.length : Int)]) = _
  rw [altL_sa f0.1 e0]
  exact k l _ _ _ f.2.tail he
theorem PtX.grp {d g g' : Nat} {y : Bytes} {F : FF} (h : PtX d (g + 1) y g' F) (hg : g < 9) : AtX (d + 1) g (40 :: (y ++ [41])) g' fun out => ((altO (F out []).1 (F out []).2).1 ++ [pGrp (g + 1 : Nat) (altO (F out []).1 (F out []).2).2], (altO (F out []).1 (F out []).2).1.length) := by
  refine ⟨by simp, by show ¬ cntC 40; unfold cntC; omega, by show (40 : Nat) ≠ 124; decide, by show (40 : Nat) ≠ 41; decide, fun l i out hf => ?_⟩
  have f0 := hf.at0
  have f1 := hf.tail.app
  have f2 := f1.2.at0
  have e0 : at_ l i = 40 := f0.2
  have e2 : at_ l (i + 1 + y.length) = 41 := f2.2
  have hl : i + (40 :: (y ++ [41])).length = i + 1 + y.length + 1 := by simp; omega
  rw [hl]
  unfold atomP
  rw [if_pos e0, if_neg (by simp [deepOf]; omega)]
  have hp : subOf l (d + 1) (i + 1, g + 1, out) = .ok ((i + 1 + y.length, g', (altO (F out []).1 (F out []).2).1), (altO (F out []).1 (F out []).2).2) := by
    show patP l d (i + 1, g + 1, out) = _
    rw [patP_sa, h l (i + 1) out [] f1.1 (.inr e2), altE_O]
  rw [hp]
  simp only []
  rw [if_neg (by omega), if_pos e2]
theorem pieceP_at {l : Bytes} {d i g g' : Nat} {s : Bytes} {A : List Pc → List Pc × Int} {out : List Pc} (h : AtX d g s g' A) (hf : Fit l i s) : pieceP (subOf l d) (deepOf d) l i g out = cntR l (i + s.length) g' (A out).1 (A out).2 := pieceP_ok (h.2.2.2.2 l i out hf)
theorem cntP_none {l : Bytes} {j : Nat} (h : NC l j) : cntP l j = .ok (j, none) := by
  unfold cntP
  by_cases hj : l.length ≤ j
  · simp [hj]
  · have hc : ¬ cntC (at_ l j) := fun hc => h ⟨by omega, hc⟩
    unfold cntC at hc
    simp only []
    rw [if_neg hj, if_neg (by omega), if_neg (by omega), if_neg (by omega), if_neg (by omega)]
theorem AtX.go {d g g' : Nat} {s : Bytes} {A : List Pc → List Pc × Int} (h : AtX d g s g' A) {l : Bytes} {i : Nat} (hf : Fit l i s) : i < l.length ∧ at_ l i ≠ 124 ∧ at_ l i ≠ 41 := by
  have hp := List.length_pos_iff.2 h.1
  have h0 := hf.2 0 hp
  rw [Nat.add_zero] at h0
  rw [h0]
  exact ⟨by have := hf.1; omega, h.2.2.1, h.2.2.2.1⟩
/-- An atom alone. -/
theorem AtX.one {d g g' : Nat} {s : Bytes} {A : List Pc → List Pc × Int} (h : AtX d g s g' A) : SqX d g s g' fun out kids => ((A out).1, kids ++ [(A out).2]) := by
  refine ⟨.inr h.2.1, fun l i out kids hf hn => ?_⟩
  have hp : pieceP (subOf l d) (deepOf d) l i g out = .ok ((i + s.length, g', (A out).1), (A out).2) := by
    rw [pieceP_at h hf]; unfold cntR; rw [cntP_none hn]
  exact seqL_go (h.go hf) hp (by have := List.length_pos_iff.2 h.1; omega)
/-- An atom with a count. -/
theorem AtX.cnt {d g g' : Nat} {s c : Bytes} {A : List Pc → List Pc × Int} {a b : Int} {z : Bool} (h : AtX d g s g' A) (k : CnX c a b z) : SqX d g (s ++ c) g' fun out kids => ((A out).1 ++ [pRep a b z (A out).2], kids ++ [((A out).1.length : Int)]) := by
  refine ⟨.inr (by rw [at_app_l (List.length_pos_iff.2 h.1)]; exact h.2.1), fun l i out kids hf hn => ?_⟩
  have f := hf.app
  rw [List.length_append, ← Nat.add_assoc] at hn ⊢
  have hp : pieceP (subOf l d) (deepOf d) l i g out = .ok ((i + s.length + c.length, g', (A out).1 ++ [pRep a b z (A out).2]), (A out).1.length) := by
    rw [pieceP_at h f.1]; unfold cntR; rw [k l _ f.2 hn.q]
  exact seqL_go (h.go f.1) hp (by have := List.length_pos_iff.2 h.1; omega)
/-- A text that is a pattern is read. -/
theorem PtX.read {s : Bytes} {g' : Nat} {F : FF} (h : PtX 6 0 s g' F) (hl : s.length ≤ 120) : readP s = ⟨true, 0, g', (altO (F [] []).1 (F [] []).2).1⟩ := by
  unfold readP
  rw [if_neg (by omega), patP_sa, h s 0 [] [] (Fit.self s) (.inl (by omega)), altE_O]
  simp only []
  rw [if_neg (by omega)]
/-! ### Counts -/
theorem digP_no {l : Bytes} {i n : Nat} (h : ¬ (i < l.length ∧ 48 ≤ at_ l i ∧ at_ l i ≤ 57)) : digP l i n = (i, n) := by rw [digP, dif_neg h]
theorem digP_go {l : Bytes} {i n : Nat} (h : i < l.length ∧ 48 ≤ at_ l i ∧ at_ l i ≤ 57) : digP l i n = digP l (i + 1) (Nat.min 1000 (10 * n + (at_ l i - 48))) := by rw [digP, dif_pos h]
/-- A number of one or two digits. -/
def decN (n : Nat) : Bytes := if n < 10 then [UInt8.ofNat (48 + n)] else [UInt8.ofNat (48 + n / 10), UInt8.ofNat (48 + n % 10)]
theorem u8N {n : Nat} (h : n < 256) : (UInt8.ofNat n).toNat = n := by simp; omega
theorem decN_pos (n : Nat) : 0 < (decN n).length := by unfold decN; split <;> simp
theorem numP_dec {l : Bytes} {i n : Nat} (hf : Fit l i (decN n)) (hn : n ≤ 50) (he : i + (decN n).length < l.length ∧ (at_ l (i + (decN n).length) < 48 ∨ 57 < at_ l (i + (decN n).length))) : numP l i = .ok (i + (decN n).length, n) := by
  unfold numP
  unfold decN at hf he ⊢
  by_cases h : n < 10
  · rw [if_pos h] at hf he ⊢
    have f := hf.at0
    rw [u8N (by omega)] at f
    simp only [List.length_cons, List.length_nil, Nat.zero_add] at he ⊢
    have hd : digP l i 0 = (i + 1, n) := by
      rw [digP_go (by omega), digP_no (by omega), f.2]
      congr 1
      show min 1000 (10 * 0 + (48 + n - 48)) = n
      omega
    rw [if_neg (by omega), if_neg (by omega), hd, if_neg (by simp; omega)]
  · rw [if_neg h] at hf he ⊢
    have f := hf.at0
    have f2 := hf.tail.at0
    rw [u8N (by omega)] at f f2
    have hl2 : ([UInt8.ofNat (48 + n / 10), UInt8.ofNat (48 + n % 10)] : Bytes).length = 2 := rfl
    rw [hl2] at he ⊢
    have hd : digP l i 0 = (i + 2, n) := by
      rw [digP_go (by omega), digP_go (by omega), show i + 1 + 1 = i + 2 from rfl, digP_no (by omega), f.2, f2.2]
      congr 1
      show min 1000 (10 * min 1000 (10 * 0 + (48 + n / 10 - 48)) + (48 + n % 10 - 48)) = n
      omega
    rw [if_neg (by omega), if_neg (by omega), hd, if_neg (by simp; omega)]
theorem cntP_q {l : Bytes} {j : Nat} {a b : Int} {z : Bool} {e : Nat} (hz : if z = true then j < l.length ∧ at_ l j = 63 ∧ e = j + 1 else NQ l j ∧ e = j) : (if j < l.length ∧ at_ l j = 63 then Pr.ok (j + 1, some (a, b, true)) else Pr.ok (j, some (a, b, false))) = Pr.ok (e, some (a, b, z)) := by
  cases z with
  | true => rw [if_pos rfl] at hz; rw [if_pos ⟨hz.1, hz.2.1⟩, hz.2.2]
  | false => rw [if_neg (by decide)] at hz; rw [if_neg hz.1, hz.2]
def lzT (z : Bool) : Bytes := if z then [63] else []
theorem lz_fit {l : Bytes} {j : Nat} {z : Bool} (h : Fit l j (lzT z)) (hn : NQ l (j + (lzT z).length)) : if z = true then j < l.length ∧ at_ l j = 63 ∧ j + (lzT z).length = j + 1 else NQ l j ∧ j + (lzT z).length = j := by
  cases z with
  | true => have := h.at0; rw [if_pos rfl]; exact ⟨this.1, this.2, rfl⟩
  | false => rw [if_neg (by decide)]; exact ⟨hn, rfl⟩
theorem cn_star (z : Bool) : CnX (42 :: lzT z) 0 (-1) z := by
  intro l i hf hn
  have f := hf.at0
  have e0 : at_ l i = 42 := f.2
  have hl : i + (42 :: lzT z).length = i + 1 + (lzT z).length := by simp; omega
  rw [hl] at hn ⊢
  unfold cntP
  simp only []
  rw [if_neg (by omega), if_pos e0]
  exact cntP_q (lz_fit hf.tail hn)
theorem cn_plus (z : Bool) : CnX (43 :: lzT z) 1 (-1) z := by
  intro l i hf hn
  have f := hf.at0
  have e0 : at_ l i = 43 := f.2
  have hl : i + (43 :: lzT z).length = i + 1 + (lzT z).length := by simp; omega
  rw [hl] at hn ⊢
  unfold cntP
  simp only []
  rw [if_neg (by omega), if_neg (by omega), if_pos e0]
  exact cntP_q (lz_fit hf.tail hn)
theorem cn_opt (z : Bool) : CnX (63 :: lzT z) 0 1 z := by
  intro l i hf hn
  have f := hf.at0
  have e0 : at_ l i = 63 := f.2
  have hl : i + (63 :: lzT z).length = i + 1 + (lzT z).length := by simp; omega
  rw [hl] at hn ⊢
  unfold cntP
  simp only []
  rw [if_neg (by omega), if_neg (by omega), if_neg (by omega), if_pos e0]
  exact cntP_q (lz_fit hf.tail hn)
theorem cn_bra {s : Bytes} {a b : Int} (h : ∀ (l : Bytes) (i : Nat), Fit l i s → braP l i = .ok (i + s.length, a, b)) (z : Bool) : CnX (123 :: (s ++ lzT z)) a b z := by
  intro l i hf hn
  have f := hf.at0
  have e0 : at_ l i = 123 := f.2
  have hl : i + (123 :: (s ++ lzT z)).length = i + 1 + s.length + (lzT z).length := by simp; omega
  rw [hl] at hn ⊢
  have f1 := hf.tail.app
  unfold cntP
  simp only []
  rw [if_neg (by omega), if_neg (by omega), if_neg (by omega), if_neg (by omega), if_pos e0, h l (i + 1) f1.1]
  exact cntP_q (lz_fit f1.2 hn)
theorem bra_two {m n : Nat} (hm : m ≤ 50) (hn : n ≤ 50) (hmn : m ≤ n) : ∀ (l : Bytes) (i : Nat), Fit l i (decN m ++ 44 :: (decN n ++ [125])) → braP l i = .ok (i + (decN m ++ 44 :: (decN n ++ [125])).length, (m : Int), (n : Int)) := by
  intro l i hf
  have f := hf.app
  have f1 := f.2.at0
  have f2 := f.2.tail.app
  have f3 := f2.2.at0
  have e1 : at_ l (i + (decN m).length) = 44 := f1.2
  have e3 : at_ l (i + (decN m).length + 1 + (decN n).length) = 125 := f3.2
  have hl : i + (decN m ++ 44 :: (decN n ++ [125])).length = i + (decN m).length + 1 + (decN n).length + 1 := by simp; omega
  rw [hl]
  unfold braP
  rw [numP_dec f.1 hm ⟨f1.1, by omega⟩]
  simp only []
  have hd : at_ l (i + (decN m).length + 1) ≠ 125 := by
    have hp := decN_pos n
    have h0 := f2.1.2 0 hp
    rw [Nat.add_zero] at h0
    rw [h0]
    unfold decN at hp ⊢
    split
    · show (UInt8.ofNat (48 + n)).toNat ≠ 125; rw [u8N (by omega)]; omega
    · show (UInt8.ofNat (48 + n / 10)).toNat ≠ 125; rw [u8N (by omega)]; omega
  rw [if_neg (by omega), if_pos e1, if_neg (by omega), if_neg hd, numP_dec f2.1 hn ⟨f3.1, by omega⟩]
  simp only []
  rw [if_neg (by omega), if_neg (by omega), if_pos e3]
theorem bra_one {m : Nat} (hm : m ≤ 50) : ∀ (l : Bytes) (i : Nat), Fit l i (decN m ++ [125]) → braP l i = .ok (i + (decN m ++ [125]).length, (m : Int), (m : Int)) := by
  intro l i hf
  have f := hf.app
  have f1 := f.2.at0
  have e1 : at_ l (i + (decN m).length) = 125 := f1.2
  have hl : i + (decN m ++ [125]).length = i + (decN m).length + 1 := by simp; omega
  rw [hl]
  unfold braP
  rw [numP_dec f.1 hm ⟨f1.1, by omega⟩]
  simp only []
  rw [if_neg (by omega), if_neg (by omega), if_pos e1]
theorem bra_from {m : Nat} (hm : m ≤ 50) : ∀ (l : Bytes) (i : Nat), Fit l i (decN m ++ [44, 125]) → braP l i = .ok (i + (decN m ++ [44, 125]).length, (m : Int), -1) := by
  intro l i hf
  have f := hf.app
  have f1 := f.2.at0
  have f2 := f.2.tail.at0
  have e1 : at_ l (i + (decN m).length) = 44 := f1.2
  have e2 : at_ l (i + (decN m).length + 1) = 125 := f2.2
  have hl : i + (decN m ++ [44, 125]).length = i + (decN m).length + 2 := by simp; omega
  rw [hl]
  unfold braP
  rw [numP_dec f.1 hm ⟨f1.1, by omega⟩]
  simp only []
  rw [if_neg (by omega), if_pos e1, if_neg (by omega), if_pos e2]
/-! ### Atoms -/
theorem at_set1 (d g : Nat) {c : UInt8} (h : c.toNat ≠ 40 ∧ c.toNat ≠ 91 ∧ c.toNat ≠ 46 ∧ c.toNat ≠ 94 ∧ c.toNat ≠ 36 ∧ c.toNat ≠ 92 ∧ c.toNat ≠ 41 ∧ c.toNat ≠ 93 ∧ c.toNat ≠ 123 ∧ c.toNat ≠ 125 ∧ c.toNat ≠ 42 ∧ c.toNat ≠ 43 ∧ c.toNat ≠ 63 ∧ c.toNat ≠ 124) :
    AtX d g [c] g fun out => (out ++ [pSet [((c.toNat : Int), (c.toNat : Int))]], out.length) := by
  have h0 : at_ [c] 0 = c.toNat := rfl
  refine ⟨by simp, by rw [h0]; unfold cntC; omega, by omega, by omega, fun l i out hf => ?_⟩
  have f := hf.at0
  unfold atomP
  rw [if_neg (by omega), if_neg (by omega), if_neg (by omega), if_neg (by omega), if_neg (by omega), if_neg (by omega), if_neg (by omega), f.2]
  rfl
theorem at_esc (d g : Nat) {s : Bytes} {r : Rs} {o : Option Nat} (h : ∀ (l : Bytes) (i : Nat), Fit l i s → escP l i = .ok (i + s.length, r, o)) : AtX d g (92 :: s) g fun out => (out ++ [pSet (runs (inR r))], out.length) := by
  refine ⟨by simp, by show ¬ cntC 92; unfold cntC; omega, by show (92 : Nat) ≠ 124; decide, by show (92 : Nat) ≠ 41; decide, fun l i out hf => ?_⟩
  have f := hf.at0
  have e0 : at_ l i = 92 := f.2
  unfold atomP
  rw [if_neg (by omega), if_neg (by omega), if_neg (by omega), if_neg (by omega), if_neg (by omega), if_pos e0, h l (i + 1) hf.tail]
  show Pr.ok ((i + 1 + s.length, g, out ++ [pSet (runs (inR r))]), (out.length : Int)) = _
  rw [show i + (92 :: s).length = i + 1 + s.length from by simp; omega]
theorem esc_one {c : UInt8} {r : Rs} {o : Option Nat} (h : escC c.toNat = some (r, o)) (hx : c.toNat ≠ 120) : ∀ (l : Bytes) (i : Nat), Fit l i [c] → escP l i = .ok (i + [c].length, r, o) := by
  intro l i hf
  have f := hf.at0
  unfold escP
  rw [if_neg (by omega), f.2, if_neg hx, h]
  rfl
theorem esc_hex {a b : UInt8} {x y : Nat} (ha : hexv a.toNat = some x) (hb : hexv b.toNat = some y) : ∀ (l : Bytes) (i : Nat), Fit l i [120, a, b] → escP l i = .ok (i + [120, a, b].length, [(16 * x + y, 16 * x + y)], some (16 * x + y)) := by
  intro l i hf
  have f := hf.at0
  have f1 := hf.tail.at0
  have f2 := hf.tail.tail.at0
  have e0 : at_ l i = 120 := f.2
  unfold escP
  rw [if_neg (by omega), if_pos e0]
  unfold escX
  rw [if_neg (by omega), f1.2, ha]
  simp only []
  rw [if_neg (by omega), f2.2, hb]
  rfl
theorem at_dot (d g : Nat) : AtX d g [46] g fun out => (out ++ [pSet (runs (inR [(0, 9), (11, 255)]))], out.length) := by
  refine ⟨by simp, by show ¬ cntC 46; unfold cntC; omega, by show (46 : Nat) ≠ 124; decide, by show (46 : Nat) ≠ 41; decide, fun l i out hf => ?_⟩
  have f := hf.at0
  have e0 : at_ l i = 46 := f.2
  unfold atomP
  rw [if_neg (by omega), if_neg (by omega), if_pos e0]
  rfl
theorem at_sta (d g : Nat) : AtX d g [94] g fun out => (out ++ [pSta], out.length) := by
  refine ⟨by simp, by show ¬ cntC 94; unfold cntC; omega, by show (94 : Nat) ≠ 124; decide, by show (94 : Nat) ≠ 41; decide, fun l i out hf => ?_⟩
  have f := hf.at0
  have e0 : at_ l i = 94 := f.2
  unfold atomP
  rw [if_neg (by omega), if_neg (by omega), if_neg (by omega), if_pos e0]
  rfl
theorem at_end (d g : Nat) : AtX d g [36] g fun out => (out ++ [pEnd], out.length) := by
  refine ⟨by simp, by show ¬ cntC 36; unfold cntC; omega, by show (36 : Nat) ≠ 124; decide, by show (36 : Nat) ≠ 41; decide, fun l i out hf => ?_⟩
  have f := hf.at0
  have e0 : at_ l i = 36 := f.2
  unfold atomP
  rw [if_neg (by omega), if_neg (by omega), if_neg (by omega), if_neg (by omega), if_pos e0]
  rfl
theorem at_cls (d g : Nat) {s : Bytes} {rs : List (Int × Int)} (h : ∀ (l : Bytes) (i : Nat), Fit l i (91 :: s) → setP l i = .ok (i + (91 :: s).length, rs)) : AtX d g (91 :: s) g fun out => (out ++ [pSet rs], out.length) := by
  refine ⟨by simp, by show ¬ cntC 91; unfold cntC; omega, by show (91 : Nat) ≠ 124; decide, by show (91 : Nat) ≠ 41; decide, fun l i out hf => ?_⟩
  have f := hf.at0
  have e0 : at_ l i = 91 := f.2
  unfold atomP
  rw [if_neg (by omega), if_pos e0, h l i hf]
end Go.Vc
/- Drawn patterns are read: their parts. No statement of the seat is proved here. -/
namespace Go.Vc
set_option linter.unusedVariables false
set_option linter.unusedSimpArgs false
/-- Nothing holds it to the text's end. -/
def NE (ps : List Pc) : Prop := ∀ x ∈ ps, x.kind ≠ 7
theorem NE.app {ps : List Pc} (h : NE ps) {x : Pc} (hx : x.kind ≠ 7) : NE (ps ++ [x]) := by
  intro y hy
  rcases List.mem_append.1 hy with hy | hy
  · exact h y hy
  · rw [List.mem_singleton.1 hy]; exact hx
theorem NE.nil : NE [] := by intro x hx; cases hx
theorem NE.alt {ps : List Pc} (h : NE ps) (kids : List Int) : NE (altO ps kids).1 := by
  match kids with
  | [] => exact h.app (by simp [pAlt])
  | [k] => exact h
  | a :: b :: r => exact h.app (by simp [pAlt])
def SqS (pl : Bool) (d g : Nat) (s : Bytes) (g' : Nat) : Prop := ∃ F, SqX d g s g' F ∧ (pl = true → ∀ out kids, NE out → NE (F out kids).1)
def PtS (pl : Bool) (d g : Nat) (s : Bytes) (g' : Nat) : Prop := ∃ F, PtX d g s g' F ∧ (pl = true → ∀ out kids, NE out → NE (F out kids).1)
def AtS (pl : Bool) (d g : Nat) (s : Bytes) (g' : Nat) : Prop := ∃ A, AtX d g s g' A ∧ (pl = true → ∀ out, NE out → NE (A out).1)
def CnS (s : Bytes) : Prop := ∃ a b z, CnX s a b z
theorem SqS.nil (pl : Bool) (d g : Nat) : SqS pl d g [] g := ⟨_, SqX.nil d g, fun _ out kids h => h⟩
theorem SqS.app {pl : Bool} {d g g1 g2 : Nat} {s t : Bytes} (h : SqS pl d g s g1) (k : SqS pl d g1 t g2) : SqS pl d g (s ++ t) g2 := by
  obtain ⟨F, hF, nF⟩ := h
  obtain ⟨G, hG, nG⟩ := k
  exact ⟨_, hF.app hG, fun hp out kids hn => nG hp _ _ (nF hp _ _ hn)⟩
theorem AtS.one {pl : Bool} {d g g' : Nat} {s : Bytes} (h : AtS pl d g s g') : SqS pl d g s g' := by
  obtain ⟨A, hA, nA⟩ := h
  exact ⟨_, hA.one, fun hp out kids hn => nA hp out hn⟩
theorem AtS.cnt {pl : Bool} {d g g' : Nat} {s c : Bytes} (h : AtS pl d g s g') (k : CnS c) : SqS pl d g (s ++ c) g' := by
  obtain ⟨A, hA, nA⟩ := h
  obtain ⟨a, b, z, hk⟩ := k
  exact ⟨_, hA.cnt hk, fun hp out kids hn => (nA hp out hn).app (by simp [pRep])⟩
theorem SqS.pat {pl : Bool} {d g g' : Nat} {s : Bytes} (h : SqS pl d g s g') : PtS pl d g s g' := by
  obtain ⟨F, hF, nF⟩ := h
  exact ⟨_, hF.pat, fun hp out kids hn => (nF hp out [] hn).app (by simp [pSeq])⟩
theorem PtS.alt {pl : Bool} {d g g1 g2 : Nat} {s y : Bytes} (h : SqS pl d g s g1) (k : PtS pl d g1 y g2) : PtS pl d g (s ++ 124 :: y) g2 := by
  obtain ⟨F, hF, nF⟩ := h
  obtain ⟨G, hG, nG⟩ := k
  exact ⟨_, PtX.alt hF hG, fun hp out kids hn => nG hp _ _ ((nF hp out [] hn).app (by simp [pSeq]))⟩
theorem PtS.grp {pl : Bool} {d g g' : Nat} {y : Bytes} (h : PtS pl d (g + 1) y g') (hg : g < 9) : AtS pl (d + 1) g (40 :: (y ++ [41])) g' := by
  obtain ⟨F, hF, nF⟩ := h
  exact ⟨_, hF.grp hg, fun hp out hn => ((nF hp out [] hn).alt _).app (by simp [pGrp])⟩
theorem PtS.read {pl : Bool} {s : Bytes} {g' : Nat} (h : PtS pl 6 0 s g') (hl : s.length ≤ 120) : (readP s).ok = true ∧ (pl = true → NE (readP s).pieces) := by
  obtain ⟨F, hF, nF⟩ := h
  rw [hF.read hl]
  exact ⟨rfl, fun hp => (nF hp [] [] NE.nil).alt _⟩
/-! ### Sets in brackets -/
theorem cls_lit {l : Bytes} {i c : Nat} {first : Bool} {rs : Rs} (h : i + 1 < l.length) (e : at_ l i = c) (h1 : ¬ (first = false ∧ c = 93)) (h2 : c ≠ 92) (h3 : at_ l (i + 1) ≠ 45) : clsP l i first rs = clsP l (i + 1) false (rs ++ [(c, c)]) := by
  have hp : partP l i = .ok (i + 1, [(c, c)], some c) := by unfold partP; rw [if_neg (by omega), e]
  rw [clsP_one (by omega) (by rw [e]; exact h1) hp, if_neg (by omega), if_pos h3]
theorem cls_dash {l : Bytes} {i c : Nat} {first : Bool} {rs : Rs} (h : i + 2 < l.length) (e : at_ l i = c) (h1 : ¬ (first = false ∧ c = 93)) (h2 : c ≠ 92) (h3 : at_ l (i + 1) = 45) (h4 : at_ l (i + 2) = 93) : clsP l i first rs = clsP l (i + 1) false (rs ++ [(c, c)]) := by
  have hp : partP l i = .ok (i + 1, [(c, c)], some c) := by unfold partP; rw [if_neg (by omega), e]
  rw [clsP_one (by omega) (by rw [e]; exact h1) hp, if_neg (by omega), if_neg (by omega), if_neg (by omega), if_pos h4]
theorem cls_rng {l : Bytes} {i c d : Nat} {first : Bool} {rs : Rs} (h : i + 2 < l.length) (e : at_ l i = c) (h1 : ¬ (first = false ∧ c = 93)) (h2 : c ≠ 92) (h3 : at_ l (i + 1) = 45) (h4 : at_ l (i + 2) = d) (h5 : d ≠ 93) (h6 : d ≠ 92) (h7 : c ≤ d) : clsP l i first rs = clsP l (i + 3) false (rs ++ [(c, c)] ++ [(c, d)]) := by
  have hp : partP l i = .ok (i + 1, [(c, c)], some c) := by unfold partP; rw [if_neg (by omega), e]
  have hq : partP l (i + 1 + 1) = .ok (i + 3, [(d, d)], some d) := by unfold partP; rw [if_neg (by rw [show i + 1 + 1 = i + 2 from rfl, h4]; exact h6), show i + 1 + 1 = i + 2 from rfl, h4]
  rw [clsP_one (by omega) (by rw [e]; exact h1) hp, if_neg (by omega), if_neg (by omega), if_neg (by omega), if_neg (by rw [show i + 1 + 1 = i + 2 from rfl, h4]; exact h5), hq]
  simp only []
  rw [if_neg (by omega)]
theorem cls_many {l : Bytes} {i j : Nat} {r : Rs} {first : Bool} {rs : Rs} (h : i < l.length) (e : at_ l i = 92) (hp : escP l (i + 1) = .ok (j, r, none)) : clsP l i first rs = clsP l j false (rs ++ r) :=
  clsP_many h (by omega) (by unfold partP; rw [if_pos e]; exact hp)
theorem cls_hex {l : Bytes} {i j k v u : Nat} {r r' : Rs} {first : Bool} {rs : Rs} (h : i < l.length) (e : at_ l i = 92) (hp : escP l (i + 1) = .ok (j, r, some v)) (hj : j + 1 < l.length) (h3 : at_ l j = 45) (h4 : at_ l (j + 1) = 92) (hq : escP l (j + 1 + 1) = .ok (k, r', some u)) (hv : v ≤ u) : clsP l i first rs = clsP l k false (rs ++ r ++ [(v, u)]) := by
  have hp' : partP l i = .ok (j, r, some v) := by unfold partP; rw [if_pos e]; exact hp
  have hq' : partP l (j + 1) = .ok (k, r', some u) := by unfold partP; rw [if_pos h4]; exact hq
  rw [clsP_one h (by omega) hp', if_neg (by omega), if_neg (by omega), if_neg (by omega), if_neg (by omega), hq']
  simp only []
  rw [if_neg (by omega)]
theorem set_in {l : Bytes} {i : Nat} (h : i + 1 < l.length) (h1 : at_ l (i + 1) ≠ 94) : setP l i = clsFin false (clsP l (i + 1) true []) := by
  unfold setP; rw [if_neg (by omega), if_neg h1, decide_eq_false h1]
theorem set_not {l : Bytes} {i : Nat} (h : i + 1 < l.length) (h1 : at_ l (i + 1) = 94) : setP l i = clsFin true (clsP l (i + 2) true []) := by
  unfold setP; rw [if_neg (by omega), if_pos h1, decide_eq_true h1]
theorem set0 : ∃ rs, ∀ (l : Bytes) (i : Nat), Fit l i [91, 97, 98, 93] → setP l i = .ok (i + [91, 97, 98, 93].length, rs) := by
  refine ⟨?_, fun l i hf => ?_⟩
  rotate_left
  · have hl := hf.le
    simp only [List.length_cons, List.length_nil] at hl
    have e0 : at_ l (i + 0) = 91 := hf.2 0 (by decide)
    have e1 : at_ l (i + 1) = 97 := hf.2 1 (by decide)
    have e2 : at_ l (i + 2) = 98 := hf.2 2 (by decide)
    have e3 : at_ l (i + 3) = 93 := hf.2 3 (by decide)
    rw [set_in (by omega) (by omega), cls_lit (by omega) e1 (by simp) (by omega) (show at_ l (i + 2) ≠ 45 by omega), cls_lit (by omega) e2 (by omega) (by omega) (show at_ l (i + 3) ≠ 45 by omega), clsP_end (by omega) rfl e3]
    rfl
theorem set1 : ∃ rs, ∀ (l : Bytes) (i : Nat), Fit l i [91, 94, 97, 93] → setP l i = .ok (i + [91, 94, 97, 93].length, rs) := by
  refine ⟨?_, fun l i hf => ?_⟩
  rotate_left
  · have hl := hf.le
    simp only [List.length_cons, List.length_nil] at hl
    have e0 : at_ l (i + 0) = 91 := hf.2 0 (by decide)
    have e1 : at_ l (i + 1) = 94 := hf.2 1 (by decide)
    have e2 : at_ l (i + 2) = 97 := hf.2 2 (by decide)
    have e3 : at_ l (i + 3) = 93 := hf.2 3 (by decide)
    rw [set_not (by omega) e1, cls_lit (by omega) e2 (by simp) (by omega) (show at_ l (i + 3) ≠ 45 by omega), clsP_end (by omega) rfl e3]
    rfl
theorem set2 : ∃ rs, ∀ (l : Bytes) (i : Nat), Fit l i [91, 97, 45, 99, 93] → setP l i = .ok (i + [91, 97, 45, 99, 93].length, rs) := by
  refine ⟨?_, fun l i hf => ?_⟩
  rotate_left
  · have hl := hf.le
    simp only [List.length_cons, List.length_nil] at hl
    have e0 : at_ l (i + 0) = 91 := hf.2 0 (by decide)
    have e1 : at_ l (i + 1) = 97 := hf.2 1 (by decide)
    have e2 : at_ l (i + 2) = 45 := hf.2 2 (by decide)
    have e3 : at_ l (i + 3) = 99 := hf.2 3 (by decide)
    have e4 : at_ l (i + 4) = 93 := hf.2 4 (by decide)
    rw [set_in (by omega) (by omega), cls_rng (by omega) e1 (by omega) (by omega) e2 e3 (by omega) (by omega) (by omega), clsP_end (by omega) rfl e4]
    rfl
theorem set3 : ∃ rs, ∀ (l : Bytes) (i : Nat), Fit l i [91, 93, 97, 93] → setP l i = .ok (i + [91, 93, 97, 93].length, rs) := by
  refine ⟨?_, fun l i hf => ?_⟩
  rotate_left
  · have hl := hf.le
    simp only [List.length_cons, List.length_nil] at hl
    have e0 : at_ l (i + 0) = 91 := hf.2 0 (by decide)
    have e1 : at_ l (i + 1) = 93 := hf.2 1 (by decide)
    have e2 : at_ l (i + 2) = 97 := hf.2 2 (by decide)
    have e3 : at_ l (i + 3) = 93 := hf.2 3 (by decide)
    rw [set_in (by omega) (by omega), cls_lit (by omega) e1 (by simp) (by omega) (show at_ l (i + 2) ≠ 45 by omega), cls_lit (by omega) e2 (by omega) (by omega) (show at_ l (i + 3) ≠ 45 by omega), clsP_end (by omega) rfl e3]
    rfl
theorem set4 : ∃ rs, ∀ (l : Bytes) (i : Nat), Fit l i [91, 94, 93, 93] → setP l i = .ok (i + [91, 94, 93, 93].length, rs) := by
  refine ⟨?_, fun l i hf => ?_⟩
  rotate_left
  · have hl := hf.le
    simp only [List.length_cons, List.length_nil] at hl
    have e0 : at_ l (i + 0) = 91 := hf.2 0 (by decide)
    have e1 : at_ l (i + 1) = 94 := hf.2 1 (by decide)
    have e2 : at_ l (i + 2) = 93 := hf.2 2 (by decide)
    have e3 : at_ l (i + 3) = 93 := hf.2 3 (by decide)
    rw [set_not (by omega) e1, cls_lit (by omega) e2 (by simp) (by omega) (show at_ l (i + 3) ≠ 45 by omega), clsP_end (by omega) rfl e3]
    rfl
theorem set5 : ∃ rs, ∀ (l : Bytes) (i : Nat), Fit l i [91, 97, 45, 93] → setP l i = .ok (i + [91, 97, 45, 93].length, rs) := by
  refine ⟨?_, fun l i hf => ?_⟩
  rotate_left
  · have hl := hf.le
    simp only [List.length_cons, List.length_nil] at hl
    have e0 : at_ l (i + 0) = 91 := hf.2 0 (by decide)
    have e1 : at_ l (i + 1) = 97 := hf.2 1 (by decide)
    have e2 : at_ l (i + 2) = 45 := hf.2 2 (by decide)
    have e3 : at_ l (i + 3) = 93 := hf.2 3 (by decide)
    rw [set_in (by omega) (by omega), cls_dash (by omega) e1 (by omega) (by omega) e2 e3, cls_lit (by omega) e2 (by omega) (by omega) (show at_ l (i + 3) ≠ 45 by omega), clsP_end (by omega) rfl e3]
    rfl
theorem set6 : ∃ rs, ∀ (l : Bytes) (i : Nat), Fit l i [91, 92, 119, 45, 93] → setP l i = .ok (i + [91, 92, 119, 45, 93].length, rs) := by
  refine ⟨?_, fun l i hf => ?_⟩
  rotate_left
  · have hl := hf.le
    simp only [List.length_cons, List.length_nil] at hl
    have e0 : at_ l (i + 0) = 91 := hf.2 0 (by decide)
    have e1 : at_ l (i + 1) = 92 := hf.2 1 (by decide)
    have e2 : at_ l (i + 2) = 119 := hf.2 2 (by decide)
    have e3 : at_ l (i + 3) = 45 := hf.2 3 (by decide)
    have e4 : at_ l (i + 4) = 93 := hf.2 4 (by decide)
    rw [set_in (by omega) (by omega), cls_many (j := i + 3) (by omega) e1 (esc_one (c := 119) (r := _) (o := none) rfl (by decide) l (i + 1 + 1) ⟨by simp; omega, fun k hk => by match k, hk with | 0, _ => exact e2⟩), cls_lit (by omega) e3 (by omega) (by omega) (show at_ l (i + 4) ≠ 45 by omega), clsP_end (by omega) rfl e4]
    rfl
theorem set7 : ∃ rs, ∀ (l : Bytes) (i : Nat), Fit l i [91, 92, 120, 48, 48, 45, 92, 120, 55, 102, 93] → setP l i = .ok (i + [91, 92, 120, 48, 48, 45, 92, 120, 55, 102, 93].length, rs) := by
  refine ⟨?_, fun l i hf => ?_⟩
  rotate_left
  · have hl := hf.le
    simp only [List.length_cons, List.length_nil] at hl
    have e0 : at_ l (i + 0) = 91 := hf.2 0 (by decide)
    have e1 : at_ l (i + 1) = 92 := hf.2 1 (by decide)
    have e2 : at_ l (i + 2) = 120 := hf.2 2 (by decide)
    have e3 : at_ l (i + 3) = 48 := hf.2 3 (by decide)
    have e4 : at_ l (i + 4) = 48 := hf.2 4 (by decide)
    have e5 : at_ l (i + 5) = 45 := hf.2 5 (by decide)
    have e6 : at_ l (i + 6) = 92 := hf.2 6 (by decide)
    have e7 : at_ l (i + 7) = 120 := hf.2 7 (by decide)
    have e8 : at_ l (i + 8) = 55 := hf.2 8 (by decide)
    have e9 : at_ l (i + 9) = 102 := hf.2 9 (by decide)
    have e10 : at_ l (i + 10) = 93 := hf.2 10 (by decide)
    rw [set_in (by omega) (by omega), cls_hex (j := i + 5) (k := i + 10) (v := 0) (u := 127) (r := [(0, 0)]) (r' := [(127, 127)]) (by omega) e1 (esc_hex (a := 48) (b := 48) (x := 0) (y := 0) (by decide) (by decide) l (i + 1 + 1) ⟨by simp; omega, fun k hk => by match k, hk with | 0, _ => exact e2 | 1, _ => exact e3 | 2, _ => exact e4⟩) (by omega) e5 e6 (esc_hex (a := 55) (b := 102) (x := 7) (y := 15) (by decide) (by decide) l (i + 6 + 1) ⟨by simp; omega, fun k hk => by match k, hk with | 0, _ => exact e7 | 1, _ => exact e8 | 2, _ => exact e9⟩) (by decide), clsP_end (by omega) rfl e10]
    rfl
theorem set8 : ∃ rs, ∀ (l : Bytes) (i : Nat), Fit l i [91, 94, 92, 115, 92, 100, 93] → setP l i = .ok (i + [91, 94, 92, 115, 92, 100, 93].length, rs) := by
  refine ⟨?_, fun l i hf => ?_⟩
  rotate_left
  · have hl := hf.le
    simp only [List.length_cons, List.length_nil] at hl
    have e0 : at_ l (i + 0) = 91 := hf.2 0 (by decide)
    have e1 : at_ l (i + 1) = 94 := hf.2 1 (by decide)
    have e2 : at_ l (i + 2) = 92 := hf.2 2 (by decide)
    have e3 : at_ l (i + 3) = 115 := hf.2 3 (by decide)
    have e4 : at_ l (i + 4) = 92 := hf.2 4 (by decide)
    have e5 : at_ l (i + 5) = 100 := hf.2 5 (by decide)
    have e6 : at_ l (i + 6) = 93 := hf.2 6 (by decide)
    rw [set_not (by omega) e1, cls_many (j := i + 4) (by omega) e2 (esc_one (c := 115) (r := _) (o := none) rfl (by decide) l (i + 2 + 1) ⟨by simp; omega, fun k hk => by match k, hk with | 0, _ => exact e3⟩), cls_many (j := i + 6) (by omega) e4 (esc_one (c := 100) (r := _) (o := none) rfl (by decide) l (i + 4 + 1) ⟨by simp; omega, fun k hk => by match k, hk with | 0, _ => exact e5⟩), clsP_end (by omega) rfl e6]
    rfl
theorem set9 : ∃ rs, ∀ (l : Bytes) (i : Nat), Fit l i [91, 98, 45, 98, 93] → setP l i = .ok (i + [91, 98, 45, 98, 93].length, rs) := by
  refine ⟨?_, fun l i hf => ?_⟩
  rotate_left
  · have hl := hf.le
    simp only [List.length_cons, List.length_nil] at hl
    have e0 : at_ l (i + 0) = 91 := hf.2 0 (by decide)
    have e1 : at_ l (i + 1) = 98 := hf.2 1 (by decide)
    have e2 : at_ l (i + 2) = 45 := hf.2 2 (by decide)
    have e3 : at_ l (i + 3) = 98 := hf.2 3 (by decide)
    have e4 : at_ l (i + 4) = 93 := hf.2 4 (by decide)
    rw [set_in (by omega) (by omega), cls_rng (by omega) e1 (by omega) (by omega) e2 e3 (by omega) (by omega) (by omega), clsP_end (by omega) rfl e4]
    rfl
end Go.Vc
/- The parts that a drawn pattern is made of. No statement of the seat is proved here. -/
namespace Go.Vc
set_option linter.unusedVariables false
set_option linter.unusedSimpArgs false
/-- It ends in no count. -/
def LastOk (s : Bytes) : Prop := s ≠ [] ∧ at_ s (s.length - 1) ≠ 42 ∧ at_ s (s.length - 1) ≠ 43 ∧ at_ s (s.length - 1) ≠ 63 ∧ at_ s (s.length - 1) ≠ 125
instance (s : Bytes) : Decidable (LastOk s) := by unfold LastOk; infer_instance
theorem aS_set (pl : Bool) (d g : Nat) {s : Bytes} (h : ∃ rs, ∀ (l : Bytes) (i : Nat), Fit l i (91 :: s) → setP l i = .ok (i + (91 :: s).length, rs)) : AtS pl d g (91 :: s) g := by
  obtain ⟨rs, h⟩ := h
  exact ⟨_, at_cls d g h, fun _ out hn => hn.app (by simp [pSet])⟩
theorem aS_esc (pl : Bool) (d g : Nat) {s : Bytes} {r : Rs} {o : Option Nat} (h : ∀ (l : Bytes) (i : Nat), Fit l i s → escP l i = .ok (i + s.length, r, o)) : AtS pl d g (92 :: s) g := ⟨_, at_esc d g h, fun _ out hn => hn.app (by simp [pSet])⟩
theorem aS_chr (pl : Bool) (d g : Nat) {c : UInt8} (h : 97 ≤ c.toNat ∧ c.toNat ≤ 122) : AtS pl d g [c] g := ⟨_, at_set1 d g (by omega), fun _ out hn => hn.app (by simp [pSet])⟩
theorem aS_dot (pl : Bool) (d g : Nat) : AtS pl d g [46] g := ⟨_, at_dot d g, fun _ out hn => hn.app (by simp [pSet])⟩
theorem aS_sta (pl : Bool) (d g : Nat) : AtS pl d g [94] g := ⟨_, at_sta d g, fun _ out hn => hn.app (by simp [pSta])⟩
theorem aS_end (d g : Nat) : AtS false d g [36] g := ⟨_, at_end d g, fun h => by cases h⟩
def setsD : List Bytes := [[91, 97, 98, 93], [91, 94, 97, 93], [91, 97, 45, 99, 93], [91, 93, 97, 93], [91, 94, 93, 93], [91, 97, 45, 93], [91, 92, 119, 45, 93], [91, 92, 120, 48, 48, 45, 92, 120, 55, 102, 93], [91, 94, 92, 115, 92, 100, 93], [91, 98, 45, 98, 93]]
def escsD : List Bytes := [[92, 100], [92, 119], [92, 115], [92, 110], [92, 92], [92, 46], [92, 120, 54, 49], [92, 40], [92, 45]]
def cntsD : List Bytes := [[123, 50, 125], [123, 48, 125], [123, 49, 44, 125], [123, 48, 44, 50, 125], [123, 49, 44, 51, 125], [123, 48, 44, 48, 125], [123, 50, 44, 50, 125]]
/-- An atom that is drawn. -/
def AtD (pl : Bool) (d g : Nat) (s : Bytes) (g' : Nat) : Prop := AtS pl d g s g' ∧ LastOk s
theorem setsD_ok (pl : Bool) (d g : Nat) : ∀ s ∈ setsD, AtD pl d g s g ∧ s.length ≤ 11 := by
  intro s hs
  simp only [setsD, List.mem_cons, List.not_mem_nil, or_false] at hs
  rcases hs with rfl | rfl | rfl | rfl | rfl | rfl | rfl | rfl | rfl | rfl
  · exact ⟨⟨aS_set pl d g set0, by decide⟩, by decide⟩
  · exact ⟨⟨aS_set pl d g set1, by decide⟩, by decide⟩
  · exact ⟨⟨aS_set pl d g set2, by decide⟩, by decide⟩
  · exact ⟨⟨aS_set pl d g set3, by decide⟩, by decide⟩
  · exact ⟨⟨aS_set pl d g set4, by decide⟩, by decide⟩
  · exact ⟨⟨aS_set pl d g set5, by decide⟩, by decide⟩
  · exact ⟨⟨aS_set pl d g set6, by decide⟩, by decide⟩
  · exact ⟨⟨aS_set pl d g set7, by decide⟩, by decide⟩
  · exact ⟨⟨aS_set pl d g set8, by decide⟩, by decide⟩
  · exact ⟨⟨aS_set pl d g set9, by decide⟩, by decide⟩
theorem escsD_ok (pl : Bool) (d g : Nat) : ∀ s ∈ escsD, AtD pl d g s g ∧ s.length ≤ 11 := by
  intro s hs
  simp only [escsD, List.mem_cons, List.not_mem_nil, or_false] at hs
  rcases hs with rfl | rfl | rfl | rfl | rfl | rfl | rfl | rfl | rfl
  · exact ⟨⟨aS_esc pl d g (esc_one (c := 100) rfl (by decide)), by decide⟩, by decide⟩
  · exact ⟨⟨aS_esc pl d g (esc_one (c := 119) rfl (by decide)), by decide⟩, by decide⟩
  · exact ⟨⟨aS_esc pl d g (esc_one (c := 115) rfl (by decide)), by decide⟩, by decide⟩
  · exact ⟨⟨aS_esc pl d g (esc_one (c := 110) rfl (by decide)), by decide⟩, by decide⟩
  · exact ⟨⟨aS_esc pl d g (esc_one (c := 92) rfl (by decide)), by decide⟩, by decide⟩
  · exact ⟨⟨aS_esc pl d g (esc_one (c := 46) rfl (by decide)), by decide⟩, by decide⟩
  · exact ⟨⟨aS_esc pl d g (esc_hex (a := 54) (b := 49) (x := 6) (y := 1) (by decide) (by decide)), by decide⟩, by decide⟩
  · exact ⟨⟨aS_esc pl d g (esc_one (c := 40) rfl (by decide)), by decide⟩, by decide⟩
  · exact ⟨⟨aS_esc pl d g (esc_one (c := 45) rfl (by decide)), by decide⟩, by decide⟩
/-- A count, lazy or not. -/
def CnD (c : Bytes) : Prop := CnS c ∧ CnS (c ++ [63])
theorem cnD_of {c : Bytes} {a b : Int} (h : ∀ z, CnX (c ++ lzT z) a b z) : CnD c := ⟨⟨a, b, false, by have := h false; rwa [show c ++ lzT false = c from by simp [lzT]] at this⟩, ⟨a, b, true, h true⟩⟩
theorem cntsD_ok : ∀ s ∈ cntsD, CnD s ∧ s.length ≤ 5 := by
  intro s hs
  simp only [cntsD, List.mem_cons, List.not_mem_nil, or_false] at hs
  rcases hs with rfl | rfl | rfl | rfl | rfl | rfl | rfl
  · exact ⟨cnD_of fun z => cn_bra (bra_one (m := 2) (by decide)) z, by decide⟩
  · exact ⟨cnD_of fun z => cn_bra (bra_one (m := 0) (by decide)) z, by decide⟩
  · exact ⟨cnD_of fun z => cn_bra (bra_from (m := 1) (by decide)) z, by decide⟩
  · exact ⟨cnD_of fun z => cn_bra (bra_two (m := 0) (n := 2) (by decide) (by decide) (by decide)) z, by decide⟩
  · exact ⟨cnD_of fun z => cn_bra (bra_two (m := 1) (n := 3) (by decide) (by decide) (by decide)) z, by decide⟩
  · exact ⟨cnD_of fun z => cn_bra (bra_two (m := 0) (n := 0) (by decide) (by decide) (by decide)) z, by decide⟩
  · exact ⟨cnD_of fun z => cn_bra (bra_two (m := 2) (n := 2) (by decide) (by decide) (by decide)) z, by decide⟩
theorem cnD_star : CnD [42] := cnD_of cn_star
theorem cnD_plus : CnD [43] := cnD_of cn_plus
theorem cnD_opt : CnD [63] := cnD_of cn_opt
/-- An atom with its count, if any. -/
def ElD (pl : Bool) (d g : Nat) (s : Bytes) (g' : Nat) : Prop := s ≠ [] ∧ SqS pl d g s g' ∧ (at_ s (s.length - 1) = 42 ∨ at_ s (s.length - 1) = 43 ∨ at_ s (s.length - 1) = 63 ∨ at_ s (s.length - 1) = 125 → SqS pl d g (s ++ [63]) g')
theorem AtD.el {pl : Bool} {d g g' : Nat} {s : Bytes} (h : AtD pl d g s g') : ElD pl d g s g' := ⟨h.2.1, h.1.one, fun hl => by have := h.2.2; omega⟩
theorem AtD.elc {pl : Bool} {d g g' : Nat} {s c : Bytes} (h : AtD pl d g s g') (k : CnD c) : ElD pl d g (s ++ c) g' := ⟨by simp [h.2.1], h.1.cnt k.1, fun _ => by rw [List.append_assoc]; exact h.1.cnt k.2⟩
theorem lastOk_grp (y : Bytes) : LastOk (40 :: (y ++ [41])) := by
  have e : at_ (40 :: (y ++ [41])) ((40 :: (y ++ [41])).length - 1) = 41 := by
    have := at_app_r (s := 40 :: y) (t := [41]) (k := 0)
    rw [show (40 :: (y ++ [41])).length - 1 = (40 :: y).length + 0 from by simp]
    exact this
  unfold LastOk
  rw [e]
  exact ⟨by simp, by decide, by decide, by decide, by decide⟩
theorem PtS.grpD {pl : Bool} {d g g' : Nat} {y : Bytes} (h : PtS pl d (g + 1) y g') (hg : g < 9) : AtD pl (d + 1) g (40 :: (y ++ [41])) g' := ⟨h.grp hg, lastOk_grp y⟩
end Go.Vc
/- The drawing of a pattern: it ends, and what it draws is read. No statement of the seat is proved here. -/
namespace Go.Proofs.Ytngbiaeliphdjaa.V
open Go.Vc Go.Proofs Go.RowKit
set_option linter.unusedVariables false
set_option linter.unusedSimpArgs false
theorem Cur.le {w : World} {b B : Nat} {a : Option Addr} {l c m : Nat} (h : Cur w b B a l c m) : m ≤ 1125899906842624 := by
  obtain ⟨⟨p, sd, _, _, h⟩, _⟩ := h
  have := h.1; omega
theorem cell_pick {h : Array Obj} {b : Nat} {ss : List Bytes} (k : Blk h b 9 (ss.map fun s => .string (B s))) {q : Nat} (hq : q < ss.length) : cellH h b (0 + Int.toNat (q : Int) * 1) = some (.string (B ss[q])) := by
  rw [show 0 + Int.toNat (q : Int) * 1 = q from by omega, k.cell]
  simp [hq]
theorem byteAt_B (s : Bytes) (i : Nat) : byteAt (B s) i = (at_ s i : Int) := by rw [byteAt_at, L_B]
/-- The contract of pattern, in so much depth yet. -/
def PatD (n : Nat) : Prop := ∀ (m : Nat) (w : World) (b M : Nat) (a : Option Addr) (l c : Nat) (g : Nat) (pl : Bool), 5059 ≤ m → g ≤ 9 → Cur w b M a l c m →
  Cl Try.prog 107 [.pointer (some ⟨b, 0, none⟩), .int .i64 (n : Int), .int .i64 (g : Int), .bool pl] w (Drew w b M a l c fun v m' => m' < m ∧ 5059 ≤ m' + 14 * n + 17 ∧ ∃ (s : Bytes) (g' : Nat), v = .tuple #[.string (B s), .int .i64 (g' : Int)] ∧ g' ≤ g ∧ PtS pl (n + 3) (9 - g) s (9 - g') ∧ s.length ≤ 32 * (m - m'))
set_option maxHeartbeats 4000000 in
theorem pat_ok : ∀ n, n ≤ 3 → PatD n := by
  intro n
  induction n using Nat.strongRecOn with
  | _ n ihd =>
  intro hn m
  induction m using Nat.strongRecOn with
  | _ m ihm =>
  intro w b M a l c g pl hm hg hC
  have hm50 := hC.le
  apply vc107
  unfold V107
  refine (pick_ok hC (by omega) 4 (by omega) (by omega)).use fun e w7 he => ?_
  obtain ⟨_, m7, rfl, ⟨q1, q2, r, rfl, hr, _⟩, hC7, e7⟩ := he
  refine ⟨r, rfl, fun k n14 s15 n16 w' => ∃ (gi : Nat) (xs : Bytes) (mi : Nat), n14 = gi ∧ s15 = B xs ∧ n16 = k ∧ k ≤ 3 ∧ gi ≤ g ∧ SqS pl (n + 3) (9 - g) xs (9 - gi) ∧ xs.length ≤ 32 * (m - mi) ∧ mi < m ∧ 5059 + 5 * k ≤ mi + (14 * n + 3) + 13 ∧ Cur w' b M a l c mi ∧ Ext (fun k => k = b) w w', ⟨r, g, [], m7, rfl, rfl, rfl, by omega, by omega, SqS.nil _ _ _, by simp, by omega, by omega, hC7, e7⟩, ?_⟩
  rintro k d _ _ _ w12 ⟨gi, xs, mi, rfl, rfl, rfl, hk, hgi, hsq, hxs, hmi, hbd, hCi, hEi⟩
  refine ⟨fun g1 => ?_, fun g1 => ?_⟩
  · have hk0 : 0 < k := by have := of_decide_eq_true g1; omega
    refine (pick_ok hCi (by omega) 12 (by omega) (by omega)).use fun e w18 he => ?_
    obtain ⟨_, m1, rfl, ⟨p1, p2, r12, rfl, hr12, hwin⟩, hC1, e1⟩ := he
    have hE1 := hEi.trans e1
    refine ⟨r12, rfl, fun z s w' => ∃ (g' : Nat) (x : Bytes) (mA : Nat), z = g' ∧ s = B x ∧ g' ≤ gi ∧ AtD pl (n + 3) (9 - gi) x (9 - g') ∧ x.length + 32 * mA ≤ 11 + 32 * m1 ∧ mA ≤ m1 ∧ 5059 + 5 * k ≤ mA + (14 * n + 3) + 15 ∧ Cur w' b M a l c mA ∧ Ext (fun k => k = b) w w', ?_, ?_⟩
    · have J : ∀ {x : Bytes} {w' : World} {mA : Nat}, AtD pl (n + 3) (9 - gi) x (9 - gi) ∧ x.length ≤ 11 → mA ≤ m1 → min (m1 - 1) 5059 ≤ mA → Cur w' b M a l c mA → Ext (fun k => k = b) w w' → ∃ (g' : Nat) (x' : Bytes) (mA : Nat), (gi : Int) = g' ∧ B x = B x' ∧ g' ≤ gi ∧ AtD pl (n + 3) (9 - gi) x' (9 - g') ∧ x'.length + 32 * mA ≤ 11 + 32 * m1 ∧ mA ≤ m1 ∧ 5059 + 5 * k ≤ mA + (14 * n + 3) + 15 ∧ Cur w' b M a l c mA ∧ Ext (fun k => k = b) w w' :=
        fun h1 h2 h3 h4 h5 => ⟨gi, _, _, rfl, rfl, Nat.le_refl _, h1.1, by have := h1.2; omega, h2, by omega, h4, h5⟩
      have chr : ∀ {y : UInt8}, 97 ≤ y.toNat ∧ y.toNat ≤ 122 → AtD pl (n + 3) (9 - gi) [y] (9 - gi) ∧ [y].length ≤ 11 := fun {y} h => ⟨⟨aS_chr _ _ _ h, by
        have e : at_ [y] ([y].length - 1) = y.toNat := rfl
        unfold LastOk; rw [e]; exact ⟨by simp, by omega, by omega, by omega, by omega⟩⟩, by simp⟩
      -- one of some texts
      have lst : ∀ {ss : List Bytes} {K : ByteArray → World → Prop}, 2 ≤ ss.length → ss.length ≤ 100 → (∀ s ∈ ss, AtD pl (n + 3) (9 - gi) s (9 - gi) ∧ s.length ≤ 11) → (∀ {x : Bytes} {w' : World}, (∃ (g' : Nat) (x' : Bytes) (mA : Nat), (gi : Int) = g' ∧ B x = B x' ∧ g' ≤ gi ∧ AtD pl (n + 3) (9 - gi) x' (9 - g') ∧ x'.length + 32 * mA ≤ 11 + 32 * m1 ∧ mA ≤ m1 ∧ 5059 + 5 * k ≤ mA + (14 * n + 3) + 15 ∧ Cur w' b M a l c mA ∧ Ext (fun k => k = b) w w') → K (B x) w') → ∀ {R : Rt}, newC (ss.map fun s => .string (B s)) 9 (fun b21 w22 => clI 82 ([.pointer (some ⟨b, 0, none⟩), .int .i64 ((ss.length : Nat) : Int)]) w22 R fun n23 w24 => ixS (some ⟨b21, 0, none⟩) ss.length n23 fun b26 o27 => lS w24 b26 (o27 + (Int.toNat n23) * 1) fun s28 => K s28 w24) w18 := by
        intro ss K h2 h100 hss hK R
        refine newC_in fun w22 s22 k22 e22 => ?_
        refine (pick_ok (hC1.ext e22 fun _ _ h => h) (by omega) ss.length h2 (by omega)).use fun e w24 he => ?_
        obtain ⟨_, m2, rfl, ⟨h3, h4, q, rfl, hq, _⟩, hC2, e2⟩ := he
        have k24 := k22.keep e2 (by have := hC1.lt; omega)
        exact ⟨q, rfl, _, 0, ⟨rfl, by omega, by omega⟩, _, cell_pick k24 hq, hK (J (hss _ (List.getElem_mem hq)) (by omega) h4 hC2 ((hE1.trans (Ext.mono e22 fun _ _ h => h.elim)).trans e2))⟩
      have hgrp : ∀ {KK : Int → ByteArray → World → Prop} {R : Rt}, (∀ {z : Nat} {x : Bytes} {w' : World}, (∃ (g' : Nat) (x' : Bytes) (mA : Nat), (z : Int) = g' ∧ B x = B x' ∧ g' ≤ gi ∧ AtD pl (n + 3) (9 - gi) x' (9 - g') ∧ x'.length + 32 * mA ≤ 11 + 32 * m1 ∧ mA ≤ m1 ∧ 5059 + 5 * k ≤ mA + (14 * n + 3) + 15 ∧ Cur w' b M a l c mA ∧ Ext (fun k => k = b) w w') → KK z (B x) w') → (r12 = 4 ∨ r12 = 5 ∨ r12 = 6) →
          (cB (decide ((gi : Int) > 0)) ((cB (decide ((n : Int) > 0)) (clV 107 ([.pointer (some ⟨b, 0, none⟩), .int .i64 (IntKind.wrap .i64 ((n : Int) - 1)), .int .i64 (IntKind.wrap .i64 ((gi : Int) - 1)), .bool pl]) w18 R fun r48 w47 => ∃ (s45 : ByteArray), ∃ (n46 : Int), r48 = .tuple #[.string s45, .int .i64 n46] ∧ ((⟨#[40]⟩ : ByteArray).size + s45.size ≤ 9223372036854775807) ∧ (((⟨#[40]⟩ : ByteArray) ++ s45).size + (⟨#[41]⟩ : ByteArray).size ≤ 9223372036854775807) ∧ KK n46 (((⟨#[40]⟩ : ByteArray) ++ s45) ++ (⟨#[41]⟩ : ByteArray)) w47) (KK gi (⟨#[98]⟩ : ByteArray) w18))) (KK gi (⟨#[98]⟩ : ByteArray) w18)) := by
        intro KK R hK h456
        have hb : KK gi (⟨#[98]⟩ : ByteArray) w18 := hK (z := gi) (x := [98]) (J (chr (y := 98) (by decide)) (Nat.le_refl _) (by omega) hC1 hE1)
        have hmi2 : 5059 < mi := by
          by_cases h : 5059 < mi
          · exact h
          · have := (hwin (by omega) (by omega)).1 rfl; omega
        refine ⟨fun h1 => ⟨fun h2 => ?_, fun _ => hb⟩, fun _ => hb⟩
        have h1' : 0 < gi := by have := of_decide_eq_true h1; omega
        have h2' : 0 < n := by have := of_decide_eq_true h2; omega
        have t1 : IntKind.wrap .i64 ((n : Int) - 1) = ((n - 1 : Nat) : Int) := by rw [w64 (by omega)]; omega
        have t2 : IntKind.wrap .i64 ((gi : Int) - 1) = ((gi - 1 : Nat) : Int) := by rw [w64 (by omega)]; omega
        rw [t1, t2]
        refine (ihd (n - 1) (by omega) (by omega) m1 w18 b M a l c (gi - 1) pl (by omega) (by omega) hC1).use fun e w47 he => ?_
        obtain ⟨_, m2, rfl, ⟨z1, z2, y, g2, rfl, hg2, hpt, hyl⟩, hC2, e2⟩ := he
        refine ⟨B y, g2, rfl, ?_, ?_, ?_⟩
        · rw [size_B]; show 1 + _ ≤ _; omega
        · rw [show (⟨#[40]⟩ : ByteArray) = B [40] from rfl, B_append, size_B]; show _ + 1 ≤ _; simp; omega
        · rw [show (⟨#[40]⟩ : ByteArray) = B [40] from rfl, show (⟨#[41]⟩ : ByteArray) = B [41] from rfl, B_append, B_append]
          rw [show n - 1 + 3 = n + 2 from by omega, show 9 - (gi - 1) = 9 - gi + 1 from by omega] at hpt
          have hat := hpt.grpD (by omega)
          refine hK (z := g2) ⟨g2, _, m2, rfl, rfl, by omega, hat, ?_, by omega, by omega, hC2, hE1.trans e2⟩
          simp; omega
      refine ⟨fun _ => ?_, fun _ => ⟨fun _ => ?_, fun _ => ⟨fun _ => ?_, fun _ => ⟨fun _ => ⟨fun hp => ?_, fun hp => ?_⟩, fun _ => ⟨fun h4 => ?_, fun _ => ⟨fun h5 => ?_, fun _ => ⟨fun h6 => ?_, fun _ => ?_⟩⟩⟩⟩⟩⟩⟩
      · exact J (x := [46]) ⟨⟨aS_dot _ _ _, by decide⟩, by decide⟩ (Nat.le_refl _) (by omega) hC1 hE1
      · exact lst (ss := setsD) (by decide) (by decide) (setsD_ok pl (n + 3) (9 - gi)) fun h => h
      · exact lst (ss := escsD) (by decide) (by decide) (escsD_ok pl (n + 3) (9 - gi)) fun h => h
      · exact J (x := [97]) (chr (by decide)) (Nat.le_refl _) (by omega) hC1 hE1
      · subst hp
        refine lst (ss := [[94], [36]]) (by decide) (by decide) (fun s hs => ?_) fun h => h
        simp only [List.mem_cons, List.not_mem_nil, or_false] at hs
        rcases hs with rfl | rfl
        · exact ⟨⟨aS_sta _ _ _, by decide⟩, by decide⟩
        · exact ⟨⟨aS_end _ _, by decide⟩, by decide⟩
      · exact hgrp (KK := fun z s w' => ∃ (g' : Nat) (x : Bytes) (mA : Nat), z = g' ∧ s = B x ∧ g' ≤ gi ∧ AtD pl (n + 3) (9 - gi) x (9 - g') ∧ x.length + 32 * mA ≤ 11 + 32 * m1 ∧ mA ≤ m1 ∧ 5059 + 5 * k ≤ mA + (14 * n + 3) + 15 ∧ Cur w' b M a l c mA ∧ Ext (fun k => k = b) w w') (fun h => h) (.inl (by have : (r12 : Int) = 4 := (by simpa using h4); omega))
      · exact hgrp (KK := fun z s w' => ∃ (g' : Nat) (x : Bytes) (mA : Nat), z = g' ∧ s = B x ∧ g' ≤ gi ∧ AtD pl (n + 3) (9 - gi) x (9 - g') ∧ x.length + 32 * mA ≤ 11 + 32 * m1 ∧ mA ≤ m1 ∧ 5059 + 5 * k ≤ mA + (14 * n + 3) + 15 ∧ Cur w' b M a l c mA ∧ Ext (fun k => k = b) w w') (fun h => h) (.inr (.inl (by have : (r12 : Int) = 5 := (by simpa using h5); omega)))
      · exact hgrp (KK := fun z s w' => ∃ (g' : Nat) (x : Bytes) (mA : Nat), z = g' ∧ s = B x ∧ g' ≤ gi ∧ AtD pl (n + 3) (9 - gi) x (9 - g') ∧ x.length + 32 * mA ≤ 11 + 32 * m1 ∧ mA ≤ m1 ∧ 5059 + 5 * k ≤ mA + (14 * n + 3) + 15 ∧ Cur w' b M a l c mA ∧ Ext (fun k => k = b) w w') (fun h => h) (.inr (.inr (by have : (r12 : Int) = 6 := (by simpa using h6); omega)))
      · refine (pick_ok hC1 (by omega) 3 (by omega) (by omega)).use fun e w58 he => ?_
        obtain ⟨_, m2, rfl, ⟨h3, h4, q, rfl, hq, _⟩, hC2, e2⟩ := he
        refine ⟨q, rfl, ?_⟩
        have hy : IntKind.wrap .u8 (IntKind.wrap .i64 (97 + (q : Int))) = ((UInt8.ofNat (97 + q)).toNat : Int) := by
          rw [w64 (by omega), w8, u8N (by omega)]; omega
        refine strOf (w0 := w58) hy (Below.refl _ _) fun w' hb' => ?_
        exact J (chr (by rw [u8N (by omega)]; omega)) (by omega) h4 (hC2.below hb') ((hE1.trans e2).trans (Ext.of_below hb'))
    · rintro d63 _ _ w66 ⟨g', x, mA, rfl, rfl, hg', hat, hxl, hmA, hbA, hCA, hEA⟩
      refine (pick_ok hCA (by omega) 9 (by omega) (by omega)).use fun e w68 he => ?_
      obtain ⟨_, mB, rfl, ⟨p3, p4, q9, rfl, hq9, _⟩, hCB, eB⟩ := he
      have hEB := hEA.trans eB
      refine ⟨q9, rfl, fun s w' => ∃ (y : Bytes) (mC : Nat), s = B y ∧ ElD pl (n + 3) (9 - gi) y (9 - g') ∧ y.length ≤ x.length + 5 ∧ mC ≤ mB ∧ 5059 + 5 * k ≤ mC + (14 * n + 3) + 17 ∧ Cur w' b M a l c mC ∧ Ext (fun k => k = b) w w', ?_, ?_⟩
      · have hsz : ∀ {cc : Bytes}, cc.length ≤ 5 → (B x).size + (B cc).size ≤ 9223372036854775807 := fun h => by rw [size_B, size_B]; omega
        have J : ∀ {cc : Bytes} {w' : World} {mC : Nat}, CnD cc ∧ cc.length ≤ 5 → mC ≤ mB → min (mB - 1) 5059 ≤ mC → Cur w' b M a l c mC → Ext (fun k => k = b) w w' → ∃ (y : Bytes) (mC : Nat), B x ++ B cc = B y ∧ ElD pl (n + 3) (9 - gi) y (9 - g') ∧ y.length ≤ x.length + 5 ∧ mC ≤ mB ∧ 5059 + 5 * k ≤ mC + (14 * n + 3) + 17 ∧ Cur w' b M a l c mC ∧ Ext (fun k => k = b) w w' :=
          fun h1 h2 h3 h4 h5 => ⟨_, _, B_append _ _, hat.elc h1.1, by rw [List.length_append]; have := h1.2; omega, h2, by omega, h4, h5⟩
        refine ⟨fun _ => ?_, fun _ => ⟨fun _ => ?_, fun _ => ⟨fun _ => ?_, fun _ => ⟨fun _ => ?_, fun _ => ⟨fun _ => ?_, fun _ => ?_⟩⟩⟩⟩⟩
        · exact ⟨hsz (cc := [42]) (by decide), J (cc := [42]) ⟨cnD_star, by decide⟩ (Nat.le_refl _) (by omega) hCB hEB⟩
        · exact ⟨hsz (cc := [42]) (by decide), J (cc := [42]) ⟨cnD_star, by decide⟩ (Nat.le_refl _) (by omega) hCB hEB⟩
        · exact ⟨hsz (cc := [43]) (by decide), J (cc := [43]) ⟨cnD_plus, by decide⟩ (Nat.le_refl _) (by omega) hCB hEB⟩
        · exact ⟨hsz (cc := [63]) (by decide), J (cc := [63]) ⟨cnD_opt, by decide⟩ (Nat.le_refl _) (by omega) hCB hEB⟩
        · refine newC_in fun w72 s72 k72 e72 => ?_
          refine (pick_ok (hCB.ext e72 fun _ _ h => h) (by omega) 7 (by omega) (by omega)).use fun e w74 he => ?_
          obtain ⟨_, m2, rfl, ⟨h3, h4, q, rfl, hq, _⟩, hC2, e2⟩ := he
          have k74 : Blk w74.heap w68.heap.size 9 (cntsD.map fun s => .string (B s)) := k72.keep e2 (by have := hCB.lt; omega)
          have hq' : q < cntsD.length := hq
          have hcc := cntsD_ok _ (List.getElem_mem hq')
          exact ⟨q, rfl, _, 0, ⟨rfl, by omega, by omega⟩, _, cell_pick k74 hq', hsz hcc.2, J hcc (by omega) h4 hC2 ((hEB.trans (Ext.mono e72 fun _ _ h => h.elim)).trans e2)⟩
        · exact ⟨x, mB, rfl, hat.el, by omega, Nat.le_refl _, by omega, hCB, hEB⟩
      · rintro d79 _ w81 ⟨y, mC, rfl, hel, hyl, hmC, hbC, hCC, hEC⟩
        have hy0 := List.length_pos_iff.2 hel.1
        have t1 : IntKind.wrap .i64 (((ByteArray.size (B y) : Nat) : Int) - 1) = ((y.length - 1 : Nat) : Int) := by rw [size_B, w64 (by omega)]; omega
        have t3 : IntKind.wrap .i64 ((k : Int) - 1) = ((k - 1 : Nat) : Int) := by rw [w64 (by omega)]; omega
        have t4 : IntKind.wrap .i64 (((ByteArray.size (B y) : Nat) : Int) - 2) = (y.length : Int) - 2 := by rw [size_B, w64 (by omega)]
        rw [t1, t3, t4]
        rw [show Int.toNat ((y.length - 1 : Nat) : Int) = y.length - 1 from by omega, byteAt_B]
        have fin : ∀ {yy : Bytes} {w' : World} {mD : Nat}, SqS pl (n + 3) (9 - gi) yy (9 - g') → yy.length ≤ y.length + 1 → mD ≤ mC → 5059 + 5 * k ≤ mD + (14 * n + 3) + 18 → Cur w' b M a l c mD → Ext (fun k => k = b) w w' →
            ((B xs).size + (B yy).size ≤ 9223372036854775807) ∧ ∃ m85, m85 < k ∧ ∃ (gi : Nat) (xs' : Bytes) (mi : Nat), (g' : Int) = gi ∧ B xs ++ B yy = B xs' ∧ ((k - 1 : Nat) : Int) = m85 ∧ m85 ≤ 3 ∧ gi ≤ g ∧ SqS pl (n + 3) (9 - g) xs' (9 - gi) ∧ xs'.length ≤ 32 * (m - mi) ∧ mi < m ∧ 5059 + 5 * m85 ≤ mi + (14 * n + 3) + 13 ∧ Cur w' b M a l c mi ∧ Ext (fun k => k = b) w w' :=
          fun h1 h2 h3 h4 h5 h6 => ⟨by rw [size_B, size_B]; omega, k - 1, by omega, g', _, _, rfl, B_append _ _, rfl, by omega, by omega, hsq.app h1, by rw [List.length_append]; omega, by omega, by omega, h5, h6⟩
        have plain := fun {w' : World} {mD : Nat} => fin (yy := y) (w' := w') (mD := mD) hel.2.1 (by omega)
        have hsz1 : (B y).size + (⟨#[63]⟩ : ByteArray).size ≤ 9223372036854775807 := by rw [size_B]; show _ + 1 ≤ _; omega
        have hB1 : B y ++ (⟨#[63]⟩ : ByteArray) = B (y ++ [63]) := B_append y [63]
        have lazy : (at_ y (y.length - 1) = 42 ∨ at_ y (y.length - 1) = 43 ∨ at_ y (y.length - 1) = 63 ∨ at_ y (y.length - 1) = 125) → ∀ {w' : World} {mD : Nat}, mD ≤ mC → 5059 + 5 * k ≤ mD + (14 * n + 3) + 18 → Cur w' b M a l c mD → Ext (fun k => k = b) w w' → _ := fun hl {w'} {mD} => fin (yy := y ++ [63]) (w' := w') (mD := mD) (hel.2.2 hl) (by simp)
        -- where a count may be made lazy
        have br : ∀ {KK KL : World → Prop} {R : Rt}, (∀ {w' : World} {mD : Nat}, mD ≤ mC → 5059 + 5 * k ≤ mD + (14 * n + 3) + 18 → Cur w' b M a l c mD → Ext (fun k => k = b) w w' → KK w') → (∀ {w' : World} {mD : Nat}, mD ≤ mC → 5059 + 5 * k ≤ mD + (14 * n + 3) + 18 → Cur w' b M a l c mD → Ext (fun k => k = b) w w' → KL w') →
            clI 82 ([.pointer (some ⟨b, 0, none⟩), .int .i64 3]) w81 R fun n82 w83 => (cB (n82 == 0) ((cB (decide (((ByteArray.size (B y) : Nat) : Int) > 1)) ((ixT (B y) ((y.length : Int) - 2)) ∧ (cB ((byteAt (B y) (Int.toNat ((y.length : Int) - 2))) != 92) (KL w83) (KK w83))) (KK w83))) (KK w83)) := by
          intro KK KL R hK hL
          refine (pick_ok hCC (by omega) 3 (by omega) (by omega)).use fun e w83 he => ?_
          obtain ⟨_, mD, rfl, ⟨h3, h4, q, rfl, hq, _⟩, hC2, e2⟩ := he
          have hpK := hK (by omega) (by omega) hC2 (hEC.trans e2)
          refine ⟨q, rfl, ⟨fun _ => ⟨fun h1 => ⟨⟨?_, ?_⟩, fun _ => hL (by omega) (by omega) hC2 (hEC.trans e2), fun _ => hpK⟩, fun _ => hpK⟩, fun _ => hpK⟩⟩
          · have := of_decide_eq_true h1; rw [size_B] at this; omega
          · rw [size_B]; omega
        refine ⟨⟨by omega, by rw [size_B]; omega⟩, fun h42 => ?_, fun _ => ⟨fun h43 => ?_, fun _ => ⟨fun h125 => ?_, fun _ => ⟨fun h63 => ⟨fun _ => ?_, fun _ => plain (Nat.le_refl _) (by omega) hCC hEC⟩, fun _ => plain (Nat.le_refl _) (by omega) hCC hEC⟩⟩⟩⟩
        · have hl : at_ y (y.length - 1) = 42 := by have : ((at_ y (y.length - 1) : Nat) : Int) = 42 := by simpa using h42
                                                    omega
          exact br plain fun h1 h2 h3 h4 => ⟨hsz1, by rw [hB1]; exact lazy (.inl hl) h1 h2 h3 h4⟩
        · have hl : at_ y (y.length - 1) = 43 := by have : ((at_ y (y.length - 1) : Nat) : Int) = 43 := by simpa using h43
                                                    omega
          exact br plain fun h1 h2 h3 h4 => ⟨hsz1, by rw [hB1]; exact lazy (.inr (.inl hl)) h1 h2 h3 h4⟩
        · have hl : at_ y (y.length - 1) = 125 := by have : ((at_ y (y.length - 1) : Nat) : Int) = 125 := by simpa using h125
                                                     omega
          exact br plain fun h1 h2 h3 h4 => ⟨hsz1, by rw [hB1]; exact lazy (.inr (.inr (.inr hl))) h1 h2 h3 h4⟩
        · have hl : at_ y (y.length - 1) = 63 := by have : ((at_ y (y.length - 1) : Nat) : Int) = 63 := by simpa using h63
                                                    omega
          exact br plain fun h1 h2 h3 h4 => ⟨hsz1, by rw [hB1]; exact lazy (.inr (.inr (.inl hl))) h1 h2 h3 h4⟩
  · have hk0 : k = 0 := by have := of_decide_eq_false g1; omega
    subst hk0
    refine (pick_ok hCi (by omega) 6 (by omega) (by omega)).use fun e w113 he => ?_
    obtain ⟨_, m1, rfl, ⟨p1, p2, r6, rfl, hr6, hwin⟩, hC1, e1⟩ := he
    have hE1 := hEi.trans e1
    refine ⟨r6, rfl, fun h0 => ?_, fun h0 => ⟨_, m1, rfl, ⟨by omega, by omega, xs, gi, rfl, hgi, hsq.pat, by omega⟩, hC1, hE1⟩⟩
    have hr0 : r6 = 0 := by have : (r6 : Int) = 0 := by simpa using h0
                            omega
    have hmi2 : 5059 < mi := by
      by_cases h : 5059 < mi
      · exact h
      · exact absurd hr0 ((hwin (by omega) (by omega)).2 rfl)
    refine (ihm m1 (by omega) w113 b M a l c gi pl (by omega) (by omega) hC1).use fun e w117 he => ?_
    obtain ⟨_, m2, rfl, ⟨z1, z2, y, g2, rfl, hg2, hpt, hyl⟩, hC2, e2⟩ := he
    refine ⟨B y, g2, rfl, ?_, ?_, _, m2, rfl, ⟨by omega, by omega, xs ++ 124 :: y, g2, ?_, by omega, PtS.alt hsq hpt, ?_⟩, hC2, hE1.trans e2⟩
    · rw [size_B]; show 1 + _ ≤ _; omega
    · rw [show (⟨#[124]⟩ : ByteArray) = B [124] from rfl, B_append, size_B, size_B]; simp; omega
    · rw [show (⟨#[124]⟩ : ByteArray) = B [124] from rfl, B_append, B_append]; rfl
    · simp; omega
end Go.Proofs.Ytngbiaeliphdjaa.V
/- Drawn patterns and texts. No statement of the seat is proved here. -/
namespace Go.Proofs.Ytngbiaeliphdjaa.V
open Go.Vc Go.Proofs Go.RowKit
set_option linter.unusedVariables false
set_option linter.unusedSimpArgs false
theorem text_ok {w : World} {b M : Nat} {a : Option Addr} {l c m : Nat} (h : Cur w b M a l c m) (hm : 100 ≤ m) (n : Nat) (h1 : 1 ≤ n) (hn : n ≤ 20) :
    Cl Try.prog 67 [.pointer (some ⟨b, 0, none⟩), .int .i64 (n : Int)] w (Drew w b M a l c fun v m' => min m 5059 ≤ m' + 2 * n + 2 ∧ ∃ s : Bytes, v = .string (B s) ∧ s.length ≤ n) := by
  apply vc67
  unfold V67
  have tn : IntKind.wrap .i64 ((n : Int) + 1) = ((n + 1 : Nat) : Int) := by rw [w64 (by omega)]; omega
  rw [tn]
  have hbl := h.lt
  refine (pick_ok h (by omega) (n + 1) (by omega) (by omega)).use fun e w5 he => ?_
  obtain ⟨_, m5, rfl, ⟨q1, q2, r, rfl, hr, _⟩, hC5, e5⟩ := he
  refine ⟨r, rfl, fun k ax lx cx j w' => ∃ (xs : Bytes) (mi : Nat), j = k ∧ k ≤ r ∧ xs.length + k = r ∧ xs.length = lx ∧ min m 5059 ≤ mi + 1 + 2 * xs.length ∧ Row w.heap.size w' 5 1 ax lx cx (u8s xs) ∧ Cur w' b M a l c mi ∧ Ext (fun k => k = b) w w', ⟨r, [], m5, rfl, Nat.le_refl _, by simp, rfl, by simp; omega, Row.nil _ _ e5.size, hC5, e5⟩, ?_⟩
  rintro k d ax lx cx _ w10 ⟨xs, mi, rfl, hk, hxr, hxl, hbd, hR, hCi, hEi⟩
  -- a byte more
  have app : ∀ {w' : World} {mj : Nat} {y : UInt8} {x : Int} {K : Option Addr → Nat → Nat → World → Prop}, x = (y.toNat : Int) → Cur w' b M a l c mj → Ext (fun k => k = b) w10 w' → (∀ a2 c2 w2, Row w.heap.size w2 5 1 a2 (lx + 1) c2 (u8s (xs ++ [y])) → Cur w2 b M a l c mj → Ext (fun k => k = b) w w2 → K a2 (lx + 1) c2 w2) →
      newC [.int .u8 x] 5 (fun b20 w21 => ∃ (a22 : Option Addr), ∃ (l22 : Nat), ∃ (c22 : Nat), ∃ (w23 : World), (Builtin.append_ #[22, 22] 22 #[.slice ax lx cx, .slice (some ⟨b20, 0, none⟩) 1 1]).run Try.prog w21 = .ok (.slice a22 l22 c22) w23 ∧ K a22 l22 c22 w23) w' := by
    intro w' mj y x K hx hC hE hK
    subst hx
    obtain ⟨a3, c3, w3, r1, r2, r3⟩ := (hR.keep hE fun k hk h => by omega).app1 elemU8 (ys := u8s [y]) (n := 1) rfl rfl (by omega) (by omega)
    exact ⟨a3, _, c3, w3, r1, hK _ _ _ (by rw [u8s_append]; exact r2) (hC.ext r3 fun k hk (h : _ ≤ k) => by omega) ((hEi.trans hE).step r3 fun i hi (h : _ ≤ i) => by omega)⟩
  refine ⟨fun g => ?_, fun g => ?_⟩
  · have g' : 0 < k := by have := of_decide_eq_true g; omega
    have t3 : IntKind.wrap .i64 ((k : Int) - 1) = ((k - 1 : Nat) : Int) := by rw [w64 (by omega)]; omega
    rw [t3]
    refine (pick_ok hCi (by omega) 12 (by omega) (by omega)).use fun e w15 he => ?_
    obtain ⟨_, m1, rfl, ⟨p1, p2, q, rfl, hq, _⟩, hC1, e1⟩ := he
    refine ⟨q, rfl, fun _ => ?_, fun _ => ?_⟩
    · refine (pick_ok hC1 (by omega) 6 (by omega) (by omega)).use fun e w18 he => ?_
      obtain ⟨_, m2, rfl, ⟨p3, p4, q', rfl, hq', _⟩, hC2, e2⟩ := he
      refine ⟨q', rfl, ⟨by omega, by show (q' : Int) < 6; omega⟩, ?_⟩
      exact app rfl hC2 (e1.trans e2) fun a2 c2 w2 r2 hC hE => ⟨k - 1, by omega, _, m2, rfl, by omega, by simp; omega, by simp; omega, by simp; omega, r2, hC, hE⟩
    · refine (pick_ok hC1 (by omega) 3 (by omega) (by omega)).use fun e w18 he => ?_
      obtain ⟨_, m2, rfl, ⟨p3, p4, q', rfl, hq', _⟩, hC2, e2⟩ := he
      have hy : IntKind.wrap .u8 (IntKind.wrap .i64 (97 + (q' : Int))) = ((UInt8.ofNat (97 + q')).toNat : Int) := by
        rw [w64 (by omega), w8, UInt8.toNat_ofNat']; omega
      exact ⟨q', rfl, app hy hC2 (e1.trans e2) fun a2 c2 w2 r2 hC hE => ⟨k - 1, by omega, _, m2, rfl, by omega, by simp; omega, by simp; omega, by simp; omega, r2, hC, hE⟩⟩
  · have hk0 : k = 0 := by have := of_decide_eq_false g; omega
    subst hk0
    refine (pick_ok hCi (by omega) 9 (by omega) (by omega)).use fun e w34 he => ?_
    obtain ⟨_, m1, rfl, ⟨p1, p2, q, rfl, hq, _⟩, hC1, e1⟩ := he
    have fin : ∃ (s41 : ByteArray), (convert 22 9 (.slice ax lx cx)).run Try.prog w34 = .ok (.string s41) w34 ∧ Drew w b M a l c (fun v m' => min m 5059 ≤ m' + 2 * n + 2 ∧ ∃ s : Bytes, v = .string (B s) ∧ s.length ≤ n) (.returned (.string s41)) w34 :=
      ⟨_, row_str (hR.keep e1 fun k hk h => by omega), _, m1, rfl, ⟨by omega, xs, rfl, by omega⟩, hC1, hEi.trans e1⟩
    refine ⟨q, rfl, fun _ => ⟨fun h2 => ?_, fun _ => fin⟩, fun _ => fin⟩
    have h2' : lx < n := by have := of_decide_eq_true h2; omega
    exact app (y := 10) rfl hC1 e1 fun a2 c2 w2 r2 hC hE => ⟨_, row_str r2, _, m1, rfl, ⟨by omega, _, rfl, by simp; omega⟩, hC, hE⟩
/-- A pattern that is read. -/
def GoodP (pl : Bool) (s : Bytes) : Prop := (readP s).ok = true ∧ (pl = true → NE (readP s).pieces) ∧ s.length ≤ 120
theorem good_abc (pl : Bool) : GoodP pl [40, 97, 124, 97, 98, 41, 42, 99, 63] := by
  have a1 : ∀ d g, SqS pl d g [97] g := fun d g => (aS_chr pl d g (by decide)).one
  have b1 : ∀ d g, SqS pl d g [98] g := fun d g => (aS_chr pl d g (by decide)).one
  have p1 : PtS pl 5 1 [97, 124, 97, 98] 1 := PtS.alt (a1 5 1) (((a1 5 1).app (b1 5 1)).pat)
  have g1 : AtS pl 6 0 [40, 97, 124, 97, 98, 41] 1 := p1.grp (g := 0) (by decide)
  have s1 : SqS pl 6 0 [40, 97, 124, 97, 98, 41, 42, 99, 63] 1 := (g1.cnt cnD_star.1).app ((aS_chr pl 6 1 (c := 99) (by decide)).cnt cnD_opt.1)
  have := s1.pat.read (by decide)
  exact ⟨this.1, this.2, by decide⟩
theorem good_ok {w : World} {b M : Nat} {a : Option Addr} {l c m : Nat} (h : Cur w b M a l c m) (hm : 5059 ≤ m) (pl : Bool) :
    Cl Try.prog 66 [.pointer (some ⟨b, 0, none⟩), .bool pl] w (Drew w b M a l c fun v m' => 5000 ≤ m' ∧ ∃ s : Bytes, v = .string (B s) ∧ GoodP pl s) := by
  apply vc66
  unfold V66
  refine (pat_ok 3 (by omega) m w b M a l c 9 pl hm (by omega) h).use fun e w6 he => ?_
  obtain ⟨_, m6, rfl, ⟨z1, z2, y, g2, rfl, hg2, hpt, hyl⟩, hC2, e2⟩ := he
  refine ⟨B y, g2, rfl, fun g => ⟨_, m6, rfl, ⟨by omega, _, rfl, good_abc pl⟩, hC2, e2⟩, fun g => ?_⟩
  have g' : y.length ≤ 120 := by have := of_decide_eq_false g; rw [size_B] at this; omega
  have := hpt.read g'
  exact ⟨_, m6, rfl, ⟨by omega, y, rfl, this.1, this.2, g'⟩, hC2, e2⟩
def RetPT (pl : Bool) (n : Nat) (w : World) : Rt := fun e w' => ∃ p t : Bytes, e = .returned (.tuple #[.string (B p), .string (B t)]) ∧ GoodP pl p ∧ t.length ≤ n ∧ Below w.heap.size w w'
theorem drawn_ok {w : World} {a : Option Addr} {l c : Nat} (h : GBytes w w.heap.size a l) (hl : l ≤ 1048576) : Cl Try.prog 20 [.slice a l c] w (RetPT false 14 w) := by
  apply vc20
  unfold V20
  refine cur_in h hl fun w3 m hm hC B3 => ?_
  refine (good_ok hC hm false).use fun e w5 he => ?_
  obtain ⟨_, m5, rfl, ⟨q1, p, rfl, hp⟩, hC5, e5⟩ := he
  refine ⟨_, rfl, (text_ok hC5 (by omega) 14 (by omega) (by omega)).use fun e w8 he => ?_⟩
  obtain ⟨_, m8, rfl, ⟨_, t, rfl, ht⟩, hC8, e8⟩ := he
  exact ⟨_, rfl, p, t, rfl, hp, ht, Ext.to (Ext.to B3 e5 fun i h => by omega) e8 fun i h => by omega⟩
theorem plain_ok {w : World} {a : Option Addr} {l c : Nat} (h : GBytes w w.heap.size a l) (hl : l ≤ 1048576) : Cl Try.prog 55 [.slice a l c] w (RetPT true 10 w) := by
  apply vc55
  unfold V55
  refine cur_in h hl fun w3 m hm hC B3 => ?_
  refine (good_ok hC hm true).use fun e w5 he => ?_
  obtain ⟨_, m5, rfl, ⟨q1, p, rfl, hp⟩, hC5, e5⟩ := he
  refine ⟨_, rfl, (text_ok hC5 (by omega) 10 (by omega) (by omega)).use fun e w8 he => ?_⟩
  obtain ⟨_, m8, rfl, ⟨_, t, rfl, ht⟩, hC8, e8⟩ := he
  exact ⟨_, rfl, p, t, rfl, hp, ht, Ext.to (Ext.to B3 e5 fun i h => by omega) e8 fun i h => by omega⟩
end Go.Proofs.Ytngbiaeliphdjaa.V
/- Printed by vcgen.py, a program of this session: formulas of Go functions, each with the proof that it gives the function's contract. No statement of the seat is proved here. -/
namespace Go.Proofs.Ytngbiaeliphdjaa.V
open Go.Vc Go.Proofs
set_option linter.unusedVariables false
set_option maxRecDepth 100000
/-- impl.Find -/
def V45 (s1 s2 : ByteArray) (n3 : Int) (R : Rt) : Pred := fun w =>
  newC [.bool false, .int .i64 0, .int .i64 0, .slice none 0 0] 29 (fun b4 w5 => clV 70 ([.string s1, .string s2]) w5 R fun r10 w9 => ∃ b6, ∃ o7, ∃ t8, r10 = .tuple #[.pointer (some ⟨b6, o7, none⟩), .bool t8] ∧ (cB (!t8) (stW b4 0 [.bool false, .int .i64 0, .int .i64 0, .slice none 0 0] (fun w11 => lB w11 b4 0 fun t12 => lI w11 b4 1 fun n13 => lI w11 b4 2 fun n14 => lL w11 b4 3 fun a15 l15 c15 => R (.returned (.agg #[.bool t12, .int .i64 n13, .int .i64 n14, .slice a15 l15 c15])) w11) w9) (clV 71 ([.pointer (some ⟨b6, o7, none⟩), .int .i64 n3]) w9 R fun r21 w20 => ∃ t16, ∃ n17, ∃ n18, ∃ a19 l19 c19, r21 = .agg #[.bool t16, .int .i64 n17, .int .i64 n18, .slice a19 l19 c19] ∧ stW b4 0 [.bool t16, .int .i64 n17, .int .i64 n18, .slice a19 l19 c19] (fun w22 => lB w22 b4 0 fun t23 => lI w22 b4 1 fun n24 => lI w22 b4 2 fun n25 => lL w22 b4 3 fun a26 l26 c26 => R (.returned (.agg #[.bool t23, .int .i64 n24, .int .i64 n25, .slice a26 l26 c26])) w22) w20))) w
def scr45 : Scr := (.q 1 (.q 8 (.q 2 (.cond (.q 2 .nil) (.q 4 .nil)))))
theorem vc45 {s1 s2 n3} {R w} (h : V45 s1 s2 n3 R w) : Cl Try.prog 45 [.string s1, .string s2, .int .i64 n3] w R :=
  cl_of scr45 Try.func45 (by kernel_rfl) _ _ (by kernel_rfl) h
/-- impl.Whole -/
def V35 (s1 s2 : ByteArray) (R : Rt) : Pred := fun w =>
  newC [.bool false, .int .i64 0, .int .i64 0, .slice none 0 0] 29 (fun b3 w4 => clL 30 ([.string s1, .string s2, .int .i64 0]) w4 R fun a5 l5 c5 w6 => ∃ (I8 : Nat → Int → World → Prop), (∃ k10, I8 k10 0 w6) ∧ ∀ k9 (d12 : Nat → Value) n13 w11, I8 k9 n13 w11 → (cB (decide (n13 < ((l5 : Nat) : Int))) (ixS a5 l5 n13 fun b14 o15 => lB w11 b14 (o15 + (Int.toNat n13) * 4) fun t16 => lI w11 b14 (o15 + (Int.toNat n13) * 4 + 1) fun n17 => lI w11 b14 (o15 + (Int.toNat n13) * 4 + 2) fun n18 => lL w11 b14 (o15 + (Int.toNat n13) * 4 + 3) fun a19 l19 c19 => newC [.bool false, .int .i64 0, .int .i64 0, .slice none 0 0] 29 (fun b20 w21 => stW b20 0 [.bool t16, .int .i64 n17, .int .i64 n18, .slice a19 l19 c19] (fun w22 => lI w22 b20 2 fun n23 => (cB (n23 == ((ByteArray.size s2 : Nat) : Int)) (lB w22 b20 0 fun t24 => lI w22 b20 1 fun n25 => lI w22 b20 2 fun n26 => lL w22 b20 3 fun a27 l27 c27 => stW b3 0 [.bool t24, .int .i64 n25, .int .i64 n26, .slice a27 l27 c27] (fun w28 => lB w28 b3 0 fun t29 => lI w28 b3 1 fun n30 => lI w28 b3 2 fun n31 => lL w28 b3 3 fun a32 l32 c32 => R (.returned (.agg #[.bool t29, .int .i64 n30, .int .i64 n31, .slice a32 l32 c32])) w28) w22) ((∃ m33, m33 < k9 ∧ I8 m33 (IntKind.wrap .i64 (n13 + 1)) w22)))) w21) w11) (stW b3 0 [.bool false, .int .i64 0, .int .i64 0, .slice none 0 0] (fun w34 => lB w34 b3 0 fun t35 => lI w34 b3 1 fun n36 => lI w34 b3 2 fun n37 => lL w34 b3 3 fun a38 l38 c38 => R (.returned (.agg #[.bool t35, .int .i64 n36, .int .i64 n37, .slice a38 l38 c38])) w34) w11))) w
def scr35 : Scr := (.q 1 (.q 5 (.loop (dr [(11, some (.int .i64))] [(6,1),(12,10)]) (.q 1 (.cond (.q 4 (.q 5 (.cond (.q 2 .nil) (.q 2 .nil)))) (.q 2 .nil))))))
theorem vc35 {s1 s2} {R w} (h : V35 s1 s2 R w) : Cl Try.prog 35 [.string s1, .string s2] w R :=
  cl_of scr35 Try.func35 (by kernel_rfl) _ _ (by kernel_rfl) h
/-- spec.Find -/
def V44 (s1 s2 : ByteArray) (n3 : Int) (R : Rt) : Pred := fun w =>
  newC [.bool false, .int .i64 0, .int .i64 0, .slice none 0 0] 29 (fun b4 w5 => clV 68 ([.string s1, .string s2]) w5 R fun r10 w9 => ∃ b6, ∃ o7, ∃ t8, r10 = .tuple #[.pointer (some ⟨b6, o7, none⟩), .bool t8] ∧ (cB (!t8) (stW b4 0 [.bool false, .int .i64 0, .int .i64 0, .slice none 0 0] (fun w11 => lB w11 b4 0 fun t12 => lI w11 b4 1 fun n13 => lI w11 b4 2 fun n14 => lL w11 b4 3 fun a15 l15 c15 => R (.returned (.agg #[.bool t12, .int .i64 n13, .int .i64 n14, .slice a15 l15 c15])) w11) w9) ((cB (decide (n3 < 0)) (stW b4 0 [.bool false, .int .i64 0, .int .i64 0, .slice none 0 0] (fun w16 => lB w16 b4 0 fun t17 => lI w16 b4 1 fun n18 => lI w16 b4 2 fun n19 => lL w16 b4 3 fun a20 l20 c20 => R (.returned (.agg #[.bool t17, .int .i64 n18, .int .i64 n19, .slice a20 l20 c20])) w16) w9) ((cB (decide (n3 > ((ByteArray.size s2 : Nat) : Int))) (stW b4 0 [.bool false, .int .i64 0, .int .i64 0, .slice none 0 0] (fun w21 => lB w21 b4 0 fun t22 => lI w21 b4 1 fun n23 => lI w21 b4 2 fun n24 => lL w21 b4 3 fun a25 l25 c25 => R (.returned (.agg #[.bool t22, .int .i64 n23, .int .i64 n24, .slice a25 l25 c25])) w21) w9) (clV 92 ([.pointer (some ⟨b6, o7, none⟩), .int .i64 n3]) w9 R fun r31 w30 => ∃ t26, ∃ n27, ∃ n28, ∃ a29 l29 c29, r31 = .agg #[.bool t26, .int .i64 n27, .int .i64 n28, .slice a29 l29 c29] ∧ stW b4 0 [.bool t26, .int .i64 n27, .int .i64 n28, .slice a29 l29 c29] (fun w32 => lB w32 b4 0 fun t33 => lI w32 b4 1 fun n34 => lI w32 b4 2 fun n35 => lL w32 b4 3 fun a36 l36 c36 => R (.returned (.agg #[.bool t33, .int .i64 n34, .int .i64 n35, .slice a36 l36 c36])) w32) w30))))))) w
def scr44 : Scr := (.q 1 (.q 8 (.run [0,1,2] (.split 17 (.r [3,4,5,6,7,8,9,10,11] (.lit (.q 2 .nil))) (.run [3,4,5,6] (.split 21 (.r [7,8,9,10,11] (.lit (.q 2 .nil))) (.r [7,8,9,10,11] (.cond (.q 2 .nil) (.q 4 .nil)))))))))
theorem vc44 {s1 s2 n3} {R w} (h : V44 s1 s2 n3 R w) : Cl Try.prog 44 [.string s1, .string s2, .int .i64 n3] w R :=
  cl_of scr44 Try.func44 (by kernel_rfl) _ _ (by kernel_rfl) h
/-- spec.Whole -/
def V40 (s1 s2 : ByteArray) (R : Rt) : Pred := fun w =>
  newC [.bool false, .int .i64 0, .int .i64 0, .slice none 0 0] 29 (fun b3 w4 => clV 68 ([.string s1, .string s2]) w4 R fun r9 w8 => ∃ b5, ∃ o6, ∃ t7, r9 = .tuple #[.pointer (some ⟨b5, o6, none⟩), .bool t7] ∧ (cB (!t7) (stW b3 0 [.bool false, .int .i64 0, .int .i64 0, .slice none 0 0] (fun w10 => lB w10 b3 0 fun t11 => lI w10 b3 1 fun n12 => lI w10 b3 2 fun n13 => lL w10 b3 3 fun a14 l14 c14 => R (.returned (.agg #[.bool t11, .int .i64 n12, .int .i64 n13, .slice a14 l14 c14])) w10) w8) (clL 88 ([.pointer (some ⟨b5, o6, none⟩), .int .i64 0]) w8 R fun a15 l15 c15 w16 => ∃ (I18 : Nat → Int → World → Prop), (∃ k20, I18 k20 0 w16) ∧ ∀ k19 (d22 : Nat → Value) n23 w21, I18 k19 n23 w21 → (cB (decide (n23 < ((l15 : Nat) : Int))) (ixS a15 l15 n23 fun b24 o25 => lB w21 b24 (o25 + (Int.toNat n23) * 4) fun t26 => lI w21 b24 (o25 + (Int.toNat n23) * 4 + 1) fun n27 => lI w21 b24 (o25 + (Int.toNat n23) * 4 + 2) fun n28 => lL w21 b24 (o25 + (Int.toNat n23) * 4 + 3) fun a29 l29 c29 => newC [.bool false, .int .i64 0, .int .i64 0, .slice none 0 0] 29 (fun b30 w31 => stW b30 0 [.bool t26, .int .i64 n27, .int .i64 n28, .slice a29 l29 c29] (fun w32 => lI w32 b30 2 fun n33 => (cB (n33 == ((ByteArray.size s2 : Nat) : Int)) (lB w32 b30 0 fun t34 => lI w32 b30 1 fun n35 => lI w32 b30 2 fun n36 => lL w32 b30 3 fun a37 l37 c37 => stW b3 0 [.bool t34, .int .i64 n35, .int .i64 n36, .slice a37 l37 c37] (fun w38 => lB w38 b3 0 fun t39 => lI w38 b3 1 fun n40 => lI w38 b3 2 fun n41 => lL w38 b3 3 fun a42 l42 c42 => R (.returned (.agg #[.bool t39, .int .i64 n40, .int .i64 n41, .slice a42 l42 c42])) w38) w32) ((∃ m43, m43 < k19 ∧ I18 m43 (IntKind.wrap .i64 (n23 + 1)) w32)))) w31) w21) (stW b3 0 [.bool false, .int .i64 0, .int .i64 0, .slice none 0 0] (fun w44 => lB w44 b3 0 fun t45 => lI w44 b3 1 fun n46 => lI w44 b3 2 fun n47 => lL w44 b3 3 fun a48 l48 c48 => R (.returned (.agg #[.bool t45, .int .i64 n46, .int .i64 n47, .slice a48 l48 c48])) w44) w21))))) w
def scr40 : Scr := (.q 1 (.q 8 (.q 2 (.cond (.q 2 .nil) (.q 4 (.loop (dr [(21, some (.int .i64))] [(8,1),(22,10)]) (.q 1 (.cond (.q 4 (.q 5 (.cond (.q 2 .nil) (.q 2 .nil)))) (.q 2 .nil)))))))))
theorem vc40 {s1 s2} {R w} (h : V40 s1 s2 R w) : Cl Try.prog 40 [.string s1, .string s2] w R :=
  cl_of scr40 Try.func40 (by kernel_rfl) _ _ (by kernel_rfl) h
end Go.Proofs.Ytngbiaeliphdjaa.V
/- Find and Whole on both sides give one match. No statement of the seat is proved here. -/
namespace Go.Proofs.Ytngbiaeliphdjaa.V
open Go.Vc Go.Proofs Go.RowKit
set_option linter.unusedVariables false
set_option linter.unusedSimpArgs false
/-! ### Find -/
theorem retMt_store {w w1 : World} {b : Nat} {z : List Value} (hz : z.length = 4) (k : Blk w1.heap b 29 z) (hb : w.heap.size ≤ b) (B : Below w.heap.size w w1) {m : Mt} {g : G3'} (hg : MOk w1 (m, g)) (hn : ∀ k, blkOf g.1 = some k → w.heap.size ≤ k ∧ k ≠ b) {R : Ending → World → Prop} (hR : ∀ e w', RetMt m w e w' → R e w') :
    stW b 0 (mC (m, g)) (fun (w11 : World) => ∃ (t12 : Bool), cellH w11.heap b 0 = some (.bool t12) ∧ ∃ (n13 : Int), cellH w11.heap b 1 = some (.int .i64 n13) ∧ ∃ (n14 : Int), cellH w11.heap b 2 = some (.int .i64 n14) ∧ ∃ (a15 : Option Addr), ∃ (l15 : Nat), ∃ (c15 : Nat), cellH w11.heap b 3 = some (.slice a15 l15 c15) ∧ R (.returned (.agg #[.bool t12, .int .i64 n13, .int .i64 n14, .slice a15 l15 c15])) w11) w1 := by
  refine stW_in k (by rw [hz]; show 0 + 4 ≤ 4; decide) fun w2 s2 k2 e2 => ?_
  have k2' : Blk w2.heap b 29 (mC (m, g)) := by
    unfold mC at k2 ⊢
    rw [seg4 hz] at k2
    exact k2
  refine ⟨_, k2'.cell 0, _, k2'.cell 1, _, k2'.cell 2, _, _, _, k2'.cell 3, hR _ _ ⟨g, rfl, hg.keep e2 fun q hq hqb => ?_, fun q hq => (hn q hq).1, Ext.to B e2 fun i hi => by omega⟩⟩
  exact (hn q (mem_ob.1 hq)).2 hqb
theorem mt0_ok (w : World) : MOk w (mt0, (none, 0, 0)) := Vec.nil _ _ _
theorem implFind_ok (s1 s2 : ByteArray) (n : Int) (w : World) : Cl Try.prog 45 [.string s1, .string s2, .int .i64 n] w (RetMt (findA (L s1) (L s2) n) w) := by
  apply vc45
  unfold V45
  refine newC_in fun w5 s5 k5 e5 => ?_
  have B5 : Below w.heap.size w w5 := Ext.to (Below.refl _ _) e5 fun _ h => h.elim
  refine (newFinder_ok s1 s2 w5).use fun e w9 he => ?_
  obtain ⟨b, rfl, B9, hM⟩ := he
  have k9 := k5.below B9
  have B := B5.vstep B9
  refine ⟨b, 0, _, rfl, fun g => ?_, fun g => ?_⟩
  · have g' : okA (L s1) (L s2) = false := by simpa using g
    have hm : findA (L s1) (L s2) n = mt0 := by unfold findA; rw [if_neg (by rw [g']; simp)]
    rw [hm]
    exact retMt_store rfl k9 (Nat.le_refl _) B (mt0_ok _) (by intro q hq; cases hq) fun _ _ h => h
  · have g' : okA (L s1) (L s2) = true := by simpa using g
    obtain ⟨c, rfl, hP, rfl, hpt, hF, hm⟩ := hM g'
    have key : Cl Try.prog 71 [.pointer (some ⟨c.bf, 0, none⟩), .int .i64 n] w9 (RetMM (machI c) (fun _ => False) w9 (findA (L s1) (L c.t) n)) := by
      unfold findA
      by_cases hn : 0 ≤ n
      · rw [if_pos ⟨g', hn⟩, ← hP]
        obtain ⟨i, rfl⟩ : ∃ i : Nat, n = i := ⟨n.toNat, by omega⟩
        exact findI_ok hpt hF
      · rw [if_neg fun h => hn h.2]
        exact findI_out hF (by omega)
    refine key.use fun e w20 he => ?_
    obtain ⟨gx, rfl, h1, h2, _, h4⟩ := he
    have hz := B9.size
    have E20 : Below w.heap.size w w20 := Ext.to B h4 fun x hx => by have : x = c.m := hx; omega
    have k20 := k9.keep h4 fun hx => by have : w.heap.size = c.m := hx; omega
    exact ⟨_, _, _, gx.1, gx.2.1, gx.2.2, rfl, retMt_store rfl k20 (Nat.le_refl _) E20 h1 (fun q hq => by have := h2 q hq; omega) fun _ _ h => h⟩
theorem specFind_ok (s1 s2 : ByteArray) (n : Int) (w : World) : Cl Try.prog 44 [.string s1, .string s2, .int .i64 n] w (RetMt (findA (L s1) (L s2) n) w) := by
  apply vc44
  unfold V44
  have hsz := size_L s2
  refine newC_in fun w5 s5 k5 e5 => ?_
  have B5 : Below w.heap.size w w5 := Ext.to (Below.refl _ _) e5 fun _ h => h.elim
  refine (l2of_ok s1 s2 w5).use fun e w9 he => ?_
  obtain ⟨b, rfl, B9, hM⟩ := he
  have k9 := k5.below B9
  have B := B5.vstep B9
  have hno : findA (L s1) (L s2) n = mt0 → stW w.heap.size 0 [.bool false, .int .i64 0, .int .i64 0, .slice none 0 0] (fun (w11 : World) => ∃ (t12 : Bool), cellH w11.heap w.heap.size 0 = some (.bool t12) ∧ ∃ (n13 : Int), cellH w11.heap w.heap.size 1 = some (.int .i64 n13) ∧ ∃ (n14 : Int), cellH w11.heap w.heap.size 2 = some (.int .i64 n14) ∧ ∃ (a15 : Option Addr), ∃ (l15 : Nat), ∃ (c15 : Nat), cellH w11.heap w.heap.size 3 = some (.slice a15 l15 c15) ∧ RetMt (findA (L s1) (L s2) n) w (.returned (.agg #[.bool t12, .int .i64 n13, .int .i64 n14, .slice a15 l15 c15])) w11) w9 := fun hm => by
    rw [hm]
    exact retMt_store rfl k9 (Nat.le_refl _) B (mt0_ok _) (by intro q hq; cases hq) fun _ _ h => h
  refine ⟨b, 0, _, rfl, fun g => hno ?_, fun g => ⟨fun g2 => hno ?_, fun g2 => ⟨fun g3 => hno ?_, fun g3 => ?_⟩⟩⟩
  · have g' : okA (L s1) (L s2) = false := by simpa using g
    unfold findA; rw [if_neg (by rw [g']; simp)]
  · have g2' := of_decide_eq_true g2
    unfold findA; rw [if_neg (by omega)]
  · have g3' := of_decide_eq_true g3
    unfold findA
    split
    · rw [findP, if_neg (by omega)]
    · rfl
  · have g' : okA (L s1) (L s2) = true := by simpa using g
    have g2' := of_decide_eq_false g2
    obtain ⟨s, rfl, hP, rfl, hpt, hF, hm⟩ := hM g'
    have key : Cl Try.prog 92 [.pointer (some ⟨s.bm, 0, none⟩), .int .i64 n] w9 (RetMM (machS s) (fun _ => False) w9 (findA (L s1) (L s.t) n)) := by
      unfold findA
      rw [if_pos ⟨g', by omega⟩, ← hP]
      obtain ⟨i, rfl⟩ : ∃ i : Nat, n = i := ⟨n.toNat, by omega⟩
      exact findS_ok hpt hF
    refine key.use fun e w20 he => ?_
    obtain ⟨gx, rfl, h1, h2, _, h4⟩ := he
    have hz := B9.size
    have E20 : Below w.heap.size w w20 := Ext.to B h4 fun x hx => by rcases hx with rfl | rfl <;> omega
    have k20 := k9.keep h4 fun hx => by
      rcases hx with hx | hx <;> omega
    exact ⟨_, _, _, gx.1, gx.2.1, gx.2.2, rfl, retMt_store rfl k20 (Nat.le_refl _) E20 h1 (fun q hq => by have := h2 q hq; omega) fun _ _ h => h⟩
/-! ### Whole -/
theorem wholeLoop {N : Nat} {w w1 : World} {t : ByteArray} {a : Option Addr} {l c b : Nat} {es : List ME} (hM : Ms N w1 a l c es) (hN : w.heap.size ≤ N) {z : List Value} (hz : z.length = 4) (k : Blk w1.heap b 29 z) (hb : w.heap.size ≤ b) (hbM : b < N) (B : Below w.heap.size w w1) (hl : es.length ≤ 1000) {R : Ending → World → Prop} (hR : ∀ e w', RetMt (((es.map (·.1)).find? fun m => m.to == (L t).length).getD mt0) w e w' → R e w') :
    ∃ (I8 : Nat → Int → World → Prop), (∃ (k10 : Nat), I8 k10 0 w1) ∧ ∀ (k9 : Nat) (d12 : Nat → Value) (n13 : Int) (w11 : World), I8 k9 n13 w11 → (((decide ((n13 : Int) < ((l : Nat) : Int))) = true → ∃ (b14 : Nat) (o15 : Nat), ((a : Option Addr) = some ⟨b14, o15, none⟩ ∧ 0 ≤ (n13 : Int) ∧ (n13 : Int) < ((l : Nat) : Int)) ∧ ∃ (t16 : Bool), cellH w11.heap b14 (o15 + (Int.toNat n13) * 4) = some (.bool t16) ∧ ∃ (n17 : Int), cellH w11.heap b14 (o15 + (Int.toNat n13) * 4 + 1) = some (.int .i64 n17) ∧ ∃ (n18 : Int), cellH w11.heap b14 (o15 + (Int.toNat n13) * 4 + 2) = some (.int .i64 n18) ∧ ∃ (a19 : Option Addr), ∃ (l19 : Nat), ∃ (c19 : Nat), cellH w11.heap b14 (o15 + (Int.toNat n13) * 4 + 3) = some (.slice a19 l19 c19) ∧ newC [.bool false, .int .i64 0, .int .i64 0, .slice none 0 0] 29 (fun (b20 : Nat) (w21 : World) => stW b20 0 [.bool t16, .int .i64 n17, .int .i64 n18, .slice a19 l19 c19] (fun (w22 : World) => ∃ (n23 : Int), cellH w22.heap b20 2 = some (.int .i64 n23) ∧ ((((n23 : Int) == ((ByteArray.size t : Nat) : Int)) = true → ∃ (t24 : Bool), cellH w22.heap b20 0 = some (.bool t24) ∧ ∃ (n25 : Int), cellH w22.heap b20 1 = some (.int .i64 n25) ∧ ∃ (n26 : Int), cellH w22.heap b20 2 = some (.int .i64 n26) ∧ ∃ (a27 : Option Addr), ∃ (l27 : Nat), ∃ (c27 : Nat), cellH w22.heap b20 3 = some (.slice a27 l27 c27) ∧ stW b 0 [.bool t24, .int .i64 n25, .int .i64 n26, .slice a27 l27 c27] (fun (w28 : World) => ∃ (t29 : Bool), cellH w28.heap b 0 = some (.bool t29) ∧ ∃ (n30 : Int), cellH w28.heap b 1 = some (.int .i64 n30) ∧ ∃ (n31 : Int), cellH w28.heap b 2 = some (.int .i64 n31) ∧ ∃ (a32 : Option Addr), ∃ (l32 : Nat), ∃ (c32 : Nat), cellH w28.heap b 3 = some (.slice a32 l32 c32) ∧ R (.returned (.agg #[.bool t29, .int .i64 n30, .int .i64 n31, .slice a32 l32 c32])) w28) w22) ∧ (((n23 : Int) == ((ByteArray.size t : Nat) : Int)) = false → (∃ (m33 : Nat), m33 < k9 ∧ I8 m33 (IntKind.wrap .i64 (n13 + 1)) w22)))) w21) w11) ∧ ((decide ((n13 : Int) < ((l : Nat) : Int))) = false → stW b 0 [.bool false, .int .i64 0, .int .i64 0, .slice none 0 0] (fun (w34 : World) => ∃ (t35 : Bool), cellH w34.heap b 0 = some (.bool t35) ∧ ∃ (n36 : Int), cellH w34.heap b 1 = some (.int .i64 n36) ∧ ∃ (n37 : Int), cellH w34.heap b 2 = some (.int .i64 n37) ∧ ∃ (a38 : Option Addr), ∃ (l38 : Nat), ∃ (c38 : Nat), cellH w34.heap b 3 = some (.slice a38 l38 c38) ∧ R (.returned (.agg #[.bool t35, .int .i64 n36, .int .i64 n37, .slice a38 l38 c38])) w34) w11)) := by
  have hsz := size_L t
  have hlen := hM.len
  refine ⟨fun m n w' => ∃ (A D : List ME), es = A ++ D ∧ n = A.length ∧ m = D.length ∧ (∀ e ∈ A, ¬ e.1.to = (L t).length) ∧ Below w1.heap.size w1 w', ⟨_, [], es, rfl, rfl, rfl, by simp, Below.refl _ _⟩, ?_⟩
  rintro m d n w2 ⟨A, D, hes, rfl, rfl, hA, B2⟩
  have hel : es.length = A.length + D.length := by rw [hes]; simp
  have e0 : Int.toNat (A.length : Int) = A.length := by omega
  have e1 : IntKind.wrap .i64 ((A.length : Int) + 1) = ((A.length + 1 : Nat) : Int) := by rw [w64 (by omega)]; omega
  rw [e0, e1]
  have hAf : (A.map (·.1)).find? (fun m => m.to == (L t).length) = none := by
    rw [List.find?_eq_none]
    intro m hm
    obtain ⟨e, he, rfl⟩ := List.mem_map.1 hm
    have := hA e he
    simpa using this
  refine ⟨fun g => ?_, fun g => ?_⟩
  · have g' : A.length < l := by have := of_decide_eq_true g; omega
    obtain ⟨e, D', rfl⟩ : ∃ x B', D = x :: B' := by
      cases D with
      | nil => simp only [List.length_nil] at hel; omega
      | cons x B' => exact ⟨x, B', rfl⟩
    have M2 := hM.below B2
    rw [hes] at M2
    obtain ⟨ba, hba, hc⟩ := M2.cells (i := A.length) (by simp)
    have hge : ∀ h, (A ++ e :: D')[A.length]'h = e := by intro h; simp
    rw [hge] at hc
    refine ⟨ba, 0, ⟨hba, by omega, by omega⟩, _, hc 0 (by decide), _, hc 1 (by decide), _, hc 2 (by decide), _, _, _, hc 3 (by decide), ?_⟩
    refine newC_in fun w3 s3 k3 e3 => ?_
    refine stW_in k3 (by show 0 + 4 ≤ 4; decide) fun w4 s4 k4 e4 => ?_
    have k4' : Blk w4.heap w2.heap.size 29 (mC e) := k4
    have B4 : Below w1.heap.size w1 w4 := Ext.to (Ext.to B2 e3 fun _ h => h.elim) e4 fun i hi => by have := B2.size; omega
    refine ⟨_, k4'.cell 2, fun g2 => ?_, fun g2 => ?_⟩
    · have g2' : e.1.to = (L t).length := by have : ((e.1.to : Nat) : Int) = t.size := by simpa using g2
                                             omega
      refine ⟨_, k4'.cell 0, _, k4'.cell 1, _, k4'.cell 2, _, _, _, k4'.cell 3, ?_⟩
      have M4 := hM.below B4
      rw [hes] at M4
      refine retMt_store (m := e.1) (g := e.2) hz (k.below B4) hb (B.vstep B4) M4.mid.1 (fun q hq => ?_) fun e' w' h => hR e' w' ?_
      · have := hM.low q (by rw [hes]; exact mem_mblks (by simp) (mem_ob.2 hq)); omega
      · rw [hes, List.map_append, List.find?_append, hAf]
        simp only [List.map_cons, Option.none_or]
        rw [List.find?_cons_of_pos (by simpa using g2')]
        exact h
    · have g2' : ¬ e.1.to = (L t).length := by have : ¬ ((e.1.to : Nat) : Int) = t.size := by simpa using g2
                                               omega
      refine ⟨D'.length, by simp, A ++ [e], D', by rw [hes]; simp, by simp, rfl, fun x hx => ?_, B4⟩
      rcases List.mem_append.1 hx with hx | hx
      · exact hA x hx
      · rw [List.mem_singleton.1 hx]; exact g2'
  · have g' : ¬ A.length < l := by have := of_decide_eq_false g; omega
    have : D = [] := by
      cases D with
      | nil => rfl
      | cons x r => simp only [List.length_cons] at hel; omega
    subst this
    rw [List.append_nil] at hes
    subst hes
    rw [hAf] at hR
    exact retMt_store (m := mt0) (g := (none, 0, 0)) hz (k.below B2) hb (B.vstep B2) (mt0_ok _) (by intro q hq; cases hq) hR
theorem wholeA_eq (p t : Bytes) : wholeA p t = ((waysA p t 0).find? fun m => m.to == t.length).getD mt0 := by
  unfold wholeA waysA
  cases h : okA p t
  · rw [if_neg (by simp), if_neg (by simp)]; rfl
  · rw [if_pos rfl, if_pos ⟨rfl, by omega, by omega⟩]; rfl
theorem waysA_S (p t : Bytes) (n : Int) : MsS (waysA p t n) := by
  unfold waysA
  split
  · rename_i h
    exact (okA_pt h.1).waysS (by omega)
  · exact ⟨by simp, by simp⟩
theorem implWhole_ok (s1 s2 : ByteArray) (w : World) : Cl Try.prog 35 [.string s1, .string s2] w (RetMt (wholeA (L s1) (L s2)) w) := by
  apply vc35
  unfold V35
  refine newC_in fun w4 s4 k4 e4 => ?_
  have B4 : Below w.heap.size w w4 := Ext.to (Below.refl _ _) e4 fun _ h => h.elim
  refine (implWays_ok s1 s2 0 w4).use fun e w6 he => ?_
  obtain ⟨a, l, c, es, rfl, M6, hes, B6⟩ := he
  have hS := waysA_S (L s1) (L s2) 0
  have hlen : es.length ≤ 1000 := by
    have h1 := hS.1
    rw [← hes, List.length_map] at h1
    omega
  refine ⟨a, l, c, rfl, wholeLoop (w := w) M6 (by omega) rfl (k4.below B6) (Nat.le_refl _) (by omega) (B4.vstep B6) hlen fun e w' h => ?_⟩
  rw [hes, ← wholeA_eq] at h
  exact h
theorem specWhole_ok (s1 s2 : ByteArray) (w : World) : Cl Try.prog 40 [.string s1, .string s2] w (RetMt (wholeA (L s1) (L s2)) w) := by
  apply vc40
  unfold V40
  refine newC_in fun w4 s4 k4 e4 => ?_
  have B4 : Below w.heap.size w w4 := Ext.to (Below.refl _ _) e4 fun _ h => h.elim
  refine (l2of_ok s1 s2 w4).use fun e w8 he => ?_
  obtain ⟨b, rfl, B8, hM⟩ := he
  have B := B4.vstep B8
  refine ⟨b, 0, _, rfl, fun g => ?_, fun g => ?_⟩
  · have g' : okA (L s1) (L s2) = false := by simpa using g
    have hm : wholeA (L s1) (L s2) = mt0 := by unfold wholeA; rw [if_neg (by rw [g']; simp)]
    rw [hm]
    exact retMt_store rfl (k4.below B8) (Nat.le_refl _) B (mt0_ok _) (by intro q hq; cases hq) fun _ _ h => h
  · have g' : okA (L s1) (L s2) = true := by simpa using g
    obtain ⟨s, rfl, hP, rfl, hpt, hF, hm⟩ := hM g'
    refine (waysS_ok hpt hF (Nat.zero_le _)).use fun e w16 he => ?_
    obtain ⟨a, l, c, es, rfl, M6, hes, _, E6⟩ := he
    have hS := hpt.waysS (Nat.zero_le _)
    have hlen : es.length ≤ 1000 := by
      have h1 := hS.1
      rw [← hes, List.length_map] at h1
      omega
    have hz := B8.size
    have k16 := (k4.below B8).keep E6 fun hx => by rcases hx with hx | hx <;> omega
    refine ⟨a, l, c, rfl, wholeLoop (w := w) M6 (by omega) rfl k16 (Nat.le_refl _) (by omega) (Ext.to B E6 fun x hx => by rcases hx with rfl | rfl <;> omega) hlen fun e w' h => ?_⟩
    rw [hes] at h
    unfold wholeA
    rw [if_pos g', ← hP]
    exact h
end Go.Proofs.Ytngbiaeliphdjaa.V
/- Printed by vcgen.py, a program of this session: formulas of Go functions, each with the proof that it gives the function's contract. No statement of the seat is proved here. -/
namespace Go.Proofs.Ytngbiaeliphdjaa.V
open Go.Vc Go.Proofs
set_option linter.unusedVariables false
set_option maxRecDepth 100000
/-- laws.wMatch -/
def V60 (t1 : Bool) (n2 n3 : Int) (a4 : Option Addr) (l4 c4 : Nat) (t5 : Bool) (n6 n7 : Int) (a8 : Option Addr) (l8 c8 : Nat) (R : Rt) : Pred := fun w =>
  newC [.bool t1, .int .i64 n2, .int .i64 n3, .slice a4 l4 c4] 29 (fun b9 w10 => newC [.bool t5, .int .i64 n6, .int .i64 n7, .slice a8 l8 c8] 29 (fun b11 w12 => lB w12 b9 0 fun t13 => lB w12 b11 0 fun t14 => (cB (!(t13 == t14)) (R (.returned (.bool false)) w12) (lI w12 b9 1 fun n15 => lI w12 b11 1 fun n16 => (cB (n15 != n16) (R (.returned (.bool false)) w12) (lI w12 b9 2 fun n17 => lI w12 b11 2 fun n18 => (cB (n17 != n18) (R (.returned (.bool false)) w12) (lL w12 b9 3 fun a19 l19 c19 => lL w12 b11 3 fun a20 l20 c20 => (cB (((l19 : Nat) : Int) != ((l20 : Nat) : Int)) (R (.returned (.bool false)) w12) (lL w12 b9 3 fun a21 l21 c21 => ∃ (I22 : Nat → Int → World → Prop), (∃ k24, I22 k24 0 w12) ∧ ∀ k23 (d26 : Nat → Value) n27 w25, I22 k23 n27 w25 → (cB (decide (n27 < ((l21 : Nat) : Int))) (drw (fun w28 => lL w28 b9 3 fun a29 l29 c29 => ixS a29 l29 n27 fun b30 o31 => lI w28 b30 (o31 + (Int.toNat n27) * 2) fun n32 => lI w28 b30 (o31 + (Int.toNat n27) * 2 + 1) fun n33 => lL w28 b11 3 fun a34 l34 c34 => ixS a34 l34 n27 fun b35 o36 => lI w28 b35 (o36 + (Int.toNat n27) * 2) fun n37 => lI w28 b35 (o36 + (Int.toNat n27) * 2 + 1) fun n38 => ∃ t39, (do pure (Value.bool (!(← Op.equal 31 (.agg #[.int .i64 n32, .int .i64 n33]) (.agg #[.int .i64 n37, .int .i64 n38])))) : Sem Value).run Try.prog w28 = .ok (.bool t39) w28 ∧ (cB t39 (R (.returned (.bool false)) w28) ((∃ m40, m40 < k23 ∧ I22 m40 (IntKind.wrap .i64 (n27 + 1)) w28)))) w25) (R (.returned (.bool true)) w25))))))))))) w10) w
def scr60 : Scr := (.q 3 (.run [0,1,2,3,4,5] (.split 11 (.r [6,7,8,9,10,11,12,13,14,15,16,17,18,19,20,21,22,23,24,25,26,27] (.lit (.q 1 .nil))) (.run [6,7,8,9,10,11,12] (.split 18 (.r [13,14,15,16,17,18,19,20,21,22,23,24,25,26,27] (.lit (.q 1 .nil))) (.run [13,14,15,16,17,18,19] (.split 25 (.r [20,21,22,23,24,25,26,27] (.lit (.q 1 .nil))) (.r [20,21,22,23,24,25,26,27] (.cond (.q 1 .nil) (.q 4 (.loop (dr [(37, some (.int .i64))] [(4,2),(38,14)]) (.q 1 (.cond (.q 2 (.q 11 (.cond (.q 1 .nil) (.q 2 .nil)))) (.q 1 .nil))))))))))))))
theorem vc60 {t1 n2 n3 a4 l4 c4 t5 n6 n7 a8 l8 c8} {R w} (h : V60 t1 n2 n3 a4 l4 c4 t5 n6 n7 a8 l8 c8 R w) : Cl Try.prog 60 [.agg #[.bool t1, .int .i64 n2, .int .i64 n3, .slice a4 l4 c4], .agg #[.bool t5, .int .i64 n6, .int .i64 n7, .slice a8 l8 c8]] w R :=
  cl_of scr60 Try.func60 (by kernel_rfl) _ _ (by kernel_rfl) h
/-- laws.wMatches -/
def V23 (a1 : Option Addr) (l1 c1 : Nat) (a2 : Option Addr) (l2 c2 : Nat) (R : Rt) : Pred := fun w =>
  (cB (((l1 : Nat) : Int) != ((l2 : Nat) : Int)) (R (.returned (.bool false)) w) (∃ (I3 : Nat → Int → World → Prop), (∃ k5, I3 k5 0 w) ∧ ∀ k4 (d7 : Nat → Value) n8 w6, I3 k4 n8 w6 → (cB (decide (n8 < ((l1 : Nat) : Int))) (drw (fun w9 => ixS a1 l1 n8 fun b10 o11 => lB w9 b10 (o11 + (Int.toNat n8) * 4) fun t12 => lI w9 b10 (o11 + (Int.toNat n8) * 4 + 1) fun n13 => lI w9 b10 (o11 + (Int.toNat n8) * 4 + 2) fun n14 => lL w9 b10 (o11 + (Int.toNat n8) * 4 + 3) fun a15 l15 c15 => ixS a2 l2 n8 fun b16 o17 => lB w9 b16 (o17 + (Int.toNat n8) * 4) fun t18 => lI w9 b16 (o17 + (Int.toNat n8) * 4 + 1) fun n19 => lI w9 b16 (o17 + (Int.toNat n8) * 4 + 2) fun n20 => lL w9 b16 (o17 + (Int.toNat n8) * 4 + 3) fun a21 l21 c21 => clB 60 ([.agg #[.bool t12, .int .i64 n13, .int .i64 n14, .slice a15 l15 c15], .agg #[.bool t18, .int .i64 n19, .int .i64 n20, .slice a21 l21 c21]]) w9 R fun t22 w23 => (cB (!t22) (R (.returned (.bool false)) w23) ((∃ m25, m25 < k4 ∧ I3 m25 (IntKind.wrap .i64 (n8 + 1)) w23)))) w6) (R (.returned (.bool true)) w6))))
def scr23 : Scr := (.q 1 (.q 5 (.cond (.q 1 .nil) (.q 3 (.loop (dr [(13, some (.int .i64))] [(4,2),(14,13)]) (.q 1 (.cond (.q 2 (.q 10 (.cond (.q 1 .nil) (.q 2 .nil)))) (.q 1 .nil))))))))
theorem vc23 {a1 l1 c1 a2 l2 c2} {R w} (h : V23 a1 l1 c1 a2 l2 c2 R w) : Cl Try.prog 23 [.slice a1 l1 c1, .slice a2 l2 c2] w R :=
  cl_of scr23 Try.func23 (by kernel_rfl) _ _ (by kernel_rfl) h
end Go.Proofs.Ytngbiaeliphdjaa.V
/- A match in a box. No statement of the seat is proved here. -/
namespace Go.Proofs.Ytngbiaeliphdjaa.V
open Go.Vc Go.Proofs Go.RowKit
set_option linter.unusedVariables false
/-- A match is laid into a box. -/
theorem mbox_in {w : World} {e : ME} {K : Nat → World → Prop} (h : ∀ w2, w2.heap.size = w.heap.size + 1 → Blk w2.heap w.heap.size 29 (mC e) → Below w.heap.size w w2 → K w.heap.size w2) :
    newC [.bool false, .int .i64 0, .int .i64 0, .slice none 0 0] 29 (fun b w8 => stW b 0 [.bool e.1.ok, .int .i64 (e.1.fr : Int), .int .i64 (e.1.to : Int), .slice e.2.1 e.2.2.1 e.2.2.2] (fun w9 => K b w9) w8) w := by
  refine newC_in fun w1 s1 k1 e1 => ?_
  refine stW_in k1 (by show 0 + 4 ≤ 4; decide) fun w2 s2 k2 e2 => ?_
  exact h w2 (by omega) k2 (Ext.to (Ext.to (Below.refl _ _) e1 fun _ h => h.elim) e2 fun i h => by omega)
end Go.Proofs.Ytngbiaeliphdjaa.V
/- Equality of a struct with itself. No statement of the seat is proved here. -/
namespace Go.Proofs.Ytngbiaeliphdjaa.V
open Go.Vc Go.Proofs Go.RowKit
set_option linter.unusedVariables false
set_option linter.unusedSimpArgs false

theorem eqFields_refl {P : Program} {w : World} (d : Nat) (xs : Array Value) : ∀ fs : List Field, (∀ f ∈ fs, ∃ a, (part f.type xs f.offset).run P w = .ok a w ∧ (Op.equalIn d f.type a a).run P w = .ok true w) → (Op.eqFields d xs xs fs).run P w = .ok true w
  | [], _ => by simp [Op.eqFields]
  | f :: fs, h => by
    obtain ⟨a, h1, h2⟩ := h f (by simp)
    have ih := eqFields_refl d xs fs fun g hg => h g (by simp [hg])
    simp only [Op.eqFields]
    split
    · simp [h1, h2, ih]
    · exact ih
theorem mem_fields {fs : List Field} {l : List (TypeId × Nat)} (h : fs.map (fun f => (f.type, f.offset)) = l) {f : Field} (hf : f ∈ fs) : (f.type, f.offset) ∈ l := by
  rw [← h]; exact List.mem_map.2 ⟨f, hf, rfl⟩
theorem eq31 (n m : Int) (w : World) : (Op.equal 31 (.agg #[.int .i64 n, .int .i64 m]) (.agg #[.int .i64 n, .int .i64 m])).run Try.prog w = .ok true w := by
  unfold Op.equal
  rw [show Op.maxDepth = 9998 + 1 + 1 from rfl]
  rw [run_equalIn_struct w (9998 + 1) 31 _ _ (by kernel_rfl) (by kernel_rfl)]
  refine eqFields_refl _ _ _ fun f hf => ?_
  have := mem_fields (l := [(3, 0), (3, 1)]) (by kernel_rfl) hf
  simp only [List.mem_cons, List.not_mem_nil, or_false, Prod.mk.injEq] at this
  rcases this with ⟨h1, h2⟩ | ⟨h1, h2⟩ <;> rw [h1, h2]
  · exact ⟨.int .i64 n, by kernel_rfl, by rw [run_equalIn_int w 9998 3 .i64 .i64 _ _ Try.underlying3]; simp⟩
  · exact ⟨.int .i64 m, by kernel_rfl, by rw [run_equalIn_int w 9998 3 .i64 .i64 _ _ Try.underlying3]; simp⟩
/-- As the laws ask it. -/
theorem ne_of {T : TypeId} {v : Value} {w : World} (h : (Op.equal T v v).run Try.prog w = .ok true w) : (do pure (Value.bool (!(← Op.equal T v v))) : Sem Value).run Try.prog w = .ok (.bool false) w := by
  rw [bind_run h]; rfl
end Go.Proofs.Ytngbiaeliphdjaa.V
/- Matches are compared by the laws. No statement of the seat is proved here. -/
namespace Go.Proofs.Ytngbiaeliphdjaa.V
open Go.Vc Go.Proofs Go.RowKit
set_option linter.unusedVariables false
set_option linter.unusedSimpArgs false
theorem wMatch_ok {w : World} {e1 e2 : ME} (h1 : MOk w e1) (h2 : MOk w e2) (he : e1.1 = e2.1) (hp : e1.1.gs.length ≤ 1000) : Cl Try.prog 60 [.agg ⟨mC e1⟩, .agg ⟨mC e2⟩] w (RetB (.bool true) w) := by
  refine vc60 (t1 := e1.1.ok) (n2 := e1.1.fr) (n3 := e1.1.to) (a4 := e1.2.1) (l4 := e1.2.2.1) (c4 := e1.2.2.2) (t5 := e2.1.ok) (n6 := e2.1.fr) (n7 := e2.1.to) (a8 := e2.2.1) (l8 := e2.2.2.1) (c8 := e2.2.2.2) ?_
  unfold V60
  refine newC_in fun w1 s1 k1 x1 => ?_
  refine newC_in fun w2 s2 k2 x2 => ?_
  have k1' := k1.keep x2 fun h => h
  have hb : Below w.heap.size w w2 := Ext.to (Ext.to (Below.refl _ _) x1 fun _ h => h.elim) x2 fun _ h => h.elim
  have H1 := h1.below hb
  have H2 := h2.below hb
  unfold MOk at H1 H2
  rw [← he] at H2
  have hl1 : e1.2.2.1 = e1.1.gs.length := by have := H1.1; rw [rngC_length] at this; omega
  have hl2 : e2.2.2.1 = e1.1.gs.length := by have := H2.1; rw [rngC_length] at this; omega
  refine ⟨_, k1'.cell 0, _, k2.cell 0, fun g => by rw [he] at g; simp at g, fun _ => ⟨_, k1'.cell 1, _, k2.cell 1, fun g => by rw [he] at g; simp at g, fun _ => ⟨_, k1'.cell 2, _, k2.cell 2, fun g => by rw [he] at g; simp at g, fun _ => ⟨_, _, _, k1'.cell 3, _, _, _, k2.cell 3, fun g => by rw [hl1, hl2] at g; simp at g, fun _ => ⟨_, _, _, k1'.cell 3, ?_⟩⟩⟩⟩⟩
  refine ⟨fun k n w' => ∃ i : Nat, n = i ∧ i ≤ e1.1.gs.length ∧ k = e1.1.gs.length - i ∧ Below w2.heap.size w2 w', ⟨_, 0, rfl, by omega, rfl, Below.refl _ _⟩, ?_⟩
  rintro k d n w3 ⟨i, rfl, hi, rfl, hb3⟩
  refine ⟨fun g => ?_, fun g => ⟨rfl, hb.vstep hb3⟩⟩
  have g' : i < e1.1.gs.length := by have := of_decide_eq_true g; omega
  have e0 : Int.toNat (i : Int) = i := by omega
  have e1' : IntKind.wrap .i64 ((i : Int) + 1) = ((i + 1 : Nat) : Int) := by rw [w64 (by omega)]; omega
  rw [e0, e1']
  refine drw_in fun w4 q4 x4 => ?_
  have hb4 := Ext.to hb3 x4 fun _ h => h.elim
  have K1 := k1'.below hb4
  have K2 := k2.below hb4
  obtain ⟨b, hb1, hc1⟩ := Vec.open (H1.keep (S := fun _ => False) (Ext.of_below hb4) fun _ _ h => h) (by omega)
  obtain ⟨b', hb2, hc2⟩ := Vec.open (H2.keep (S := fun _ => False) (Ext.of_below hb4) fun _ _ h => h) (by omega)
  have hr := rngC_at e1.1.gs i g'
  refine ⟨_, _, _, K1.cell 3, b, 0, ⟨hb1, by omega, by omega⟩, e1.1.gs[i].1, by rw [Nat.zero_add, hc1 _ (by omega)]; exact hr.1, e1.1.gs[i].2, by rw [Nat.zero_add, hc1 _ (by omega)]; exact hr.2, _, _, _, K2.cell 3, b', 0, ⟨hb2, by omega, by omega⟩, e1.1.gs[i].1, by rw [Nat.zero_add, hc2 _ (by omega)]; exact hr.1, e1.1.gs[i].2, by rw [Nat.zero_add, hc2 _ (by omega)]; exact hr.2, false, ne_of (eq31 _ _ _), ?_⟩
  exact ⟨fun g => (by cases g), fun _ => ⟨_, by omega, i + 1, rfl, by omega, rfl, hb4⟩⟩
theorem wMatches_ok {w : World} {N1 N2 : Nat} {a1 a2 : Option Addr} {l1 l2 c1 c2 : Nat} {es1 es2 : List ME} (h1 : Ms N1 w a1 l1 c1 es1) (h2 : Ms N2 w a2 l2 c2 es2) (he : es1.map (·.1) = es2.map (·.1)) (hp : MsS (es1.map (·.1))) :
    Cl Try.prog 23 [.slice a1 l1 c1, .slice a2 l2 c2] w (RetB (.bool true) w) := by
  apply vc23
  unfold V23
  have hl1 := h1.len
  have hl2 := h2.len
  have hll : es1.length = es2.length := by have := congrArg List.length he; simpa using this
  have hps := hp.1
  rw [List.length_map] at hps
  refine ⟨fun g => ?_, fun _ => ?_⟩
  · rw [← hl1, ← hl2, hll] at g; simp at g
  refine ⟨fun k n w' => ∃ i : Nat, n = i ∧ i ≤ es1.length ∧ k = es1.length - i ∧ Below w.heap.size w w', ⟨_, 0, rfl, by omega, rfl, Below.refl _ _⟩, ?_⟩
  rintro k d n w1 ⟨i, rfl, hi, rfl, hb⟩
  refine ⟨fun g => ?_, fun g => ⟨rfl, hb⟩⟩
  have g' : i < es1.length := by have := of_decide_eq_true g; omega
  have e0 : Int.toNat (i : Int) = i := by omega
  have e1 : IntKind.wrap .i64 ((i : Int) + 1) = ((i + 1 : Nat) : Int) := by rw [w64 (by omega)]; omega
  rw [e0, e1]
  refine drw_in fun w2 q2 e2 => ?_
  have hb2 : Below w.heap.size w w2 := Ext.to hb e2 fun _ h => h.elim
  have P1 := h1.below hb2
  have P2 := h2.below hb2
  have g2 : i < es2.length := by omega
  obtain ⟨b, rfl, q1⟩ := P1.cells g'
  obtain ⟨b', rfl, q2⟩ := P2.cells g2
  refine ⟨b, 0, ⟨rfl, by omega, by omega⟩, _, q1 0 (by decide), _, q1 1 (by decide), _, q1 2 (by decide), _, _, _, q1 3 (by decide), b', 0, ⟨rfl, by omega, by omega⟩, _, q2 0 (by decide), _, q2 1 (by decide), _, q2 2 (by decide), _, _, _, q2 3 (by decide), ?_⟩
  have hee : es1[i].1 = es2[i].1 := by
    have : (es1.map (·.1))[i]'(by simpa using g') = (es2.map (·.1))[i]'(by simpa using g2) := List.getElem_of_eq he _
    simpa using this
  exact (wMatch_ok (P1.all _ (List.getElem_mem g')) (P2.all _ (List.getElem_mem g2)) hee (by have := hp.2 es1[i].1 (List.mem_map_of_mem (List.getElem_mem g')); omega)).ret fun w3 hb3 => ⟨true, rfl, fun h => by simp at h, fun _ => ⟨_, by omega, i + 1, rfl, by omega, rfl, hb2.vstep hb3⟩⟩
end Go.Proofs.Ytngbiaeliphdjaa.V
/- The law on the pieces and what lay between. No statement of the seat is proved here. -/
namespace Go.Proofs.Ytngbiaeliphdjaa.V
open Go.Vc Go.Proofs Go.RowKit
set_option linter.unusedVariables false
set_option linter.unusedSimpArgs false
theorem okA_good {pl : Bool} {p t : Bytes} (hp : GoodP pl p) (ht : t.length ≤ 200) : okA p t = true := by
  unfold okA; rw [hp.1]; simpa using ht
theorem ext_t (t : Bytes) (a b : Nat) : ByteArray.extract (B t) a b = B (sub_ t a b) := by rw [ext_B, L_B]
theorem lawPieces_ok (a1 : Option Addr) (l1 c1 : Nat) (w : World) (h1 : l1 ≤ 1048576 → GBytes w w.heap.size a1 l1) : Cl Try.prog 15 [.slice a1 l1 c1] w (RetB (.bool true) w) := by
  apply vc15
  unfold V15
  refine ⟨fun _ => ⟨rfl, Below.refl _ _⟩, fun g1 => ?_⟩
  have g1' : l1 ≤ 1048576 := by have := of_decide_eq_false g1; omega
  refine (drawn_ok (h1 g1') g1').use fun e w4 he => ?_
  obtain ⟨p, t, rfl, hp, ht, B4⟩ := he
  have hok := okA_good hp (t := t) (by omega)
  have pt := okA_pt hok
  refine ⟨_, _, rfl, (implSplit_ok (B p) (B t) w4).use fun e w7 he => ?_⟩
  rw [L_B, L_B] at he
  obtain ⟨a6, c6, rfl, R7, B7⟩ := he
  refine ⟨_, _, _, rfl, (specSplit_ok (B p) (B t) w7).use fun e w10 he => ?_⟩
  rw [L_B, L_B] at he
  obtain ⟨a9, c9, rfl, _, B10⟩ := he
  have hss : splitA p t = splitP t 0 (allP (readP p) t 0) := by unfold splitA; rw [if_pos hok]
  have hal : allA p t = allP (readP p) t 0 := by unfold allA; rw [if_pos hok]
  have hlen := splitA_len p t
  generalize splitA p t = ss at *
  obtain ⟨h0, r0, hh0⟩ := split_cons t (allP (readP p) t 0) 0
  rw [hh0] at hss
  refine ⟨_, _, _, rfl, fun g => by simp at g, fun _ => ⟨fun g => by rw [hss] at g; simp at g; omega, fun _ => ?_⟩⟩
  have hpos : 0 < ss.length := by rw [hss]; simp
  have R10 := R7.below B10
  -- one of the pieces
  have piece : ∀ {w' : World} {i : Nat} {s : Bytes}, Below w10.heap.size w10 w' → ss[i]? = some s → ∃ b, a6 = some ⟨b, 0, none⟩ ∧ cellH w'.heap b (0 + i * 1) = some (.string (B s)) := by
    intro w' i s hb hs
    have hi : i < ss.length := (List.getElem?_eq_some_iff.1 hs).1
    obtain ⟨b, cs, ha, _, _, _, hc⟩ := (R10.below hb).at (by omega)
    refine ⟨b, ha, ?_⟩
    rw [show 0 + i * 1 = i from by omega, hc i (by omega)]
    unfold strC
    rw [List.getElem?_map, hs]
    rfl
  obtain ⟨b0, ha0, hc0⟩ := piece (Below.refl _ _) (i := 0) (s := h0) (by rw [hss]; rfl)
  refine ⟨b0, 0, ⟨ha0, by omega, by omega⟩, _, hc0, (specAll_ok (B p) (B t) w10).use fun e w16 he => ?_⟩
  rw [L_B, L_B, hal] at he
  obtain ⟨a15, l15, c15, es, rfl, Me, hes, B16⟩ := he
  have hl15 := Me.len
  have hel : es.length ≤ 201 := by have := pt.allLen; rw [← hes, List.length_map] at this; exact this
  have B16' := ((B4.vstep B7).vstep B10).vstep B16
  refine ⟨_, _, _, rfl, fun k s23 n24 n25 w' => ∃ (A D : List ME) (q i : Nat) (h : Bytes) (r : List Bytes), es = A ++ D ∧ n25 = A.length ∧ k = D.length ∧ splitP t q (D.map (·.1)) = h :: r ∧ s23 = B (sub_ t 0 q ++ h) ∧ n24 = ((ss.length - r.length : Nat) : Int) ∧ (∃ pre, ss = pre ++ r) ∧ q ≤ t.length ∧ q ≤ i ∧ Chain (readP p).groups t.length i (D.map (·.1)) ∧ Below w16.heap.size w16 w',
    ⟨_, [], es, 0, 0, h0, r0, rfl, rfl, rfl, by rw [hes]; exact hh0, by simp [sub_], by rw [hss]; simp, ⟨[h0], hss⟩, by omega, by omega, by rw [hes]; exact pt.chain _ 0 rfl, Below.refl _ _⟩, ?_⟩
  rintro k d _ _ _ w21 ⟨A, D, q, i, h, r, hAD, rfl, rfl, hsp, rfl, rfl, ⟨pre, hpre⟩, hq, hqi, hch, B21⟩
  have hel2 : es.length = A.length + D.length := by rw [hAD]; simp
  have hrl : r.length ≤ ss.length := by rw [hpre]; simp
  refine ⟨fun g => ?_, fun g => ?_⟩
  · have g' : A.length < l15 := by have := of_decide_eq_true g; omega
    obtain ⟨x, D', rfl⟩ : ∃ x B', D = x :: B' := by
      cases D with
      | nil => simp only [List.length_nil] at hel2; omega
      | cons x B' => exact ⟨x, B', rfl⟩
    have e0 : Int.toNat (A.length : Int) = A.length := by omega
    have e1 : IntKind.wrap .i64 ((A.length : Int) + 1) = ((A.length + 1 : Nat) : Int) := by rw [w64 (by omega)]; omega
    have e2 : Int.toNat ((ss.length - r.length : Nat) : Int) = ss.length - r.length := by omega
    rw [e0, e1, e2]
    have M2 := Me.below B21
    rw [hAD] at M2
    obtain ⟨ba, hba, hc⟩ := M2.cells (i := A.length) (by simp)
    have hge : ∀ h, (A ++ x :: D')[A.length]'h = x := by intro h; simp
    rw [hge] at hc
    refine ⟨ba, 0, ⟨hba, by omega, by omega⟩, _, hc 0 (by decide), _, hc 1 (by decide), _, hc 2 (by decide), _, _, _, hc 3 (by decide), ?_⟩
    refine mbox_in (e := x) fun w34 s34 k34 B34 => ?_
    have B34' := B21.vstep B34
    simp only [List.map_cons] at hsp hch
    cases hch with
    | cons hi hm hr =>
    have hlo := hm.lo
    have hhi := hm.hi
    have hnx := nextM_le x.1
    -- it is passed over
    have skip : x.1.fr = x.1.to ∧ (x.1.fr = 0 ∨ x.1.fr = t.length) → ∃ m38, m38 < (x :: D').length ∧ ∃ (A_1 D : List ME) (q_1 i : Nat) (h_1 : Bytes) (r_1 : List Bytes), es = A_1 ++ D ∧ ((A.length + 1 : Nat) : Int) = A_1.length ∧ m38 = D.length ∧ splitP t q_1 (D.map (·.1)) = h_1 :: r_1 ∧ B (sub_ t 0 q ++ h) = B (sub_ t 0 q_1 ++ h_1) ∧ ((ss.length - r.length : Nat) : Int) = ((ss.length - r_1.length : Nat) : Int) ∧ (∃ pre, ss = pre ++ r_1) ∧ q_1 ≤ t.length ∧ q_1 ≤ i ∧ Chain (readP p).groups t.length i (D.map (·.1)) ∧ Below w16.heap.size w16 w34 := by
      intro hc
      unfold splitP at hsp
      rw [if_pos hc] at hsp
      exact ⟨D'.length, by simp, A ++ [x], D', q, nextM x.1, h, r, by rw [hAD]; simp, by simp, rfl, hsp, rfl, rfl, ⟨pre, hpre⟩, hq, by omega, hr, B34'⟩
    -- it is kept
    have keep : ¬ (x.1.fr = x.1.to ∧ (x.1.fr = 0 ∨ x.1.fr = t.length)) → (cB (decide (((ss.length - r.length : Nat) : Int) ≥ ((ss.length : Nat) : Int))) (RetB (.bool true) w (.returned (.bool false)) w34) (drw (fun w41 => lI w41 w21.heap.size 1 fun n42 => lI w41 w21.heap.size 2 fun n43 => (slT (B t) n42 n43) ∧ ixS a6 ss.length ((ss.length - r.length : Nat) : Int) fun b44 o45 => lS w41 b44 (o45 + (ss.length - r.length) * 1) fun s46 => ((ByteArray.extract (B t) (Int.toNat n42) (Int.toNat n43)).size + s46.size ≤ 9223372036854775807) ∧ ((B (sub_ t 0 q ++ h)).size + ((ByteArray.extract (B t) (Int.toNat n42) (Int.toNat n43)) ++ s46).size ≤ 9223372036854775807) ∧
        (∃ m47, m47 < (x :: D').length ∧ ∃ (A_1 D : List ME) (q_1 i : Nat) (h_1 : Bytes) (r_1 : List Bytes), es = A_1 ++ D ∧ ((A.length + 1 : Nat) : Int) = A_1.length ∧ m47 = D.length ∧ splitP t q_1 (D.map (·.1)) = h_1 :: r_1 ∧ B (sub_ t 0 q ++ h) ++ ((ByteArray.extract (B t) (Int.toNat n42) (Int.toNat n43)) ++ s46) = B (sub_ t 0 q_1 ++ h_1) ∧ IntKind.wrap .i64 (((ss.length - r.length : Nat) : Int) + 1) = ((ss.length - r_1.length : Nat) : Int) ∧ (∃ pre, ss = pre ++ r_1) ∧ q_1 ≤ t.length ∧ q_1 ≤ i ∧ Chain (readP p).groups t.length i (D.map (·.1)) ∧ Below w16.heap.size w16 w41)) w34)) := by
      intro hc
      unfold splitP at hsp
      rw [if_neg hc] at hsp
      injection hsp with hh hr2
      obtain ⟨h', r', hh'⟩ := split_cons t (D'.map (·.1)) x.1.to
      rw [hh'] at hr2
      subst hr2
      simp only [List.length_cons] at hrl ⊢
      refine ⟨fun g => by have := of_decide_eq_true g; omega, fun _ => drw_in fun w41 q41 e41 => ?_⟩
      have k41 := k34.keep e41 fun h => h
      have B41 := Ext.to B34' e41 fun _ h => h.elim
      have hget : ss[ss.length - (r'.length + 1)]? = some h' := by
        rw [hpre, List.getElem?_append_right (by simp), List.length_append, List.length_cons, show pre.length + (r'.length + 1) - (r'.length + 1) - pre.length = 0 from by omega]
        rfl
      obtain ⟨b, hb, hcb⟩ := piece (B16.vstep B41) hget
      refine ⟨_, k41.cell 1, _, k41.cell 2, ⟨by omega, by omega, by rw [size_B]; omega⟩, b, 0, ⟨hb, by omega, by omega⟩, _, hcb, ?_⟩
      have hl1 := sub_size t hlo hhi
      have hl2 : h'.length ≤ t.length := by
        have : ∀ (ms : List Mt) (p : Nat), ∀ s ∈ splitP t p ms, s.length ≤ t.length := by
          intro ms
          induction ms with
          | nil => intro p s hs; rw [List.mem_singleton.1 hs]; exact sub_len t _ _
          | cons m r ih =>
            intro p s hs
            unfold splitP at hs
            split at hs
            · exact ih p s hs
            · rcases List.mem_cons.1 hs with rfl | hs
              · exact sub_len t _ _
              · exact ih _ s hs
        exact this _ _ h' (by rw [hh']; exact List.mem_cons_self ..)
      have hl3 := sub_len t 0 q
      have hl4 := sub_len t q x.1.fr
      have hl5 : h.length ≤ t.length := by rw [← hh]; exact hl4
      dsimp only
      rw [show Int.toNat ((x.1.fr : Nat) : Int) = x.1.fr from by omega, show Int.toNat ((x.1.to : Nat) : Int) = x.1.to from by omega, ext_t, B_append, B_append]
      refine ⟨by rw [size_B, size_B]; omega, by rw [size_B, size_B]; simp only [List.length_append]; omega, D'.length, by simp, A ++ [x], D', x.1.to, nextM x.1, h', r', by rw [hAD]; simp, by simp, rfl, hh', ?_, ?_, ⟨pre ++ [h'], by rw [hpre]; simp⟩, hhi, hnx, hr, B41⟩
      · rw [← hh, sub_app t (Nat.zero_le _) (by omega), ← List.append_assoc, sub_app t (Nat.zero_le _) hlo]
      · rw [w64 (by omega)]; omega
    refine ⟨_, k34.cell 2, _, k34.cell 1, fun ga => ⟨_, k34.cell 1, fun gb => ?_, fun gb => ⟨_, k34.cell 1, fun gc => ?_, fun gc => ?_⟩⟩, fun ga => ?_⟩
    · have ga' : ((x.1.to : Nat) : Int) = x.1.fr := by simpa using ga
      have gb' : ((x.1.fr : Nat) : Int) = 0 := by simpa using gb
      exact skip ⟨by omega, .inl (by omega)⟩
    · have ga' : ((x.1.to : Nat) : Int) = x.1.fr := by simpa using ga
      have gc' : ((x.1.fr : Nat) : Int) = ((B t).size : Nat) := by simpa using gc
      rw [size_B] at gc'
      exact skip ⟨by omega, .inr (by omega)⟩
    · have gb' : ¬ ((x.1.fr : Nat) : Int) = 0 := by simpa using gb
      have gc' : ¬ ((x.1.fr : Nat) : Int) = ((B t).size : Nat) := by simpa using gc
      rw [size_B] at gc'
      exact keep (by rintro ⟨_, h | h⟩ <;> omega)
    · have ga' : ¬ ((x.1.to : Nat) : Int) = x.1.fr := by simpa using ga
      exact keep (by rintro ⟨h, _⟩; omega)
  · have g' : ¬ A.length < l15 := by have := of_decide_eq_false g; omega
    have hD0 : D = [] := by
      cases D with
      | nil => rfl
      | cons x r => simp only [List.length_cons] at hel2; omega
    subst hD0
    simp only [List.map_nil] at hsp
    unfold splitP at hsp
    injection hsp with hh hr2
    subst hr2 hh
    refine ⟨fun _ => ⟨?_, B16'.vstep B21⟩, fun g => by simp at g⟩
    rw [sub_app t (Nat.zero_le _) hq, sub_all]
    simp
end Go.Proofs.Ytngbiaeliphdjaa.V

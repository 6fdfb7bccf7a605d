/- Parts of a proof, put together: definitions, formulas of Go functions and lemmas. No statement of the seat is proved here. -/
import Derived.Test.YtngbiaeliphdjaaReE
set_option maxHeartbeats 4000000
/- The functions that draw, over their cursor: what they draw, and how many draws there may be yet. No statement of the seat is proved here. -/
namespace Go.Proofs.Ytngbiaeliphdjaa.V
open Go.Vc Go.Proofs Go.RowKit
set_option linter.unusedVariables false
set_option linter.unusedSimpArgs false

theorem _root_.Go.Vc.GBytes.ext {S : Nat → Prop} {w w' : World} {B : Nat} {a : Option Addr} {l : Nat} (h : GBytes w B a l) (e : Ext S w w') (hB : B ≤ w.heap.size) (hs : ∀ k, k < B → ¬ S k) : GBytes w' B a l := by
  refine ⟨h.1, h.2.imp id ?_⟩
  rintro ⟨b, o, rfl, hb, hc⟩
  refine ⟨b, o, rfl, hb, fun i hi => ?_⟩
  obtain ⟨n, h1, h2, h3⟩ := hc i hi
  exact ⟨n, h1, h2, by rw [e.cellH (by omega) (hs b hb)]; exact h3⟩
def Cur (w : World) (b B : Nat) (a : Option Addr) (l c m : Nat) : Prop :=
  (∃ (p : Nat) (sd : Nat), Blk w.heap b 76 [.slice a l c, .int .i64 (p : Int), .int .u64 (sd : Int)] ∧ sd < 18446744073709551616 ∧ Bd l p sd m) ∧ GBytes w B a l ∧ B ≤ b ∧ l ≤ 1048576
theorem Cur.lt {w : World} {b B : Nat} {a : Option Addr} {l c m : Nat} (h : Cur w b B a l c m) : b < w.heap.size := by obtain ⟨⟨p, sd, h, _⟩, _⟩ := h; exact h.lt
theorem Cur.ext {S : Nat → Prop} {w w' : World} {b B : Nat} {a : Option Addr} {l c m : Nat} (h : Cur w b B a l c m) (e : Ext S w w') (hs : ∀ k, k ≤ b → ¬ S k) : Cur w' b B a l c m := by
  have hlt := h.lt
  obtain ⟨⟨p, sd, h1, h2⟩, h3, h4, h5⟩ := h
  exact ⟨⟨p, sd, h1.keep e (hs b (by omega)), h2⟩, h3.ext e (by omega) (fun k hk => hs k (by omega)), h4, h5⟩
theorem Cur.below {w w' : World} {b B : Nat} {a : Option Addr} {l c m : Nat} (h : Cur w b B a l c m) (e : Below w.heap.size w w') : Cur w' b B a l c m :=
  h.ext (S := fun _ => False) (Ext.of_below e) fun _ _ h => h
theorem Cur.blk {w w' : World} {b k : Nat} {e : TypeId} {cs : List Value} (hk : Blk w.heap k e cs) (hb : b < k) (E : Ext (fun k => k = b) w w') : Blk w'.heap k e cs := hk.keep E (by omega)
/-- What a drawing leaves: the value, and how many draws there may be yet. -/
def Drew (w : World) (b B : Nat) (a : Option Addr) (l c : Nat) (φ : Value → Nat → Prop) : Ending → World → Prop :=
  fun e w' => ∃ v m', e = .returned v ∧ φ v m' ∧ Cur w' b B a l c m' ∧ Ext (fun k => k = b) w w'
theorem u64w {n : Int} : IntKind.wrap .u64 n = n % 18446744073709551616 := by
  have h1 : (2 ^ IntKind.u64.bits : Int) = 18446744073709551616 := by decide
  have h3 : IntKind.u64.signed = false := rfl
  unfold IntKind.wrap
  simp only [h1, h3, Bool.false_and, Bool.false_eq_true, if_false]
theorem lg_u64 (sd : Nat) : IntKind.wrap .u64 ((IntKind.wrap .u64 ((sd : Int) * 6364136223846793005)) + 1442695040888963407) = ((lg sd % 18446744073709551616 : Nat) : Int) := by
  rw [u64w, u64w]; unfold lg; omega
theorem top_byte {sd : Nat} (h : sd < 18446744073709551616) : IntKind.wrap .i64 (IntKind.wrap .u64 (((BitVec.ofInt 64 (Int.fdiv (sd : Int) (2 ^ (min (Int.toNat 40) 64))) &&& BitVec.ofInt 64 255).toNat : Int))) = ((sd / 1099511627776 % 256 : Nat) : Int) := by
  have e : (2 : Int) ^ (min (Int.toNat 40) 64) = 1099511627776 := by decide
  rw [e, Int.fdiv_eq_ediv_of_nonneg _ (by decide)]
  have e2 : (BitVec.ofInt 64 ((sd : Int) / 1099511627776) &&& BitVec.ofInt 64 255).toNat = sd / 1099511627776 % 256 := by
    rw [BitVec.toNat_and]
    have h1 : (BitVec.ofInt 64 ((sd : Int) / 1099511627776)).toNat = sd / 1099511627776 := by
      rw [BitVec.toNat_ofInt]
      have : ((2 ^ 64 : Nat) : Int) = 18446744073709551616 := by decide
      rw [this]; omega
    have h2 : (BitVec.ofInt 64 255).toNat = 2 ^ 8 - 1 := by decide
    rw [h1, h2, Nat.and_two_pow_sub_one_eq_mod]
  rw [e2, u64w, w64 (by omega)]
  omega
theorem next_ok {w : World} {b B : Nat} {a : Option Addr} {l c m : Nat} (h : Cur w b B a l c m) (hm : 0 < m) :
    Cl Try.prog 115 [.pointer (some ⟨b, 0, none⟩)] w (Drew w b B a l c fun v m' => m' < m ∧ min (m - 1) 5059 ≤ m' ∧ ∃ n : Nat, v = .int .i64 (n : Int) ∧ n ≤ 255 ∧ (5000 < m → m ≤ 5059 → good n)) := by
  apply vc115
  unfold V115
  obtain ⟨⟨p, sd, hB, hsd, hbd⟩, hC, hb, hl⟩ := h
  have hpl := hB.lt
  have hp := hbd.1
  refine drw_in fun w1 q1 e1 => ?_
  have hB1 := hB.keep e1 fun h => h
  refine ⟨p, hB1.cell 1, a, l, c, hB1.cell 0, fun g => ?_, fun g => ?_⟩
  · have g' : p < l := by have := of_decide_eq_true g; omega
    refine drw_in fun w2 q2 e2 => ?_
    have hB2 := hB1.keep e2 fun h => h
    have hC2 := (hC.ext e1 (by omega) (fun _ _ h => h)).ext e2 (by have := e1.size; omega) (fun _ _ h => h)
    rcases hC2.2 with h0 | ⟨b', o', rfl, hb', hc⟩
    · omega
    obtain ⟨n, hn1, hn2, hn3⟩ := hc p g'
    refine ⟨_, l, c, hB2.cell 0, p, hB2.cell 1, b', o', ⟨rfl, by omega, by omega⟩, n, ?_, p, hB2.cell 1, ?_⟩
    · rw [show (Int.toNat (p : Int)) * 1 = p from by omega]; exact hn3
    refine stW_in hB2 (by show 0 + 1 + 1 ≤ 3; decide) fun w3 s3 k3 e3 => ?_
    refine ⟨sd, k3.cell 2, ?_⟩
    refine stW_in k3 (by show 0 + 2 + 1 ≤ 3; decide) fun w4 s4 k4 e4 => ?_
    have hE : Ext (fun k => k = b) w w4 := (((Ext.mono e1 fun _ _ h => h.elim).trans (Ext.mono e2 fun _ _ h => h.elim)).trans e3).trans e4
    have hw : IntKind.wrap .i64 ((p : Int) + 1) = ((p + 1 : Nat) : Int) := by rw [w64 (by omega)]; omega
    obtain ⟨sd', hsd', hlt'⟩ : ∃ sd' : Nat, (IntKind.wrap .u64 ((IntKind.wrap .u64 ((IntKind.wrap .u64 ((sd : Int) * 6364136223846793005)) + (IntKind.wrap .u64 n))) + 1442695040888963407)) = (sd' : Int) ∧ sd' < 18446744073709551616 := by
      rw [u64w]
      generalize (IntKind.wrap .u64 ((IntKind.wrap .u64 ((sd : Int) * 6364136223846793005)) + (IntKind.wrap .u64 n))) + 1442695040888963407 = x
      exact ⟨(x % 18446744073709551616).toNat, by omega, by omega⟩
    obtain ⟨m', hm1, hm2, hm3⟩ := bd_code hbd hm hl g' (sd' := sd')
    refine ⟨_, m', rfl, ⟨hm1, hm2, n.toNat, by rw [w64 (by omega), Int.toNat_of_nonneg hn1], by omega, fun h1 h2 => ?_⟩, ⟨⟨p + 1, sd', ?_, hlt', hm3⟩, hC.ext hE (by omega) (fun k hk => by omega), hb, hl⟩, hE⟩
    · have := (bd_good hbd h1 h2 (sd' := lg sd) rfl).1; omega
    · rw [← hw, ← hsd']; exact k4
  · have g' : l ≤ p := by have := of_decide_eq_false g; omega
    refine ⟨sd, hB1.cell 2, ?_⟩
    refine stW_in hB1 (by show 0 + 2 + 1 ≤ 3; decide) fun w3 s3 k3 e3 => ?_
    refine ⟨p, k3.cell 1, ?_⟩
    refine stW_in k3 (by show 0 + 1 + 1 ≤ 3; decide) fun w4 s4 k4 e4 => ?_
    have hE : Ext (fun k => k = b) w w4 := ((Ext.mono e1 fun _ _ h => h.elim).trans e3).trans e4
    have hw : IntKind.wrap .i64 ((p : Int) + 1) = ((p + 1 : Nat) : Int) := by rw [w64 (by omega)]; omega
    have k4' : Blk w4.heap b 76 [.slice a l c, .int .i64 ((p + 1 : Nat) : Int), .int .u64 ((lg sd % 18446744073709551616 : Nat) : Int)] := by rw [← hw, ← lg_u64]; exact k4
    have hlt : lg sd % 18446744073709551616 < 18446744073709551616 := Nat.mod_lt _ (by decide)
    have hcg : lg sd % 18446744073709551616 % 281474976710656 = lg sd % 281474976710656 := by omega
    generalize lg sd % 18446744073709551616 = sd' at *
    refine ⟨_, k4'.cell 2, by decide, _, m - 1, rfl, ⟨by omega, by omega, sd' / 1099511627776 % 256, by rw [top_byte hlt], by omega, fun h1 h2 => (bd_good hbd h1 h2 hcg).2⟩, ⟨⟨p + 1, sd', k4', hlt, bd_seq hbd hm g' hcg⟩, hC.ext hE (by omega) (fun k hk => by omega), hb, hl⟩, hE⟩
/-- A draw of at most 200 things. -/
theorem pick_ok {w : World} {b B : Nat} {a : Option Addr} {l c m : Nat} (h : Cur w b B a l c m) (hm : 0 < m) (n : Nat) (h1 : 2 ≤ n) (h2 : n ≤ 200) :
    Cl Try.prog 82 [.pointer (some ⟨b, 0, none⟩), .int .i64 (n : Int)] w (Drew w b B a l c fun v m' => m' < m ∧ min (m - 1) 5059 ≤ m' ∧ ∃ r : Nat, v = .int .i64 (r : Int) ∧ r < n ∧ (5000 < m → m ≤ 5059 → (n = 12 → r ≠ 4 ∧ r ≠ 5 ∧ r ≠ 6) ∧ (n = 6 → r ≠ 0))) := by
  apply vc82
  unfold V82
  refine ⟨fun g => by have := of_decide_eq_true g; omega, fun _ => ?_⟩
  refine (next_ok h hm).use fun e w1 he => ?_
  obtain ⟨_, m', rfl, ⟨h3, h4, x, rfl, hx, hg⟩, hC1, e1⟩ := he
  refine ⟨x, rfl, fun g1 => by have := of_decide_eq_true g1; omega, fun _ => ?_⟩
  refine ⟨by omega, _, m', rfl, ⟨h3, h4, x % n, ?_, Nat.mod_lt _ (by omega), fun h5 h6 => ?_⟩, hC1, e1⟩
  · rw [Int.tmod_eq_emod_of_nonneg (by omega), Int.natCast_emod]
  · have := hg h5 h6
    unfold good at this
    exact ⟨fun h => by subst h; omega, fun h => by subst h; omega⟩
theorem pick0_ok {w : World} {b B : Nat} {a : Option Addr} {l c m : Nat} (h : Cur w b B a l c m) {n : Int} (hn : n ≤ 1) :
    Cl Try.prog 82 [.pointer (some ⟨b, 0, none⟩), .int .i64 n] w (Drew w b B a l c fun v m' => m' = m ∧ v = .int .i64 0) := by
  apply vc82
  unfold V82
  exact ⟨fun _ => ⟨_, m, rfl, ⟨rfl, rfl⟩, h, Ext.refl _ _⟩, fun g => by have := of_decide_eq_false g; omega⟩
/-- Any draw. -/
theorem pickN_ok {w : World} {b B : Nat} {a : Option Addr} {l c m : Nat} (h : Cur w b B a l c m) (hm : 0 < m) (n : Nat) (h0 : 1 ≤ n) (h2 : n ≤ 200) :
    Cl Try.prog 82 [.pointer (some ⟨b, 0, none⟩), .int .i64 (n : Int)] w (Drew w b B a l c fun v m' => m' ≤ m ∧ min (m - 1) 5059 ≤ m' ∧ ∃ r : Nat, v = .int .i64 (r : Int) ∧ r < n) := by
  by_cases h1 : 2 ≤ n
  · refine (pick_ok h hm n h1 h2).use fun e w' he => ?_
    obtain ⟨v, m', h3, ⟨h4, h5, r, h6, h7, _⟩, h8, h9⟩ := he
    exact ⟨v, m', h3, ⟨by omega, h5, r, h6, h7⟩, h8, h9⟩
  · refine (pick0_ok h (by omega)).use fun e w' he => ?_
    obtain ⟨v, m', h3, ⟨h4, h5⟩, h8, h9⟩ := he
    exact ⟨v, m', h3, ⟨by omega, by omega, 0, h5, by omega⟩, h8, h9⟩
theorem elemU8 : Elem Try.prog 22 5 1 1 := ⟨Try.underlying22, by kernel_rfl, by kernel_rfl, ⟨[.int .u8 0], by kernel_rfl, rfl⟩⟩
theorem u8s_append (l m : Bytes) : u8s (l ++ m) = u8s l ++ u8s m := by simp [u8s]
/-- The bytes become a string. -/
theorem row_str {N : Nat} {w : World} {a : Option Addr} {l c : Nat} {xs : Bytes} (h : Row N w 5 1 a l c (u8s xs)) : (convert 22 9 (.slice a l c)).run Try.prog w = .ok (.string (Go.Vc.B xs)) w := by
  obtain ⟨⟨v1, v2, v3⟩, v4, v5⟩ := h
  have hx : xs.length = l := by have := v1; simp [u8s] at this; omega
  rcases v3 with ⟨rfl, rfl⟩ | ⟨bb, cs, rfl, hB, h4, h5⟩
  · have : l = 0 := by omega
    have : xs = [] := List.length_eq_zero_iff.1 (by omega)
    subst this
    exact conv_nil Try.underlying22 Try.underlying9 Try.underlying5
  · exact conv_run Try.underlying22 Try.underlying9 Try.underlying5 (by omega) (hB.cellsAt (n := l * 1) (by simpa using h5) v1.symm)
theorem bytes_ok {w : World} {b B : Nat} {a : Option Addr} {l c m : Nat} (h : Cur w b B a l c m) (n : Nat) (hn : n ≤ 1000000) (hm : n ≤ m) (ht : m ≤ 5059 ∨ n ≤ 5059) :
    Cl Try.prog 81 [.pointer (some ⟨b, 0, none⟩), .int .i64 (n : Int)] w (Drew w b B a l c fun v m' => m' ≤ m ∧ min m 5059 ≤ m' + n ∧ ∃ s : Bytes, v = .string (Go.Vc.B s) ∧ s.length = n) := by
  apply vc81
  unfold V81
  have hbl := h.lt
  refine ⟨fun k j ax lx cx w' => ∃ (i : Nat) (xs : Bytes) (m' : Nat), j = ((n - i : Nat) : Int) ∧ i ≤ n ∧ k = n - i ∧ i = lx ∧ xs.length = i ∧ m' ≤ m ∧ min m 5059 ≤ m' + i ∧ Row w.heap.size w' 5 1 ax lx cx (u8s xs) ∧ Cur w' b B a l c m' ∧ Ext (fun k => k = b) w w', ⟨_, 0, [], m, rfl, by omega, rfl, rfl, rfl, by omega, by omega, Row.nil _ _ (Nat.le_refl _), h, Ext.refl _ _⟩, ?_⟩
  rintro k d j ax lx cx w1 ⟨i, xs, m1, rfl, hi, rfl, hil, hx, hm1, hm2, hR, hC, hE⟩
  refine ⟨fun g => ?_, fun g => ?_⟩
  · have g' : i < n := by have := of_decide_eq_true g; omega
    refine (next_ok hC (by omega)).use fun e w2 he => ?_
    obtain ⟨_, m2, rfl, ⟨h3, h4, y, rfl, hy, _⟩, hC2, e2⟩ := he
    refine ⟨y, rfl, ?_⟩
    have hy : IntKind.wrap .u8 (y : Int) = ((UInt8.ofNat y).toNat : Int) := by rw [w8, UInt8.toNat_ofNat']; omega
    dsimp only
    rw [hy]
    obtain ⟨a3, c3, w3, r1, r2, r3⟩ := (hR.keep e2 fun k hk h => by omega).app1 elemU8 (ys := u8s [UInt8.ofNat y]) (n := 1) rfl rfl (by omega) (by omega)
    refine ⟨a3, _, c3, w3, r1, n - (i + 1), by omega, i + 1, xs ++ [UInt8.ofNat y], m2, ?_, by omega, rfl, by omega, by simp; omega, by omega, by omega, ?_, ?_, ?_⟩
    · rw [w64 (by omega)]; omega
    · rw [u8s_append]; exact r2
    · exact (hC2.ext r3 fun k hk (h : _ ≤ k) => by omega)
    · exact (hE.trans e2).step r3 fun i hi (h : _ ≤ i) => by omega
  · have : i = n := by have := of_decide_eq_false g; omega
    subst this
    exact ⟨Go.Vc.B xs, row_str hR, _, m1, rfl, ⟨hm1, hm2, xs, rfl, hx⟩, hC, hE⟩
/-- A cursor is made. -/
theorem cur_in {w : World} {a : Option Addr} {l c : Nat} (h : GBytes w w.heap.size a l) (hl : l ≤ 1048576) {K : Nat → World → Prop} (hK : ∀ w1 m, 5059 ≤ m → Cur w1 w.heap.size w.heap.size a l c m → Below w.heap.size w w1 → K w.heap.size w1) :
    newC [.slice a l c, .int .i64 0, .int .u64 0] 76 K w := by
  refine newC_in fun w1 s1 k1 e1 => ?_
  obtain ⟨m, hm, hb⟩ := bd_start (l := l) (sd := 0) hl
  exact hK w1 m hm ⟨⟨0, 0, k1, by decide, hb⟩, h.ext e1 (Nat.le_refl _) (fun _ _ h => h), Nat.le_refl _, hl⟩ (Ext.to (Below.refl _ _) e1 fun _ h => h.elim)
theorem texts_ok {w : World} {a : Option Addr} {l c : Nat} (h : GBytes w w.heap.size a l) (hl : l ≤ 1048576) :
    Cl Try.prog 32 [.slice a l c] w (fun e w' => ∃ s : Bytes, e = .returned (.string (Go.Vc.B s)) ∧ s.length ≤ 27 ∧ Below w.heap.size w w') := by
  apply vc32
  unfold V32
  refine cur_in h hl fun w1 m hm hC B1 => ?_
  refine (pick_ok hC (by omega) 28 (by omega) (by omega)).use fun e w2 he => ?_
  obtain ⟨_, m2, rfl, ⟨h3, h4, r, rfl, hr, _⟩, hC2, e2⟩ := he
  refine ⟨r, rfl, ?_⟩
  refine (bytes_ok hC2 r (by omega) (by omega) (by omega)).use fun e w3 he => ?_
  obtain ⟨_, m3, rfl, ⟨_, _, s, rfl, hs⟩, hC3, e3⟩ := he
  exact ⟨_, rfl, s, rfl, by omega, Ext.to (Ext.to B1 e2 fun i h => by omega) e3 fun i h => by omega⟩
end Go.Proofs.Ytngbiaeliphdjaa.V
/- How the pure reader reads a text that is put together of parts. No statement of the seat is proved here. -/
namespace Go.Vc
set_option linter.unusedVariables false
set_option linter.unusedSimpArgs false
/-- The text stands at this place. -/
def Fit (l : Bytes) (i : Nat) (s : Bytes) : Prop := i + s.length ≤ l.length ∧ ∀ k, k < s.length → at_ l (i + k) = at_ s k
theorem at_app_l {s t : Bytes} {k : Nat} (h : k < s.length) : at_ (s ++ t) k = at_ s k := by
  unfold at_; rw [List.getD_eq_getElem?_getD, List.getD_eq_getElem?_getD, List.getElem?_append_left h]
theorem at_app_r {s t : Bytes} {k : Nat} : at_ (s ++ t) (s.length + k) = at_ t k := by
  unfold at_; rw [List.getD_eq_getElem?_getD, List.getD_eq_getElem?_getD, List.getElem?_append_right (by omega), show s.length + k - s.length = k from by omega]
theorem Fit.app {l : Bytes} {i : Nat} {s t : Bytes} (h : Fit l i (s ++ t)) : Fit l i s ∧ Fit l (i + s.length) t := by
  obtain ⟨h1, h2⟩ := h
  rw [List.length_append] at h1 h2
  refine ⟨⟨by omega, fun k hk => ?_⟩, by omega, fun k hk => ?_⟩
  · rw [h2 k (by omega), at_app_l hk]
  · rw [show i + s.length + k = i + (s.length + k) from by omega, h2 _ (by omega), at_app_r]
theorem Fit.self (s : Bytes) : Fit s 0 s := ⟨by omega, fun k _ => by rw [Nat.zero_add]⟩
theorem Fit.at0 {l : Bytes} {i : Nat} {c : UInt8} {r : Bytes} (h : Fit l i (c :: r)) : i < l.length ∧ at_ l i = c.toNat := by
  obtain ⟨h1, h2⟩ := h
  simp only [List.length_cons] at h1 h2
  exact ⟨by omega, h2 0 (by omega)⟩
theorem Fit.tail {l : Bytes} {i : Nat} {c : UInt8} {r : Bytes} (h : Fit l i (c :: r)) : Fit l (i + 1) r := (Fit.app (s := [c]) (t := r) h).2
theorem Fit.le {l : Bytes} {i : Nat} {s : Bytes} (h : Fit l i s) : i + s.length ≤ l.length := h.1
def cntC (n : Nat) : Prop := n = 42 ∨ n = 43 ∨ n = 63 ∨ n = 123
/-- No count stands at this place. -/
def NC (l : Bytes) (j : Nat) : Prop := ¬ (j < l.length ∧ cntC (at_ l j))
def NQ (l : Bytes) (j : Nat) : Prop := ¬ (j < l.length ∧ at_ l j = 63)
theorem NC.q {l : Bytes} {j : Nat} (h : NC l j) : NQ l j := fun ⟨h1, h2⟩ => h ⟨h1, .inr (.inr (.inl h2))⟩
/-- The end, or the end of a group. -/
def EN (l : Bytes) (j : Nat) : Prop := j = l.length ∨ at_ l j = 41
theorem EN.nc {l : Bytes} {j : Nat} (h : EN l j) : NC l j := fun ⟨h1, h2⟩ => by
  unfold cntC at h2
  rcases h with h | h <;> omega
def HD (s : Bytes) : Prop := s = [] ∨ ¬ cntC (at_ s 0)
def subOf (l : Bytes) : Nat → St → Pr (St × Int)
  | 0 => fun _ => .bad 0
  | d + 1 => patP l d
def deepOf : Nat → Bool
  | 0 => true
  | _ + 1 => false
theorem subOf_ok (l : Bytes) (d : Nat) : SubOk l (subOf l d) := by
  cases d with
  | zero => intro i g out j g' out' k _ h; cases h
  | succ d => exact patP_len l d
/-- A sequence, and alternatives behind it. -/
def saL (l : Bytes) (d i g : Nat) (out : List Pc) (kids : List Int) : Pr (St × Int) := match seqL (subOf l d) (deepOf d) l i g out [] with
  | .bad e => .bad e
  | .ok ((j, g', out'), x) => altL (subOf l d) (deepOf d) l j g' out' (kids ++ [x])
theorem patP_sa (l : Bytes) (d i g : Nat) (out : List Pc) : patP l d (i, g, out) = saL l d i g out [] := by
  cases d <;> rfl
theorem altL_sa {l : Bytes} {d i g : Nat} {out : List Pc} {kids : List Int} (h : i < l.length) (hb : at_ l i = 124) : altL (subOf l d) (deepOf d) l i g out kids = saL l d (i + 1) g out kids := by
  unfold saL
  cases hs : seqL (subOf l d) (deepOf d) l (i + 1) g out [] with
  | bad e => exact altL_bad ⟨h, hb⟩ hs
  | ok r =>
    obtain ⟨⟨j, g', out'⟩, x⟩ := r
    have := seqL_len (subOf_ok l d) _ rfl (by omega) hs
    exact altL_go ⟨h, hb⟩ hs (by omega)
def altO (out : List Pc) : List Int → List Pc × Int
  | [k] => (out, k)
  | kids => (out ++ [pAlt kids], out.length)
theorem altE_O (i g : Nat) (out : List Pc) (kids : List Int) : altE i g out kids = .ok ((i, g, (altO out kids).1), (altO out kids).2) := by
  match kids with
  | [] => rfl
  | [k] => rfl
  | a :: b :: r => rfl
abbrev FF := List Pc → List Int → List Pc × List Int
/-- A part of a sequence. -/
def SqX (d g : Nat) (s : Bytes) (g' : Nat) (F : FF) : Prop := HD s ∧ ∀ (l : Bytes) (i : Nat) (out : List Pc) (kids : List Int), Fit l i s → NC l (i + s.length) →
  seqL (subOf l d) (deepOf d) l i g out kids = seqL (subOf l d) (deepOf d) l (i + s.length) g' (F out kids).1 (F out kids).2
/-- A pattern. -/
def PtX (d g : Nat) (s : Bytes) (g' : Nat) (F : FF) : Prop := ∀ (l : Bytes) (i : Nat) (out : List Pc) (kids : List Int), Fit l i s → EN l (i + s.length) →
  saL l d i g out kids = altE (i + s.length) g' (F out kids).1 (F out kids).2
/-- An atom. -/
def AtX (d g : Nat) (s : Bytes) (g' : Nat) (A : List Pc → List Pc × Int) : Prop := s ≠ [] ∧ ¬ cntC (at_ s 0) ∧ at_ s 0 ≠ 124 ∧ at_ s 0 ≠ 41 ∧ ∀ (l : Bytes) (i : Nat) (out : List Pc), Fit l i s →
  atomP (subOf l d) (deepOf d) l i g out = .ok ((i + s.length, g', (A out).1), (A out).2)
/-- A count. -/
def CnX (s : Bytes) (a b : Int) (z : Bool) : Prop := ∀ (l : Bytes) (i : Nat), Fit l i s → NQ l (i + s.length) → cntP l i = .ok (i + s.length, some (a, b, z))
theorem SqX.nil (d g : Nat) : SqX d g [] g fun out kids => (out, kids) := ⟨.inl rfl, fun l i out kids _ _ => rfl⟩
theorem SqX.app {d g g1 g2 : Nat} {s t : Bytes} {F G : FF} (h : SqX d g s g1 F) (k : SqX d g1 t g2 G) : SqX d g (s ++ t) g2 fun out kids => G (F out kids).1 (F out kids).2 := by
  refine ⟨?_, fun l i out kids hf hn => ?_⟩
  · rcases h.1 with rfl | h1
    · exact k.1
    · by_cases hs : s = []
      · subst hs; exact k.1
      · right; rw [at_app_l (List.length_pos_iff.2 hs)]; exact h1
  · have f := hf.app
    rw [List.length_append, ← Nat.add_assoc] at hn ⊢
    rw [h.2 l i out kids f.1 ?_, k.2 l _ _ _ f.2 hn]
    rcases k.1 with rfl | h2
    · simpa using hn
    · rintro ⟨h3, h4⟩
      by_cases ht : t = []
      · subst ht; exact hn (by simpa using ⟨h3, h4⟩)
      · have := f.2.2 0 (List.length_pos_iff.2 ht)
        rw [Nat.add_zero] at this
        rw [this] at h4; exact h2 h4
theorem SqX.pat {d g g' : Nat} {s : Bytes} {F : FF} (h : SqX d g s g' F) : PtX d g s g' fun out kids => ((F out []).1 ++ [pSeq (F out []).2], kids ++ [((F out []).1.length : Int)]) := by
  intro l i out kids hf he
  unfold saL
  rw [h.2 l i out [] hf he.nc]
  have hle := hf.le
  rw [seqL_out (by rintro ⟨h1, h2, h3⟩; rcases he with he | he; omega; exact h3 he)]
  simp only []
  rw [altL_out (by rintro ⟨h1, h2⟩; rcases he with he | he <;> omega)]
theorem PtX.alt {d g g1 g2 : Nat} {s y : Bytes} {F G : FF} (h : SqX d g s g1 F) (k : PtX d g1 y g2 G) : PtX d g (s ++ 124 :: y) g2 fun out kids => G ((F out []).1 ++ [pSeq (F out []).2]) (kids ++ [((F out []).1.length : Int)]) := by
  intro l i out kids hf he
  have f := hf.app
  have f0 := f.2.at0
  have e0 : at_ l (i + s.length) = 124 := f0.2
  have hnc : NC l (i + s.length) := by rintro ⟨_, h2⟩; unfold cntC at h2; omega
  have hl : i + (s ++ 124 :: y).length = i + s.length + 1 + y.length := by simp; omega
  rw [hl] at he ⊢
  unfold saL
  rw [h.2 l i out [] f.1 hnc]
  rw [seqL_out (by rintro ⟨h1, h2, h3⟩; exact h2 e0)]
  show altL (subOf l d) (deepOf d) l (i + s.length) g1 ((F out []).1 ++ [pSeq (F out []).2]) (kids ++ [((F out []).1.length : Int)]) = _
  rw [altL_sa f0.1 e0]
  exact k l _ _ _ f.2.tail he
theorem PtX.grp {d g g' : Nat} {y : Bytes} {F : FF} (h : PtX d (g + 1) y g' F) (hg : g < 9) : AtX (d + 1) g (40 :: (y ++ [41])) g' fun out => ((altO (F out []).1 (F out []).2).1 ++ [pGrp (g + 1 : Nat) (altO (F out []).1 (F out []).2).2], (altO (F out []).1 (F out []).2).1.length) := by
  refine ⟨by simp, by show ¬ cntC 40; unfold cntC; omega, by show (40 : Nat) ≠ 124; decide, by show (40 : Nat) ≠ 41; decide, fun l i out hf => ?_⟩
  have f0 := hf.at0
  have f1 := hf.tail.app
  have f2 := f1.2.at0
  have e0 : at_ l i = 40 := f0.2
  have e2 : at_ l (i + 1 + y.length) = 41 := f2.2
  have hl : i + (40 :: (y ++ [41])).length = i + 1 + y.length + 1 := by simp; omega
  rw [hl]
  unfold atomP
  rw [if_pos e0, if_neg (by simp [deepOf]; omega)]
  have hp : subOf l (d + 1) (i + 1, g + 1, out) = .ok ((i + 1 + y.length, g', (altO (F out []).1 (F out []).2).1), (altO (F out []).1 (F out []).2).2) := by
    show patP l d (i + 1, g + 1, out) = _
    rw [patP_sa, h l (i + 1) out [] f1.1 (.inr e2), altE_O]
  rw [hp]
  simp only []
  rw [if_neg (by omega), if_pos e2]
theorem pieceP_at {l : Bytes} {d i g g' : Nat} {s : Bytes} {A : List Pc → List Pc × Int} {out : List Pc} (h : AtX d g s g' A) (hf : Fit l i s) : pieceP (subOf l d) (deepOf d) l i g out = cntR l (i + s.length) g' (A out).1 (A out).2 := pieceP_ok (h.2.2.2.2 l i out hf)
theorem cntP_none {l : Bytes} {j : Nat} (h : NC l j) : cntP l j = .ok (j, none) := by
  unfold cntP
  by_cases hj : l.length ≤ j
  · simp [hj]
  · have hc : ¬ cntC (at_ l j) := fun hc => h ⟨by omega, hc⟩
    unfold cntC at hc
    simp only []
    rw [if_neg hj, if_neg (by omega), if_neg (by omega), if_neg (by omega), if_neg (by omega)]
theorem AtX.go {d g g' : Nat} {s : Bytes} {A : List Pc → List Pc × Int} (h : AtX d g s g' A) {l : Bytes} {i : Nat} (hf : Fit l i s) : i < l.length ∧ at_ l i ≠ 124 ∧ at_ l i ≠ 41 := by
  have hp := List.length_pos_iff.2 h.1
  have h0 := hf.2 0 hp
  rw [Nat.add_zero] at h0
  rw [h0]
  exact ⟨by have := hf.1; omega, h.2.2.1, h.2.2.2.1⟩
/-- An atom alone. -/
theorem AtX.one {d g g' : Nat} {s : Bytes} {A : List Pc → List Pc × Int} (h : AtX d g s g' A) : SqX d g s g' fun out kids => ((A out).1, kids ++ [(A out).2]) := by
  refine ⟨.inr h.2.1, fun l i out kids hf hn => ?_⟩
  have hp : pieceP (subOf l d) (deepOf d) l i g out = .ok ((i + s.length, g', (A out).1), (A out).2) := by
    rw [pieceP_at h hf]; unfold cntR; rw [cntP_none hn]
  exact seqL_go (h.go hf) hp (by have := List.length_pos_iff.2 h.1; omega)
/-- An atom with a count. -/
theorem AtX.cnt {d g g' : Nat} {s c : Bytes} {A : List Pc → List Pc × Int} {a b : Int} {z : Bool} (h : AtX d g s g' A) (k : CnX c a b z) : SqX d g (s ++ c) g' fun out kids => ((A out).1 ++ [pRep a b z (A out).2], kids ++ [((A out).1.length : Int)]) := by
  refine ⟨.inr (by rw [at_app_l (List.length_pos_iff.2 h.1)]; exact h.2.1), fun l i out kids hf hn => ?_⟩
  have f := hf.app
  rw [List.length_append, ← Nat.add_assoc] at hn ⊢
  have hp : pieceP (subOf l d) (deepOf d) l i g out = .ok ((i + s.length + c.length, g', (A out).1 ++ [pRep a b z (A out).2]), (A out).1.length) := by
    rw [pieceP_at h f.1]; unfold cntR; rw [k l _ f.2 hn.q]
  exact seqL_go (h.go f.1) hp (by have := List.length_pos_iff.2 h.1; omega)
/-- A text that is a pattern is read. -/
theorem PtX.read {s : Bytes} {g' : Nat} {F : FF} (h : PtX 6 0 s g' F) (hl : s.length ≤ 120) : readP s = ⟨true, 0, g', (altO (F [] []).1 (F [] []).2).1⟩ := by
  unfold readP
  rw [if_neg (by omega), patP_sa, h s 0 [] [] (Fit.self s) (.inl (by omega)), altE_O]
  simp only []
  rw [if_neg (by omega)]
/-! ### Counts -/
theorem digP_no {l : Bytes} {i n : Nat} (h : ¬ (i < l.length ∧ 48 ≤ at_ l i ∧ at_ l i ≤ 57)) : digP l i n = (i, n) := by rw [digP, dif_neg h]
theorem digP_go {l : Bytes} {i n : Nat} (h : i < l.length ∧ 48 ≤ at_ l i ∧ at_ l i ≤ 57) : digP l i n = digP l (i + 1) (Nat.min 1000 (10 * n + (at_ l i - 48))) := by rw [digP, dif_pos h]
/-- A number of one or two digits. -/
def decN (n : Nat) : Bytes := if n < 10 then [UInt8.ofNat (48 + n)] else [UInt8.ofNat (48 + n / 10), UInt8.ofNat (48 + n % 10)]
theorem u8N {n : Nat} (h : n < 256) : (UInt8.ofNat n).toNat = n := by simp; omega
theorem decN_pos (n : Nat) : 0 < (decN n).length := by unfold decN; split <;> simp
theorem numP_dec {l : Bytes} {i n : Nat} (hf : Fit l i (decN n)) (hn : n ≤ 50) (he : i + (decN n).length < l.length ∧ (at_ l (i + (decN n).length) < 48 ∨ 57 < at_ l (i + (decN n).length))) : numP l i = .ok (i + (decN n).length, n) := by
  unfold numP
  unfold decN at hf he ⊢
  by_cases h : n < 10
  · rw [if_pos h] at hf he ⊢
    have f := hf.at0
    rw [u8N (by omega)] at f
    simp only [List.length_cons, List.length_nil, Nat.zero_add] at he ⊢
    have hd : digP l i 0 = (i + 1, n) := by
      rw [digP_go (by omega), digP_no (by omega), f.2]
      congr 1
      show min 1000 (10 * 0 + (48 + n - 48)) = n
      omega
    rw [if_neg (by omega), if_neg (by omega), hd, if_neg (by simp; omega)]
  · rw [if_neg h] at hf he ⊢
    have f := hf.at0
    have f2 := hf.tail.at0
    rw [u8N (by omega)] at f f2
    have hl2 : ([UInt8.ofNat (48 + n / 10), UInt8.ofNat (48 + n % 10)] : Bytes).length = 2 := rfl
    rw [hl2] at he ⊢
    have hd : digP l i 0 = (i + 2, n) := by
      rw [digP_go (by omega), digP_go (by omega), show i + 1 + 1 = i + 2 from rfl, digP_no (by omega), f.2, f2.2]
      congr 1
      show min 1000 (10 * min 1000 (10 * 0 + (48 + n / 10 - 48)) + (48 + n % 10 - 48)) = n
      omega
    rw [if_neg (by omega), if_neg (by omega), hd, if_neg (by simp; omega)]
theorem cntP_q {l : Bytes} {j : Nat} {a b : Int} {z : Bool} {e : Nat} (hz : if z = true then j < l.length ∧ at_ l j = 63 ∧ e = j + 1 else NQ l j ∧ e = j) : (if j < l.length ∧ at_ l j = 63 then Pr.ok (j + 1, some (a, b, true)) else Pr.ok (j, some (a, b, false))) = Pr.ok (e, some (a, b, z)) := by
  cases z with
  | true => rw [if_pos rfl] at hz; rw [if_pos ⟨hz.1, hz.2.1⟩, hz.2.2]
  | false => rw [if_neg (by decide)] at hz; rw [if_neg hz.1, hz.2]
def lzT (z : Bool) : Bytes := if z then [63] else []
theorem lz_fit {l : Bytes} {j : Nat} {z : Bool} (h : Fit l j (lzT z)) (hn : NQ l (j + (lzT z).length)) : if z = true then j < l.length ∧ at_ l j = 63 ∧ j + (lzT z).length = j + 1 else NQ l j ∧ j + (lzT z).length = j := by
  cases z with
  | true => have := h.at0; rw [if_pos rfl]; exact ⟨this.1, this.2, rfl⟩
  | false => rw [if_neg (by decide)]; exact ⟨hn, rfl⟩
theorem cn_star (z : Bool) : CnX (42 :: lzT z) 0 (-1) z := by
  intro l i hf hn
  have f := hf.at0
  have e0 : at_ l i = 42 := f.2
  have hl : i + (42 :: lzT z).length = i + 1 + (lzT z).length := by simp; omega
  rw [hl] at hn ⊢
  unfold cntP
  simp only []
  rw [if_neg (by omega), if_pos e0]
  exact cntP_q (lz_fit hf.tail hn)
theorem cn_plus (z : Bool) : CnX (43 :: lzT z) 1 (-1) z := by
  intro l i hf hn
  have f := hf.at0
  have e0 : at_ l i = 43 := f.2
  have hl : i + (43 :: lzT z).length = i + 1 + (lzT z).length := by simp; omega
  rw [hl] at hn ⊢
  unfold cntP
  simp only []
  rw [if_neg (by omega), if_neg (by omega), if_pos e0]
  exact cntP_q (lz_fit hf.tail hn)
theorem cn_opt (z : Bool) : CnX (63 :: lzT z) 0 1 z := by
  intro l i hf hn
  have f := hf.at0
  have e0 : at_ l i = 63 := f.2
  have hl : i + (63 :: lzT z).length = i + 1 + (lzT z).length := by simp; omega
  rw [hl] at hn ⊢
  unfold cntP
  simp only []
  rw [if_neg (by omega), if_neg (by omega), if_neg (by omega), if_pos e0]
  exact cntP_q (lz_fit hf.tail hn)
theorem cn_bra {s : Bytes} {a b : Int} (h : ∀ (l : Bytes) (i : Nat), Fit l i s → braP l i = .ok (i + s.length, a, b)) (z : Bool) : CnX (123 :: (s ++ lzT z)) a b z := by
  intro l i hf hn
  have f := hf.at0
  have e0 : at_ l i = 123 := f.2
  have hl : i + (123 :: (s ++ lzT z)).length = i + 1 + s.length + (lzT z).length := by simp; omega
  rw [hl] at hn ⊢
  have f1 := hf.tail.app
  unfold cntP
  simp only []
  rw [if_neg (by omega), if_neg (by omega), if_neg (by omega), if_neg (by omega), if_pos e0, h l (i + 1) f1.1]
  exact cntP_q (lz_fit f1.2 hn)
theorem bra_two {m n : Nat} (hm : m ≤ 50) (hn : n ≤ 50) (hmn : m ≤ n) : ∀ (l : Bytes) (i : Nat), Fit l i (decN m ++ 44 :: (decN n ++ [125])) → braP l i = .ok (i + (decN m ++ 44 :: (decN n ++ [125])).length, (m : Int), (n : Int)) := by
  intro l i hf
  have f := hf.app
  have f1 := f.2.at0
  have f2 := f.2.tail.app
  have f3 := f2.2.at0
  have e1 : at_ l (i + (decN m).length) = 44 := f1.2
  have e3 : at_ l (i + (decN m).length + 1 + (decN n).length) = 125 := f3.2
  have hl : i + (decN m ++ 44 :: (decN n ++ [125])).length = i + (decN m).length + 1 + (decN n).length + 1 := by simp; omega
  rw [hl]
  unfold braP
  rw [numP_dec f.1 hm ⟨f1.1, by omega⟩]
  simp only []
  have hd : at_ l (i + (decN m).length + 1) ≠ 125 := by
    have hp := decN_pos n
    have h0 := f2.1.2 0 hp
    rw [Nat.add_zero] at h0
    rw [h0]
    unfold decN at hp ⊢
    split
    · show (UInt8.ofNat (48 + n)).toNat ≠ 125; rw [u8N (by omega)]; omega
    · show (UInt8.ofNat (48 + n / 10)).toNat ≠ 125; rw [u8N (by omega)]; omega
  rw [if_neg (by omega), if_pos e1, if_neg (by omega), if_neg hd, numP_dec f2.1 hn ⟨f3.1, by omega⟩]
  simp only []
  rw [if_neg (by omega), if_neg (by omega), if_pos e3]
theorem bra_one {m : Nat} (hm : m ≤ 50) : ∀ (l : Bytes) (i : Nat), Fit l i (decN m ++ [125]) → braP l i = .ok (i + (decN m ++ [125]).length, (m : Int), (m : Int)) := by
  intro l i hf
  have f := hf.app
  have f1 := f.2.at0
  have e1 : at_ l (i + (decN m).length) = 125 := f1.2
  have hl : i + (decN m ++ [125]).length = i + (decN m).length + 1 := by simp; omega
  rw [hl]
  unfold braP
  rw [numP_dec f.1 hm ⟨f1.1, by omega⟩]
  simp only []
  rw [if_neg (by omega), if_neg (by omega), if_pos e1]
theorem bra_from {m : Nat} (hm : m ≤ 50) : ∀ (l : Bytes) (i : Nat), Fit l i (decN m ++ [44, 125]) → braP l i = .ok (i + (decN m ++ [44, 125]).length, (m : Int), -1) := by
  intro l i hf
  have f := hf.app
  have f1 := f.2.at0
  have f2 := f.2.tail.at0
  have e1 : at_ l (i + (decN m).length) = 44 := f1.2
  have e2 : at_ l (i + (decN m).length + 1) = 125 := f2.2
  have hl : i + (decN m ++ [44, 125]).length = i + (decN m).length + 2 := by simp; omega
  rw [hl]
  unfold braP
  rw [numP_dec f.1 hm ⟨f1.1, by omega⟩]
  simp only []
  rw [if_neg (by omega), if_pos e1, if_neg (by omega), if_pos e2]
/-! ### Atoms -/
theorem at_set1 (d g : Nat) {c : UInt8} (h : c.toNat ≠ 40 ∧ c.toNat ≠ 91 ∧ c.toNat ≠ 46 ∧ c.toNat ≠ 94 ∧ c.toNat ≠ 36 ∧ c.toNat ≠ 92 ∧ c.toNat ≠ 41 ∧ c.toNat ≠ 93 ∧ c.toNat ≠ 123 ∧ c.toNat ≠ 125 ∧ c.toNat ≠ 42 ∧ c.toNat ≠ 43 ∧ c.toNat ≠ 63 ∧ c.toNat ≠ 124) :
    AtX d g [c] g fun out => (out ++ [pSet [((c.toNat : Int), (c.toNat : Int))]], out.length) := by
  have h0 : at_ [c] 0 = c.toNat := rfl
  refine ⟨by simp, by rw [h0]; unfold cntC; omega, by omega, by omega, fun l i out hf => ?_⟩
  have f := hf.at0
  unfold atomP
  rw [if_neg (by omega), if_neg (by omega), if_neg (by omega), if_neg (by omega), if_neg (by omega), if_neg (by omega), if_neg (by omega), f.2]
  rfl
theorem at_esc (d g : Nat) {s : Bytes} {r : Rs} {o : Option Nat} (h : ∀ (l : Bytes) (i : Nat), Fit l i s → escP l i = .ok (i + s.length, r, o)) : AtX d g (92 :: s) g fun out => (out ++ [pSet (runs (inR r))], out.length) := by
  refine ⟨by simp, by show ¬ cntC 92; unfold cntC; omega, by show (92 : Nat) ≠ 124; decide, by show (92 : Nat) ≠ 41; decide, fun l i out hf => ?_⟩
  have f := hf.at0
  have e0 : at_ l i = 92 := f.2
  unfold atomP
  rw [if_neg (by omega), if_neg (by omega), if_neg (by omega), if_neg (by omega), if_neg (by omega), if_pos e0, h l (i + 1) hf.tail]
  show Pr.ok ((i + 1 + s.length, g, out ++ [pSet (runs (inR r))]), (out.length : Int)) = _
  rw [show i + (92 :: s).length = i + 1 + s.length from by simp; omega]
theorem esc_one {c : UInt8} {r : Rs} {o : Option Nat} (h : escC c.toNat = some (r, o)) (hx : c.toNat ≠ 120) : ∀ (l : Bytes) (i : Nat), Fit l i [c] → escP l i = .ok (i + [c].length, r, o) := by
  intro l i hf
  have f := hf.at0
  unfold escP
  rw [if_neg (by omega), f.2, if_neg hx, h]
  rfl
theorem esc_hex {a b : UInt8} {x y : Nat} (ha : hexv a.toNat = some x) (hb : hexv b.toNat = some y) : ∀ (l : Bytes) (i : Nat), Fit l i [120, a, b] → escP l i = .ok (i + [120, a, b].length, [(16 * x + y, 16 * x + y)], some (16 * x + y)) := by
  intro l i hf
  have f := hf.at0
  have f1 := hf.tail.at0
  have f2 := hf.tail.tail.at0
  have e0 : at_ l i = 120 := f.2
  unfold escP
  rw [if_neg (by omega), if_pos e0]
  unfold escX
  rw [if_neg (by omega), f1.2, ha]
  simp only []
  rw [if_neg (by omega), f2.2, hb]
  rfl
theorem at_dot (d g : Nat) : AtX d g [46] g fun out => (out ++ [pSet (runs (inR [(0, 9), (11, 255)]))], out.length) := by
  refine ⟨by simp, by show ¬ cntC 46; unfold cntC; omega, by show (46 : Nat) ≠ 124; decide, by show (46 : Nat) ≠ 41; decide, fun l i out hf => ?_⟩
  have f := hf.at0
  have e0 : at_ l i = 46 := f.2
  unfold atomP
  rw [if_neg (by omega), if_neg (by omega), if_pos e0]
  rfl
theorem at_sta (d g : Nat) : AtX d g [94] g fun out => (out ++ [pSta], out.length) := by
  refine ⟨by simp, by show ¬ cntC 94; unfold cntC; omega, by show (94 : Nat) ≠ 124; decide, by show (94 : Nat) ≠ 41; decide, fun l i out hf => ?_⟩
  have f := hf.at0
  have e0 : at_ l i = 94 := f.2
  unfold atomP
  rw [if_neg (by omega), if_neg (by omega), if_neg (by omega), if_pos e0]
  rfl
theorem at_end (d g : Nat) : AtX d g [36] g fun out => (out ++ [pEnd], out.length) := by
  refine ⟨by simp, by show ¬ cntC 36; unfold cntC; omega, by show (36 : Nat) ≠ 124; decide, by show (36 : Nat) ≠ 41; decide, fun l i out hf => ?_⟩
  have f := hf.at0
  have e0 : at_ l i = 36 := f.2
  unfold atomP
  rw [if_neg (by omega), if_neg (by omega), if_neg (by omega), if_neg (by omega), if_pos e0]
  rfl
theorem at_cls (d g : Nat) {s : Bytes} {rs : List (Int × Int)} (h : ∀ (l : Bytes) (i : Nat), Fit l i (91 :: s) → setP l i = .ok (i + (91 :: s).length, rs)) : AtX d g (91 :: s) g fun out => (out ++ [pSet rs], out.length) := by
  refine ⟨by simp, by show ¬ cntC 91; unfold cntC; omega, by show (91 : Nat) ≠ 124; decide, by show (91 : Nat) ≠ 41; decide, fun l i out hf => ?_⟩
  have f := hf.at0
  have e0 : at_ l i = 91 := f.2
  unfold atomP
  rw [if_neg (by omega), if_pos e0, h l i hf]
end Go.Vc
/- Drawn patterns are read: their parts. No statement of the seat is proved here. -/
namespace Go.Vc
set_option linter.unusedVariables false
set_option linter.unusedSimpArgs false
/-- Nothing holds it to the text's end. -/
def NE (ps : List Pc) : Prop := ∀ x ∈ ps, x.kind ≠ 7
theorem NE.app {ps : List Pc} (h : NE ps) {x : Pc} (hx : x.kind ≠ 7) : NE (ps ++ [x]) := by
  intro y hy
  rcases List.mem_append.1 hy with hy | hy
  · exact h y hy
  · rw [List.mem_singleton.1 hy]; exact hx
theorem NE.nil : NE [] := by intro x hx; cases hx
theorem NE.alt {ps : List Pc} (h : NE ps) (kids : List Int) : NE (altO ps kids).1 := by
  match kids with
  | [] => exact h.app (by simp [pAlt])
  | [k] => exact h
  | a :: b :: r => exact h.app (by simp [pAlt])
def SqS (pl : Bool) (d g : Nat) (s : Bytes) (g' : Nat) : Prop := ∃ F, SqX d g s g' F ∧ (pl = true → ∀ out kids, NE out → NE (F out kids).1)
def PtS (pl : Bool) (d g : Nat) (s : Bytes) (g' : Nat) : Prop := ∃ F, PtX d g s g' F ∧ (pl = true → ∀ out kids, NE out → NE (F out kids).1)
def AtS (pl : Bool) (d g : Nat) (s : Bytes) (g' : Nat) : Prop := ∃ A, AtX d g s g' A ∧ (pl = true → ∀ out, NE out → NE (A out).1)
def CnS (s : Bytes) : Prop := ∃ a b z, CnX s a b z
theorem SqS.nil (pl : Bool) (d g : Nat) : SqS pl d g [] g := ⟨_, SqX.nil d g, fun _ out kids h => h⟩
theorem SqS.app {pl : Bool} {d g g1 g2 : Nat} {s t : Bytes} (h : SqS pl d g s g1) (k : SqS pl d g1 t g2) : SqS pl d g (s ++ t) g2 := by
  obtain ⟨F, hF, nF⟩ := h
  obtain ⟨G, hG, nG⟩ := k
  exact ⟨_, hF.app hG, fun hp out kids hn => nG hp _ _ (nF hp _ _ hn)⟩
theorem AtS.one {pl : Bool} {d g g' : Nat} {s : Bytes} (h : AtS pl d g s g') : SqS pl d g s g' := by
  obtain ⟨A, hA, nA⟩ := h
  exact ⟨_, hA.one, fun hp out kids hn => nA hp out hn⟩
theorem AtS.cnt {pl : Bool} {d g g' : Nat} {s c : Bytes} (h : AtS pl d g s g') (k : CnS c) : SqS pl d g (s ++ c) g' := by
  obtain ⟨A, hA, nA⟩ := h
  obtain ⟨a, b, z, hk⟩ := k
  exact ⟨_, hA.cnt hk, fun hp out kids hn => (nA hp out hn).app (by simp [pRep])⟩
theorem SqS.pat {pl : Bool} {d g g' : Nat} {s : Bytes} (h : SqS pl d g s g') : PtS pl d g s g' := by
  obtain ⟨F, hF, nF⟩ := h
  exact ⟨_, hF.pat, fun hp out kids hn => (nF hp out [] hn).app (by simp [pSeq])⟩
theorem PtS.alt {pl : Bool} {d g g1 g2 : Nat} {s y : Bytes} (h : SqS pl d g s g1) (k : PtS pl d g1 y g2) : PtS pl d g (s ++ 124 :: y) g2 := by
  obtain ⟨F, hF, nF⟩ := h
  obtain ⟨G, hG, nG⟩ := k
  exact ⟨_, PtX.alt hF hG, fun hp out kids hn => nG hp _ _ ((nF hp out [] hn).app (by simp [pSeq]))⟩
theorem PtS.grp {pl : Bool} {d g g' : Nat} {y : Bytes} (h : PtS pl d (g + 1) y g') (hg : g < 9) : AtS pl (d + 1) g (40 :: (y ++ [41])) g' := by
  obtain ⟨F, hF, nF⟩ := h
  exact ⟨_, hF.grp hg, fun hp out hn => ((nF hp out [] hn).alt _).app (by simp [pGrp])⟩
theorem PtS.read {pl : Bool} {s : Bytes} {g' : Nat} (h : PtS pl 6 0 s g') (hl : s.length ≤ 120) : (readP s).ok = true ∧ (pl = true → NE (readP s).pieces) := by
  obtain ⟨F, hF, nF⟩ := h
  rw [hF.read hl]
  exact ⟨rfl, fun hp => (nF hp [] [] NE.nil).alt _⟩
/-! ### Sets in brackets -/
theorem cls_lit {l : Bytes} {i c : Nat} {first : Bool} {rs : Rs} (h : i + 1 < l.length) (e : at_ l i = c) (h1 : ¬ (first = false ∧ c = 93)) (h2 : c ≠ 92) (h3 : at_ l (i + 1) ≠ 45) : clsP l i first rs = clsP l (i + 1) false (rs ++ [(c, c)]) := by
  have hp : partP l i = .ok (i + 1, [(c, c)], some c) := by unfold partP; rw [if_neg (by omega), e]
  rw [clsP_one (by omega) (by rw [e]; exact h1) hp, if_neg (by omega), if_pos h3]
theorem cls_dash {l : Bytes} {i c : Nat} {first : Bool} {rs : Rs} (h : i + 2 < l.length) (e : at_ l i = c) (h1 : ¬ (first = false ∧ c = 93)) (h2 : c ≠ 92) (h3 : at_ l (i + 1) = 45) (h4 : at_ l (i + 2) = 93) : clsP l i first rs = clsP l (i + 1) false (rs ++ [(c, c)]) := by
  have hp : partP l i = .ok (i + 1, [(c, c)], some c) := by unfold partP; rw [if_neg (by omega), e]
  rw [clsP_one (by omega) (by rw [e]; exact h1) hp, if_neg (by omega), if_neg (by omega), if_neg (by omega), if_pos h4]
theorem cls_rng {l : Bytes} {i c d : Nat} {first : Bool} {rs : Rs} (h : i + 2 < l.length) (e : at_ l i = c) (h1 : ¬ (first = false ∧ c = 93)) (h2 : c ≠ 92) (h3 : at_ l (i + 1) = 45) (h4 : at_ l (i + 2) = d) (h5 : d ≠ 93) (h6 : d ≠ 92) (h7 : c ≤ d) : clsP l i first rs = clsP l (i + 3) false (rs ++ [(c, c)] ++ [(c, d)]) := by
  have hp : partP l i = .ok (i + 1, [(c, c)], some c) := by unfold partP; rw [if_neg (by omega), e]
  have hq : partP l (i + 1 + 1) = .ok (i + 3, [(d, d)], some d) := by unfold partP; rw [if_neg (by rw [show i + 1 + 1 = i + 2 from rfl, h4]; exact h6), show i + 1 + 1 = i + 2 from rfl, h4]
  rw [clsP_one (by omega) (by rw [e]; exact h1) hp, if_neg (by omega), if_neg (by omega), if_neg (by omega), if_neg (by rw [show i + 1 + 1 = i + 2 from rfl, h4]; exact h5), hq]
  simp only []
  rw [if_neg (by omega)]
theorem cls_many {l : Bytes} {i j : Nat} {r : Rs} {first : Bool} {rs : Rs} (h : i < l.length) (e : at_ l i = 92) (hp : escP l (i + 1) = .ok (j, r, none)) : clsP l i first rs = clsP l j false (rs ++ r) :=
  clsP_many h (by omega) (by unfold partP; rw [if_pos e]; exact hp)
theorem cls_hex {l : Bytes} {i j k v u : Nat} {r r' : Rs} {first : Bool} {rs : Rs} (h : i < l.length) (e : at_ l i = 92) (hp : escP l (i + 1) = .ok (j, r, some v)) (hj : j + 1 < l.length) (h3 : at_ l j = 45) (h4 : at_ l (j + 1) = 92) (hq : escP l (j + 1 + 1) = .ok (k, r', some u)) (hv : v ≤ u) : clsP l i first rs = clsP l k false (rs ++ r ++ [(v, u)]) := by
  have hp' : partP l i = .ok (j, r, some v) := by unfold partP; rw [if_pos e]; exact hp
  have hq' : partP l (j + 1) = .ok (k, r', some u) := by unfold partP; rw [if_pos h4]; exact hq
  rw [clsP_one h (by omega) hp', if_neg (by omega), if_neg (by omega), if_neg (by omega), if_neg (by omega), hq']
  simp only []
  rw [if_neg (by omega)]
theorem set_in {l : Bytes} {i : Nat} (h : i + 1 < l.length) (h1 : at_ l (i + 1) ≠ 94) : setP l i = clsFin false (clsP l (i + 1) true []) := by
  unfold setP; rw [if_neg (by omega), if_neg h1, decide_eq_false h1]
theorem set_not {l : Bytes} {i : Nat} (h : i + 1 < l.length) (h1 : at_ l (i + 1) = 94) : setP l i = clsFin true (clsP l (i + 2) true []) := by
  unfold setP; rw [if_neg (by omega), if_pos h1, decide_eq_true h1]
theorem set0 : ∃ rs, ∀ (l : Bytes) (i : Nat), Fit l i [91, 97, 98, 93] → setP l i = .ok (i + [91, 97, 98, 93].length, rs) := by
  refine ⟨?_, fun l i hf => ?_⟩
  rotate_left
  · have hl := hf.le
    simp only [List.length_cons, List.length_nil] at hl
    have e0 : at_ l (i + 0) = 91 := hf.2 0 (by decide)
    have e1 : at_ l (i + 1) = 97 := hf.2 1 (by decide)
    have e2 : at_ l (i + 2) = 98 := hf.2 2 (by decide)
    have e3 : at_ l (i + 3) = 93 := hf.2 3 (by decide)
    rw [set_in (by omega) (by omega), cls_lit (by omega) e1 (by simp) (by omega) (show at_ l (i + 2) ≠ 45 by omega), cls_lit (by omega) e2 (by omega) (by omega) (show at_ l (i + 3) ≠ 45 by omega), clsP_end (by omega) rfl e3]
    rfl
theorem set1 : ∃ rs, ∀ (l : Bytes) (i : Nat), Fit l i [91, 94, 97, 93] → setP l i = .ok (i + [91, 94, 97, 93].length, rs) := by
  refine ⟨?_, fun l i hf => ?_⟩
  rotate_left
  · have hl := hf.le
    simp only [List.length_cons, List.length_nil] at hl
    have e0 : at_ l (i + 0) = 91 := hf.2 0 (by decide)
    have e1 : at_ l (i + 1) = 94 := hf.2 1 (by decide)
    have e2 : at_ l (i + 2) = 97 := hf.2 2 (by decide)
    have e3 : at_ l (i + 3) = 93 := hf.2 3 (by decide)
    rw [set_not (by omega) e1, cls_lit (by omega) e2 (by simp) (by omega) (show at_ l (i + 3) ≠ 45 by omega), clsP_end (by omega) rfl e3]
    rfl
theorem set2 : ∃ rs, ∀ (l : Bytes) (i : Nat), Fit l i [91, 97, 45, 99, 93] → setP l i = .ok (i + [91, 97, 45, 99, 93].length, rs) := by
  refine ⟨?_, fun l i hf => ?_⟩
  rotate_left
  · have hl := hf.le
    simp only [List.length_cons, List.length_nil] at hl
    have e0 : at_ l (i + 0) = 91 := hf.2 0 (by decide)
    have e1 : at_ l (i + 1) = 97 := hf.2 1 (by decide)
    have e2 : at_ l (i + 2) = 45 := hf.2 2 (by decide)
    have e3 : at_ l (i + 3) = 99 := hf.2 3 (by decide)
    have e4 : at_ l (i + 4) = 93 := hf.2 4 (by decide)
    rw [set_in (by omega) (by omega), cls_rng (by omega) e1 (by omega) (by omega) e2 e3 (by omega) (by omega) (by omega), clsP_end (by omega) rfl e4]
    rfl
theorem set3 : ∃ rs, ∀ (l : Bytes) (i : Nat), Fit l i [91, 93, 97, 93] → setP l i = .ok (i + [91, 93, 97, 93].length, rs) := by
  refine ⟨?_, fun l i hf => ?_⟩
  rotate_left
  · have hl := hf.le
    simp only [List.length_cons, List.length_nil] at hl
    have e0 : at_ l (i + 0) = 91 := hf.2 0 (by decide)
    have e1 : at_ l (i + 1) = 93 := hf.2 1 (by decide)
    have e2 : at_ l (i + 2) = 97 := hf.2 2 (by decide)
    have e3 : at_ l (i + 3) = 93 := hf.2 3 (by decide)
    rw [set_in (by omega) (by omega), cls_lit (by omega) e1 (by simp) (by omega) (show at_ l (i + 2) ≠ 45 by omega), cls_lit (by omega) e2 (by omega) (by omega) (show at_ l (i + 3) ≠ 45 by omega), clsP_end (by omega) rfl e3]
    rfl
theorem set4 : ∃ rs, ∀ (l : Bytes) (i : Nat), Fit l i [91, 94, 93, 93] → setP l i = .ok (i + [91, 94, 93, 93].length, rs) := by
  refine ⟨?_, fun l i hf => ?_⟩
  rotate_left
  · have hl := hf.le
    simp only [List.length_cons, List.length_nil] at hl
    have e0 : at_ l (i + 0) = 91 := hf.2 0 (by decide)
    have e1 : at_ l (i + 1) = 94 := hf.2 1 (by decide)
    have e2 : at_ l (i + 2) = 93 := hf.2 2 (by decide)
    have e3 : at_ l (i + 3) = 93 := hf.2 3 (by decide)
    rw [set_not (by omega) e1, cls_lit (by omega) e2 (by simp) (by omega) (show at_ l (i + 3) ≠ 45 by omega), clsP_end (by omega) rfl e3]
    rfl
theorem set5 : ∃ rs, ∀ (l : Bytes) (i : Nat), Fit l i [91, 97, 45, 93] → setP l i = .ok (i + [91, 97, 45, 93].length, rs) := by
  refine ⟨?_, fun l i hf => ?_⟩
  rotate_left
  · have hl := hf.le
    simp only [List.length_cons, List.length_nil] at hl
    have e0 : at_ l (i + 0) = 91 := hf.2 0 (by decide)
    have e1 : at_ l (i + 1) = 97 := hf.2 1 (by decide)
    have e2 : at_ l (i + 2) = 45 := hf.2 2 (by decide)
    have e3 : at_ l (i + 3) = 93 := hf.2 3 (by decide)
    rw [set_in (by omega) (by omega), cls_dash (by omega) e1 (by omega) (by omega) e2 e3, cls_lit (by omega) e2 (by omega) (by omega) (show at_ l (i + 3) ≠ 45 by omega), clsP_end (by omega) rfl e3]
    rfl
theorem set6 : ∃ rs, ∀ (l : Bytes) (i : Nat), Fit l i [91, 92, 119, 45, 93] → setP l i = .ok (i + [91, 92, 119, 45, 93].length, rs) := by
  refine ⟨?_, fun l i hf => ?_⟩
  rotate_left
  · have hl := hf.le
    simp only [List.length_cons, List.length_nil] at hl
    have e0 : at_ l (i + 0) = 91 := hf.2 0 (by decide)
    have e1 : at_ l (i + 1) = 92 := hf.2 1 (by decide)
    have e2 : at_ l (i + 2) = 119 := hf.2 2 (by decide)
    have e3 : at_ l (i + 3) = 45 := hf.2 3 (by decide)
    have e4 : at_ l (i + 4) = 93 := hf.2 4 (by decide)
    rw [set_in (by omega) (by omega), cls_many (j := i + 3) (by omega) e1 (esc_one (c := 119) (r := _) (o := none) rfl (by decide) l (i + 1 + 1) ⟨by simp; omega, fun k hk => by match k, hk with | 0, _ => exact e2⟩), cls_lit (by omega) e3 (by omega) (by omega) (show at_ l (i + 4) ≠ 45 by omega), clsP_end (by omega) rfl e4]
    rfl
theorem set7 : ∃ rs, ∀ (l : Bytes) (i : Nat), Fit l i [91, 92, 120, 48, 48, 45, 92, 120, 55, 102, 93] → setP l i = .ok (i + [91, 92, 120, 48, 48, 45, 92, 120, 55, 102, 93].length, rs) := by
  refine ⟨?_, fun l i hf => ?_⟩
  rotate_left
  · have hl := hf.le
    simp only [List.length_cons, List.length_nil] at hl
    have e0 : at_ l (i + 0) = 91 := hf.2 0 (by decide)
    have e1 : at_ l (i + 1) = 92 := hf.2 1 (by decide)
    have e2 : at_ l (i + 2) = 120 := hf.2 2 (by decide)
    have e3 : at_ l (i + 3) = 48 := hf.2 3 (by decide)
    have e4 : at_ l (i + 4) = 48 := hf.2 4 (by decide)
    have e5 : at_ l (i + 5) = 45 := hf.2 5 (by decide)
    have e6 : at_ l (i + 6) = 92 := hf.2 6 (by decide)
    have e7 : at_ l (i + 7) = 120 := hf.2 7 (by decide)
    have e8 : at_ l (i + 8) = 55 := hf.2 8 (by decide)
    have e9 : at_ l (i + 9) = 102 := hf.2 9 (by decide)
    have e10 : at_ l (i + 10) = 93 := hf.2 10 (by decide)
    rw [set_in (by omega) (by omega), cls_hex (j := i + 5) (k := i + 10) (v := 0) (u := 127) (r := [(0, 0)]) (r' := [(127, 127)]) (by omega) e1 (esc_hex (a := 48) (b := 48) (x := 0) (y := 0) (by decide) (by decide) l (i + 1 + 1) ⟨by simp; omega, fun k hk => by match k, hk with | 0, _ => exact e2 | 1, _ => exact e3 | 2, _ => exact e4⟩) (by omega) e5 e6 (esc_hex (a := 55) (b := 102) (x := 7) (y := 15) (by decide) (by decide) l (i + 6 + 1) ⟨by simp; omega, fun k hk => by match k, hk with | 0, _ => exact e7 | 1, _ => exact e8 | 2, _ => exact e9⟩) (by decide), clsP_end (by omega) rfl e10]
    rfl
theorem set8 : ∃ rs, ∀ (l : Bytes) (i : Nat), Fit l i [91, 94, 92, 115, 92, 100, 93] → setP l i = .ok (i + [91, 94, 92, 115, 92, 100, 93].length, rs) := by
  refine ⟨?_, fun l i hf => ?_⟩
  rotate_left
  · have hl := hf.le
    simp only [List.length_cons, List.length_nil] at hl
    have e0 : at_ l (i + 0) = 91 := hf.2 0 (by decide)
    have e1 : at_ l (i + 1) = 94 := hf.2 1 (by decide)
    have e2 : at_ l (i + 2) = 92 := hf.2 2 (by decide)
    have e3 : at_ l (i + 3) = 115 := hf.2 3 (by decide)
    have e4 : at_ l (i + 4) = 92 := hf.2 4 (by decide)
    have e5 : at_ l (i + 5) = 100 := hf.2 5 (by decide)
    have e6 : at_ l (i + 6) = 93 := hf.2 6 (by decide)
    rw [set_not (by omega) e1, cls_many (j := i + 4) (by omega) e2 (esc_one (c := 115) (r := _) (o := none) rfl (by decide) l (i + 2 + 1) ⟨by simp; omega, fun k hk => by match k, hk with | 0, _ => exact e3⟩), cls_many (j := i + 6) (by omega) e4 (esc_one (c := 100) (r := _) (o := none) rfl (by decide) l (i + 4 + 1) ⟨by simp; omega, fun k hk => by match k, hk with | 0, _ => exact e5⟩), clsP_end (by omega) rfl e6]
    rfl
theorem set9 : ∃ rs, ∀ (l : Bytes) (i : Nat), Fit l i [91, 98, 45, 98, 93] → setP l i = .ok (i + [91, 98, 45, 98, 93].length, rs) := by
  refine ⟨?_, fun l i hf => ?_⟩
  rotate_left
  · have hl := hf.le
    simp only [List.length_cons, List.length_nil] at hl
    have e0 : at_ l (i + 0) = 91 := hf.2 0 (by decide)
    have e1 : at_ l (i + 1) = 98 := hf.2 1 (by decide)
    have e2 : at_ l (i + 2) = 45 := hf.2 2 (by decide)
    have e3 : at_ l (i + 3) = 98 := hf.2 3 (by decide)
    have e4 : at_ l (i + 4) = 93 := hf.2 4 (by decide)
    rw [set_in (by omega) (by omega), cls_rng (by omega) e1 (by omega) (by omega) e2 e3 (by omega) (by omega) (by omega), clsP_end (by omega) rfl e4]
    rfl
end Go.Vc
/- The parts that a drawn pattern is made of. No statement of the seat is proved here. -/
namespace Go.Vc
set_option linter.unusedVariables false
set_option linter.unusedSimpArgs false
/-- It ends in no count. -/
def LastOk (s : Bytes) : Prop := s ≠ [] ∧ at_ s (s.length - 1) ≠ 42 ∧ at_ s (s.length - 1) ≠ 43 ∧ at_ s (s.length - 1) ≠ 63 ∧ at_ s (s.length - 1) ≠ 125
instance (s : Bytes) : Decidable (LastOk s) := by unfold LastOk; infer_instance
theorem aS_set (pl : Bool) (d g : Nat) {s : Bytes} (h : ∃ rs, ∀ (l : Bytes) (i : Nat), Fit l i (91 :: s) → setP l i = .ok (i + (91 :: s).length, rs)) : AtS pl d g (91 :: s) g := by
  obtain ⟨rs, h⟩ := h
  exact ⟨_, at_cls d g h, fun _ out hn => hn.app (by simp [pSet])⟩
theorem aS_esc (pl : Bool) (d g : Nat) {s : Bytes} {r : Rs} {o : Option Nat} (h : ∀ (l : Bytes) (i : Nat), Fit l i s → escP l i = .ok (i + s.length, r, o)) : AtS pl d g (92 :: s) g := ⟨_, at_esc d g h, fun _ out hn => hn.app (by simp [pSet])⟩
theorem aS_chr (pl : Bool) (d g : Nat) {c : UInt8} (h : 97 ≤ c.toNat ∧ c.toNat ≤ 122) : AtS pl d g [c] g := ⟨_, at_set1 d g (by omega), fun _ out hn => hn.app (by simp [pSet])⟩
theorem aS_dot (pl : Bool) (d g : Nat) : AtS pl d g [46] g := ⟨_, at_dot d g, fun _ out hn => hn.app (by simp [pSet])⟩
theorem aS_sta (pl : Bool) (d g : Nat) : AtS pl d g [94] g := ⟨_, at_sta d g, fun _ out hn => hn.app (by simp [pSta])⟩
theorem aS_end (d g : Nat) : AtS false d g [36] g := ⟨_, at_end d g, fun h => by cases h⟩
def setsD : List Bytes := [[91, 97, 98, 93], [91, 94, 97, 93], [91, 97, 45, 99, 93], [91, 93, 97, 93], [91, 94, 93, 93], [91, 97, 45, 93], [91, 92, 119, 45, 93], [91, 92, 120, 48, 48, 45, 92, 120, 55, 102, 93], [91, 94, 92, 115, 92, 100, 93], [91, 98, 45, 98, 93]]
def escsD : List Bytes := [[92, 100], [92, 119], [92, 115], [92, 110], [92, 92], [92, 46], [92, 120, 54, 49], [92, 40], [92, 45]]
def cntsD : List Bytes := [[123, 50, 125], [123, 48, 125], [123, 49, 44, 125], [123, 48, 44, 50, 125], [123, 49, 44, 51, 125], [123, 48, 44, 48, 125], [123, 50, 44, 50, 125]]
/-- An atom that is drawn. -/
def AtD (pl : Bool) (d g : Nat) (s : Bytes) (g' : Nat) : Prop := AtS pl d g s g' ∧ LastOk s
theorem setsD_ok (pl : Bool) (d g : Nat) : ∀ s ∈ setsD, AtD pl d g s g ∧ s.length ≤ 11 := by
  intro s hs
  simp only [setsD, List.mem_cons, List.not_mem_nil, or_false] at hs
  rcases hs with rfl | rfl | rfl | rfl | rfl | rfl | rfl | rfl | rfl | rfl
  · exact ⟨⟨aS_set pl d g set0, by decide⟩, by decide⟩
  · exact ⟨⟨aS_set pl d g set1, by decide⟩, by decide⟩
  · exact ⟨⟨aS_set pl d g set2, by decide⟩, by decide⟩
  · exact ⟨⟨aS_set pl d g set3, by decide⟩, by decide⟩
  · exact ⟨⟨aS_set pl d g set4, by decide⟩, by decide⟩
  · exact ⟨⟨aS_set pl d g set5, by decide⟩, by decide⟩
  · exact ⟨⟨aS_set pl d g set6, by decide⟩, by decide⟩
  · exact ⟨⟨aS_set pl d g set7, by decide⟩, by decide⟩
  · exact ⟨⟨aS_set pl d g set8, by decide⟩, by decide⟩
  · exact ⟨⟨aS_set pl d g set9, by decide⟩, by decide⟩
theorem escsD_ok (pl : Bool) (d g : Nat) : ∀ s ∈ escsD, AtD pl d g s g ∧ s.length ≤ 11 := by
  intro s hs
  simp only [escsD, List.mem_cons, List.not_mem_nil, or_false] at hs
  rcases hs with rfl | rfl | rfl | rfl | rfl | rfl | rfl | rfl | rfl
  · exact ⟨⟨aS_esc pl d g (esc_one (c := 100) rfl (by decide)), by decide⟩, by decide⟩
  · exact ⟨⟨aS_esc pl d g (esc_one (c := 119) rfl (by decide)), by decide⟩, by decide⟩
  · exact ⟨⟨aS_esc pl d g (esc_one (c := 115) rfl (by decide)), by decide⟩, by decide⟩
  · exact ⟨⟨aS_esc pl d g (esc_one (c := 110) rfl (by decide)), by decide⟩, by decide⟩
  · exact ⟨⟨aS_esc pl d g (esc_one (c := 92) rfl (by decide)), by decide⟩, by decide⟩
  · exact ⟨⟨aS_esc pl d g (esc_one (c := 46) rfl (by decide)), by decide⟩, by decide⟩
  · exact ⟨⟨aS_esc pl d g (esc_hex (a := 54) (b := 49) (x := 6) (y := 1) (by decide) (by decide)), by decide⟩, by decide⟩
  · exact ⟨⟨aS_esc pl d g (esc_one (c := 40) rfl (by decide)), by decide⟩, by decide⟩
  · exact ⟨⟨aS_esc pl d g (esc_one (c := 45) rfl (by decide)), by decide⟩, by decide⟩
/-- A count, lazy or not. -/
def CnD (c : Bytes) : Prop := CnS c ∧ CnS (c ++ [63])
theorem cnD_of {c : Bytes} {a b : Int} (h : ∀ z, CnX (c ++ lzT z) a b z) : CnD c := ⟨⟨a, b, false, by have := h false; rwa [show c ++ lzT false = c from by simp [lzT]] at this⟩, ⟨a, b, true, h true⟩⟩
theorem cntsD_ok : ∀ s ∈ cntsD, CnD s ∧ s.length ≤ 5 := by
  intro s hs
  simp only [cntsD, List.mem_cons, List.not_mem_nil, or_false] at hs
  rcases hs with rfl | rfl | rfl | rfl | rfl | rfl | rfl
  · exact ⟨cnD_of fun z => cn_bra (bra_one (m := 2) (by decide)) z, by decide⟩
  · exact ⟨cnD_of fun z => cn_bra (bra_one (m := 0) (by decide)) z, by decide⟩
  · exact ⟨cnD_of fun z => cn_bra (bra_from (m := 1) (by decide)) z, by decide⟩
  · exact ⟨cnD_of fun z => cn_bra (bra_two (m := 0) (n := 2) (by decide) (by decide) (by decide)) z, by decide⟩
  · exact ⟨cnD_of fun z => cn_bra (bra_two (m := 1) (n := 3) (by decide) (by decide) (by decide)) z, by decide⟩
  · exact ⟨cnD_of fun z => cn_bra (bra_two (m := 0) (n := 0) (by decide) (by decide) (by decide)) z, by decide⟩
  · exact ⟨cnD_of fun z => cn_bra (bra_two (m := 2) (n := 2) (by decide) (by decide) (by decide)) z, by decide⟩
theorem cnD_star : CnD [42] := cnD_of cn_star
theorem cnD_plus : CnD [43] := cnD_of cn_plus
theorem cnD_opt : CnD [63] := cnD_of cn_opt
/-- An atom with its count, if any. -/
def ElD (pl : Bool) (d g : Nat) (s : Bytes) (g' : Nat) : Prop := s ≠ [] ∧ SqS pl d g s g' ∧ (at_ s (s.length - 1) = 42 ∨ at_ s (s.length - 1) = 43 ∨ at_ s (s.length - 1) = 63 ∨ at_ s (s.length - 1) = 125 → SqS pl d g (s ++ [63]) g')
theorem AtD.el {pl : Bool} {d g g' : Nat} {s : Bytes} (h : AtD pl d g s g') : ElD pl d g s g' := ⟨h.2.1, h.1.one, fun hl => by have := h.2.2; omega⟩
theorem AtD.elc {pl : Bool} {d g g' : Nat} {s c : Bytes} (h : AtD pl d g s g') (k : CnD c) : ElD pl d g (s ++ c) g' := ⟨by simp [h.2.1], h.1.cnt k.1, fun _ => by rw [List.append_assoc]; exact h.1.cnt k.2⟩
theorem lastOk_grp (y : Bytes) : LastOk (40 :: (y ++ [41])) := by
  have e : at_ (40 :: (y ++ [41])) ((40 :: (y ++ [41])).length - 1) = 41 := by
    have := at_app_r (s := 40 :: y) (t := [41]) (k := 0)
    rw [show (40 :: (y ++ [41])).length - 1 = (40 :: y).length + 0 from by simp]
    exact this
  unfold LastOk
  rw [e]
  exact ⟨by simp, by decide, by decide, by decide, by decide⟩
theorem PtS.grpD {pl : Bool} {d g g' : Nat} {y : Bytes} (h : PtS pl d (g + 1) y g') (hg : g < 9) : AtD pl (d + 1) g (40 :: (y ++ [41])) g' := ⟨h.grp hg, lastOk_grp y⟩
end Go.Vc
/- The drawing of a pattern: it ends, and what it draws is read. No statement of the seat is proved here. -/
namespace Go.Proofs.Ytngbiaeliphdjaa.V
open Go.Vc Go.Proofs Go.RowKit
set_option linter.unusedVariables false
set_option linter.unusedSimpArgs false
theorem Cur.le {w : World} {b B : Nat} {a : Option Addr} {l c m : Nat} (h : Cur w b B a l c m) : m ≤ 1125899906842624 := by
  obtain ⟨⟨p, sd, _, _, h⟩, _⟩ := h
  have := h.1; omega
theorem cell_pick {h : Array Obj} {b : Nat} {ss : List Bytes} (k : Blk h b 9 (ss.map fun s => .string (B s))) {q : Nat} (hq : q < ss.length) : cellH h b (0 + Int.toNat (q : Int) * 1) = some (.string (B ss[q])) := by
  rw [show 0 + Int.toNat (q : Int) * 1 = q from by omega, k.cell]
  simp [hq]
theorem byteAt_B (s : Bytes) (i : Nat) : byteAt (B s) i = (at_ s i : Int) := by rw [byteAt_at, L_B]
/-- The contract of pattern, in so much depth yet. -/
def PatD (n : Nat) : Prop := ∀ (m : Nat) (w : World) (b M : Nat) (a : Option Addr) (l c : Nat) (g : Nat) (pl : Bool), 5059 ≤ m → g ≤ 9 → Cur w b M a l c m →
  Cl Try.prog 107 [.pointer (some ⟨b, 0, none⟩), .int .i64 (n : Int), .int .i64 (g : Int), .bool pl] w (Drew w b M a l c fun v m' => m' < m ∧ 5059 ≤ m' + 14 * n + 17 ∧ ∃ (s : Bytes) (g' : Nat), v = .tuple #[.string (B s), .int .i64 (g' : Int)] ∧ g' ≤ g ∧ PtS pl (n + 3) (9 - g) s (9 - g') ∧ s.length ≤ 32 * (m - m'))
set_option maxHeartbeats 4000000 in
theorem pat_ok : ∀ n, n ≤ 3 → PatD n := by
  intro n
  induction n using Nat.strongRecOn with
  | _ n ihd =>
  intro hn m
  induction m using Nat.strongRecOn with
  | _ m ihm =>
  intro w b M a l c g pl hm hg hC
  have hm50 := hC.le
  apply vc107
  unfold V107
  refine (pick_ok hC (by omega) 4 (by omega) (by omega)).use fun e w7 he => ?_
  obtain ⟨_, m7, rfl, ⟨q1, q2, r, rfl, hr, _⟩, hC7, e7⟩ := he
  refine ⟨r, rfl, fun k n14 s15 n16 w' => ∃ (gi : Nat) (xs : Bytes) (mi : Nat), n14 = gi ∧ s15 = B xs ∧ n16 = k ∧ k ≤ 3 ∧ gi ≤ g ∧ SqS pl (n + 3) (9 - g) xs (9 - gi) ∧ xs.length ≤ 32 * (m - mi) ∧ mi < m ∧ 5059 + 5 * k ≤ mi + (14 * n + 3) + 13 ∧ Cur w' b M a l c mi ∧ Ext (fun k => k = b) w w', ⟨r, g, [], m7, rfl, rfl, rfl, by omega, by omega, SqS.nil _ _ _, by simp, by omega, by omega, hC7, e7⟩, ?_⟩
  rintro k d _ _ _ w12 ⟨gi, xs, mi, rfl, rfl, rfl, hk, hgi, hsq, hxs, hmi, hbd, hCi, hEi⟩
  refine ⟨fun g1 => ?_, fun g1 => ?_⟩
  · have hk0 : 0 < k := by have := of_decide_eq_true g1; omega
    refine (pick_ok hCi (by omega) 12 (by omega) (by omega)).use fun e w18 he => ?_
    obtain ⟨_, m1, rfl, ⟨p1, p2, r12, rfl, hr12, hwin⟩, hC1, e1⟩ := he
    have hE1 := hEi.trans e1
    refine ⟨r12, rfl, fun z s w' => ∃ (g' : Nat) (x : Bytes) (mA : Nat), z = g' ∧ s = B x ∧ g' ≤ gi ∧ AtD pl (n + 3) (9 - gi) x (9 - g') ∧ x.length + 32 * mA ≤ 11 + 32 * m1 ∧ mA ≤ m1 ∧ 5059 + 5 * k ≤ mA + (14 * n + 3) + 15 ∧ Cur w' b M a l c mA ∧ Ext (fun k => k = b) w w', ?_, ?_⟩
    · have J : ∀ {x : Bytes} {w' : World} {mA : Nat}, AtD pl (n + 3) (9 - gi) x (9 - gi) ∧ x.length ≤ 11 → mA ≤ m1 → min (m1 - 1) 5059 ≤ mA → Cur w' b M a l c mA → Ext (fun k => k = b) w w' → ∃ (g' : Nat) (x' : Bytes) (mA : Nat), (gi : Int) = g' ∧ B x = B x' ∧ g' ≤ gi ∧ AtD pl (n + 3) (9 - gi) x' (9 - g') ∧ x'.length + 32 * mA ≤ 11 + 32 * m1 ∧ mA ≤ m1 ∧ 5059 + 5 * k ≤ mA + (14 * n + 3) + 15 ∧ Cur w' b M a l c mA ∧ Ext (fun k => k = b) w w' :=
        fun h1 h2 h3 h4 h5 => ⟨gi, _, _, rfl, rfl, Nat.le_refl _, h1.1, by have := h1.2; omega, h2, by omega, h4, h5⟩
      have chr : ∀ {y : UInt8}, 97 ≤ y.toNat ∧ y.toNat ≤ 122 → AtD pl (n + 3) (9 - gi) [y] (9 - gi) ∧ [y].length ≤ 11 := fun {y} h => ⟨⟨aS_chr _ _ _ h, by
        have e : at_ [y] ([y].length - 1) = y.toNat := rfl
        unfold LastOk; rw [e]; exact ⟨by simp, by omega, by omega, by omega, by omega⟩⟩, by simp⟩
      -- one of some texts
      have lst : ∀ {ss : List Bytes} {K : ByteArray → World → Prop}, 2 ≤ ss.length → ss.length ≤ 100 → (∀ s ∈ ss, AtD pl (n + 3) (9 - gi) s (9 - gi) ∧ s.length ≤ 11) → (∀ {x : Bytes} {w' : World}, (∃ (g' : Nat) (x' : Bytes) (mA : Nat), (gi : Int) = g' ∧ B x = B x' ∧ g' ≤ gi ∧ AtD pl (n + 3) (9 - gi) x' (9 - g') ∧ x'.length + 32 * mA ≤ 11 + 32 * m1 ∧ mA ≤ m1 ∧ 5059 + 5 * k ≤ mA + (14 * n + 3) + 15 ∧ Cur w' b M a l c mA ∧ Ext (fun k => k = b) w w') → K (B x) w') → ∀ {R : Rt}, newC (ss.map fun s => .string (B s)) 9 (fun b21 w22 => clI 82 ([.pointer (some ⟨b, 0, none⟩), .int .i64 ((ss.length : Nat) : Int)]) w22 R fun n23 w24 => ixS (some ⟨b21, 0, none⟩) ss.length n23 fun b26 o27 => lS w24 b26 (o27 + (Int.toNat n23) * 1) fun s28 => K s28 w24) w18 := by
        intro ss K h2 h100 hss hK R
        refine newC_in fun w22 s22 k22 e22 => ?_
        refine (pick_ok (hC1.ext e22 fun _ _ h => h) (by omega) ss.length h2 (by omega)).use fun e w24 he => ?_
        obtain ⟨_, m2, rfl, ⟨h3, h4, q, rfl, hq, _⟩, hC2, e2⟩ := he
        have k24 := k22.keep e2 (by have := hC1.lt; omega)
        exact ⟨q, rfl, _, 0, ⟨rfl, by omega, by omega⟩, _, cell_pick k24 hq, hK (J (hss _ (List.getElem_mem hq)) (by omega) h4 hC2 ((hE1.trans (Ext.mono e22 fun _ _ h => h.elim)).trans e2))⟩
      have hgrp : ∀ {KK : Int → ByteArray → World → Prop} {R : Rt}, (∀ {z : Nat} {x : Bytes} {w' : World}, (∃ (g' : Nat) (x' : Bytes) (mA : Nat), (z : Int) = g' ∧ B x = B x' ∧ g' ≤ gi ∧ AtD pl (n + 3) (9 - gi) x' (9 - g') ∧ x'.length + 32 * mA ≤ 11 + 32 * m1 ∧ mA ≤ m1 ∧ 5059 + 5 * k ≤ mA + (14 * n + 3) + 15 ∧ Cur w' b M a l c mA ∧ Ext (fun k => k = b) w w') → KK z (B x) w') → (r12 = 4 ∨ r12 = 5 ∨ r12 = 6) →
          (cB (decide ((gi : Int) > 0)) ((cB (decide ((n : Int) > 0)) (clV 107 ([.pointer (some ⟨b, 0, none⟩), .int .i64 (IntKind.wrap .i64 ((n : Int) - 1)), .int .i64 (IntKind.wrap .i64 ((gi : Int) - 1)), .bool pl]) w18 R fun r48 w47 => ∃ (s45 : ByteArray), ∃ (n46 : Int), r48 = .tuple #[.string s45, .int .i64 n46] ∧ ((⟨#[40]⟩ : ByteArray).size + s45.size ≤ 9223372036854775807) ∧ (((⟨#[40]⟩ : ByteArray) ++ s45).size + (⟨#[41]⟩ : ByteArray).size ≤ 9223372036854775807) ∧ KK n46 (((⟨#[40]⟩ : ByteArray) ++ s45) ++ (⟨#[41]⟩ : ByteArray)) w47) (KK gi (⟨#[98]⟩ : ByteArray) w18))) (KK gi (⟨#[98]⟩ : ByteArray) w18)) := by
        intro KK R hK h456
        have hb : KK gi (⟨#[98]⟩ : ByteArray) w18 := hK (z := gi) (x := [98]) (J (chr (y := 98) (by decide)) (Nat.le_refl _) (by omega) hC1 hE1)
        have hmi2 : 5059 < mi := by
          by_cases h : 5059 < mi
          · exact h
          · have := (hwin (by omega) (by omega)).1 rfl; omega
        refine ⟨fun h1 => ⟨fun h2 => ?_, fun _ => hb⟩, fun _ => hb⟩
        have h1' : 0 < gi := by have := of_decide_eq_true h1; omega
        have h2' : 0 < n := by have := of_decide_eq_true h2; omega
        have t1 : IntKind.wrap .i64 ((n : Int) - 1) = ((n - 1 : Nat) : Int) := by rw [w64 (by omega)]; omega
        have t2 : IntKind.wrap .i64 ((gi : Int) - 1) = ((gi - 1 : Nat) : Int) := by rw [w64 (by omega)]; omega
        rw [t1, t2]
        refine (ihd (n - 1) (by omega) (by omega) m1 w18 b M a l c (gi - 1) pl (by omega) (by omega) hC1).use fun e w47 he => ?_
        obtain ⟨_, m2, rfl, ⟨z1, z2, y, g2, rfl, hg2, hpt, hyl⟩, hC2, e2⟩ := he
        refine ⟨B y, g2, rfl, ?_, ?_, ?_⟩
        · rw [size_B]; show 1 + _ ≤ _; omega
        · rw [show (⟨#[40]⟩ : ByteArray) = B [40] from rfl, B_append, size_B]; show _ + 1 ≤ _; simp; omega
        · rw [show (⟨#[40]⟩ : ByteArray) = B [40] from rfl, show (⟨#[41]⟩ : ByteArray) = B [41] from rfl, B_append, B_append]
          rw [show n - 1 + 3 = n + 2 from by omega, show 9 - (gi - 1) = 9 - gi + 1 from by omega] at hpt
          have hat := hpt.grpD (by omega)
          refine hK (z := g2) ⟨g2, _, m2, rfl, rfl, by omega, hat, ?_, by omega, by omega, hC2, hE1.trans e2⟩
          simp; omega
      refine ⟨fun _ => ?_, fun _ => ⟨fun _ => ?_, fun _ => ⟨fun _ => ?_, fun _ => ⟨fun _ => ⟨fun hp => ?_, fun hp => ?_⟩, fun _ => ⟨fun h4 => ?_, fun _ => ⟨fun h5 => ?_, fun _ => ⟨fun h6 => ?_, fun _ => ?_⟩⟩⟩⟩⟩⟩⟩
      · exact J (x := [46]) ⟨⟨aS_dot _ _ _, by decide⟩, by decide⟩ (Nat.le_refl _) (by omega) hC1 hE1
      · exact lst (ss := setsD) (by decide) (by decide) (setsD_ok pl (n + 3) (9 - gi)) fun h => h
      · exact lst (ss := escsD) (by decide) (by decide) (escsD_ok pl (n + 3) (9 - gi)) fun h => h
      · exact J (x := [97]) (chr (by decide)) (Nat.le_refl _) (by omega) hC1 hE1
      · subst hp
        refine lst (ss := [[94], [36]]) (by decide) (by decide) (fun s hs => ?_) fun h => h
        simp only [List.mem_cons, List.not_mem_nil, or_false] at hs
        rcases hs with rfl | rfl
        · exact ⟨⟨aS_sta _ _ _, by decide⟩, by decide⟩
        · exact ⟨⟨aS_end _ _, by decide⟩, by decide⟩
      · exact hgrp (KK := fun z s w' => ∃ (g' : Nat) (x : Bytes) (mA : Nat), z = g' ∧ s = B x ∧ g' ≤ gi ∧ AtD pl (n + 3) (9 - gi) x (9 - g') ∧ x.length + 32 * mA ≤ 11 + 32 * m1 ∧ mA ≤ m1 ∧ 5059 + 5 * k ≤ mA + (14 * n + 3) + 15 ∧ Cur w' b M a l c mA ∧ Ext (fun k => k = b) w w') (fun h => h) (.inl (by have : (r12 : Int) = 4 := (by simpa using h4); omega))
      · exact hgrp (KK := fun z s w' => ∃ (g' : Nat) (x : Bytes) (mA : Nat), z = g' ∧ s = B x ∧ g' ≤ gi ∧ AtD pl (n + 3) (9 - gi) x (9 - g') ∧ x.length + 32 * mA ≤ 11 + 32 * m1 ∧ mA ≤ m1 ∧ 5059 + 5 * k ≤ mA + (14 * n + 3) + 15 ∧ Cur w' b M a l c mA ∧ Ext (fun k => k = b) w w') (fun h => h) (.inr (.inl (by have : (r12 : Int) = 5 := (by simpa using h5); omega)))
      · exact hgrp (KK := fun z s w' => ∃ (g' : Nat) (x : Bytes) (mA : Nat), z = g' ∧ s = B x ∧ g' ≤ gi ∧ AtD pl (n + 3) (9 - gi) x (9 - g') ∧ x.length + 32 * mA ≤ 11 + 32 * m1 ∧ mA ≤ m1 ∧ 5059 + 5 * k ≤ mA + (14 * n + 3) + 15 ∧ Cur w' b M a l c mA ∧ Ext (fun k => k = b) w w') (fun h => h) (.inr (.inr (by have : (r12 : Int) = 6 := (by simpa using h6); omega)))
      · refine (pick_ok hC1 (by omega) 3 (by omega) (by omega)).use fun e w58 he => ?_
        obtain ⟨_, m2, rfl, ⟨h3, h4, q, rfl, hq, _⟩, hC2, e2⟩ := he
        refine ⟨q, rfl, ?_⟩
        have hy : IntKind.wrap .u8 (IntKind.wrap .i64 (97 + (q : Int))) = ((UInt8.ofNat (97 + q)).toNat : Int) := by
          rw [w64 (by omega), w8, u8N (by omega)]; omega
        refine strOf (w0 := w58) hy (Below.refl _ _) fun w' hb' => ?_
        exact J (chr (by rw [u8N (by omega)]; omega)) (by omega) h4 (hC2.below hb') ((hE1.trans e2).trans (Ext.of_below hb'))
    · rintro d63 _ _ w66 ⟨g', x, mA, rfl, rfl, hg', hat, hxl, hmA, hbA, hCA, hEA⟩
      refine (pick_ok hCA (by omega) 9 (by omega) (by omega)).use fun e w68 he => ?_
      obtain ⟨_, mB, rfl, ⟨p3, p4, q9, rfl, hq9, _⟩, hCB, eB⟩ := he
      have hEB := hEA.trans eB
      refine ⟨q9, rfl, fun s w' => ∃ (y : Bytes) (mC : Nat), s = B y ∧ ElD pl (n + 3) (9 - gi) y (9 - g') ∧ y.length ≤ x.length + 5 ∧ mC ≤ mB ∧ 5059 + 5 * k ≤ mC + (14 * n + 3) + 17 ∧ Cur w' b M a l c mC ∧ Ext (fun k => k = b) w w', ?_, ?_⟩
      · have hsz : ∀ {cc : Bytes}, cc.length ≤ 5 → (B x).size + (B cc).size ≤ 9223372036854775807 := fun h => by rw [size_B, size_B]; omega
        have J : ∀ {cc : Bytes} {w' : World} {mC : Nat}, CnD cc ∧ cc.length ≤ 5 → mC ≤ mB → min (mB - 1) 5059 ≤ mC → Cur w' b M a l c mC → Ext (fun k => k = b) w w' → ∃ (y : Bytes) (mC : Nat), B x ++ B cc = B y ∧ ElD pl (n + 3) (9 - gi) y (9 - g') ∧ y.length ≤ x.length + 5 ∧ mC ≤ mB ∧ 5059 + 5 * k ≤ mC + (14 * n + 3) + 17 ∧ Cur w' b M a l c mC ∧ Ext (fun k => k = b) w w' :=
          fun h1 h2 h3 h4 h5 => ⟨_, _, B_append _ _, hat.elc h1.1, by rw [List.length_append]; have := h1.2; omega, h2, by omega, h4, h5⟩
        refine ⟨fun _ => ?_, fun _ => ⟨fun _ => ?_, fun _ => ⟨fun _ => ?_, fun _ => ⟨fun _ => ?_, fun _ => ⟨fun _ => ?_, fun _ => ?_⟩⟩⟩⟩⟩
        · exact ⟨hsz (cc := [42]) (by decide), J (cc := [42]) ⟨cnD_star, by decide⟩ (Nat.le_refl _) (by omega) hCB hEB⟩
        · exact ⟨hsz (cc := [42]) (by decide), J (cc := [42]) ⟨cnD_star, by decide⟩ (Nat.le_refl _) (by omega) hCB hEB⟩
        · exact ⟨hsz (cc := [43]) (by decide), J (cc := [43]) ⟨cnD_plus, by decide⟩ (Nat.le_refl _) (by omega) hCB hEB⟩
        · exact ⟨hsz (cc := [63]) (by decide), J (cc := [63]) ⟨cnD_opt, by decide⟩ (Nat.le_refl _) (by omega) hCB hEB⟩
        · refine newC_in fun w72 s72 k72 e72 => ?_
          refine (pick_ok (hCB.ext e72 fun _ _ h => h) (by omega) 7 (by omega) (by omega)).use fun e w74 he => ?_
          obtain ⟨_, m2, rfl, ⟨h3, h4, q, rfl, hq, _⟩, hC2, e2⟩ := he
          have k74 : Blk w74.heap w68.heap.size 9 (cntsD.map fun s => .string (B s)) := k72.keep e2 (by have := hCB.lt; omega)
          have hq' : q < cntsD.length := hq
          have hcc := cntsD_ok _ (List.getElem_mem hq')
          exact ⟨q, rfl, _, 0, ⟨rfl, by omega, by omega⟩, _, cell_pick k74 hq', hsz hcc.2, J hcc (by omega) h4 hC2 ((hEB.trans (Ext.mono e72 fun _ _ h => h.elim)).trans e2)⟩
        · exact ⟨x, mB, rfl, hat.el, by omega, Nat.le_refl _, by omega, hCB, hEB⟩
      · rintro d79 _ w81 ⟨y, mC, rfl, hel, hyl, hmC, hbC, hCC, hEC⟩
        have hy0 := List.length_pos_iff.2 hel.1
        have t1 : IntKind.wrap .i64 (((ByteArray.size (B y) : Nat) : Int) - 1) = ((y.length - 1 : Nat) : Int) := by rw [size_B, w64 (by omega)]; omega
        have t3 : IntKind.wrap .i64 ((k : Int) - 1) = ((k - 1 : Nat) : Int) := by rw [w64 (by omega)]; omega
        have t4 : IntKind.wrap .i64 (((ByteArray.size (B y) : Nat) : Int) - 2) = (y.length : Int) - 2 := by rw [size_B, w64 (by omega)]
        rw [t1, t3, t4]
        rw [show Int.toNat ((y.length - 1 : Nat) : Int) = y.length - 1 from by omega, byteAt_B]
        have fin : ∀ {yy : Bytes} {w' : World} {mD : Nat}, SqS pl (n + 3) (9 - gi) yy (9 - g') → yy.length ≤ y.length + 1 → mD ≤ mC → 5059 + 5 * k ≤ mD + (14 * n + 3) + 18 → Cur w' b M a l c mD → Ext (fun k => k = b) w w' →
            ((B xs).size + (B yy).size ≤ 9223372036854775807) ∧ ∃ m85, m85 < k ∧ ∃ (gi : Nat) (xs' : Bytes) (mi : Nat), (g' : Int) = gi ∧ B xs ++ B yy = B xs' ∧ ((k - 1 : Nat) : Int) = m85 ∧ m85 ≤ 3 ∧ gi ≤ g ∧ SqS pl (n + 3) (9 - g) xs' (9 - gi) ∧ xs'.length ≤ 32 * (m - mi) ∧ mi < m ∧ 5059 + 5 * m85 ≤ mi + (14 * n + 3) + 13 ∧ Cur w' b M a l c mi ∧ Ext (fun k => k = b) w w' :=
          fun h1 h2 h3 h4 h5 h6 => ⟨by rw [size_B, size_B]; omega, k - 1, by omega, g', _, _, rfl, B_append _ _, rfl, by omega, by omega, hsq.app h1, by rw [List.length_append]; omega, by omega, by omega, h5, h6⟩
        have plain := fun {w' : World} {mD : Nat} => fin (yy := y) (w' := w') (mD := mD) hel.2.1 (by omega)
        have hsz1 : (B y).size + (⟨#[63]⟩ : ByteArray).size ≤ 9223372036854775807 := by rw [size_B]; show _ + 1 ≤ _; omega
        have hB1 : B y ++ (⟨#[63]⟩ : ByteArray) = B (y ++ [63]) := B_append y [63]
        have lazy : (at_ y (y.length - 1) = 42 ∨ at_ y (y.length - 1) = 43 ∨ at_ y (y.length - 1) = 63 ∨ at_ y (y.length - 1) = 125) → ∀ {w' : World} {mD : Nat}, mD ≤ mC → 5059 + 5 * k ≤ mD + (14 * n + 3) + 18 → Cur w' b M a l c mD → Ext (fun k => k = b) w w' → _ := fun hl {w'} {mD} => fin (yy := y ++ [63]) (w' := w') (mD := mD) (hel.2.2 hl) (by simp)
        -- where a count may be made lazy
        have br : ∀ {KK KL : World → Prop} {R : Rt}, (∀ {w' : World} {mD : Nat}, mD ≤ mC → 5059 + 5 * k ≤ mD + (14 * n + 3) + 18 → Cur w' b M a l c mD → Ext (fun k => k = b) w w' → KK w') → (∀ {w' : World} {mD : Nat}, mD ≤ mC → 5059 + 5 * k ≤ mD + (14 * n + 3) + 18 → Cur w' b M a l c mD → Ext (fun k => k = b) w w' → KL w') →
            clI 82 ([.pointer (some ⟨b, 0, none⟩), .int .i64 3]) w81 R fun n82 w83 => (cB (n82 == 0) ((cB (decide (((ByteArray.size (B y) : Nat) : Int) > 1)) ((ixT (B y) ((y.length : Int) - 2)) ∧ (cB ((byteAt (B y) (Int.toNat ((y.length : Int) - 2))) != 92) (KL w83) (KK w83))) (KK w83))) (KK w83)) := by
          intro KK KL R hK hL
          refine (pick_ok hCC (by omega) 3 (by omega) (by omega)).use fun e w83 he => ?_
          obtain ⟨_, mD, rfl, ⟨h3, h4, q, rfl, hq, _⟩, hC2, e2⟩ := he
          have hpK := hK (by omega) (by omega) hC2 (hEC.trans e2)
          refine ⟨q, rfl, ⟨fun _ => ⟨fun h1 => ⟨⟨?_, ?_⟩, fun _ => hL (by omega) (by omega) hC2 (hEC.trans e2), fun _ => hpK⟩, fun _ => hpK⟩, fun _ => hpK⟩⟩
          · have := of_decide_eq_true h1; rw [size_B] at this; omega
          · rw [size_B]; omega
        refine ⟨⟨by omega, by rw [size_B]; omega⟩, fun h42 => ?_, fun _ => ⟨fun h43 => ?_, fun _ => ⟨fun h125 => ?_, fun _ => ⟨fun h63 => ⟨fun _ => ?_, fun _ => plain (Nat.le_refl _) (by omega) hCC hEC⟩, fun _ => plain (Nat.le_refl _) (by omega) hCC hEC⟩⟩⟩⟩
        · have hl : at_ y (y.length - 1) = 42 := by have : ((at_ y (y.length - 1) : Nat) : Int) = 42 := by simpa using h42
                                                    omega
          exact br plain fun h1 h2 h3 h4 => ⟨hsz1, by rw [hB1]; exact lazy (.inl hl) h1 h2 h3 h4⟩
        · have hl : at_ y (y.length - 1) = 43 := by have : ((at_ y (y.length - 1) : Nat) : Int) = 43 := by simpa using h43
                                                    omega
          exact br plain fun h1 h2 h3 h4 => ⟨hsz1, by rw [hB1]; exact lazy (.inr (.inl hl)) h1 h2 h3 h4⟩
        · have hl : at_ y (y.length - 1) = 125 := by have : ((at_ y (y.length - 1) : Nat) : Int) = 125 := by simpa using h125
                                                     omega
          exact br plain fun h1 h2 h3 h4 => ⟨hsz1, by rw [hB1]; exact lazy (.inr (.inr (.inr hl))) h1 h2 h3 h4⟩
        · have hl : at_ y (y.length - 1) = 63 := by have : ((at_ y (y.length - 1) : Nat) : Int) = 63 := by simpa using h63
                                                    omega
          exact br plain fun h1 h2 h3 h4 => ⟨hsz1, by rw [hB1]; exact lazy (.inr (.inr (.inl hl))) h1 h2 h3 h4⟩
  · have hk0 : k = 0 := by have := of_decide_eq_false g1; omega
    subst hk0
    refine (pick_ok hCi (by omega) 6 (by omega) (by omega)).use fun e w113 he => ?_
    obtain ⟨_, m1, rfl, ⟨p1, p2, r6, rfl, hr6, hwin⟩, hC1, e1⟩ := he
    have hE1 := hEi.trans e1
    refine ⟨r6, rfl, fun h0 => ?_, fun h0 => ⟨_, m1, rfl, ⟨by omega, by omega, xs, gi, rfl, hgi, hsq.pat, by omega⟩, hC1, hE1⟩⟩
    have hr0 : r6 = 0 := by have : (r6 : Int) = 0 := by simpa using h0
                            omega
    have hmi2 : 5059 < mi := by
      by_cases h : 5059 < mi
      · exact h
      · exact absurd hr0 ((hwin (by omega) (by omega)).2 rfl)
    refine (ihm m1 (by omega) w113 b M a l c gi pl (by omega) (by omega) hC1).use fun e w117 he => ?_
    obtain ⟨_, m2, rfl, ⟨z1, z2, y, g2, rfl, hg2, hpt, hyl⟩, hC2, e2⟩ := he
    refine ⟨B y, g2, rfl, ?_, ?_, _, m2, rfl, ⟨by omega, by omega, xs ++ 124 :: y, g2, ?_, by omega, PtS.alt hsq hpt, ?_⟩, hC2, hE1.trans e2⟩
    · rw [size_B]; show 1 + _ ≤ _; omega
    · rw [show (⟨#[124]⟩ : ByteArray) = B [124] from rfl, B_append, size_B, size_B]; simp; omega
    · rw [show (⟨#[124]⟩ : ByteArray) = B [124] from rfl, B_append, B_append]; rfl
    · simp; omega
end Go.Proofs.Ytngbiaeliphdjaa.V
/- Drawn patterns and texts. No statement of the seat is proved here. -/
namespace Go.Proofs.Ytngbiaeliphdjaa.V
open Go.Vc Go.Proofs Go.RowKit
set_option linter.unusedVariables false
set_option linter.unusedSimpArgs false
theorem text_ok {w : World} {b M : Nat} {a : Option Addr} {l c m : Nat} (h : Cur w b M a l c m) (hm : 100 ≤ m) (n : Nat) (h1 : 1 ≤ n) (hn : n ≤ 20) :
    Cl Try.prog 67 [.pointer (some ⟨b, 0, none⟩), .int .i64 (n : Int)] w (Drew w b M a l c fun v m' => min m 5059 ≤ m' + 2 * n + 2 ∧ ∃ s : Bytes, v = .string (B s) ∧ s.length ≤ n) := by
  apply vc67
  unfold V67
  have tn : IntKind.wrap .i64 ((n : Int) + 1) = ((n + 1 : Nat) : Int) := by rw [w64 (by omega)]; omega
  rw [tn]
  have hbl := h.lt
  refine (pick_ok h (by omega) (n + 1) (by omega) (by omega)).use fun e w5 he => ?_
  obtain ⟨_, m5, rfl, ⟨q1, q2, r, rfl, hr, _⟩, hC5, e5⟩ := he
  refine ⟨r, rfl, fun k ax lx cx j w' => ∃ (xs : Bytes) (mi : Nat), j = k ∧ k ≤ r ∧ xs.length + k = r ∧ xs.length = lx ∧ min m 5059 ≤ mi + 1 + 2 * xs.length ∧ Row w.heap.size w' 5 1 ax lx cx (u8s xs) ∧ Cur w' b M a l c mi ∧ Ext (fun k => k = b) w w', ⟨r, [], m5, rfl, Nat.le_refl _, by simp, rfl, by simp; omega, Row.nil _ _ e5.size, hC5, e5⟩, ?_⟩
  rintro k d ax lx cx _ w10 ⟨xs, mi, rfl, hk, hxr, hxl, hbd, hR, hCi, hEi⟩
  -- a byte more
  have app : ∀ {w' : World} {mj : Nat} {y : UInt8} {x : Int} {K : Option Addr → Nat → Nat → World → Prop}, x = (y.toNat : Int) → Cur w' b M a l c mj → Ext (fun k => k = b) w10 w' → (∀ a2 c2 w2, Row w.heap.size w2 5 1 a2 (lx + 1) c2 (u8s (xs ++ [y])) → Cur w2 b M a l c mj → Ext (fun k => k = b) w w2 → K a2 (lx + 1) c2 w2) →
      newC [.int .u8 x] 5 (fun b20 w21 => ∃ (a22 : Option Addr), ∃ (l22 : Nat), ∃ (c22 : Nat), ∃ (w23 : World), (Builtin.append_ #[22, 22] 22 #[.slice ax lx cx, .slice (some ⟨b20, 0, none⟩) 1 1]).run Try.prog w21 = .ok (.slice a22 l22 c22) w23 ∧ K a22 l22 c22 w23) w' := by
    intro w' mj y x K hx hC hE hK
    subst hx
    obtain ⟨a3, c3, w3, r1, r2, r3⟩ := (hR.keep hE fun k hk h => by omega).app1 elemU8 (ys := u8s [y]) (n := 1) rfl rfl (by omega) (by omega)
    exact ⟨a3, _, c3, w3, r1, hK _ _ _ (by rw [u8s_append]; exact r2) (hC.ext r3 fun k hk (h : _ ≤ k) => by omega) ((hEi.trans hE).step r3 fun i hi (h : _ ≤ i) => by omega)⟩
  refine ⟨fun g => ?_, fun g => ?_⟩
  · have g' : 0 < k := by have := of_decide_eq_true g; omega
    have t3 : IntKind.wrap .i64 ((k : Int) - 1) = ((k - 1 : Nat) : Int) := by rw [w64 (by omega)]; omega
    rw [t3]
    refine (pick_ok hCi (by omega) 12 (by omega) (by omega)).use fun e w15 he => ?_
    obtain ⟨_, m1, rfl, ⟨p1, p2, q, rfl, hq, _⟩, hC1, e1⟩ := he
    refine ⟨q, rfl, fun _ => ?_, fun _ => ?_⟩
    · refine (pick_ok hC1 (by omega) 6 (by omega) (by omega)).use fun e w18 he => ?_
      obtain ⟨_, m2, rfl, ⟨p3, p4, q', rfl, hq', _⟩, hC2, e2⟩ := he
      refine ⟨q', rfl, ⟨by omega, by show (q' : Int) < 6; omega⟩, ?_⟩
      exact app rfl hC2 (e1.trans e2) fun a2 c2 w2 r2 hC hE => ⟨k - 1, by omega, _, m2, rfl, by omega, by simp; omega, by simp; omega, by simp; omega, r2, hC, hE⟩
    · refine (pick_ok hC1 (by omega) 3 (by omega) (by omega)).use fun e w18 he => ?_
      obtain ⟨_, m2, rfl, ⟨p3, p4, q', rfl, hq', _⟩, hC2, e2⟩ := he
      have hy : IntKind.wrap .u8 (IntKind.wrap .i64 (97 + (q' : Int))) = ((UInt8.ofNat (97 + q')).toNat : Int) := by
        rw [w64 (by omega), w8, UInt8.toNat_ofNat']; omega
      exact ⟨q', rfl, app hy hC2 (e1.trans e2) fun a2 c2 w2 r2 hC hE => ⟨k - 1, by omega, _, m2, rfl, by omega, by simp; omega, by simp; omega, by simp; omega, r2, hC, hE⟩⟩
  · have hk0 : k = 0 := by have := of_decide_eq_false g; omega
    subst hk0
    refine (pick_ok hCi (by omega) 9 (by omega) (by omega)).use fun e w34 he => ?_
    obtain ⟨_, m1, rfl, ⟨p1, p2, q, rfl, hq, _⟩, hC1, e1⟩ := he
    have fin : ∃ (s41 : ByteArray), (convert 22 9 (.slice ax lx cx)).run Try.prog w34 = .ok (.string s41) w34 ∧ Drew w b M a l c (fun v m' => min m 5059 ≤ m' + 2 * n + 2 ∧ ∃ s : Bytes, v = .string (B s) ∧ s.length ≤ n) (.returned (.string s41)) w34 :=
      ⟨_, row_str (hR.keep e1 fun k hk h => by omega), _, m1, rfl, ⟨by omega, xs, rfl, by omega⟩, hC1, hEi.trans e1⟩
    refine ⟨q, rfl, fun _ => ⟨fun h2 => ?_, fun _ => fin⟩, fun _ => fin⟩
    have h2' : lx < n := by have := of_decide_eq_true h2; omega
    exact app (y := 10) rfl hC1 e1 fun a2 c2 w2 r2 hC hE => ⟨_, row_str r2, _, m1, rfl, ⟨by omega, _, rfl, by simp; omega⟩, hC, hE⟩
/-- A pattern that is read. -/
def GoodP (pl : Bool) (s : Bytes) : Prop := (readP s).ok = true ∧ (pl = true → NE (readP s).pieces) ∧ s.length ≤ 120
theorem good_abc (pl : Bool) : GoodP pl [40, 97, 124, 97, 98, 41, 42, 99, 63] := by
  have a1 : ∀ d g, SqS pl d g [97] g := fun d g => (aS_chr pl d g (by decide)).one
  have b1 : ∀ d g, SqS pl d g [98] g := fun d g => (aS_chr pl d g (by decide)).one
  have p1 : PtS pl 5 1 [97, 124, 97, 98] 1 := PtS.alt (a1 5 1) (((a1 5 1).app (b1 5 1)).pat)
  have g1 : AtS pl 6 0 [40, 97, 124, 97, 98, 41] 1 := p1.grp (g := 0) (by decide)
  have s1 : SqS pl 6 0 [40, 97, 124, 97, 98, 41, 42, 99, 63] 1 := (g1.cnt cnD_star.1).app ((aS_chr pl 6 1 (c := 99) (by decide)).cnt cnD_opt.1)
  have := s1.pat.read (by decide)
  exact ⟨this.1, this.2, by decide⟩
theorem good_ok {w : World} {b M : Nat} {a : Option Addr} {l c m : Nat} (h : Cur w b M a l c m) (hm : 5059 ≤ m) (pl : Bool) :
    Cl Try.prog 66 [.pointer (some ⟨b, 0, none⟩), .bool pl] w (Drew w b M a l c fun v m' => 5000 ≤ m' ∧ ∃ s : Bytes, v = .string (B s) ∧ GoodP pl s) := by
  apply vc66
  unfold V66
  refine (pat_ok 3 (by omega) m w b M a l c 9 pl hm (by omega) h).use fun e w6 he => ?_
  obtain ⟨_, m6, rfl, ⟨z1, z2, y, g2, rfl, hg2, hpt, hyl⟩, hC2, e2⟩ := he
  refine ⟨B y, g2, rfl, fun g => ⟨_, m6, rfl, ⟨by omega, _, rfl, good_abc pl⟩, hC2, e2⟩, fun g => ?_⟩
  have g' : y.length ≤ 120 := by have := of_decide_eq_false g; rw [size_B] at this; omega
  have := hpt.read g'
  exact ⟨_, m6, rfl, ⟨by omega, y, rfl, this.1, this.2, g'⟩, hC2, e2⟩
def RetPT (pl : Bool) (n : Nat) (w : World) : Rt := fun e w' => ∃ p t : Bytes, e = .returned (.tuple #[.string (B p), .string (B t)]) ∧ GoodP pl p ∧ t.length ≤ n ∧ Below w.heap.size w w'
theorem drawn_ok {w : World} {a : Option Addr} {l c : Nat} (h : GBytes w w.heap.size a l) (hl : l ≤ 1048576) : Cl Try.prog 20 [.slice a l c] w (RetPT false 14 w) := by
  apply vc20
  unfold V20
  refine cur_in h hl fun w3 m hm hC B3 => ?_
  refine (good_ok hC hm false).use fun e w5 he => ?_
  obtain ⟨_, m5, rfl, ⟨q1, p, rfl, hp⟩, hC5, e5⟩ := he
  refine ⟨_, rfl, (text_ok hC5 (by omega) 14 (by omega) (by omega)).use fun e w8 he => ?_⟩
  obtain ⟨_, m8, rfl, ⟨_, t, rfl, ht⟩, hC8, e8⟩ := he
  exact ⟨_, rfl, p, t, rfl, hp, ht, Ext.to (Ext.to B3 e5 fun i h => by omega) e8 fun i h => by omega⟩
theorem plain_ok {w : World} {a : Option Addr} {l c : Nat} (h : GBytes w w.heap.size a l) (hl : l ≤ 1048576) : Cl Try.prog 55 [.slice a l c] w (RetPT true 10 w) := by
  apply vc55
  unfold V55
  refine cur_in h hl fun w3 m hm hC B3 => ?_
  refine (good_ok hC hm true).use fun e w5 he => ?_
  obtain ⟨_, m5, rfl, ⟨q1, p, rfl, hp⟩, hC5, e5⟩ := he
  refine ⟨_, rfl, (text_ok hC5 (by omega) 10 (by omega) (by omega)).use fun e w8 he => ?_⟩
  obtain ⟨_, m8, rfl, ⟨_, t, rfl, ht⟩, hC8, e8⟩ := he
  exact ⟨_, rfl, p, t, rfl, hp, ht, Ext.to (Ext.to B3 e5 fun i h => by omega) e8 fun i h => by omega⟩
end Go.Proofs.Ytngbiaeliphdjaa.V
/- A byte of an argument of a law. No statement of the seat is proved here. -/
namespace Go.Proofs.Ytngbiaeliphdjaa.V
open Go.Vc Go.Proofs Go.RowKit
set_option linter.unusedVariables false
set_option linter.unusedSimpArgs false
theorem _root_.Go.Vc.GBytes.below {w w' : World} {B : Nat} {a : Option Addr} {l : Nat} (h : GBytes w B a l) (hB : B ≤ w.heap.size) (e : Below w.heap.size w w') : GBytes w' B a l := h.ext (S := fun _ => False) (Ext.of_below e) hB fun _ _ h => h
theorem wByte_ok {w : World} {B : Nat} {a : Option Addr} {l c : Nat} (h : GBytes w B a l) (i : Nat) (hi : i ≤ 1000) :
    Cl Try.prog 28 [.slice a l c, .int .i64 (i : Int)] w (fun e w' => ∃ r : Nat, e = .returned (.int .i64 (r : Int)) ∧ r ≤ 255 ∧ Below w.heap.size w w') := by
  apply vc28
  unfold V28
  refine ⟨fun _ => ⟨0, rfl, by omega, Below.refl _ _⟩, fun g => ?_⟩
  have hl : l ≠ 0 := by rintro rfl; simp at g
  rcases h.2 with h0 | ⟨b, o, rfl, hb, hc⟩
  · omega
  have ht : Int.tmod (i : Int) ((l : Nat) : Int) = ((i % l : Nat) : Int) := by rw [Int.tmod_eq_emod_of_nonneg (by omega), Int.natCast_emod]
  have hlt := Nat.mod_lt i (Nat.pos_of_ne_zero hl)
  obtain ⟨n, h1, h2, h3⟩ := hc (i % l) hlt
  rw [ht]
  refine ⟨by omega, b, o, ⟨rfl, by omega, by omega⟩, n, ?_, n.toNat, ?_, by omega, Below.refl _ _⟩
  · rw [show Int.toNat ((i % l : Nat) : Int) * 1 = i % l from by omega]; exact h3
  · rw [w64 (by omega), Int.toNat_of_nonneg h1]
theorem cnt_mod (r : Nat) (n : Nat) (h : 0 < n) : Int.tmod (r : Int) ((n : Nat) : Int) = ((r % n : Nat) : Int) := by rw [Int.tmod_eq_emod_of_nonneg (by omega), Int.natCast_emod]
end Go.Proofs.Ytngbiaeliphdjaa.V
/- The law on what is found first. No statement of the seat is proved here. -/
namespace Go.Proofs.Ytngbiaeliphdjaa.V
open Go.Vc Go.Proofs Go.RowKit
set_option linter.unusedVariables false
set_option linter.unusedSimpArgs false
theorem findA_len (p t : Bytes) (n : Int) : (findA p t n).gs.length ≤ 1000 := by
  unfold findA
  split
  · rename_i h; have := (okA_pt h.1).findS n.toNat; omega
  · simp [mt0]
theorem allA_MsS (p t : Bytes) : MsS (allA p t) := by
  unfold allA
  split
  · rename_i h; exact (okA_pt h).allS
  · exact ⟨by simp, by simp⟩
theorem lawFirst_ok (a1 : Option Addr) (l1 c1 : Nat) (a2 : Option Addr) (l2 c2 : Nat) (w : World) (h1 : l1 ≤ 1048576 → GBytes w w.heap.size a1 l1) (h2 : l2 ≤ 1048576 → GBytes w w.heap.size a2 l2) :
    Cl Try.prog 16 [.slice a1 l1 c1, .slice a2 l2 c2] w (RetB (.bool true) w) := by
  apply vc16
  unfold V16
  refine ⟨fun _ => ⟨rfl, Below.refl _ _⟩, fun g1 => ⟨fun _ => ⟨rfl, Below.refl _ _⟩, fun g2 => ?_⟩⟩
  have g1' : l1 ≤ 1048576 := by have := of_decide_eq_false g1; omega
  have g2' : l2 ≤ 1048576 := by have := of_decide_eq_false g2; omega
  have H1 := h1 g1'
  have H2 := h2 g2'
  refine (drawn_ok H1 g1').use fun e w5 he => ?_
  obtain ⟨p, t, rfl, hp, ht, B5⟩ := he
  refine ⟨_, _, rfl, (wByte_ok (H2.below (Nat.le_refl _) B5) 0 (by omega)).use fun e w8 he => ?_⟩
  obtain ⟨r, rfl, hr, B8⟩ := he
  have B8' := B5.vstep B8
  refine ⟨r, rfl, ?_⟩
  have ts : IntKind.wrap .i64 (((ByteArray.size (B t) : Nat) : Int) + 1) = ((t.length + 1 : Nat) : Int) := by rw [size_B, w64 (by omega)]; omega
  have tm := cnt_mod r (t.length + 1) (by omega)
  have hi := Nat.mod_lt r (show 0 < t.length + 1 by omega)
  dsimp only
  rw [ts, tm]
  generalize r % (t.length + 1) = i at *
  have find : ∀ (j : Nat) (w : World), Cl Try.prog 45 [.string (B p), .string (B t), .int .i64 (j : Int)] w (RetMt (findA p t j) w) := fun j w => by have := implFind_ok (B p) (B t) j w; rw [L_B, L_B] at this; exact this
  have findS : ∀ (j : Nat) (w : World), Cl Try.prog 44 [.string (B p), .string (B t), .int .i64 (j : Int)] w (RetMt (findA p t j) w) := fun j w => by have := specFind_ok (B p) (B t) j w; rw [L_B, L_B] at this; exact this
  have ways : ∀ (j : Nat) (w : World), Cl Try.prog 30 [.string (B p), .string (B t), .int .i64 (j : Int)] w (RetMs (waysA p t j) w) := fun j w => by have := implWays_ok (B p) (B t) j w; rw [L_B, L_B] at this; exact this
  have waysS : ∀ (j : Nat) (w : World), Cl Try.prog 46 [.string (B p), .string (B t), .int .i64 (j : Int)] w (RetMs (waysA p t j) w) := fun j w => by have := specWays_ok (B p) (B t) j w; rw [L_B, L_B] at this; exact this
  refine ⟨by omega, (find i w8).use fun e w14 he => ?_⟩
  obtain ⟨g, rfl, hok, hlow, B14⟩ := he
  obtain ⟨m, hm⟩ : ∃ m, m = findA p t i := ⟨_, rfl⟩
  rw [← hm] at hok ⊢
  have hfst := findA_first (p := p) (t := t) (i := i) (by omega)
  rw [← hm] at hfst
  have hml : m.gs.length ≤ 1000 := by rw [hm]; exact findA_len _ _ _
  have B14' := B8'.vstep B14
  refine ⟨_, _, _, _, _, _, rfl, mbox_in (e := (m, g)) fun w18 s18 k18 B18 => drw_in fun w19 q19 e19 => ?_⟩
  have k19 := k18.keep e19 fun h => h
  have B19 : Below w14.heap.size w14 w19 := Ext.to B18 e19 fun _ h => h.elim
  refine ⟨_, k19.cell 0, _, k19.cell 1, _, k19.cell 2, _, _, _, k19.cell 3, (findS i w19).use fun e w28 he => ?_⟩
  obtain ⟨g2, rfl, hok2, _, B28⟩ := he
  rw [← hm] at hok2 ⊢
  have k28 := k19.below B28
  have M28 : MOk w28 (m, g) := (hok.below B19).below B28
  refine ⟨_, _, _, _, _, _, rfl, k28.cellsAt (n := 4) rfl rfl, (wMatch_ok (e1 := (m, g)) (e2 := (m, g2)) M28 hok2 rfl hml).ret fun w31 B31 => ⟨true, rfl, fun h => by simp at h, fun _ => ?_⟩⟩
  have k31 := k28.below B31
  have M31 := M28.below B31
  have B31' := ((B14'.vstep B19).vstep B28).vstep B31
  refine ⟨_, k31.cell 1, _, k31.cell 0, fun x w' => ∃ en : Nat, x = en ∧ en ≤ t.length + 1 ∧ (∀ j : Nat, i ≤ j → j < en → waysA p t (j : Int) = []) ∧ Below w.heap.size w w', ⟨fun gb => ?_, fun gb => ?_⟩, ?_⟩
  · have g' : m.ok = false := by simpa using gb
    exact ⟨t.length + 1, rfl, by omega, fun j h3 h4 => hfst.2 g' j h3 (by omega), B31'⟩
  · have g' : m.ok = true := by simpa using gb
    obtain ⟨f1, f2, ⟨rw_, f3⟩, f4⟩ := hfst.1 g'
    refine ⟨_, k31.cell 1, (ways m.fr w31).use fun e w38 he => ?_⟩
    obtain ⟨a37, l37, c37, es, rfl, Me, hes, B38⟩ := he
    refine ⟨_, _, _, rfl, drw_in fun w40 q40 e40 => ?_⟩
    have B40 : Below w31.heap.size w31 w40 := Ext.to B38 e40 fun _ h => h.elim
    have Me40 := Me.keep e40 fun _ _ h => h
    rw [f3] at hes
    obtain ⟨e0, es', rfl⟩ : ∃ e0 es', es = e0 :: es' := by
      cases es with
      | nil => cases hes
      | cons x y => exact ⟨x, y, rfl⟩
    have he0 : e0.1 = m := by simp only [List.map_cons] at hes; injection hes
    have hl37 := Me.len
    simp only [List.length_cons] at hl37
    obtain ⟨b, hb, hc⟩ := Me40.cells (i := 0) (by simp)
    have k40 := k31.below B40
    have hm0 : MOk w40 e0 := Me40.all e0 (List.mem_cons_self ..)
    refine ⟨fun g => ?_, fun _ => ⟨b, 0, ⟨hb, by omega, by omega⟩, _, hc 0 (by decide), _, hc 1 (by decide), _, hc 2 (by decide), _, _, _, hc 3 (by decide), _, k40.cell 0, _, k40.cell 1, _, k40.cell 2, _, _, _, k40.cell 3, ?_⟩⟩
    · have : ((l37 : Nat) : Int) = 0 := by simpa using g
      omega
    refine (wMatch_ok (e1 := e0) (e2 := (m, g)) hm0 (M31.below B40) he0 (by rw [he0]; exact hml)).ret fun w52 B52 => ⟨true, rfl, fun h => by simp at h, fun _ => ?_⟩
    have k52 := k40.below B52
    refine ⟨_, k52.cell 1, (waysS m.fr w52).use fun e w56 he => ?_⟩
    obtain ⟨a55, l55, c55, es2, rfl, Me2, hes2, B56⟩ := he
    refine ⟨_, _, _, rfl, (wMatches_ok ((Me40.below B52).below B56) Me2 (by rw [hes, hes2, f3]) (by rw [hes, ← f3]; exact waysA_S _ _ _)).ret fun w59 B59 => ⟨true, rfl, fun h => by simp at h, fun _ => ⟨m.fr, rfl, by omega, f4, ?_⟩⟩⟩
    exact (((B31'.vstep B40).vstep B52).vstep B56).vstep B59
  rintro d61 _ w63 ⟨en, rfl, hen, hno, B63⟩
  refine ⟨fun k x w' => ∃ j : Nat, x = j ∧ i ≤ j ∧ (j ≤ en ∨ j = i) ∧ k = en - j ∧ Below w.heap.size w w', ⟨_, i, rfl, Nat.le_refl _, .inr rfl, rfl, B63⟩, ?_⟩
  rintro k d _ w67 ⟨j, rfl, hj, hj2, rfl, B67⟩
  refine ⟨fun g => ?_, fun g => ?_⟩
  · have g' : j < en := by have := of_decide_eq_true g; omega
    have e1 : IntKind.wrap .i64 ((j : Int) + 1) = ((j + 1 : Nat) : Int) := by rw [w64 (by omega)]; omega
    rw [e1]
    refine (ways j w67).use fun e w71 he => ?_
    obtain ⟨a70, l70, c70, es, rfl, Me, hes, B71⟩ := he
    rw [hno j hj g'] at hes
    have hl := Me.len
    have hes0 : es = [] := by simpa using hes
    subst hes0
    refine ⟨_, _, _, rfl, fun g => ?_, fun _ => ⟨_, by omega, j + 1, rfl, by omega, by omega, rfl, B67.vstep B71⟩⟩
    have : l70 = 0 := by simpa using hl.symm
    subst this
    simp at g
  · refine (implAll_ok (B p) (B t) w67).use fun e w75 he => ?_
    obtain ⟨a74, l74, c74, es, rfl, Me, hes, B75⟩ := he
    rw [L_B, L_B] at hes
    have hlS := (allA_MsS p t).1
    rw [← hes, List.length_map] at hlS
    have hl := Me.len
    refine ⟨_, _, _, rfl, fun k x y w' => ∃ (A D : List ME) (at' : Nat), es = A ++ D ∧ x = at' ∧ y = A.length ∧ k = D.length ∧ D.map (·.1) = restA p t at' ∧ at' ≤ t.length + 1 ∧ Below w75.heap.size w75 w', ⟨_, [], es, 0, rfl, rfl, rfl, rfl, hes, by omega, Below.refl _ _⟩, ?_⟩
    rintro k d _ _ w80 ⟨A, D, at', hAD, rfl, rfl, rfl, hD, hat, B80⟩
    have hel : es.length = A.length + D.length := by rw [hAD]; simp
    have B80' := (B67.vstep B75).vstep B80
    refine ⟨fun g => ?_, fun g => ?_⟩
    · have g' : A.length < l74 := by have := of_decide_eq_true g; omega
      obtain ⟨x, D', rfl⟩ : ∃ x B', D = x :: B' := by
        cases D with
        | nil => simp only [List.length_nil] at hel; omega
        | cons x B' => exact ⟨x, B', rfl⟩
      have e0 : Int.toNat (A.length : Int) = A.length := by omega
      have e1 : IntKind.wrap .i64 ((A.length : Int) + 1) = ((A.length + 1 : Nat) : Int) := by rw [w64 (by omega)]; omega
      rw [e0, e1]
      have M2 := Me.below B80
      rw [hAD] at M2
      obtain ⟨ba, hba, hc⟩ := M2.cells (i := A.length) (by simp)
      have hge : ∀ h, (A ++ x :: D')[A.length]'h = x := by intro h; simp
      rw [hge] at hc
      simp only [List.map_cons] at hD
      obtain ⟨r1, r2, r3, r4⟩ := restA_cons hD.symm
      refine ⟨ba, 0, ⟨hba, by omega, by omega⟩, _, hc 0 (by decide), _, hc 1 (by decide), _, hc 2 (by decide), _, _, _, hc 3 (by decide), ?_⟩
      refine mbox_in (e := x) fun w92 s92 k92 B92 => drw_in fun w93 q93 e93 => ?_
      have k93 := k92.keep e93 fun h => h
      have B93 : Below w80.heap.size w80 w93 := Ext.to B92 e93 fun _ h => h.elim
      refine ⟨_, k93.cell 0, _, k93.cell 1, _, k93.cell 2, _, _, _, k93.cell 3, (find at' w93).use fun e w102 he => ?_⟩
      obtain ⟨g3, rfl, hok3, _, B102⟩ := he
      have k102 := k93.below B102
      have Mx : MOk w102 x := ((M2.below B93).below B102).mid.1
      refine ⟨_, _, _, _, _, _, rfl, k102.cellsAt (n := 4) rfl rfl, (wMatch_ok (e1 := x) (e2 := (findA p t at', g3)) Mx hok3 r1 (by rw [r1]; exact findA_len _ _ _)).ret fun w105 B105 => ⟨true, rfl, fun h => by simp at h, fun _ => ?_⟩⟩
      have k105 := k102.below B105
      have B105' := ((B80.vstep B93).vstep B102).vstep B105
      have hx1 : x.1.to ≤ 14 + 1 := by unfold nextM at r4; split at r4 <;> omega
      have fin : ∀ {z : Int}, z = (nextM x.1 : Int) → ∃ m110, m110 < (x :: D').length ∧ ∃ (A_1 D : List ME) (at' : Nat), es = A_1 ++ D ∧ z = at' ∧ ((A.length + 1 : Nat) : Int) = A_1.length ∧ m110 = D.length ∧ D.map (·.1) = restA p t at' ∧ at' ≤ t.length + 1 ∧ Below w75.heap.size w75 w105 :=
        fun hz => ⟨D'.length, by simp, A ++ [x], D', nextM x.1, by rw [hAD]; simp, hz, by simp, rfl, r2, r4, B105'⟩
      refine ⟨_, k105.cell 2, _, k105.cell 2, _, k105.cell 1, fun g => ?_, fun g => ?_⟩
      · have g' : x.1.fr = x.1.to := by have : ((x.1.to : Nat) : Int) = x.1.fr := by simpa using g
                                        omega
        exact fin (by rw [w64 (by omega)]; unfold nextM; rw [if_pos g']; omega)
      · have g' : ¬ x.1.fr = x.1.to := by have : ¬ ((x.1.to : Nat) : Int) = x.1.fr := by simpa using g
                                          omega
        exact fin (by unfold nextM; rw [if_neg g'])
    · have g' : ¬ A.length < l74 := by have := of_decide_eq_false g; omega
      have hD0 : D = [] := by
        cases D with
        | nil => rfl
        | cons x r => simp only [List.length_cons] at hel; omega
      subst hD0
      refine ⟨fun _ => ⟨rfl, B80'⟩, fun g3 => ?_⟩
      have g3' : at' ≤ t.length := by have := of_decide_eq_false g3; rw [size_B] at this; omega
      refine (find at' w80).use fun e w116 he => ?_
      obtain ⟨g4, rfl, _, _, B116⟩ := he
      refine ⟨_, _, _, _, _, _, rfl, ?_, B80'.vstep B116⟩
      rcases restA_nil hD.symm with h | h
      · omega
      · show Ending.returned (.bool (!(findA p t at').ok)) = _
        rw [h]; rfl
end Go.Proofs.Ytngbiaeliphdjaa.V

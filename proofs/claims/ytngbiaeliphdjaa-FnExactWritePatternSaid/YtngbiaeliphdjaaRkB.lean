/- Parts of a proof, put together: definitions, formulas of Go functions and lemmas. No statement of the seat is proved here. -/
import Derived.Test.YtngbiaeliphdjaaRkA
set_option maxHeartbeats 4000000
/- How the pure reader reads a text that is put together of parts. No statement of the seat is proved here. -/
namespace Go.Vc
set_option linter.unusedVariables false
set_option linter.unusedSimpArgs false
/-- The text stands at this place. -/
def Fit (l : Bytes) (i : Nat) (s : Bytes) : Prop := i + s.length ≤ l.length ∧ ∀ k, k < s.length → at_ l (i + k) = at_ s k
theorem at_app_l {s t : Bytes} {k : Nat} (h : k < s.length) : at_ (s ++ t) k = at_ s k := by
  unfold at_; rw [List.getD_eq_getElem?_getD, List.getD_eq_getElem?_getD, List.getElem?_append_left h]
theorem at_app_r {s t : Bytes} {k : Nat} : at_ (s ++ t) (s.length + k) = at_ t k := by
  unfold at_; rw [List.getD_eq_getElem?_getD, List.getD_eq_getElem?_getD, List.getElem?_append_right (by omega), show s.length + k - s.length = k from by omega]
theorem Fit.app {l : Bytes} {i : Nat} {s t : Bytes} (h : Fit l i (s ++ t)) : Fit l i s ∧ Fit l (i + s.length) t := by
  obtain ⟨h1, h2⟩ := h
  rw [List.length_append] at h1 h2
  refine ⟨⟨by omega, fun k hk => ?_⟩, by omega, fun k hk => ?_⟩
  · rw [h2 k (by omega), at_app_l hk]
  · rw [show i + s.length + k = i + (s.length + k) from by omega, h2 _ (by omega), at_app_r]
theorem Fit.self (s : Bytes) : Fit s 0 s := ⟨by omega, fun k _ => by rw [Nat.zero_add]⟩
theorem Fit.at0 {l : Bytes} {i : Nat} {c : UInt8} {r : Bytes} (h : Fit l i (c :: r)) : i < l.length ∧ at_ l i = c.toNat := by
  obtain ⟨h1, h2⟩ := h
  simp only [List.length_cons] at h1 h2
  exact ⟨by omega, h2 0 (by omega)⟩
theorem Fit.tail {l : Bytes} {i : Nat} {c : UInt8} {r : Bytes} (h : Fit l i (c :: r)) : Fit l (i + 1) r := (Fit.app (s := [c]) (t := r) h).2
theorem Fit.le {l : Bytes} {i : Nat} {s : Bytes} (h : Fit l i s) : i + s.length ≤ l.length := h.1
def cntC (n : Nat) : Prop := n = 42 ∨ n = 43 ∨ n = 63 ∨ n = 123
/-- No count stands at this place. -/
def NC (l : Bytes) (j : Nat) : Prop := ¬ (j < l.length ∧ cntC (at_ l j))
def NQ (l : Bytes) (j : Nat) : Prop := ¬ (j < l.length ∧ at_ l j = 63)
theorem NC.q {l : Bytes} {j : Nat} (h : NC l j) : NQ l j := fun ⟨h1, h2⟩ => h ⟨h1, .inr (.inr (.inl h2))⟩
/-- The end, or the end of a group. -/
def EN (l : Bytes) (j : Nat) : Prop := j = l.length ∨ at_ l j = 41
theorem EN.nc {l : Bytes} {j : Nat} (h : EN l j) : NC l j := fun ⟨h1, h2⟩ => by
  unfold cntC at h2
  rcases h with h | h <;> omega
def HD (s : Bytes) : Prop := s = [] ∨ ¬ cntC (at_ s 0)
def subOf (l : Bytes) : Nat → St → Pr (St × Int)
  | 0 => fun _ => .bad 0
  | d + 1 => patP l d
def deepOf : Nat → Bool
  | 0 => true
  | _ + 1 => false
theorem subOf_ok (l : Bytes) (d : Nat) : SubOk l (subOf l d) := by
  cases d with
  | zero => intro i g out j g' out' k _ h; cases h
  | succ d => exact patP_len l d
/-- A sequence, and alternatives behind it. -/
def saL (l : Bytes) (d i g : Nat) (out : List Pc) (kids : List Int) : Pr (St × Int) := match seqL (subOf l d) (deepOf d) l i g out [] with
  | .bad e => .bad e
  | .ok ((j, g', out'), x) => altL (subOf l d) (deepOf d) l j g' out' (kids ++ [x])
theorem patP_sa (l : Bytes) (d i g : Nat) (out : List Pc) : patP l d (i, g, out) = saL l d i g out [] := by
  cases d <;> rfl
theorem altL_sa {l : Bytes} {d i g : Nat} {out : List Pc} {kids : List Int} (h : i < l.length) (hb : at_ l i = 124) : altL (subOf l d) (deepOf d) l i g out kids = saL l d (i + 1) g out kids := by
  unfold saL
  cases hs : seqL (subOf l d) (deepOf d) l (i + 1) g out [] with
  | bad e => exact altL_bad ⟨h, hb⟩ hs
  | ok r =>
    obtain ⟨⟨j, g', out'⟩, x⟩ := r
    have := seqL_len (subOf_ok l d) _ rfl (by omega) hs
    exact altL_go ⟨h, hb⟩ hs (by omega)
def altO (out : List Pc) : List Int → List Pc × Int
  | [k] => (out, k)
  | kids => (out ++ [pAlt kids], out.length)
theorem altE_O (i g : Nat) (out : List Pc) (kids : List Int) : altE i g out kids = .ok ((i, g, (altO out kids).1), (altO out kids).2) := by
  match kids with
  | [] => rfl
  | [k] => rfl
  | a :: b :: r => rfl
abbrev FF := List Pc → List Int → List Pc × List Int
/-- A part of a sequence. -/
def SqX (d g : Nat) (s : Bytes) (g' : Nat) (F : FF) : Prop := HD s ∧ ∀ (l : Bytes) (i : Nat) (out : List Pc) (kids : List Int), Fit l i s → NC l (i + s.length) →
  seqL (subOf l d) (deepOf d) l i g out kids = seqL (subOf l d) (deepOf d) l (i + s.length) g' (F out kids).1 (F out kids).2
/-- A pattern. -/
def PtX (d g : Nat) (s : Bytes) (g' : Nat) (F : FF) : Prop := ∀ (l : Bytes) (i : Nat) (out : List Pc) (kids : List Int), Fit l i s → EN l (i + s.length) →
  saL l d i g out kids = altE (i + s.length) g' (F out kids).1 (F out kids).2
/-- An atom. -/
def AtX (d g : Nat) (s : Bytes) (g' : Nat) (A : List Pc → List Pc × Int) : Prop := s ≠ [] ∧ ¬ cntC (at_ s 0) ∧ at_ s 0 ≠ 124 ∧ at_ s 0 ≠ 41 ∧ ∀ (l : Bytes) (i : Nat) (out : List Pc), Fit l i s →
  atomP (subOf l d) (deepOf d) l i g out = .ok ((i + s.length, g', (A out).1), (A out).2)
/-- A count. -/
def CnX (s : Bytes) (a b : Int) (z : Bool) : Prop := ∀ (l : Bytes) (i : Nat), Fit l i s → NQ l (i + s.length) → cntP l i = .ok (i + s.length, some (a, b, z))
theorem SqX.nil (d g : Nat) : SqX d g [] g fun out kids => (out, kids) := ⟨.inl rfl, fun l i out kids _ _ => rfl⟩
theorem SqX.app {d g g1 g2 : Nat} {s t : Bytes} {F G : FF} (h : SqX d g s g1 F) (k : SqX d g1 t g2 G) : SqX d g (s ++ t) g2 fun out kids => G (F out kids).1 (F out kids).2 := by
  refine ⟨?_, fun l i out kids hf hn => ?_⟩
  · rcases h.1 with rfl | h1
    · exact k.1
    · by_cases hs : s = []
      · subst hs; exact k.1
      · right; rw [at_app_l (List.length_pos_iff.2 hs)]; exact h1
  · have f := hf.app
    rw [List.length_append, ← Nat.add_assoc] at hn ⊢
    rw [h.2 l i out kids f.1 ?_, k.2 l _ _ _ f.2 hn]
    rcases k.1 with rfl | h2
    · simpa using hn
    · rintro ⟨h3, h4⟩
      by_cases ht : t = []
      · subst ht; exact hn (by simpa using ⟨h3, h4⟩)
      · have := f.2.2 0 (List.length_pos_iff.2 ht)
        rw [Nat.add_zero] at this
        rw [this] at h4; exact h2 h4
theorem SqX.pat {d g g' : Nat} {s : Bytes} {F : FF} (h : SqX d g s g' F) : PtX d g s g' fun out kids => ((F out []).1 ++ [pSeq (F out []).2], kids ++ [((F out []).1.length : Int)]) := by
  intro l i out kids hf he
  unfold saL
  rw [h.2 l i out [] hf he.nc]
  have hle := hf.le
  rw [seqL_out (by rintro ⟨h1, h2, h3⟩; rcases he with he | he; omega; exact h3 he)]
  simp only []
  rw [altL_out (by rintro ⟨h1, h2⟩; rcases he with he | he <;> omega)]
theorem PtX.alt {d g g1 g2 : Nat} {s y : Bytes} {F G : FF} (h : SqX d g s g1 F) (k : PtX d g1 y g2 G) : PtX d g (s ++ 124 :: y) g2 fun out kids => G ((F out []).1 ++ [pSeq (F out []).2]) (kids ++ [((F out []).1.length : Int)]) := by
  intro l i out kids hf he
  have f := hf.app
  have f0 := f.2.at0
  have e0 : at_ l (i + s.length) = 124 := f0.2
  have hnc : NC l (i + s.length) := by rintro ⟨_, h2⟩; unfold cntC at h2; omega
  have hl : i + (s ++ 124 :: y).length = i + s.length + 1 + y.length := by simp; omega
  rw [hl] at he ⊢
  unfold saL
  rw [h.2 l i out [] f.1 hnc]
  rw [seqL_out (by rintro ⟨h1, h2, h3⟩; exact h2 e0)]
  show altL (subOf l d) (deepOf d) l (i + s.length) g1 ((F out []).1 ++ [pSeq (F out []).2]) (kids ++ [((F out []).1.length : Int)]) = _
  rw [altL_sa f0.1 e0]
  exact k l _ _ _ f.2.tail he
theorem PtX.grp {d g g' : Nat} {y : Bytes} {F : FF} (h : PtX d (g + 1) y g' F) (hg : g < 9) : AtX (d + 1) g (40 :: (y ++ [41])) g' fun out => ((altO (F out []).1 (F out []).2).1 ++ [pGrp (g + 1 : Nat) (altO (F out []).1 (F out []).2).2], (altO (F out []).1 (F out []).2).1.length) := by
  refine ⟨by simp, by show ¬ cntC 40; unfold cntC; omega, by show (40 : Nat) ≠ 124; decide, by show (40 : Nat) ≠ 41; decide, fun l i out hf => ?_⟩
  have f0 := hf.at0
  have f1 := hf.tail.app
  have f2 := f1.2.at0
  have e0 : at_ l i = 40 := f0.2
  have e2 : at_ l (i + 1 + y.length) = 41 := f2.2
  have hl : i + (40 :: (y ++ [41])).length = i + 1 + y.length + 1 := by simp; omega
  rw [hl]
  unfold atomP
  rw [if_pos e0, if_neg (by simp [deepOf]; omega)]
  have hp : subOf l (d + 1) (i + 1, g + 1, out) = .ok ((i + 1 + y.length, g', (altO (F out []).1 (F out []).2).1), (altO (F out []).1 (F out []).2).2) := by
    show patP l d (i + 1, g + 1, out) = _
    rw [patP_sa, h l (i + 1) out [] f1.1 (.inr e2), altE_O]
  rw [hp]
  simp only []
  rw [if_neg (by omega), if_pos e2]
theorem pieceP_at {l : Bytes} {d i g g' : Nat} {s : Bytes} {A : List Pc → List Pc × Int} {out : List Pc} (h : AtX d g s g' A) (hf : Fit l i s) : pieceP (subOf l d) (deepOf d) l i g out = cntR l (i + s.length) g' (A out).1 (A out).2 := pieceP_ok (h.2.2.2.2 l i out hf)
theorem cntP_none {l : Bytes} {j : Nat} (h : NC l j) : cntP l j = .ok (j, none) := by
  unfold cntP
  by_cases hj : l.length ≤ j
  · simp [hj]
  · have hc : ¬ cntC (at_ l j) := fun hc => h ⟨by omega, hc⟩
    unfold cntC at hc
    simp only []
    rw [if_neg hj, if_neg (by omega), if_neg (by omega), if_neg (by omega), if_neg (by omega)]
theorem AtX.go {d g g' : Nat} {s : Bytes} {A : List Pc → List Pc × Int} (h : AtX d g s g' A) {l : Bytes} {i : Nat} (hf : Fit l i s) : i < l.length ∧ at_ l i ≠ 124 ∧ at_ l i ≠ 41 := by
  have hp := List.length_pos_iff.2 h.1
  have h0 := hf.2 0 hp
  rw [Nat.add_zero] at h0
  rw [h0]
  exact ⟨by have := hf.1; omega, h.2.2.1, h.2.2.2.1⟩
/-- An atom alone. -/
theorem AtX.one {d g g' : Nat} {s : Bytes} {A : List Pc → List Pc × Int} (h : AtX d g s g' A) : SqX d g s g' fun out kids => ((A out).1, kids ++ [(A out).2]) := by
  refine ⟨.inr h.2.1, fun l i out kids hf hn => ?_⟩
  have hp : pieceP (subOf l d) (deepOf d) l i g out = .ok ((i + s.length, g', (A out).1), (A out).2) := by
    rw [pieceP_at h hf]; unfold cntR; rw [cntP_none hn]
  exact seqL_go (h.go hf) hp (by have := List.length_pos_iff.2 h.1; omega)
/-- An atom with a count. -/
theorem AtX.cnt {d g g' : Nat} {s c : Bytes} {A : List Pc → List Pc × Int} {a b : Int} {z : Bool} (h : AtX d g s g' A) (k : CnX c a b z) : SqX d g (s ++ c) g' fun out kids => ((A out).1 ++ [pRep a b z (A out).2], kids ++ [((A out).1.length : Int)]) := by
  refine ⟨.inr (by rw [at_app_l (List.length_pos_iff.2 h.1)]; exact h.2.1), fun l i out kids hf hn => ?_⟩
  have f := hf.app
  rw [List.length_append, ← Nat.add_assoc] at hn ⊢
  have hp : pieceP (subOf l d) (deepOf d) l i g out = .ok ((i + s.length + c.length, g', (A out).1 ++ [pRep a b z (A out).2]), (A out).1.length) := by
    rw [pieceP_at h f.1]; unfold cntR; rw [k l _ f.2 hn.q]
  exact seqL_go (h.go f.1) hp (by have := List.length_pos_iff.2 h.1; omega)
/-- A text that is a pattern is read. -/
theorem PtX.read {s : Bytes} {g' : Nat} {F : FF} (h : PtX 6 0 s g' F) (hl : s.length ≤ 120) : readP s = ⟨true, 0, g', (altO (F [] []).1 (F [] []).2).1⟩ := by
  unfold readP
  rw [if_neg (by omega), patP_sa, h s 0 [] [] (Fit.self s) (.inl (by omega)), altE_O]
  simp only []
  rw [if_neg (by omega)]
/-! ### Counts -/
theorem digP_no {l : Bytes} {i n : Nat} (h : ¬ (i < l.length ∧ 48 ≤ at_ l i ∧ at_ l i ≤ 57)) : digP l i n = (i, n) := by rw [digP, dif_neg h]
theorem digP_go {l : Bytes} {i n : Nat} (h : i < l.length ∧ 48 ≤ at_ l i ∧ at_ l i ≤ 57) : digP l i n = digP l (i + 1) (Nat.min 1000 (10 * n + (at_ l i - 48))) := by rw [digP, dif_pos h]
/-- A number of one or two digits. -/
def decN (n : Nat) : Bytes := if n < 10 then [UInt8.ofNat (48 + n)] else [UInt8.ofNat (48 + n / 10), UInt8.ofNat (48 + n % 10)]
theorem u8N {n : Nat} (h : n < 256) : (UInt8.ofNat n).toNat = n := by simp; omega
theorem decN_pos (n : Nat) : 0 < (decN n).length := by unfold decN; split <;> simp
theorem numP_dec {l : Bytes} {i n : Nat} (hf : Fit l i (decN n)) (hn : n ≤ 50) (he : i + (decN n).length < l.length ∧ (at_ l (i + (decN n).length) < 48 ∨ 57 < at_ l (i + (decN n).length))) : numP l i = .ok (i + (decN n).length, n) := by
  unfold numP
  unfold decN at hf he ⊢
  by_cases h : n < 10
  · rw [if_pos h] at hf he ⊢
    have f := hf.at0
    rw [u8N (by omega)] at f
    simp only [List.length_cons, List.length_nil, Nat.zero_add] at he ⊢
    have hd : digP l i 0 = (i + 1, n) := by
      rw [digP_go (by omega), digP_no (by omega), f.2]
      congr 1
      show min 1000 (10 * 0 + (48 + n - 48)) = n
      omega
    rw [if_neg (by omega), if_neg (by omega), hd, if_neg (by simp; omega)]
  · rw [if_neg h] at hf he ⊢
    have f := hf.at0
    have f2 := hf.tail.at0
    rw [u8N (by omega)] at f f2
    have hl2 : ([UInt8.ofNat (48 + n / 10), UInt8.ofNat (48 + n % 10)] : Bytes).length = 2 := rfl
    rw [hl2] at he ⊢
    have hd : digP l i 0 = (i + 2, n) := by
      rw [digP_go (by omega), digP_go (by omega), show i + 1 + 1 = i + 2 from rfl, digP_no (by omega), f.2, f2.2]
      congr 1
      show min 1000 (10 * min 1000 (10 * 0 + (48 + n / 10 - 48)) + (48 + n % 10 - 48)) = n
      omega
    rw [if_neg (by omega), if_neg (by omega), hd, if_neg (by simp; omega)]
theorem cntP_q {l : Bytes} {j : Nat} {a b : Int} {z : Bool} {e : Nat} (hz : if z = true then j < l.length ∧ at_ l j = 63 ∧ e = j + 1 else NQ l j ∧ e = j) : (if j < l.length ∧ at_ l j = 63 then Pr.ok (j + 1, some (a, b, true)) else Pr.ok (j, some (a, b, false))) = Pr.ok (e, some (a, b, z)) := by
  cases z with
  | true => rw [if_pos rfl] at hz; rw [if_pos ⟨hz.1, hz.2.1⟩, hz.2.2]
  | false => rw [if_neg (by decide)] at hz; rw [if_neg hz.1, hz.2]
def lzT (z : Bool) : Bytes := if z then [63] else []
theorem lz_fit {l : Bytes} {j : Nat} {z : Bool} (h : Fit l j (lzT z)) (hn : NQ l (j + (lzT z).length)) : if z = true then j < l.length ∧ at_ l j = 63 ∧ j + (lzT z).length = j + 1 else NQ l j ∧ j + (lzT z).length = j := by
  cases z with
  | true => have := h.at0; rw [if_pos rfl]; exact ⟨this.1, this.2, rfl⟩
  | false => rw [if_neg (by decide)]; exact ⟨hn, rfl⟩
theorem cn_star (z : Bool) : CnX (42 :: lzT z) 0 (-1) z := by
  intro l i hf hn
  have f := hf.at0
  have e0 : at_ l i = 42 := f.2
  have hl : i + (42 :: lzT z).length = i + 1 + (lzT z).length := by simp; omega
  rw [hl] at hn ⊢
  unfold cntP
  simp only []
  rw [if_neg (by omega), if_pos e0]
  exact cntP_q (lz_fit hf.tail hn)
theorem cn_plus (z : Bool) : CnX (43 :: lzT z) 1 (-1) z := by
  intro l i hf hn
  have f := hf.at0
  have e0 : at_ l i = 43 := f.2
  have hl : i + (43 :: lzT z).length = i + 1 + (lzT z).length := by simp; omega
  rw [hl] at hn ⊢
  unfold cntP
  simp only []
  rw [if_neg (by omega), if_neg (by omega), if_pos e0]
  exact cntP_q (lz_fit hf.tail hn)
theorem cn_opt (z : Bool) : CnX (63 :: lzT z) 0 1 z := by
  intro l i hf hn
  have f := hf.at0
  have e0 : at_ l i = 63 := f.2
  have hl : i + (63 :: lzT z).length = i + 1 + (lzT z).length := by simp; omega
  rw [hl] at hn ⊢
  unfold cntP
  simp only []
  rw [if_neg (by omega), if_neg (by omega), if_neg (by omega), if_pos e0]
  exact cntP_q (lz_fit hf.tail hn)
theorem cn_bra {s : Bytes} {a b : Int} (h : ∀ (l : Bytes) (i : Nat), Fit l i s → braP l i = .ok (i + s.length, a, b)) (z : Bool) : CnX (123 :: (s ++ lzT z)) a b z := by
  intro l i hf hn
  have f := hf.at0
  have e0 : at_ l i = 123 := f.2
  have hl : i + (123 :: (s ++ lzT z)).length = i + 1 + s.length + (lzT z).length := by simp; omega
  rw [hl] at hn ⊢
  have f1 := hf.tail.app
  unfold cntP
  simp only []
  rw [if_neg (by omega), if_neg (by omega), if_neg (by omega), if_neg (by omega), if_pos e0, h l (i + 1) f1.1]
  exact cntP_q (lz_fit f1.2 hn)
theorem bra_two {m n : Nat} (hm : m ≤ 50) (hn : n ≤ 50) (hmn : m ≤ n) : ∀ (l : Bytes) (i : Nat), Fit l i (decN m ++ 44 :: (decN n ++ [125])) → braP l i = .ok (i + (decN m ++ 44 :: (decN n ++ [125])).length, (m : Int), (n : Int)) := by
  intro l i hf
  have f := hf.app
  have f1 := f.2.at0
  have f2 := f.2.tail.app
  have f3 := f2.2.at0
  have e1 : at_ l (i + (decN m).length) = 44 := f1.2
  have e3 : at_ l (i + (decN m).length + 1 + (decN n).length) = 125 := f3.2
  have hl : i + (decN m ++ 44 :: (decN n ++ [125])).length = i + (decN m).length + 1 + (decN n).length + 1 := by simp; omega
  rw [hl]
  unfold braP
  rw [numP_dec f.1 hm ⟨f1.1, by omega⟩]
  simp only []
  have hd : at_ l (i + (decN m).length + 1) ≠ 125 := by
    have hp := decN_pos n
    have h0 := f2.1.2 0 hp
    rw [Nat.add_zero] at h0
    rw [h0]
    unfold decN at hp ⊢
    split
    · show (UInt8.ofNat (48 + n)).toNat ≠ 125; rw [u8N (by omega)]; omega
    · show (UInt8.ofNat (48 + n / 10)).toNat ≠ 125; rw [u8N (by omega)]; omega
  rw [if_neg (by omega), if_pos e1, if_neg (by omega), if_neg hd, numP_dec f2.1 hn ⟨f3.1, by omega⟩]
  simp only []
  rw [if_neg (by omega), if_neg (by omega), if_pos e3]
theorem bra_one {m : Nat} (hm : m ≤ 50) : ∀ (l : Bytes) (i : Nat), Fit l i (decN m ++ [125]) → braP l i = .ok (i + (decN m ++ [125]).length, (m : Int), (m : Int)) := by
  intro l i hf
  have f := hf.app
  have f1 := f.2.at0
  have e1 : at_ l (i + (decN m).length) = 125 := f1.2
  have hl : i + (decN m ++ [125]).length = i + (decN m).length + 1 := by simp; omega
  rw [hl]
  unfold braP
  rw [numP_dec f.1 hm ⟨f1.1, by omega⟩]
  simp only []
  rw [if_neg (by omega), if_neg (by omega), if_pos e1]
theorem bra_from {m : Nat} (hm : m ≤ 50) : ∀ (l : Bytes) (i : Nat), Fit l i (decN m ++ [44, 125]) → braP l i = .ok (i + (decN m ++ [44, 125]).length, (m : Int), -1) := by
  intro l i hf
  have f := hf.app
  have f1 := f.2.at0
  have f2 := f.2.tail.at0
  have e1 : at_ l (i + (decN m).length) = 44 := f1.2
  have e2 : at_ l (i + (decN m).length + 1) = 125 := f2.2
  have hl : i + (decN m ++ [44, 125]).length = i + (decN m).length + 2 := by simp; omega
  rw [hl]
  unfold braP
  rw [numP_dec f.1 hm ⟨f1.1, by omega⟩]
  simp only []
  rw [if_neg (by omega), if_pos e1, if_neg (by omega), if_pos e2]
/-! ### Atoms -/
theorem at_set1 (d g : Nat) {c : UInt8} (h : c.toNat ≠ 40 ∧ c.toNat ≠ 91 ∧ c.toNat ≠ 46 ∧ c.toNat ≠ 94 ∧ c.toNat ≠ 36 ∧ c.toNat ≠ 92 ∧ c.toNat ≠ 41 ∧ c.toNat ≠ 93 ∧ c.toNat ≠ 123 ∧ c.toNat ≠ 125 ∧ c.toNat ≠ 42 ∧ c.toNat ≠ 43 ∧ c.toNat ≠ 63 ∧ c.toNat ≠ 124) :
    AtX d g [c] g fun out => (out ++ [pSet [((c.toNat : Int), (c.toNat : Int))]], out.length) := by
  have h0 : at_ [c] 0 = c.toNat := rfl
  refine ⟨by simp, by rw [h0]; unfold cntC; omega, by omega, by omega, fun l i out hf => ?_⟩
  have f := hf.at0
  unfold atomP
  rw [if_neg (by omega), if_neg (by omega), if_neg (by omega), if_neg (by omega), if_neg (by omega), if_neg (by omega), if_neg (by omega), f.2]
  rfl
theorem at_esc (d g : Nat) {s : Bytes} {r : Rs} {o : Option Nat} (h : ∀ (l : Bytes) (i : Nat), Fit l i s → escP l i = .ok (i + s.length, r, o)) : AtX d g (92 :: s) g fun out => (out ++ [pSet (runs (inR r))], out.length) := by
  refine ⟨by simp, by show ¬ cntC 92; unfold cntC; omega, by show (92 : Nat) ≠ 124; decide, by show (92 : Nat) ≠ 41; decide, fun l i out hf => ?_⟩
  have f := hf.at0
  have e0 : at_ l i = 92 := f.2
  unfold atomP
  rw [if_neg (by omega), if_neg (by omega), if_neg (by omega), if_neg (by omega), if_neg (by omega), if_pos e0, h l (i + 1) hf.tail]
  show Pr.ok ((i + 1 + s.length, g, out ++ [pSet (runs (inR r))]), (out.length : Int)) = _
  rw [show i + (92 :: s).length = i + 1 + s.length from by simp; omega]
theorem esc_one {c : UInt8} {r : Rs} {o : Option Nat} (h : escC c.toNat = some (r, o)) (hx : c.toNat ≠ 120) : ∀ (l : Bytes) (i : Nat), Fit l i [c] → escP l i = .ok (i + [c].length, r, o) := by
  intro l i hf
  have f := hf.at0
  unfold escP
  rw [if_neg (by omega), f.2, if_neg hx, h]
  rfl
theorem esc_hex {a b : UInt8} {x y : Nat} (ha : hexv a.toNat = some x) (hb : hexv b.toNat = some y) : ∀ (l : Bytes) (i : Nat), Fit l i [120, a, b] → escP l i = .ok (i + [120, a, b].length, [(16 * x + y, 16 * x + y)], some (16 * x + y)) := by
  intro l i hf
  have f := hf.at0
  have f1 := hf.tail.at0
  have f2 := hf.tail.tail.at0
  have e0 : at_ l i = 120 := f.2
  unfold escP
  rw [if_neg (by omega), if_pos e0]
  unfold escX
  rw [if_neg (by omega), f1.2, ha]
  simp only []
  rw [if_neg (by omega), f2.2, hb]
  rfl
theorem at_dot (d g : Nat) : AtX d g [46] g fun out => (out ++ [pSet (runs (inR [(0, 9), (11, 255)]))], out.length) := by
  refine ⟨by simp, by show ¬ cntC 46; unfold cntC; omega, by show (46 : Nat) ≠ 124; decide, by show (46 : Nat) ≠ 41; decide, fun l i out hf => ?_⟩
  have f := hf.at0
  have e0 : at_ l i = 46 := f.2
  unfold atomP
  rw [if_neg (by omega), if_neg (by omega), if_pos e0]
  rfl
theorem at_sta (d g : Nat) : AtX d g [94] g fun out => (out ++ [pSta], out.length) := by
  refine ⟨by simp, by show ¬ cntC 94; unfold cntC; omega, by show (94 : Nat) ≠ 124; decide, by show (94 : Nat) ≠ 41; decide, fun l i out hf => ?_⟩
  have f := hf.at0
  have e0 : at_ l i = 94 := f.2
  unfold atomP
  rw [if_neg (by omega), if_neg (by omega), if_neg (by omega), if_pos e0]
  rfl
theorem at_end (d g : Nat) : AtX d g [36] g fun out => (out ++ [pEnd], out.length) := by
  refine ⟨by simp, by show ¬ cntC 36; unfold cntC; omega, by show (36 : Nat) ≠ 124; decide, by show (36 : Nat) ≠ 41; decide, fun l i out hf => ?_⟩
  have f := hf.at0
  have e0 : at_ l i = 36 := f.2
  unfold atomP
  rw [if_neg (by omega), if_neg (by omega), if_neg (by omega), if_neg (by omega), if_pos e0]
  rfl
theorem at_cls (d g : Nat) {s : Bytes} {rs : List (Int × Int)} (h : ∀ (l : Bytes) (i : Nat), Fit l i (91 :: s) → setP l i = .ok (i + (91 :: s).length, rs)) : AtX d g (91 :: s) g fun out => (out ++ [pSet rs], out.length) := by
  refine ⟨by simp, by show ¬ cntC 91; unfold cntC; omega, by show (91 : Nat) ≠ 124; decide, by show (91 : Nat) ≠ 41; decide, fun l i out hf => ?_⟩
  have f := hf.at0
  have e0 : at_ l i = 91 := f.2
  unfold atomP
  rw [if_neg (by omega), if_pos e0, h l i hf]
end Go.Vc
/- What Escape writes of a byte and of a text: plain lists, no program in sight. No statement of the seat is proved here. -/
namespace Go.Vc
set_option linter.unusedVariables false
set_option linter.unusedSimpArgs false
def hexd (n : Nat) : UInt8 := if n < 10 then UInt8.ofNat (48 + n) else UInt8.ofNat (87 + n)
def plainB (n : Nat) : Bool := (48 ≤ n && n ≤ 57) || (97 ≤ n && n ≤ 122) || (65 ≤ n && n ≤ 90) || n == 95 || n == 44 || n == 58 || n == 61
def escB (n : Nat) : Bytes := if n < 33 ∨ 126 < n then [92, 120, hexd (n / 16), hexd (n % 16)] else if plainB n then [UInt8.ofNat n] else [92, UInt8.ofNat n]
def escL (l : Bytes) : Bytes := l.flatMap fun c => escB c.toNat
theorem escB_hex {n : Nat} (h : n < 33 ∨ 126 < n) : escB n = [92, 120, hexd (n / 16), hexd (n % 16)] := if_pos h
theorem escB_id {n : Nat} (h : ¬ (n < 33 ∨ 126 < n)) (h' : (48 ≤ n ∧ n ≤ 57) ∨ (97 ≤ n ∧ n ≤ 122) ∨ (65 ≤ n ∧ n ≤ 90) ∨ n = 95 ∨ n = 44 ∨ n = 58 ∨ n = 61) : escB n = [UInt8.ofNat n] := by
  unfold escB
  rw [if_neg h, if_pos]
  unfold plainB
  simp only [Bool.or_eq_true, Bool.and_eq_true, decide_eq_true_eq, beq_iff_eq]
  omega
theorem escB_bs {n : Nat} (h : ¬ (n < 33 ∨ 126 < n)) (h' : ¬ ((48 ≤ n ∧ n ≤ 57) ∨ (97 ≤ n ∧ n ≤ 122) ∨ (65 ≤ n ∧ n ≤ 90) ∨ n = 95 ∨ n = 44 ∨ n = 58 ∨ n = 61)) : escB n = [92, UInt8.ofNat n] := by
  unfold escB
  rw [if_neg h, if_neg]
  unfold plainB
  simp only [Bool.or_eq_true, Bool.and_eq_true, decide_eq_true_eq, beq_iff_eq]
  omega
theorem escB_len (n : Nat) : 1 ≤ (escB n).length ∧ (escB n).length ≤ 4 := by
  unfold escB
  split
  · simp
  · split <;> simp
def hexS : ByteArray := ⟨#[48, 49, 50, 51, 52, 53, 54, 55, 56, 57, 97, 98, 99, 100, 101, 102]⟩
theorem hex_at (k : Nat) (h : k < 16) : byteAt hexS k = ((hexd k).toNat : Int) := by
  have : ∀ k : Fin 16, byteAt hexS k.val = ((hexd k.val).toNat : Int) := by decide +kernel
  exact this ⟨k, h⟩
theorem hex_sub (k : Nat) (h : k < 16) : hexS.extract k (k + 1) = B [hexd k] := by
  apply L_inj
  have : ∀ k : Fin 16, ((L hexS).drop k.val).take (k.val + 1 - k.val) = [hexd k.val] := by decide +kernel
  rw [L_extract, this ⟨k, h⟩, L_B]
theorem and15 (n : Int) (h : 0 ≤ n ∧ n ≤ 255) : IntKind.wrap .i64 (((BitVec.ofInt 64 n &&& BitVec.ofInt 64 15).toNat : Int)) = n % 16 := by
  have : ∀ k : Fin 256, IntKind.wrap .i64 (((BitVec.ofInt 64 (k.val : Int) &&& BitVec.ofInt 64 15).toNat : Int)) = (k.val : Int) % 16 := by decide +kernel
  have := this ⟨n.toNat, by omega⟩
  simpa [Int.toNat_of_nonneg h.1] using this
theorem shr4 (n : Int) (h : 0 ≤ n ∧ n ≤ 255) : Int.fdiv n (2 ^ (min (Int.toNat 4) 64)) = n / 16 := by
  have e : (2 : Int) ^ (min (Int.toNat 4) 64) = 16 := by decide
  rw [e, Int.fdiv_eq_ediv_of_nonneg _ (by decide)]
end Go.Vc
/- What a pattern matches: plain lists, no program in sight. No statement of the seat is proved here. -/
namespace Go.Vc
set_option linter.unusedVariables false
set_option linter.unusedSimpArgs false
/-- What a way did with the groups. -/
abbrev Gr := Nat → Option (Nat × Nat)
def gNone : Gr := fun _ => none
def gOver (a b : Gr) : Gr := fun k => (b k).or (a k)
def gSet (a : Gr) (k : Nat) (p : Nat × Nat) : Gr := fun j => if j = k then some p else a j
theorem gOver_none (a : Gr) : gOver a gNone = a := by funext k; simp [gOver, gNone]
theorem none_gOver (a : Gr) : gOver gNone a = a := by funext k; simp [gOver, gNone]
theorem gOver_assoc (a b c : Gr) : gOver a (gOver b c) = gOver (gOver a b) c := by funext k; simp [gOver, Option.or_assoc]
/-- Where a way ends, and what it did. -/
abbrev Wy := Nat × Gr
def has (l : List Wy) (p : Nat) : Bool := l.any fun x => x.1 == p
/-- Of each end the first. -/
def addW (l : List Wy) (w : Wy) : List Wy := if has l w.1 then l else l ++ [w]
def addA (l xs : List Wy) : List Wy := xs.foldl addW l
theorem has_append (l m : List Wy) (p : Nat) : has (l ++ m) p = (has l p || has m p) := by simp [has]
theorem has_addW (l : List Wy) (w : Wy) (p : Nat) : has (addW l w) p = (has l p || w.1 == p) := by
  unfold addW
  split
  · rename_i h
    by_cases hp : w.1 = p
    · subst hp; simp [h]
    · simp [hp]
  · rw [has_append]; simp [has]
theorem has_addA (xs : List Wy) : ∀ (l : List Wy) (p : Nat), has (addA l xs) p = (has l p || has xs p) := by
  induction xs with
  | nil => intro l p; simp [addA, has]
  | cons x r ih =>
    intro l p
    rw [show addA l (x :: r) = addA (addW l x) r from rfl, ih, has_addW]
    simp [has, Bool.or_assoc]
theorem addA_nil (l : List Wy) : addA l [] = l := rfl
theorem addA_cons (l : List Wy) (x : Wy) (xs : List Wy) : addA l (x :: xs) = addA (addW l x) xs := rfl
theorem addA_append (l xs ys : List Wy) : addA l (xs ++ ys) = addA (addA l xs) ys := by simp [addA]
theorem addW_has {l : List Wy} {w : Wy} (h : has l w.1 = true) : addW l w = l := by simp [addW, h]
theorem addA_has : ∀ {xs l : List Wy}, (∀ x ∈ xs, has l x.1 = true) → addA l xs = l
  | [], l, _ => rfl
  | x :: r, l, h => by
    rw [addA_cons, addW_has (h x (List.mem_cons_self ..))]
    exact addA_has fun y hy => h y (List.mem_cons_of_mem _ hy)
theorem has_map {f : Wy → Wy} (hf : ∀ x, (f x).1 = x.1) (l : List Wy) (p : Nat) : has (l.map f) p = has l p := by
  simp only [has, List.any_map]
  congr 1
  funext x
  simp [hf]
theorem addA_map {f : Wy → Wy} (hf : ∀ x, (f x).1 = x.1) : ∀ (xs l m : List Wy), addA l ((addA m xs).map f) = addA (addA l (m.map f)) (xs.map f)
  | [], l, m => rfl
  | x :: r, l, m => by
    rw [addA_cons, addA_map hf r l (addW m x), List.map_cons, addA_cons]
    congr 1
    by_cases h : has m x.1 = true
    · rw [addW_has h, addW_has]
      rw [has_addA, has_map hf, hf, h, Bool.or_true]
    · rw [show addW m x = m ++ [x] from by simp [addW, h], List.map_append, addA_append]; rfl
/-- What was gathered once is gathered again. -/
theorem addA_dd {f : Wy → Wy} (hf : ∀ x, (f x).1 = x.1) (l xs : List Wy) : addA l ((addA [] xs).map f) = addA l (xs.map f) := addA_map hf xs l []
theorem addA_dd' (l xs : List Wy) : addA l (addA [] xs) = addA l xs := by
  have := addA_dd (f := id) (fun _ => rfl) l xs
  simpa using this
theorem mem_addW {l : List Wy} {w x : Wy} (h : x ∈ addW l w) : x ∈ l ∨ x = w := by
  unfold addW at h
  split at h
  · exact .inl h
  · simpa using h
theorem mem_addA : ∀ {xs l : List Wy} {x : Wy}, x ∈ addA l xs → x ∈ l ∨ x ∈ xs
  | [], l, x, h => .inl h
  | y :: r, l, x, h => by
    rcases mem_addA (xs := r) (l := addW l y) h with h | h
    · rcases mem_addW h with h | rfl
      · exact .inl h
      · exact .inr (List.mem_cons_self ..)
    · exact .inr (List.mem_cons_of_mem _ h)
/-- No two ways end at one place. -/
def DD (l : List Wy) : Prop := (l.map (·.1)).Nodup
theorem has_iff {l : List Wy} {p : Nat} : has l p = true ↔ ∃ x ∈ l, x.1 = p := by simp [has]
theorem DD.addW {l : List Wy} (h : DD l) (w : Wy) : DD (addW l w) := by
  unfold Vc.addW
  split
  · exact h
  · rename_i hn
    unfold DD at *
    rw [List.map_append, List.nodup_append]
    refine ⟨h, by simp, ?_⟩
    intro a ha b hb hab
    simp only [List.map_cons, List.map_nil, List.mem_singleton] at hb
    subst hb hab
    simp only [List.mem_map] at ha
    obtain ⟨x, hx, he⟩ := ha
    exact hn (has_iff.2 ⟨x, hx, he⟩)
theorem DD.addA : ∀ {xs l : List Wy}, DD l → DD (addA l xs)
  | [], _, h => h
  | x :: r, l, h => DD.addA (xs := r) (h.addW x)
theorem addA_DD : ∀ {xs l : List Wy}, DD (l ++ xs) → Vc.addA l xs = l ++ xs
  | [], l, _ => by simp [Vc.addA]
  | x :: r, l, h => by
    have hn : has l x.1 = false := by
      cases hh : has l x.1 with
      | false => rfl
      | true =>
        obtain ⟨y, hy, he⟩ := has_iff.1 hh
        unfold DD at h
        rw [List.map_append, List.nodup_append] at h
        exact absurd he.symm (fun e => h.2.2 y.1 (List.mem_map_of_mem hy) x.1 (by simp) e.symm)
    rw [addA_cons, show Vc.addW l x = l ++ [x] from by simp [Vc.addW, hn], addA_DD (by simpa using h)]
    simp
/-- Ways one behind the other. -/
def thenP (cur : List Wy) (next : Nat → List Wy) : List Wy := addA [] (cur.flatMap fun a => (next a.1).map fun b => (b.1, gOver a.2 b.2))
def inSet (s : List (Int × Int)) (c : Nat) : Bool := s.any fun r => decide (r.1 ≤ (c : Int)) && decide ((c : Int) ≤ r.2)
/-- A repetition goes on from a place. -/
def moreP (sub : Nat → List Wy) (n : Nat) (lazy : Bool) (left : Option Nat) (i : Nat) : List Wy :=
  addA [] ((if lazy then [(i, gNone)] else []) ++ (if left = some 0 then [] else (sub i).flatMap fun a => if h : i < a.1 ∧ a.1 ≤ n then (moreP sub n lazy (left.map (· - 1)) a.1).map fun b => (b.1, gOver a.2 b.2) else []) ++ [(i, gNone)])
  termination_by n - i
  decreasing_by omega
def leftP (x : Pc) : Option Nat := if x.max < 0 then none else some (x.max - x.min).toNat
def repP (sub : Nat → List Wy) : Nat → List Wy → List Wy
  | 0, cur => cur
  | k + 1, cur => repP sub k (thenP cur sub)
def workP (sub : Nat → Nat → List Wy) (t : Bytes) (x : Pc) (i : Nat) : List Wy :=
  if x.kind = 1 then (if i < t.length ∧ inSet x.set (at_ t i) = true then [(i + 1, gNone)] else [])
  else if x.kind = 2 then x.kids.foldl (fun cur k => thenP cur (sub k.toNat)) [(i, gNone)]
  else if x.kind = 3 then addA [] (x.kids.flatMap fun k => sub k.toNat i)
  else if x.kind = 4 then thenP (repP (sub (x.kids.getD 0 0).toNat) x.min.toNat [(i, gNone)]) (moreP (sub (x.kids.getD 0 0).toNat) t.length x.lazy (leftP x))
  else if x.kind = 5 then addA [] ((sub (x.kids.getD 0 0).toNat i).map fun w => (w.1, gSet w.2 x.num.toNat (i, w.1)))
  else if x.kind = 6 then (if i = 0 then [(i, gNone)] else [])
  else if x.kind = 7 then (if i = t.length then [(i, gNone)] else [])
  else []
/-- Where the piece can end that begins at a place, the first way first. -/
def endsP (ps : List Pc) (t : Bytes) (k : Nat) (i : Nat) : List Wy :=
  workP (fun k' p => if h : k' < k then endsP ps t k' p else []) t (ps.getD k pSta) i
  termination_by k
end Go.Vc
/- Bounds on the ways of a pattern. No statement of the seat is proved here. -/
namespace Go.Vc
set_option linter.unusedVariables false
set_option linter.unusedSimpArgs false
/-- A way from i ends in the text, and so do its groups, which have numbers up to G. -/
structure WOk (G n i : Nat) (w : Wy) : Prop where
  lo : i ≤ w.1
  hi : w.1 ≤ n
  gr : ∀ k f e, w.2 k = some (f, e) → 1 ≤ k ∧ k ≤ G ∧ i ≤ f ∧ f ≤ e ∧ e ≤ w.1
theorem WOk.one {G n i j : Nat} (h : i ≤ j) (hn : j ≤ n) : WOk G n i (j, gNone) := ⟨h, hn, by intro k f e h; simp [gNone] at h⟩
theorem WOk.over {G n i : Nat} {a b : Wy} (ha : WOk G n i a) (hb : WOk G n a.1 b) : WOk G n i (b.1, gOver a.2 b.2) := by
  refine ⟨Nat.le_trans ha.lo hb.lo, hb.hi, fun k f e h => ?_⟩
  simp only [gOver, Option.or_eq_some_iff] at h
  have h1 := ha.lo
  have h2 := hb.lo
  rcases h with h | ⟨_, h⟩
  · have := hb.gr k f e h; show _ ∧ _ ∧ _ ∧ _ ∧ e ≤ b.1; omega
  · have := ha.gr k f e h; show _ ∧ _ ∧ _ ∧ _ ∧ e ≤ b.1; omega
theorem thenP_ok {G n i : Nat} {cur : List Wy} {next : Nat → List Wy} (hc : ∀ w ∈ cur, WOk G n i w) (hn : ∀ p, p ≤ n → ∀ w ∈ next p, WOk G n p w) : ∀ w ∈ thenP cur next, WOk G n i w := by
  intro w hw
  unfold thenP at hw
  rcases mem_addA hw with hw | hw
  · cases hw
  simp only [List.mem_flatMap, List.mem_map] at hw
  obtain ⟨a, ha, b, hb, rfl⟩ := hw
  exact (hc a ha).over (hn _ (hc a ha).hi b hb)
theorem repP_ok {G n i : Nat} {sub : Nat → List Wy} (hn : ∀ p, p ≤ n → ∀ w ∈ sub p, WOk G n p w) : ∀ (k : Nat) {cur : List Wy}, (∀ w ∈ cur, WOk G n i w) → ∀ w ∈ repP sub k cur, WOk G n i w
  | 0, _, h => h
  | k + 1, _, h => repP_ok hn k (thenP_ok h hn)
theorem moreP_ok {G n : Nat} {sub : Nat → List Wy} {lazy : Bool} (hn : ∀ p, p ≤ n → ∀ w ∈ sub p, WOk G n p w) : ∀ (m i : Nat) (left : Option Nat), m = n - i → i ≤ n → ∀ w ∈ moreP sub n lazy left i, WOk G n i w := by
  intro m
  induction m using Nat.strongRecOn with
  | _ m ih =>
    intro i left hm hi w hw
    rw [moreP] at hw
    rcases mem_addA hw with hw | hw
    · cases hw
    simp only [List.mem_append, List.mem_singleton] at hw
    rcases hw with (hw | hw) | rfl
    · split at hw
      · simp only [List.mem_singleton] at hw; subst hw; exact .one (Nat.le_refl _) hi
      · cases hw
    · split at hw
      · cases hw
      · simp only [List.mem_flatMap] at hw
        obtain ⟨a, ha, hw⟩ := hw
        split at hw
        · rename_i h
          simp only [List.mem_map] at hw
          obtain ⟨b, hb, rfl⟩ := hw
          exact (hn i hi a ha).over (ih (n - a.1) (by omega) a.1 _ rfl h.2 b hb)
        · cases hw
    · exact .one (Nat.le_refl _) hi
theorem workP_ok {G : Nat} {t : Bytes} {sub : Nat → Nat → List Wy} {x : Pc} {i : Nat} (hx : x.kind = 5 → 1 ≤ x.num.toNat ∧ x.num.toNat ≤ G) (hn : ∀ k p, p ≤ t.length → ∀ w ∈ sub k p, WOk G t.length p w) (hi : i ≤ t.length) :
    ∀ w ∈ workP sub t x i, WOk G t.length i w := by
  intro w hw
  unfold workP at hw
  split at hw
  · split at hw
    · simp only [List.mem_singleton] at hw; subst hw; exact .one (by omega) (by omega)
    · cases hw
  split at hw
  · have key : ∀ (ks : List Int) (cur : List Wy), (∀ w ∈ cur, WOk G t.length i w) → ∀ w ∈ ks.foldl (fun cur k => thenP cur (sub k.toNat)) cur, WOk G t.length i w := by
      intro ks
      induction ks with
      | nil => intro cur h; exact h
      | cons k r ih => intro cur h; exact ih _ (thenP_ok h (hn _))
    refine key _ _ ?_ w hw
    intro w hw
    simp only [List.mem_singleton] at hw; subst hw; exact .one (Nat.le_refl _) hi
  split at hw
  · rcases mem_addA hw with hw | hw
    · cases hw
    simp only [List.mem_flatMap] at hw
    obtain ⟨k, _, hw⟩ := hw
    exact hn _ _ hi w hw
  split at hw
  · refine thenP_ok (repP_ok (hn _) _ ?_) (fun p hp => moreP_ok (hn _) _ p _ rfl hp) w hw
    intro w hw
    simp only [List.mem_singleton] at hw; subst hw; exact .one (Nat.le_refl _) hi
  split at hw
  · rename_i h5
    rcases mem_addA hw with hw | hw
    · cases hw
    simp only [List.mem_map] at hw
    obtain ⟨a, ha, rfl⟩ := hw
    have h := hn _ _ hi a ha
    refine ⟨h.lo, h.hi, fun k f e he => ?_⟩
    simp only [gSet] at he
    split at he
    · rename_i hk
      subst hk
      simp only [Option.some.injEq, Prod.mk.injEq] at he
      obtain ⟨rfl, rfl⟩ := he
      have := hx h5
      exact ⟨this.1, this.2, Nat.le_refl _, h.lo, Nat.le_refl _⟩
    · exact h.gr k f e he
  split at hw
  · split at hw
    · simp only [List.mem_singleton] at hw; subst hw; exact .one (by omega) hi
    · cases hw
  split at hw
  · split at hw
    · simp only [List.mem_singleton] at hw; subst hw; exact .one (by omega) hi
    · cases hw
  · cases hw
theorem endsP_ok {G : Nat} {ps : List Pc} {t : Bytes} (hp : ∀ x ∈ ps, x.kind = 5 → 1 ≤ x.num.toNat ∧ x.num.toNat ≤ G) : ∀ (k i : Nat), i ≤ t.length → ∀ w ∈ endsP ps t k i, WOk G t.length i w := by
  intro k
  induction k using Nat.strongRecOn with
  | _ k ih =>
    intro i hi
    rw [endsP]
    refine workP_ok ?_ ?_ hi
    · rw [List.getD_eq_getElem?_getD]
      cases hk : ps[k]? with
      | none => simp [pSta]
      | some x => exact hp x (List.mem_of_getElem? hk)
    · intro k' p hpl w hw
      split at hw
      · exact ih k' (by assumption) p hpl w hw
      · cases hw
/-! ### No place twice -/
theorem DD.nil : DD [] := by simp [DD]
theorem DD.one (w : Wy) : DD [w] := by simp [DD]
theorem thenP_dd (cur : List Wy) (next : Nat → List Wy) : DD (thenP cur next) := DD.addA .nil
theorem moreP_dd (sub : Nat → List Wy) (n : Nat) (lazy : Bool) (left : Option Nat) (i : Nat) : DD (moreP sub n lazy left i) := by rw [moreP]; exact DD.addA .nil
theorem workP_dd (sub : Nat → Nat → List Wy) (t : Bytes) (x : Pc) (i : Nat) : DD (workP sub t x i) := by
  unfold workP
  split
  · split <;> simp [DD]
  split
  · have key : ∀ (ks : List Int) (cur : List Wy), DD cur → DD (ks.foldl (fun cur k => thenP cur (sub k.toNat)) cur) := by
      intro ks
      induction ks with
      | nil => intro cur h; exact h
      | cons k r ih => intro cur h; exact ih _ (thenP_dd _ _)
    exact key _ _ (.one _)
  split
  · exact DD.addA .nil
  split
  · exact thenP_dd _ _
  split
  · exact DD.addA .nil
  split
  · split <;> simp [DD]
  split
  · split <;> simp [DD]
  · exact .nil
theorem endsP_dd (ps : List Pc) (t : Bytes) (k i : Nat) : DD (endsP ps t k i) := by rw [endsP]; exact workP_dd _ _ _ _
end Go.Vc
/- The pieces that are read stand in order. No statement of the seat is proved here. -/
namespace Go.Vc
set_option linter.unusedVariables false
set_option linter.unusedSimpArgs false
structure PcOk (G : Nat) (k : Nat) (x : Pc) : Prop where
  kids : ∀ c ∈ x.kids, 0 ≤ c ∧ c < (k : Int)
  kind : 1 ≤ x.kind ∧ x.kind ≤ 7
  one : x.kind = 4 ∨ x.kind = 5 → ∃ c, x.kids = [c]
  num : x.kind = 5 → 1 ≤ x.num ∧ x.num ≤ (G : Int)
  rep : x.kind = 4 → 0 ≤ x.min ∧ x.min ≤ 50 ∧ (x.max = -1 ∨ x.min ≤ x.max ∧ x.max ≤ 50)
def Wf (G : Nat) (ps : List Pc) : Prop := ∀ k x, ps[k]? = some x → PcOk G k x
theorem PcOk.mono {G G' k : Nat} {x : Pc} (h : PcOk G k x) (hg : G ≤ G') : PcOk G' k x := ⟨h.kids, h.kind, h.one, fun h5 => by have := h.num h5; omega, h.rep⟩
theorem Wf.nil (G : Nat) : Wf G [] := by intro k x h; simp at h
theorem Wf.mono {G G' : Nat} {ps : List Pc} (h : Wf G ps) (hg : G ≤ G') : Wf G' ps := fun k x hx => (h k x hx).mono hg
theorem Wf.app {G : Nat} {ps : List Pc} (h : Wf G ps) {x : Pc} (hx : PcOk G ps.length x) : Wf G (ps ++ [x]) := by
  intro k y hy
  rw [List.getElem?_append] at hy
  split at hy
  · exact h k y hy
  · rename_i hk
    have : k - ps.length = 0 := by
      cases hd : k - ps.length with
      | zero => rfl
      | succ n => rw [hd] at hy; simp at hy
    rw [this] at hy
    simp only [List.getElem?_cons_zero, Option.some.injEq] at hy
    subst hy
    obtain rfl : k = ps.length := by omega
    exact hx
theorem ok_bare (G k : Nat) (n : Int) (hn : n = 1 ∨ n = 6 ∨ n = 7) (s : List (Int × Int)) : PcOk G k ⟨n, s, 0, 0, false, 0, []⟩ :=
  ⟨(by intro c h; cases h), (by show 1 ≤ n ∧ n ≤ 7; omega), (by intro h; replace h : n = 4 ∨ n = 5 := h; omega), (by intro h; replace h : n = 5 := h; omega), (by intro h; replace h : n = 4 := h; omega)⟩
theorem ok_kids (G k : Nat) (n : Int) (hn : n = 2 ∨ n = 3) {ks : List Int} (h : ∀ c ∈ ks, 0 ≤ c ∧ c < (k : Int)) : PcOk G k ⟨n, [], 0, 0, false, 0, ks⟩ :=
  ⟨h, (by show 1 ≤ n ∧ n ≤ 7; omega), (by intro h; replace h : n = 4 ∨ n = 5 := h; omega), (by intro h; replace h : n = 5 := h; omega), (by intro h; replace h : n = 4 := h; omega)⟩
def SubWf (sub : St → Pr (St × Int)) : Prop := ∀ i g out j g' out' k, Wf g out → sub (i, g, out) = .ok ((j, g', out'), k) → g ≤ g' ∧ out.length ≤ out'.length ∧ Wf g' out' ∧ 0 ≤ k ∧ k < (out'.length : Int)
theorem len_app (ps : List Pc) (x : Pc) : (ps ++ [x]).length = ps.length + 1 := by simp
theorem atomP_wf {l : Bytes} {sub : St → Pr (St × Int)} (hsub : SubWf sub) {deep : Bool} {i g j g' : Nat} {out out' : List Pc} {k : Int} (hw : Wf g out) (h : atomP sub deep l i g out = .ok ((j, g', out'), k)) :
    g ≤ g' ∧ out.length ≤ out'.length ∧ Wf g' out' ∧ 0 ≤ k ∧ k < (out'.length : Int) := by
  unfold atomP at h
  have fin : ∀ x : Pc, PcOk g out.length x → g ≤ g ∧ out.length ≤ (out ++ [x]).length ∧ Wf g (out ++ [x]) ∧ (0 : Int) ≤ out.length ∧ (out.length : Int) < (out ++ [x]).length := by
    intro x hx
    rw [len_app]
    exact ⟨Nat.le_refl _, by omega, hw.app hx, by omega, by omega⟩
  split at h
  · split at h
    · cases h
    split at h
    · cases h
    · rename_i hs
      have h1 := hsub _ _ _ _ _ _ _ (hw.mono (Nat.le_succ g)) hs
      split at h
      · cases h
      split at h
      · cases h
        rw [len_app]
        refine ⟨by omega, by omega, h1.2.2.1.app ⟨?_, ⟨(by show (1 : Int) ≤ 5; decide), (by show (5 : Int) ≤ 7; decide)⟩, fun _ => ⟨_, rfl⟩, fun _ => ?_, fun h => by cases h⟩, by omega, by omega⟩
        · intro c hc
          simp only [pGrp, List.mem_singleton] at hc
          subst hc; exact h1.2.2.2
        · show (1 : Int) ≤ ((g + 1 : Nat) : Int) ∧ ((g + 1 : Nat) : Int) ≤ _
          omega
      · cases h
  split at h
  · split at h
    · cases h
    · cases h; exact fin _ (ok_bare _ _ 1 (.inl rfl) _)
  split at h
  · cases h; exact fin _ (ok_bare _ _ 1 (.inl rfl) _)
  split at h
  · cases h; exact fin _ (ok_bare _ _ 6 (.inr (.inl rfl)) _)
  split at h
  · cases h; exact fin _ (ok_bare _ _ 7 (.inr (.inr rfl)) _)
  split at h
  · split at h
    · cases h
    · cases h; exact fin _ (ok_bare _ _ 1 (.inl rfl) _)
  split at h
  · cases h
  · cases h; exact fin _ (ok_bare _ _ 1 (.inl rfl) _)
theorem numP_pos {l : Bytes} {i j n : Nat} (h : numP l i = .ok (j, n)) : n ≤ 50 := (numP_gt h).2
theorem braP_rep {l : Bytes} {i j : Nat} {a b : Int} (h : braP l i = .ok (j, a, b)) : 0 ≤ a ∧ a ≤ 50 ∧ (b = -1 ∨ a ≤ b ∧ b ≤ 50) := by
  unfold braP at h
  split at h
  · cases h
  rename_i j0 lo hn
  have h0 := numP_pos hn
  repeat' split at h
  all_goals first
    | (cases h; done)
    | (cases h; omega)
    | (rename_i hm _ _ _; have := numP_pos hm; cases h; omega)
theorem cntP_rep {l : Bytes} {i j : Nat} {a b : Int} {z : Bool} (h : cntP l i = .ok (j, some (a, b, z))) : 0 ≤ a ∧ a ≤ 50 ∧ (b = -1 ∨ a ≤ b ∧ b ≤ 50) := by
  unfold cntP at h
  have q : ∀ {k : Nat} {a' b' : Int}, (if k < l.length ∧ at_ l k = 63 then (Pr.ok (k + 1, some (a', b', true)) : Pr (Nat × Option (Int × Int × Bool))) else .ok (k, some (a', b', false))) = .ok (j, some (a, b, z)) → a = a' ∧ b = b' := by
    intro k a' b' h
    split at h <;> cases h <;> exact ⟨rfl, rfl⟩
  simp only [] at h
  split at h
  · cases h
  split at h
  · have := q h; omega
  split at h
  · have := q h; omega
  split at h
  · have := q h; omega
  split at h
  · split at h
    · cases h
    · rename_i hb
      have h1 := braP_rep hb
      have := q h; omega
  · cases h
theorem pieceP_wf {l : Bytes} {sub : St → Pr (St × Int)} (hsub : SubWf sub) {deep : Bool} {i g j g' : Nat} {out out' : List Pc} {k : Int} (hw : Wf g out) (h : pieceP sub deep l i g out = .ok ((j, g', out'), k)) :
    g ≤ g' ∧ out.length ≤ out'.length ∧ Wf g' out' ∧ 0 ≤ k ∧ k < (out'.length : Int) := by
  unfold pieceP at h
  split at h
  · cases h
  · rename_i ha
    have h1 := atomP_wf hsub hw ha
    unfold cntR at h
    split at h
    · cases h
    · cases h; exact h1
    · rename_i hc
      have h2 := cntP_rep hc
      cases h
      rw [len_app]
      refine ⟨by omega, by omega, h1.2.2.1.app ⟨?_, ⟨(by show (1 : Int) ≤ 4; decide), (by show (4 : Int) ≤ 7; decide)⟩, fun _ => ⟨_, rfl⟩, fun h => (by cases h), fun _ => h2⟩, by omega, by omega⟩
      intro c hc
      simp only [pRep, List.mem_singleton] at hc
      subst hc; exact h1.2.2.2
theorem seqL_wf {l : Bytes} {sub : St → Pr (St × Int)} (hsub : SubWf sub) {deep : Bool} : ∀ (n : Nat) {i g j g' : Nat} {out out' : List Pc} {kids : List Int} {k : Int}, n = l.length - i → Wf g out → (∀ c ∈ kids, 0 ≤ c ∧ c < (out.length : Int)) → seqL sub deep l i g out kids = .ok ((j, g', out'), k) →
    g ≤ g' ∧ out.length < out'.length ∧ Wf g' out' ∧ k + 1 = (out'.length : Int) := by
  intro n
  induction n using Nat.strongRecOn with
  | _ n ih =>
    intro i g j g' out out' kids k hn hw hk h
    rw [seqL] at h
    split at h
    · split at h
      · cases h
      · rename_i hp
        have h1 := pieceP_wf hsub hw hp
        split at h
        · have h2 := ih _ (by omega) rfl h1.2.2.1 (by
            intro c hc
            simp only [List.mem_append, List.mem_singleton] at hc
            rcases hc with hc | rfl
            · have := hk c hc; omega
            · exact h1.2.2.2) h
          exact ⟨by omega, by omega, h2.2.2⟩
        · cases h
    · cases h
      rw [len_app]
      exact ⟨Nat.le_refl _, by omega, hw.app (ok_kids _ _ 2 (.inl rfl) hk), by omega⟩
theorem altL_wf {l : Bytes} {sub : St → Pr (St × Int)} (hsub : SubWf sub) {deep : Bool} : ∀ (n : Nat) {i g j g' : Nat} {out out' : List Pc} {kids : List Int} {k : Int}, n = l.length - i → Wf g out → (∀ c ∈ kids, 0 ≤ c ∧ c < (out.length : Int)) → (∀ c, kids = [c] → c + 1 = (out.length : Int)) → altL sub deep l i g out kids = .ok ((j, g', out'), k) →
    g ≤ g' ∧ out.length ≤ out'.length ∧ Wf g' out' ∧ k + 1 = (out'.length : Int) := by
  intro n
  induction n using Nat.strongRecOn with
  | _ n ih =>
    intro i g j g' out out' kids k hn hw hk h1k h
    rw [altL] at h
    split at h
    · split at h
      · cases h
      · rename_i hp
        have h1 := seqL_wf hsub _ rfl hw (by intro c hc; cases hc) hp
        split at h
        · rename_i x _ _
          have h2 := ih _ (by omega) rfl h1.2.2.1 (by
            intro c hc
            simp only [List.mem_append, List.mem_singleton] at hc
            rcases hc with hc | rfl
            · have := hk c hc; omega
            · omega) (by
            intro c hc
            cases kids with
            | nil => simp only [List.nil_append, List.cons.injEq, and_true] at hc; subst hc; exact h1.2.2.2
            | cons y r => simp at hc) h
          exact ⟨by omega, by omega, h2.2.2⟩
        · cases h
    · unfold altE at h
      split at h
      · cases h; exact ⟨Nat.le_refl _, Nat.le_refl _, hw, h1k _ rfl⟩
      · cases h
        rw [len_app]
        exact ⟨Nat.le_refl _, by omega, hw.app (ok_kids _ _ 3 (.inr rfl) hk), by omega⟩
theorem patP_wf (l : Bytes) : ∀ (d : Nat) {i g j g' : Nat} {out out' : List Pc} {k : Int}, Wf g out → patP l d (i, g, out) = .ok ((j, g', out'), k) → g ≤ g' ∧ out.length < out'.length ∧ Wf g' out' ∧ k + 1 = (out'.length : Int) := by
  have bad : SubWf (fun _ => .bad 0) := by intro i g out j g' out' k _ h; cases h
  have step : ∀ (sub : St → Pr (St × Int)) (deep : Bool) {i g j g' : Nat} {out out' : List Pc} {k : Int}, SubWf sub → Wf g out → (match seqL sub deep l i g out [] with
    | .bad e => .bad e
    | .ok ((j, g', out'), x) => altL sub deep l j g' out' [x]) = Pr.ok ((j, g', out'), k) → g ≤ g' ∧ out.length < out'.length ∧ Wf g' out' ∧ k + 1 = (out'.length : Int) := by
    intro sub deep i g j g' out out' k hs hw h
    split at h
    · cases h
    · rename_i hq
      have h1 := seqL_wf hs _ rfl hw (by intro c hc; cases hc) hq
      have h2 := altL_wf hs _ rfl h1.2.2.1 (by intro c hc; simp only [List.mem_singleton] at hc; subst hc; omega) (by intro c hc; simp only [List.cons.injEq, and_true] at hc; subst hc; exact h1.2.2.2) h
      exact ⟨by omega, by omega, h2.2.2⟩
  intro d
  induction d with
  | zero => intro i g j g' out out' k hw h; exact step _ _ bad hw h
  | succ d ih =>
    intro i g j g' out out' k hw h
    refine step _ _ ?_ hw h
    intro i g out j g' out' k hw h
    have := ih hw h
    exact ⟨by omega, by omega, this.2.2.1, by omega, by omega⟩
/-- A pattern that was read: its pieces stand in order, its groups are at most nine. -/
theorem readP_wf {l : Bytes} (h : (readP l).ok = true) : Wf (readP l).groups (readP l).pieces ∧ 0 < (readP l).pieces.length ∧ (readP l).groups ≤ 9 ∧ (readP l).pieces.length ≤ 482 ∧ l.length ≤ 120 ∧ (readP l).at_ = 0 := by
  unfold readP at h ⊢
  split at h
  · cases h
  rename_i h0
  rw [if_neg h0]
  split at h
  · cases h
  rename_i i g out k hp
  split at h
  · cases h
  rename_i hi
  rw [if_neg hi]
  have h1 := patP_wf l 6 (Wf.nil 0) hp
  have h2 := patP_len l 6 0 0 [] _ _ _ _ (by omega) hp
  simp only [List.length_nil] at h1 h2
  exact ⟨h1.2.2.1, by show 0 < out.length; omega, h2.2.2.2 (by omega), by show out.length ≤ 482; omega, by omega, rfl⟩
theorem readP_bad {l : Bytes} (h : (readP l).ok = false) : (readP l).groups = 0 ∧ (readP l).pieces = [] := by
  unfold readP at h ⊢
  split
  · exact ⟨rfl, rfl⟩
  · rename_i h0
    rw [if_neg h0] at h
    split
    · exact ⟨rfl, rfl⟩
    · rename_i hp
      rw [hp] at h
      simp only [] at h
      split at h
      · rename_i hi; rw [if_pos hi]; exact ⟨rfl, rfl⟩
      · cases h
end Go.Vc
/- Patterns are written: plain lists, no program in sight. No statement of the seat is proved here. -/
namespace Go.Vc
set_option linter.unusedVariables false
set_option linter.unusedSimpArgs false
/-! ### The order of pieces that were read -/
/-- The pieces are put up as on a stack: each takes its kids off and lies on the rest. -/
inductive Stk : List Pc → List Int → Prop
  | nil : Stk [] []
  | app {ps : List Pc} {st : List Int} {x : Pc} (h : Stk ps (st ++ x.kids)) : Stk (ps ++ [x]) (st ++ [(ps.length : Int)])
def SetF (s : List (Int × Int)) : Prop := s.length ≤ 128 ∧ ∀ r ∈ s, 0 ≤ r.1 ∧ r.1 ≤ r.2 ∧ r.2 ≤ 255
structure PFine (x : Pc) : Prop where
  kind : 1 ≤ x.kind ∧ x.kind ≤ 7
  one : x.kind = 4 ∨ x.kind = 5 → x.kids.length = 1
  min : 0 ≤ x.min ∧ x.min ≤ 50
  max : x.max ≤ 50
  set : SetF x.set
structure CFine (x : Pc) : Prop where
  fine : PFine x
  rep : x.kind = 4 → x.max = -1 ∨ x.min ≤ x.max
  none : x.kind = 1 ∨ x.kind = 6 ∨ x.kind = 7 → x.kids = []
def AllC (ps : List Pc) : Prop := ∀ x ∈ ps, CFine x
theorem AllC.app {ps : List Pc} (h : AllC ps) {x : Pc} (hx : CFine x) : AllC (ps ++ [x]) := by
  intro y hy
  rcases List.mem_append.1 hy with hy | hy
  · exact h y hy
  · rw [List.mem_singleton.1 hy]; exact hx
theorem setF_nil : SetF [] := ⟨by simp, by intro r hr; cases hr⟩
theorem runEnd_le (f : Nat → Bool) : ∀ (k j : Nat), k = 255 - j → j < 256 → runEnd f j ≤ 255 ∧ (runEnd f j < 255 → f (runEnd f j + 1) = false) := by
  intro k
  induction k using Nat.strongRecOn with
  | _ k ih =>
  intro j hk hj
  rw [runEnd]
  split
  · split
    · exact ih (255 - (j + 1)) (by omega) (j + 1) rfl (by omega)
    · rename_i h; exact ⟨by omega, fun _ => by simpa using h⟩
  · exact ⟨by omega, fun h => by omega⟩
theorem runsF_fine (f : Nat → Bool) : ∀ (k i : Nat), k = 256 - i → (runsF f i).length * 2 ≤ 257 - i ∧ ∀ r ∈ runsF f i, 0 ≤ r.1 ∧ r.1 ≤ r.2 ∧ r.2 ≤ 255 := by
  intro k
  induction k using Nat.strongRecOn with
  | _ k ih =>
  intro i hk
  rw [runsF]
  split
  · rename_i hi
    split
    · have h1 := runEnd_ge f i
      have h2 := runEnd_le f _ i rfl hi
      generalize runEnd f i = e at *
      have h3 : (runsF f (e + 1)).length * 2 ≤ 255 - i ∧ ∀ r ∈ runsF f (e + 1), 0 ≤ r.1 ∧ r.1 ≤ r.2 ∧ r.2 ≤ 255 := by
        by_cases he : e + 1 < 256
        · rw [runsF, dif_pos he, if_neg (by rw [h2.2 (by omega)]; decide)]
          have := ih (256 - (e + 1 + 1)) (by omega) (e + 1 + 1) rfl
          exact ⟨by omega, this.2⟩
        · rw [runsF, dif_neg he]; exact ⟨by simp, by intro r hr; cases hr⟩
      refine ⟨by simp only [List.length_cons]; omega, fun r hr => ?_⟩
      rcases List.mem_cons.1 hr with rfl | hr
      · exact ⟨by show (0 : Int) ≤ i; omega, by show (i : Int) ≤ e; omega, by show (e : Int) ≤ 255; omega⟩
      · exact h3.2 r hr
    · have := ih (256 - (i + 1)) (by omega) (i + 1) rfl
      exact ⟨by omega, this.2⟩
  · exact ⟨by simp, by intro r hr; cases hr⟩
theorem setF_runs (f : Nat → Bool) : SetF (runs f) := by
  have := runsF_fine f _ 0 rfl
  exact ⟨by unfold runs; omega, this.2⟩
theorem setF_one {c : Nat} (h : c < 256) : SetF [((c : Int), (c : Int))] := ⟨by simp, by intro r hr; rw [List.mem_singleton.1 hr]; exact ⟨by show (0 : Int) ≤ c; omega, Int.le_refl _, by show (c : Int) ≤ 255; omega⟩⟩
theorem cf_set {s : List (Int × Int)} (h : SetF s) : CFine (pSet s) := ⟨⟨⟨(by show (1 : Int) ≤ 1; decide), (by show (1 : Int) ≤ 7; decide)⟩, fun h => (by rcases h with h | h <;> cases h), ⟨(by show (0 : Int) ≤ 0; decide), (by show (0 : Int) ≤ 50; decide)⟩, (by show (0 : Int) ≤ 50; decide), h⟩, fun h => (by cases h), fun _ => rfl⟩
theorem cf_sta : CFine pSta := ⟨⟨by decide, by decide, by decide, by decide, setF_nil⟩, by decide, fun _ => rfl⟩
theorem cf_end : CFine pEnd := ⟨⟨by decide, by decide, by decide, by decide, setF_nil⟩, by decide, fun _ => rfl⟩
theorem cf_seq (k : List Int) : CFine (pSeq k) := ⟨⟨⟨(by show (1 : Int) ≤ 2; decide), (by show (2 : Int) ≤ 7; decide)⟩, fun h => (by rcases h with h | h <;> cases h), ⟨(by show (0 : Int) ≤ 0; decide), (by show (0 : Int) ≤ 50; decide)⟩, (by show (0 : Int) ≤ 50; decide), setF_nil⟩, fun h => (by cases h), fun h => (by rcases h with h | h | h <;> cases h)⟩
theorem cf_alt (k : List Int) : CFine (pAlt k) := ⟨⟨⟨(by show (1 : Int) ≤ 3; decide), (by show (3 : Int) ≤ 7; decide)⟩, fun h => (by rcases h with h | h <;> cases h), ⟨(by show (0 : Int) ≤ 0; decide), (by show (0 : Int) ≤ 50; decide)⟩, (by show (0 : Int) ≤ 50; decide), setF_nil⟩, fun h => (by cases h), fun h => (by rcases h with h | h | h <;> cases h)⟩
theorem cf_grp (n k : Int) : CFine (pGrp n k) := ⟨⟨⟨(by show (1 : Int) ≤ 5; decide), (by show (5 : Int) ≤ 7; decide)⟩, fun _ => rfl, ⟨(by show (0 : Int) ≤ 0; decide), (by show (0 : Int) ≤ 50; decide)⟩, (by show (0 : Int) ≤ 50; decide), setF_nil⟩, fun h => (by cases h), fun h => (by rcases h with h | h | h <;> cases h)⟩
theorem cf_rep {a b : Int} (h : 0 ≤ a ∧ a ≤ 50 ∧ (b = -1 ∨ a ≤ b ∧ b ≤ 50)) (z : Bool) (k : Int) : CFine (pRep a b z k) := ⟨⟨⟨(by show (1 : Int) ≤ 4; decide), (by show (4 : Int) ≤ 7; decide)⟩, fun _ => rfl, ⟨h.1, h.2.1⟩, (by show b ≤ 50; omega), setF_nil⟩, fun _ => (by show b = -1 ∨ a ≤ b; omega), fun h => (by rcases h with h | h | h <;> cases h)⟩
/-- What the reader of groups must give. -/
def SubG (l : Bytes) (sub : St → Pr (St × Int)) : Prop := ∀ i g out st j g' out' k, i ≤ l.length → Stk out st → AllC out → sub (i, g, out) = .ok ((j, g', out'), k) → Stk out' (st ++ [k]) ∧ AllC out' ∧ out'.length + 2 * i ≤ out.length + 2 * j + 2
section
variable {l : Bytes} {sub : St → Pr (St × Int)} (hsub : SubG l sub) (hok : SubOk l sub)
include hsub hok
theorem atomG {deep : Bool} {i g j g' : Nat} {out out' : List Pc} {st : List Int} {k : Int} (hi : i < l.length) (hs : Stk out st) (hc : AllC out) (h : atomP sub deep l i g out = .ok ((j, g', out'), k)) : Stk out' (st ++ [k]) ∧ AllC out' ∧ out'.length + 2 * i ≤ out.length + 2 * j := by
  have hlen := atomP_len hok hi h
  have leaf : ∀ {x : Pc}, x.kids = [] → CFine x → i < j → out' = out ++ [x] → k = out.length → Stk out' (st ++ [k]) ∧ AllC out' ∧ out'.length + 2 * i ≤ out.length + 2 * j := by
    intro x hx hf hij ho hk
    subst ho hk
    refine ⟨.app (by rw [hx, List.append_nil]; exact hs), hc.app hf, ?_⟩
    rw [List.length_append, List.length_singleton]; omega
  unfold atomP at h
  split at h
  · split at h
    · cases h
    split at h
    · cases h
    · rename_i hq
      have h1 := hsub _ _ _ _ _ _ _ _ (by omega) hs hc hq
      split at h
      · cases h
      split at h
      · cases h
        refine ⟨.app (x := pGrp _ _) h1.1, h1.2.1.app (cf_grp _ _), ?_⟩
        rw [List.length_append, List.length_singleton]; omega
      · cases h
  split at h
  · split at h
    · cases h
    · rename_i hq
      cases h
      refine leaf rfl (cf_set ?_) (by omega) rfl rfl
      unfold setP at hq
      split at hq
      · cases hq
      · generalize clsP l _ true [] = r at hq
        cases r with
        | bad e => cases hq
        | ok y => cases hq; exact setF_runs _
  split at h
  · cases h; exact leaf rfl (cf_set (setF_runs _)) (by omega) rfl rfl
  split at h
  · cases h; exact leaf rfl cf_sta (by omega) rfl rfl
  split at h
  · cases h; exact leaf rfl cf_end (by omega) rfl rfl
  split at h
  · split at h
    · cases h
    · cases h; exact leaf rfl (cf_set (setF_runs _)) (by omega) rfl rfl
  split at h
  · cases h
  · cases h; exact leaf rfl (cf_set (setF_one (at_lt _ _))) (by omega) rfl rfl
omit hsub hok in
theorem cntP_gt {i j : Nat} {o : Int × Int × Bool} (h : cntP l i = .ok (j, some o)) : i < j := by
  unfold cntP at h
  have q : ∀ {k : Nat} {a b : Int}, (if k < l.length ∧ at_ l k = 63 then (Pr.ok (k + 1, some (a, b, true)) : Pr (Nat × Option (Int × Int × Bool))) else .ok (k, some (a, b, false))) = .ok (j, some o) → k ≤ j := by
    intro k a b h
    split at h <;> cases h <;> omega
  simp only [] at h
  split at h
  · cases h
  split at h
  · have := q h; omega
  split at h
  · have := q h; omega
  split at h
  · have := q h; omega
  split at h
  · split at h
    · cases h
    · rename_i hb
      have h1 := braP_gt hb
      have := q h; omega
  · cases h
theorem pieceG {deep : Bool} {i g j g' : Nat} {out out' : List Pc} {st : List Int} {k : Int} (hi : i < l.length) (hs : Stk out st) (hc : AllC out) (h : pieceP sub deep l i g out = .ok ((j, g', out'), k)) : Stk out' (st ++ [k]) ∧ AllC out' ∧ out'.length + 2 * i ≤ out.length + 2 * j := by
  unfold pieceP at h
  split at h
  · cases h
  · rename_i ha
    have h1 := atomG hsub hok hi hs hc ha
    unfold cntR at h
    split at h
    · cases h
    · rename_i hq
      have h2 := atomP_len hok hi ha
      have h3 := cntP_ge (by omega) hq
      cases h
      exact ⟨h1.1, h1.2.1, by omega⟩
    · rename_i hq
      have h2 := cntP_rep hq
      have h3 := cntP_gt hq
      cases h
      refine ⟨.app (x := pRep _ _ _ _) h1.1, h1.2.1.app (cf_rep h2 _ _), ?_⟩
      rw [List.length_append, List.length_singleton]; omega
theorem seqG {deep : Bool} : ∀ (n : Nat) {i g j g' : Nat} {out out' : List Pc} {st kids : List Int} {k : Int}, n = l.length - i → i ≤ l.length → Stk out (st ++ kids) → AllC out → seqL sub deep l i g out kids = .ok ((j, g', out'), k) → Stk out' (st ++ [k]) ∧ AllC out' ∧ out'.length + 2 * i ≤ out.length + 2 * j + 1 := by
  intro n
  induction n using Nat.strongRecOn with
  | _ n ih =>
    intro i g j g' out out' st kids k hn hi hs hc h
    rw [seqL] at h
    split at h
    · rename_i hcond
      split at h
      · cases h
      · rename_i hp
        have h1 := pieceG hsub hok hcond.1 hs hc hp
        have h2 := pieceP_len hok hcond.1 hp
        split at h
        · have h3 := ih _ (by omega) rfl (by omega) (by rw [← List.append_assoc]; exact h1.1) h1.2.1 h
          exact ⟨h3.1, h3.2.1, by omega⟩
        · cases h
    · cases h
      refine ⟨.app (x := pSeq _) hs, hc.app (cf_seq _), ?_⟩
      rw [List.length_append, List.length_singleton]; omega
theorem altG {deep : Bool} : ∀ (n : Nat) {i g j g' : Nat} {out out' : List Pc} {st kids : List Int} {k : Int}, n = l.length - i → i ≤ l.length → Stk out (st ++ kids) → AllC out → altL sub deep l i g out kids = .ok ((j, g', out'), k) → Stk out' (st ++ [k]) ∧ AllC out' ∧ out'.length + 2 * i ≤ out.length + 2 * j + 1 := by
  intro n
  induction n using Nat.strongRecOn with
  | _ n ih =>
    intro i g j g' out out' st kids k hn hi hs hc h
    rw [altL] at h
    split at h
    · rename_i hcond
      split at h
      · cases h
      · rename_i hp
        have h1 := seqG hsub hok _ rfl (by omega) (st := st ++ kids) (kids := []) (by simpa using hs) hc hp
        have h2 := seqL_len hok _ rfl (by omega) hp
        split at h
        · have h3 := ih _ (by omega) rfl (by omega) (by rw [← List.append_assoc]; exact h1.1) h1.2.1 h
          exact ⟨h3.1, h3.2.1, by omega⟩
        · cases h
    · unfold altE at h
      split at h
      · cases h; exact ⟨hs, hc, by omega⟩
      · cases h
        refine ⟨.app (x := pAlt _) hs, hc.app (cf_alt _), ?_⟩
        rw [List.length_append, List.length_singleton]; omega
end
theorem patG (l : Bytes) : ∀ d, SubG l (patP l d) := by
  have step : ∀ (d : Nat), SubG l (subOf l d) → SubG l (patP l d) := by
    intro d hs i g out st j g' out' k hi hst hc h
    rw [patP_sa] at h
    unfold saL at h
    split at h
    · cases h
    · rename_i hq
      have h1 := seqG hs (subOf_ok l d) _ rfl hi (st := st) (kids := []) (by simpa using hst) hc hq
      have h2 := seqL_len (subOf_ok l d) _ rfl hi hq
      have h3 := altG hs (subOf_ok l d) _ rfl (by omega) (st := st) (kids := [] ++ [_]) h1.1 h1.2.1 h
      exact ⟨h3.1, h3.2.1, by omega⟩
  intro d
  induction d with
  | zero => exact step 0 fun i g out st j g' out' k _ _ _ h => by cases h
  | succ d ih => exact step (d + 1) ih
theorem read_stk {l : Bytes} (h : (readP l).ok = true) : (∃ k, Stk (readP l).pieces [k]) ∧ AllC (readP l).pieces ∧ (readP l).pieces.length ≤ 480 := by
  unfold readP at h ⊢
  split at h
  · cases h
  rename_i h0
  rw [if_neg h0]
  split at h
  · cases h
  rename_i i g out k hp
  split at h
  · cases h
  rename_i hi
  rw [if_neg hi]
  have h1 := patG l 6 _ _ _ [] _ _ _ _ (by omega) .nil (by intro x hx; cases hx) hp
  have h2 := patP_len l 6 _ _ _ _ _ _ _ (by omega) hp
  simp only [List.length_nil] at h1
  exact ⟨⟨k, h1.1⟩, h1.2.1, by show out.length ≤ 480; omega⟩
end Go.Vc
/- What both write of a pattern is one text. Plain lists, no program in sight. No statement of the seat is proved here. -/
namespace Go.Vc
set_option linter.unusedVariables false
set_option linter.unusedSimpArgs false
/-! ### Texts -/
def rngT (r : Int × Int) : Bytes := escB r.1.toNat ++ if r.1 = r.2 then [] else 45 :: escB r.2.toNat
def allT : Bytes := [91, 94, 92, 120, 48, 48, 45, 92, 120, 102, 102, 93]
def oneS : List (Int × Int) → Bool
  | [r] => r.1 == r.2
  | _ => false
def setT (s : List (Int × Int)) : Bytes := if s = [] then allT else if oneS s = true then escB (s.headD (0, 0)).1.toNat else 91 :: (s.flatMap rngT ++ [93])
def altJ : List Bytes → Bytes
  | [] => []
  | t :: r => r.foldl (fun a b => a ++ 124 :: b) t
theorem altJ_snoc (ts : List Bytes) (t : Bytes) (h : ts ≠ []) : altJ (ts ++ [t]) = altJ ts ++ 124 :: t := by
  cases ts with
  | nil => exact absurd rfl h
  | cons a r => simp [altJ]
theorem foldl_ge : ∀ (r : List Bytes) (t : Bytes), t.length + (r.map List.length).sum ≤ (r.foldl (fun a b => a ++ 124 :: b) t).length
  | [], t => by simp
  | b :: r, t => by
    have := foldl_ge r (t ++ 124 :: b)
    simp only [List.foldl_cons, List.map_cons, List.sum_cons, List.length_append, List.length_cons] at this ⊢
    omega
theorem altJ_ge (ts : List Bytes) : (ts.map List.length).sum ≤ (altJ ts).length := by
  cases ts with
  | nil => simp [altJ]
  | cons t r => have := foldl_ge r t; simpa [altJ] using this
/-- A count, as the reference writes it. -/
def repS (x : Pc) (t : Bytes) : Bytes := t ++ 123 :: (decN x.min.toNat ++ (if x.max < 0 then [44] else if x.min < x.max then 44 :: decN x.max.toNat else []) ++ (125 :: lzT x.lazy))
def wWork (sub : Nat → Bytes) (x : Pc) : Bytes :=
  if x.kind = 1 then setT x.set
  else if x.kind = 2 then x.kids.flatMap fun k => sub k.toNat
  else if x.kind = 3 then altJ (x.kids.map fun k => sub k.toNat)
  else if x.kind = 4 then repS x (sub (x.kids.getD 0 0).toNat)
  else if x.kind = 5 then 40 :: (sub (x.kids.getD 0 0).toNat ++ [41])
  else if x.kind = 6 then [94] else [36]
/-- The text of a piece. -/
def wT (ps : List Pc) (k : Nat) : Bytes := wWork (fun k' => if h : k' < k then wT ps k' else []) (ps.getD k pSta)
  termination_by k
theorem wWork_congr {s1 s2 : Nat → Bytes} {x : Pc} {k : Nat} (hk : ∀ c ∈ x.kids, 0 ≤ c ∧ c < (k : Int)) (h0 : x.kind = 4 ∨ x.kind = 5 → x.kids.length = 1) (h : ∀ j, j < k → s1 j = s2 j) : wWork s1 x = wWork s2 x := by
  have hm : ∀ c ∈ x.kids, s1 c.toNat = s2 c.toNat := fun c hc => h _ (by have := hk c hc; omega)
  have hd : x.kind = 4 ∨ x.kind = 5 → s1 (x.kids.getD 0 0).toNat = s2 (x.kids.getD 0 0).toNat := fun hx => by
    have hl := h0 hx
    refine hm _ ?_
    rw [List.getD_eq_getElem?_getD, List.getElem?_eq_getElem (by omega)]
    exact List.getElem_mem _
  unfold wWork
  by_cases h1 : x.kind = 1
  · rw [if_pos h1, if_pos h1]
  rw [if_neg h1, if_neg h1]
  by_cases h2 : x.kind = 2
  · rw [if_pos h2, if_pos h2]
    rw [List.flatMap_def, List.flatMap_def, List.map_congr_left hm]
  rw [if_neg h2, if_neg h2]
  by_cases h3 : x.kind = 3
  · rw [if_pos h3, if_pos h3, List.map_congr_left hm]
  rw [if_neg h3, if_neg h3]
  by_cases h4 : x.kind = 4
  · rw [if_pos h4, if_pos h4, hd (.inl h4)]
  rw [if_neg h4, if_neg h4]
  by_cases h5 : x.kind = 5
  · rw [if_pos h5, if_pos h5, hd (.inr h5)]
  rw [if_neg h5, if_neg h5]
/-- Kids stand ahead of their piece. -/
def Ord (ps : List Pc) : Prop := ∀ (k : Nat) (x : Pc), ps[k]? = some x → ∀ c ∈ x.kids, 0 ≤ c ∧ c < (k : Int)
def OneK (ps : List Pc) : Prop := ∀ x ∈ ps, x.kind = 4 ∨ x.kind = 5 → x.kids.length = 1
theorem getD_at {ps : List Pc} {k : Nat} {x : Pc} (h : ps[k]? = some x) : ps.getD k pSta = x := by rw [List.getD_eq_getElem?_getD, h]; rfl
theorem wT_at {ps : List Pc} {k : Nat} {x : Pc} (ho : Ord ps) (h1 : OneK ps) (h : ps[k]? = some x) : wT ps k = wWork (wT ps) x := by
  rw [wT, getD_at h]
  exact wWork_congr (ho k x h) (h1 x (List.mem_of_getElem? h)) fun j hj => by rw [dif_pos hj]
theorem wT_app (ps : List Pc) (x : Pc) : ∀ k, k < ps.length → wT (ps ++ [x]) k = wT ps k := by
  intro k
  induction k using Nat.strongRecOn with
  | _ k ih =>
  intro hk
  have e : (ps ++ [x]).getD k pSta = ps.getD k pSta := by
    rw [List.getD_eq_getElem?_getD, List.getD_eq_getElem?_getD, List.getElem?_append_left hk]
  have f : (fun k' => if h : k' < k then wT (ps ++ [x]) k' else []) = fun k' => if h : k' < k then wT ps k' else [] := by
    funext k'
    split
    · rename_i h; exact ih k' h (by omega)
    · rfl
  conv => lhs; rw [wT]
  rw [e, f]
  conv => rhs; rw [wT]
theorem Stk.ord {ps : List Pc} {st : List Int} (h : Stk ps st) : Ord ps ∧ ∀ c ∈ st, 0 ≤ c ∧ c < (ps.length : Int) := by
  induction h with
  | nil => exact ⟨by intro k x h; simp at h, by intro c h; cases h⟩
  | @app ps st x h ih =>
    refine ⟨fun k y hy => ?_, fun c hc => ?_⟩
    · rw [List.getElem?_append] at hy
      split at hy
      · exact ih.1 k y hy
      · rename_i hk
        have : k - ps.length = 0 := by
          cases hd : k - ps.length with
          | zero => rfl
          | succ n => rw [hd] at hy; simp at hy
        rw [this] at hy
        simp only [List.getElem?_cons_zero, Option.some.injEq] at hy
        subst hy
        obtain rfl : k = ps.length := by omega
        exact fun c hc => ih.2 c (List.mem_append_right _ hc)
    · rw [List.length_append, List.length_singleton]
      rcases List.mem_append.1 hc with hc | hc
      · have := ih.2 c (List.mem_append_left _ hc); omega
      · rw [List.mem_singleton.1 hc]; omega
def kf (ps : List Pc) : List Int := ps.flatMap (·.kids)
theorem kf_app (ps : List Pc) (x : Pc) : kf (ps ++ [x]) = kf ps ++ x.kids := by simp [kf]
theorem Stk.nodup {ps : List Pc} {st : List Int} (h : Stk ps st) : (kf ps ++ st).Nodup ∧ ∀ c ∈ kf ps ++ st, 0 ≤ c ∧ c < (ps.length : Int) := by
  induction h with
  | nil => exact ⟨by simp [kf], by intro c h; simp [kf] at h⟩
  | @app ps st x h ih =>
    have hp : List.Perm (kf ps ++ (st ++ x.kids)) ((kf ps ++ x.kids) ++ st) := by
      rw [List.append_assoc]
      exact List.Perm.append_left _ List.perm_append_comm
    have hn := hp.nodup_iff.1 ih.1
    rw [kf_app]
    refine ⟨?_, fun c hc => ?_⟩
    · rw [← List.append_assoc, List.nodup_append]
      refine ⟨hn, by simp, fun a ha b hb => ?_⟩
      rw [List.mem_singleton.1 hb]
      have := ih.2 a (hp.mem_iff.2 ha)
      omega
    · rw [List.length_append, List.length_singleton]
      rw [← List.append_assoc] at hc
      rcases List.mem_append.1 hc with hc | hc
      · have := ih.2 c (hp.mem_iff.2 hc); omega
      · rw [List.mem_singleton.1 hc]; omega
/-- As the reference asks it of a pattern before it writes it. -/
structure Sane (ok : Bool) (ps : List Pc) : Prop where
  ok : ok = true
  pos : ps ≠ []
  len : ps.length ≤ 480
  fine : ∀ x ∈ ps, PFine x
  ord : Ord ps
  once : (kf ps).Nodup
theorem Sane.one {ok : Bool} {ps : List Pc} (h : Sane ok ps) : OneK ps := fun x hx => (h.fine x hx).one
theorem Stk.sane {ps : List Pc} {k : Int} (h : Stk ps [k]) (hc : AllC ps) (hl : ps.length ≤ 480) : Sane true ps := by
  refine ⟨rfl, ?_, hl, fun x hx => (hc x hx).fine, h.ord.1, (List.nodup_append.1 h.nodup.1).1⟩
  rintro rfl
  have h1 := h.ord.2 k (List.mem_singleton.2 rfl)
  have h2 : ((([] : List Pc).length : Nat) : Int) = 0 := rfl
  omega
theorem Stk.last {ps : List Pc} {st : List Int} {k : Int} (h : Stk ps (st ++ [k])) : k + 1 = (ps.length : Int) := by
  generalize hs : st ++ [k] = s at h
  cases h with
  | nil => simp at hs
  | @app ps st' x h =>
    have := List.append_inj_right' hs rfl
    simp only [List.cons.injEq, and_true] at this
    rw [List.length_append, List.length_singleton, this]; omega
/-! ### The program's machine -/
def setOk (s : List (Int × Int)) : Prop := s.length ≤ 256 ∧ ∀ r ∈ s, 0 ≤ r.1 ∧ r.1 ≤ 255 ∧ 0 ≤ r.2 ∧ r.2 ≤ 255
instance (s : List (Int × Int)) : Decidable (setOk s) := by unfold setOk; infer_instance
def numI (n : Int) : Bytes := if n < 0 ∨ 99 < n then [120] else decN n.toNat
def repI (x : Pc) (t : Bytes) : Bytes := t ++ 123 :: (numI x.min ++ (if x.max = -1 then [44] else if x.max = x.min then [] else 44 :: numI x.max) ++ (125 :: lzT x.lazy))
def pcT (x : Pc) (ts : List Bytes) : Option Bytes :=
  if x.kind = 1 then (if setOk x.set then some (setT x.set) else none)
  else if x.kind = 2 then some ts.flatten
  else if x.kind = 3 then some (altJ ts)
  else if x.kind = 4 then (if x.kids.length = 1 then some (repI x (ts.headD [])) else none)
  else if x.kind = 5 then (if x.kids.length = 1 then some (40 :: (ts.headD [] ++ [41])) else none)
  else if x.kind = 6 then some [94] else if x.kind = 7 then some [36] else none
abbrev Sk := List (Nat × Bytes)
def mst (i : Nat) (st : Sk) (x : Pc) : Option Sk :=
  if st.length < x.kids.length then none
  else if (st.drop (st.length - x.kids.length)).map (fun d => (d.1 : Int)) ≠ x.kids then none
  else if 120 < ((st.drop (st.length - x.kids.length)).map fun d => d.2.length).sum then none
  else match pcT x ((st.drop (st.length - x.kids.length)).map (·.2)) with
    | none => none
    | some t => if 120 < t.length then none else some (st.take (st.length - x.kids.length) ++ [(i, t)])
def mach : List Pc → Nat → Sk → Option Sk
  | [], _, st => some st
  | x :: r, i, st => match mst i st x with
    | none => none
    | some st' => mach r (i + 1) st'
theorem mach_app (x : Pc) : ∀ (ps : List Pc) (i : Nat) (st : Sk), mach (ps ++ [x]) i st = match mach ps i st with
    | none => none
    | some st' => mst (i + ps.length) st' x
  | [], i, st => by
    show (match mst i st x with | none => none | some st' => some st') = mst (i + 0) st x
    rw [Nat.add_zero]
    cases mst i st x <;> rfl
  | y :: r, i, st => by
    show (match mst i st y with | none => none | some st' => mach (r ++ [x]) (i + 1) st') = match (match mst i st y with | none => none | some st' => mach r (i + 1) st') with
      | none => none
      | some st' => mst (i + (y :: r).length) st' x
    cases mst i st y with
    | none => rfl
    | some st' =>
      show mach (r ++ [x]) (i + 1) st' = _
      rw [mach_app x r (i + 1) st']
      simp only [List.length_cons]
      rw [show i + 1 + r.length = i + (r.length + 1) from by omega]
theorem setOk_of {s : List (Int × Int)} (h : SetF s) : setOk s := ⟨by have := h.1; omega, fun r hr => by have := h.2 r hr; omega⟩
theorem repI_eq {x : Pc} (h : CFine x) (h4 : x.kind = 4) (t : Bytes) : repI x t = repS x t := by
  have hm := h.fine.min
  have hx := h.fine.max
  have hr := h.rep h4
  unfold repI repS
  have e1 : numI x.min = decN x.min.toNat := by unfold numI; rw [if_neg (by omega)]
  rw [e1]
  congr 3
  rcases hr with hr | hr
  · rw [if_pos hr, if_pos (by omega)]
  · have h1 : ¬ x.max = -1 := by omega
    have h2 : ¬ x.max < 0 := by omega
    rw [if_neg h1, if_neg h2]
    by_cases he : x.max = x.min
    · have h3 : ¬ x.min < x.max := by omega
      rw [if_pos he, if_neg h3]
    · have h3 : x.min < x.max := by omega
      rw [if_neg he, if_pos h3]
      have e2 : numI x.max = decN x.max.toNat := by unfold numI; rw [if_neg (by omega)]
      rw [e2]
theorem headD_map {f : Int → Bytes} {l : List Int} (h : l.length = 1) : (l.map f).headD [] = f (l.getD 0 0) := by
  match l, h with
  | [a], _ => rfl
theorem pcT_eq {x : Pc} (h : CFine x) (sub : Nat → Bytes) : pcT x (x.kids.map fun k => sub k.toNat) = some (wWork sub x) := by
  have hk := h.fine.kind
  have h1k := h.fine.one
  unfold pcT wWork
  by_cases h1 : x.kind = 1
  · rw [if_pos h1, if_pos h1, if_pos (setOk_of h.fine.set)]
  rw [if_neg h1, if_neg h1]
  by_cases h2 : x.kind = 2
  · rw [if_pos h2, if_pos h2, List.flatMap_def]
  rw [if_neg h2, if_neg h2]
  by_cases h3 : x.kind = 3
  · rw [if_pos h3, if_pos h3]
  rw [if_neg h3, if_neg h3]
  by_cases h4 : x.kind = 4
  · rw [if_pos h4, if_pos h4, if_pos (h1k (.inl h4)), repI_eq h h4, headD_map (f := fun k => sub k.toNat) (h1k (.inl h4))]
  rw [if_neg h4, if_neg h4]
  by_cases h5 : x.kind = 5
  · rw [if_pos h5, if_pos h5, if_pos (h1k (.inr h5)), headD_map (f := fun k => sub k.toNat) (h1k (.inr h5))]
  rw [if_neg h5, if_neg h5]
  by_cases h6 : x.kind = 6
  · rw [if_pos h6, if_pos h6]
  rw [if_neg h6, if_neg h6, if_pos (by omega)]
theorem wWork_ge {x : Pc} (h : CFine x) (sub : Nat → Bytes) : (x.kids.map fun k => (sub k.toNat).length).sum ≤ (wWork sub x).length := by
  have hk := h.fine.kind
  have one : x.kids.length = 1 → (x.kids.map fun k => (sub k.toNat).length).sum = (sub (x.kids.getD 0 0).toNat).length := by
    intro hl
    match hx : x.kids, hl with
    | [a], _ => simp
  unfold wWork
  by_cases h1 : x.kind = 1
  · rw [h.none (.inl h1)]; simp
  rw [if_neg h1]
  by_cases h2 : x.kind = 2
  · rw [if_pos h2, List.length_flatMap]; exact Nat.le_refl _
  rw [if_neg h2]
  by_cases h3 : x.kind = 3
  · rw [if_pos h3]
    have := altJ_ge (x.kids.map fun k => sub k.toNat)
    rw [List.map_map] at this
    exact this
  rw [if_neg h3]
  by_cases h4 : x.kind = 4
  · rw [if_pos h4, one (h.fine.one (.inl h4))]
    unfold repS; rw [List.length_append]; omega
  rw [if_neg h4]
  by_cases h5 : x.kind = 5
  · rw [if_pos h5, one (h.fine.one (.inr h5))]
    rw [List.length_cons, List.length_append]; omega
  · rw [h.none (.inr (by omega))]; simp
/-- The stack of a pattern that was read, with its texts. -/
def skOf (ps : List Pc) (st : List Int) : Sk := st.map fun k => (k.toNat, wT ps k.toNat)
def skSum (ps : List Pc) (st : List Int) : Nat := (st.map fun k => (wT ps k.toNat).length).sum
theorem skOf_app {ps : List Pc} {x : Pc} {st : List Int} (h : ∀ c ∈ st, 0 ≤ c ∧ c < (ps.length : Int)) : skOf (ps ++ [x]) st = skOf ps st ∧ skSum (ps ++ [x]) st = skSum ps st := by
  have e : ∀ c ∈ st, wT (ps ++ [x]) c.toNat = wT ps c.toNat := fun c hc => wT_app ps x _ (by have := h c hc; omega)
  unfold skOf skSum
  exact ⟨List.map_congr_left fun c hc => by rw [e c hc], by rw [List.map_congr_left fun c hc => by rw [e c hc]]⟩
theorem Stk.mach {ps : List Pc} {st : List Int} (h : Stk ps st) (hc : AllC ps) : (skSum ps st ≤ 120 → mach ps 0 [] = some (skOf ps st)) ∧ (mach ps 0 [] = none ∨ mach ps 0 [] = some (skOf ps st)) := by
  induction h with
  | nil => exact ⟨fun _ => rfl, .inr rfl⟩
  | @app ps st x h ih =>
    have hcx : CFine x := hc x (List.mem_append_right _ (List.mem_singleton.2 rfl))
    have ih := ih fun y hy => hc y (List.mem_append_left _ hy)
    have ho := (Stk.app h).ord
    have hob := h.ord
    have hx : (ps ++ [x])[ps.length]? = some x := by simp
    have hone : OneK (ps ++ [x]) := fun y hy => (hc y hy).fine.one
    have hw : wT (ps ++ [x]) ps.length = wWork (wT ps) x := by
      rw [wT_at ho.1 hone hx]
      exact wWork_congr (ho.1 _ _ hx) (hone x (List.mem_append_right _ (List.mem_singleton.2 rfl))) fun j hj => wT_app ps x j hj
    have hst : ∀ c ∈ st, 0 ≤ c ∧ c < (ps.length : Int) := fun c hc => hob.2 c (List.mem_append_left _ hc)
    have hkd : ∀ c ∈ x.kids, 0 ≤ c ∧ c < (ps.length : Int) := fun c hc => hob.2 c (List.mem_append_right _ hc)
    have hsum : skSum (ps ++ [x]) (st ++ [(ps.length : Int)]) = skSum ps st + (wWork (wT ps) x).length := by
      have := (skOf_app (x := x) hst).2
      unfold skSum at this ⊢
      rw [List.map_append, List.sum_append, this]
      simp only [List.map_cons, List.map_nil, List.sum_cons, List.sum_nil, Int.toNat_natCast, hw, Nat.add_zero]
    have hsum0 : skSum ps (st ++ x.kids) = skSum ps st + (x.kids.map fun k => (wT ps k.toNat).length).sum := by
      unfold skSum; rw [List.map_append, List.sum_append]
    have hge := wWork_ge hcx (wT ps)
    have hsk : skOf (ps ++ [x]) (st ++ [(ps.length : Int)]) = skOf ps st ++ [(ps.length, wWork (wT ps) x)] := by
      have := (skOf_app (x := x) hst).1
      unfold skOf at this ⊢
      rw [List.map_append, this]
      simp only [List.map_cons, List.map_nil, Int.toNat_natCast, hw]
    -- the step
    have hstep : mst ps.length (skOf ps (st ++ x.kids)) x = if 120 < (x.kids.map fun k => (wT ps k.toNat).length).sum then none else if 120 < (wWork (wT ps) x).length then none else some (skOf ps st ++ [(ps.length, wWork (wT ps) x)]) := by
      have e0 : skOf ps (st ++ x.kids) = skOf ps st ++ skOf ps x.kids := by unfold skOf; rw [List.map_append]
      have e1 : (skOf ps (st ++ x.kids)).length - x.kids.length = (skOf ps st).length := by rw [e0]; simp [skOf]
      unfold mst
      rw [if_neg (by rw [e0]; simp [skOf]), e1, e0, List.drop_left, List.take_left]
      have e2 : (skOf ps x.kids).map (fun d => (d.1 : Int)) = x.kids := by
        unfold skOf
        rw [List.map_map]
        conv => rhs; rw [← List.map_id x.kids]
        exact List.map_congr_left fun c hc => by show ((c.toNat : Nat) : Int) = c; have := hkd c hc; omega
      have e3 : (skOf ps x.kids).map (fun d => d.2.length) = x.kids.map fun k => (wT ps k.toNat).length := by unfold skOf; rw [List.map_map]; rfl
      have e4 : (skOf ps x.kids).map (·.2) = x.kids.map fun k => wT ps k.toNat := by unfold skOf; rw [List.map_map]; rfl
      rw [if_neg (by rw [e2]; simp), e3, e4, pcT_eq hcx (wT ps)]
    rw [mach_app, Nat.zero_add]
    refine ⟨fun hle => ?_, ?_⟩
    · rw [hsum] at hle
      rw [ih.1 (by rw [hsum0]; omega)]
      simp only []
      rw [hstep, if_neg (by omega), if_neg (by omega), hsk]
    · rcases ih.2 with h0 | h0
      · rw [h0]; exact .inl rfl
      · rw [h0]
        simp only []
        rw [hstep, hsk]
        split
        · exact .inl rfl
        · split
          · exact .inl rfl
          · exact .inr rfl
/-! ### Both write one text -/
/-- It is this pattern. -/
def EqP (P : Pat) (ok : Bool) (a g : Int) (ps : List Pc) : Prop := P.ok = ok ∧ (P.at_ : Int) = a ∧ (P.groups : Int) = g ∧ P.pieces = ps
def WI (ok : Bool) (a g : Int) (ps : List Pc) (s : Bytes) : Prop :=
  (∃ k, mach ps 0 [] = some [(k, s)] ∧ EqP (readP s) ok a g ps) ∨ (s = [] ∧ ¬ ∃ k t, mach ps 0 [] = some [(k, t)] ∧ EqP (readP t) ok a g ps)
def WS (ok : Bool) (a g : Int) (ps : List Pc) (s : Bytes) : Prop :=
  (Sane ok ps ∧ s = wT ps (ps.length - 1) ∧ (readP s).ok = true ∧ ((readP s).groups : Int) = g ∧ a = 0 ∧ (readP s).pieces = ps) ∨
  (s = [] ∧ ¬ (Sane ok ps ∧ (readP (wT ps (ps.length - 1))).ok = true ∧ ((readP (wT ps (ps.length - 1))).groups : Int) = g ∧ a = 0 ∧ (readP (wT ps (ps.length - 1))).pieces = ps))
theorem read_at {l : Bytes} (h : (readP l).ok = true) : (readP l).at_ = 0 ∧ l.length ≤ 120 := ⟨(readP_wf h).2.2.2.2.2, (readP_wf h).2.2.2.2.1⟩
theorem eqP_ok {s : Bytes} {ok : Bool} {a g : Int} {ps : List Pc} {k : Nat} {t : Bytes} (h : EqP (readP s) ok a g ps) (hm : mach ps 0 [] = some [(k, t)]) : (readP s).ok = true := by
  cases ho : (readP s).ok with
  | true => rfl
  | false =>
    have := (readP_bad ho).2
    rw [h.2.2.2] at this
    subst this
    simp [Go.Vc.mach] at hm
/-- The text of a pattern that was read. -/
theorem canon {l : Bytes} (h : (readP l).ok = true) : Sane true (readP l).pieces ∧ ((wT (readP l).pieces ((readP l).pieces.length - 1)).length ≤ 120 → ∃ k, mach (readP l).pieces 0 [] = some [(k, wT (readP l).pieces ((readP l).pieces.length - 1))]) ∧
    ∀ k t, mach (readP l).pieces 0 [] = some [(k, t)] → t = wT (readP l).pieces ((readP l).pieces.length - 1) := by
  obtain ⟨⟨k, hs⟩, hc, hl⟩ := read_stk h
  have hlast := Stk.last (st := []) hs
  have hk : k.toNat = (readP l).pieces.length - 1 := by omega
  have hm := hs.mach hc
  have hsk : skOf (readP l).pieces [k] = [(k.toNat, wT (readP l).pieces ((readP l).pieces.length - 1))] := by unfold skOf; rw [← hk]; rfl
  refine ⟨hs.sane hc hl, fun hle => ⟨_, by rw [hm.1 (by unfold skSum; simp only [List.map_cons, List.map_nil, List.sum_cons, List.sum_nil, hk]; omega), hsk]⟩, fun k' t ht => ?_⟩
  rcases hm.2 with h0 | h0
  · rw [h0] at ht; cases ht
  · rw [h0, hsk] at ht
    simp only [Option.some.injEq, List.cons.injEq, Prod.mk.injEq, and_true] at ht
    exact ht.2.symm
theorem WI.spec {ok : Bool} {a g : Int} {ps : List Pc} {s t : Bytes} (h1 : WI ok a g ps s) (h2 : WS ok a g ps t) : s = t := by
  rcases h1 with ⟨k, hm, he⟩ | ⟨rfl, hn⟩
  · have ho := eqP_ok he hm
    obtain ⟨c1, c2, c3⟩ := canon ho
    rw [he.2.2.2] at c1 c2 c3
    have hs := c3 k s hm
    rcases h2 with ⟨_, ht, _⟩ | ⟨_, hn⟩
    · rw [ht, hs]
    · refine absurd ⟨?_, ?_, ?_, ?_, ?_⟩ hn
      · rw [← he.1, ho]; exact c1
      · rw [← hs]; exact ho
      · rw [← hs]; exact he.2.2.1
      · rw [← he.2.1, (read_at ho).1]; rfl
      · rw [← hs]; exact he.2.2.2
  · rcases h2 with ⟨hsn, ht, ho, hg, ha, hp⟩ | ⟨ht, _⟩
    · exfalso
      obtain ⟨c1, c2, c3⟩ := canon ho
      rw [hp] at c1 c2 c3
      obtain ⟨k, hk⟩ := c2 (by rw [← ht]; exact (read_at ho).2)
      rw [← ht] at hk
      exact hn ⟨k, t, hk, by rw [ho, hsn.ok], by rw [(read_at ho).1, ha]; rfl, hg, hp⟩
    · exact ht.symm
theorem WI.uniq {ok : Bool} {a g : Int} {ps : List Pc} {s t : Bytes} (h1 : WI ok a g ps s) (h2 : WI ok a g ps t) : s = t := by
  rcases h1 with ⟨k, hm, he⟩ | ⟨rfl, hn⟩
  · rcases h2 with ⟨k2, hm2, he2⟩ | ⟨rfl, hn2⟩
    · rw [hm] at hm2
      simp only [Option.some.injEq, List.cons.injEq, Prod.mk.injEq, and_true] at hm2
      exact hm2.2
    · exact absurd ⟨k, s, hm, he⟩ hn2
  · rcases h2 with ⟨k2, hm2, he2⟩ | ⟨rfl, hn2⟩
    · exact absurd ⟨k2, t, hm2, he2⟩ hn
    · rfl
end Go.Vc
/- Printed by vcgen.py, a program of this session: formulas of Go functions, each with the proof that it gives the function's contract. No statement of the seat is proved here. -/
namespace Go.Proofs.Ytngbiaeliphdjaa.V
open Go.Vc Go.Proofs
set_option linter.unusedVariables false
set_option maxRecDepth 100000
/-- (*impl.reader).end -/
def V75 (b1 o2 : Nat) (R : Rt) : Pred := fun w =>
  drw (fun w3 => lI w3 b1 (o2 + 1) fun n4 => lS w3 b1 o2 fun s5 => R (.returned (.bool (decide (n4 ≥ ((ByteArray.size s5 : Nat) : Int))))) w3) w
def scr75 : Scr := (.q 1 (.q 11 .nil))
theorem vc75 {b1 o2} {R w} (h : V75 b1 o2 R w) : Cl Try.prog 75 [.pointer (some ⟨b1, o2, none⟩)] w R :=
  cl_of scr75 Try.func75 (by kernel_rfl) _ _ (by kernel_rfl) h
/-- (*impl.reader).fail -/
def V76 (b1 o2 : Nat) (n3 : Int) (R : Rt) : Pred := fun w =>
  R (.panicked [{ v := .iface 90 (.int .i64 n3), recovered := false }]) w
def scr76 : Scr := (.run [0,1,2] .nil)
theorem vc76 {b1 o2 n3} {R w} (h : V76 b1 o2 n3 R w) : Cl Try.prog 76 [.pointer (some ⟨b1, o2, none⟩), .int .i64 n3] w R :=
  cl_of scr76 Try.func76 (by kernel_rfl) _ _ (by kernel_rfl) h
/-- (*impl.reader).need -/
def V143 (b1 o2 : Nat) (R : Rt) : Pred := fun w =>
  clB 75 ([.pointer (some ⟨b1, o2, none⟩)]) w R fun t3 w4 => (cB t3 (lS w4 b1 o2 fun s6 => clU 76 ([.pointer (some ⟨b1, o2, none⟩), .int .i64 ((ByteArray.size s6 : Nat) : Int)]) w4 R fun w7 => drw (fun w9 => lS w9 b1 o2 fun s10 => lI w9 b1 (o2 + 1) fun n11 => (ixT s10 n11) ∧ R (.returned (.int .u8 (byteAt s10 (Int.toNat n11)))) w9) w7) (drw (fun w12 => lS w12 b1 o2 fun s13 => lI w12 b1 (o2 + 1) fun n14 => (ixT s13 n14) ∧ R (.returned (.int .u8 (byteAt s13 (Int.toNat n14)))) w12) w4))
def scr143 : Scr := (.q 1 (.q 2 (.cond (.q 7 (.q 10 .nil)) (.q 10 .nil))))
theorem vc143 {b1 o2} {R w} (h : V143 b1 o2 R w) : Cl Try.prog 143 [.pointer (some ⟨b1, o2, none⟩)] w R :=
  cl_of scr143 Try.func143 (by kernel_rfl) _ _ (by kernel_rfl) h
/-- (*impl.reader).put -/
def V110 (b1 o2 : Nat) (n3 : Int) (a4 : Option Addr) (l4 c4 : Nat) (n5 n6 : Int) (t7 : Bool) (n8 : Int) (a9 : Option Addr) (l9 c9 : Nat) (R : Rt) : Pred := fun w =>
  newC [.int .i64 n3, .slice a4 l4 c4, .int .i64 n5, .int .i64 n6, .bool t7, .int .i64 n8, .slice a9 l9 c9] 111 (fun b10 w11 => drw (fun w12 => lL w12 b1 (o2 + 4) fun a13 l13 c13 => lI w12 b10 0 fun n14 => lL w12 b10 1 fun a15 l15 c15 => lI w12 b10 2 fun n16 => lI w12 b10 3 fun n17 => lB w12 b10 4 fun t18 => lI w12 b10 5 fun n19 => lL w12 b10 6 fun a20 l20 c20 => newC [.int .i64 n14, .slice a15 l15 c15, .int .i64 n16, .int .i64 n17, .bool t18, .int .i64 n19, .slice a20 l20 c20] 111 (fun b21 w22 => cellH w22.heap b1 (o2 + 4) = some (.slice a13 l13 c13) ∧ ∃ a23 l23 c23, ∃ w24, (Builtin.append_ #[35, 35] 35 #[.slice a13 l13 c13, .slice (some ⟨b21, 0, none⟩) 1 1]).run Try.prog w22 = .ok (.slice a23 l23 c23) w24 ∧ stW b1 (o2 + 4) [.slice a23 l23 c23] (fun w25 => lL w25 b1 (o2 + 4) fun a26 l26 c26 => R (.returned (.int .i64 (IntKind.wrap .i64 (((l26 : Nat) : Int) - 1)))) w25) w24) w12) w11) w
def scr110 : Scr := (.q 2 (.q 11 (.q 7 .nil)))
theorem vc110 {b1 o2 n3 a4 l4 c4 n5 n6 t7 n8 a9 l9 c9} {R w} (h : V110 b1 o2 n3 a4 l4 c4 n5 n6 t7 n8 a9 l9 c9 R w) : Cl Try.prog 110 [.pointer (some ⟨b1, o2, none⟩), .agg #[.int .i64 n3, .slice a4 l4 c4, .int .i64 n5, .int .i64 n6, .bool t7, .int .i64 n8, .slice a9 l9 c9]] w R :=
  cl_of scr110 Try.func110 (by kernel_rfl) _ _ (by kernel_rfl) h
/-- (*impl.bytes256).add -/
def V145 (b1 o2 : Nat) (n3 n4 : Int) (R : Rt) : Pred := fun w =>
  ∃ (I5 : Nat → Int → World → Prop), (∃ k7, I5 k7 n3 w) ∧ ∀ k6 (d9 : Nat → Value) n10 w8, I5 k6 n10 w8 → (cB (decide (n10 ≤ n4)) ((0 ≤ (n10 : Int) ∧ (n10 : Int) < ((256 : Nat) : Int)) ∧ stW b1 (o2 + (Int.toNat n10) * 1) [.bool true] (fun w11 => (∃ m12, m12 < k6 ∧ I5 m12 (IntKind.wrap .i64 (n10 + 1)) w11)) w8) (R (.returned (.tuple #[])) w8))
def scr145 : Scr := (.q 2 (.loop (dr [(6, some (.int .i64))] [(8,9)]) (.q 3 (.cond (.q 5 (.q 3 .nil)) .nil))))
theorem vc145 {b1 o2 n3 n4} {R w} (h : V145 b1 o2 n3 n4 R w) : Cl Try.prog 145 [.pointer (some ⟨b1, o2, none⟩), .int .i64 n3, .int .i64 n4] w R :=
  cl_of scr145 Try.func145 (by kernel_rfl) _ _ (by kernel_rfl) h
/-- (*impl.bytes256).ranges -/
def V146 (b1 o2 : Nat) (R : Rt) : Pred := fun w =>
  ∃ (I3 : Nat → Option Addr → Nat → Nat → Int → World → Prop), (∃ k5, I3 k5 none 0 0 0 w) ∧ ∀ k4 (d7 : Nat → Value) a8 l8 c8 n9 w6, I3 k4 a8 l8 c8 n9 w6 → (cB (decide (n9 < 256)) ((0 ≤ (n9 : Int) ∧ (n9 : Int) < ((256 : Nat) : Int)) ∧ lB w6 b1 (o2 + (Int.toNat n9) * 1) fun t10 => (cB (!t10) ((∃ m11, m11 < k4 ∧ I3 m11 a8 l8 c8 (IntKind.wrap .i64 (n9 + 1)) w6)) (∃ (I12 : Nat → Int → World → Prop), (∃ k14, I12 k14 n9 w6) ∧ ∀ k13 (d16 : Nat → Value) n17 w15, I12 k13 n17 w15 → (cB (decide (n17 < 255)) ((0 ≤ (IntKind.wrap .i64 (n17 + 1) : Int) ∧ (IntKind.wrap .i64 (n17 + 1) : Int) < ((256 : Nat) : Int)) ∧ lB w15 b1 (o2 + (Int.toNat (IntKind.wrap .i64 (n17 + 1))) * 1) fun t18 => (cB t18 ((∃ m19, m19 < k13 ∧ I12 m19 (IntKind.wrap .i64 (n17 + 1)) w15)) (newC [.int .i64 n9, .int .i64 n17] 134 (fun b20 w21 => ∃ a22 l22 c22, ∃ w23, (Builtin.append_ #[108, 108] 108 #[.slice a8 l8 c8, .slice (some ⟨b20, 0, none⟩) 1 1]).run Try.prog w21 = .ok (.slice a22 l22 c22) w23 ∧ (∃ m24, m24 < k4 ∧ I3 m24 a22 l22 c22 (IntKind.wrap .i64 (n17 + 1)) w23)) w15))) (newC [.int .i64 n9, .int .i64 n17] 134 (fun b25 w26 => ∃ a27 l27 c27, ∃ w28, (Builtin.append_ #[108, 108] 108 #[.slice a8 l8 c8, .slice (some ⟨b25, 0, none⟩) 1 1]).run Try.prog w26 = .ok (.slice a27 l27 c27) w28 ∧ (∃ m29, m29 < k4 ∧ I3 m29 a27 l27 c27 (IntKind.wrap .i64 (n17 + 1)) w28)) w15))))) (R (.returned (.slice a8 l8 c8)) w6))
def scr146 : Scr := (.q 1 (.q 1 (.q 1 (.loop (dr [(3, some .slice), (4, some (.int .i64))] [(5,31)]) (.q 2 (.cond (.q 6 (.cond (.q 3 .nil) (.q 2 (.loop (dr [(5, some (.int .i64))] [(17,12)]) (.run [0,1,2] (.split 19 (.r [3,4,5,6,7,8,9] (.cond (.q 3 .nil) (.q 7 (.q 2 (.q 3 .nil))))) (.r [3,4,5,6,7,8,9] (.lit (.q 7 (.q 2 (.q 3 .nil))))))))))) (.q 2 .nil)))))))
theorem vc146 {b1 o2} {R w} (h : V146 b1 o2 R w) : Cl Try.prog 146 [.pointer (some ⟨b1, o2, none⟩)] w R :=
  cl_of scr146 Try.func146 (by kernel_rfl) _ _ (by kernel_rfl) h
/-- (*impl.reader).hex -/
def V163 (b1 o2 : Nat) (R : Rt) : Pred := fun w =>
  clV 143 ([.pointer (some ⟨b1, o2, none⟩)]) w R fun r5 w4 => ∃ n3, r5 = .int .u8 n3 ∧ lI w4 b1 (o2 + 1) fun n6 => stW b1 (o2 + 1) [.int .i64 (IntKind.wrap .i64 (n6 + 1))] (fun w7 => (cB (decide (n3 ≥ 48)) ((cB (decide (n3 ≤ 57)) (R (.returned (.int .i64 (IntKind.wrap .i64 (IntKind.wrap .u8 (n3 - 48))))) w7) ((cB (decide (n3 ≥ 97)) ((cB (decide (n3 ≤ 102)) (R (.returned (.int .i64 (IntKind.wrap .i64 ((IntKind.wrap .i64 (IntKind.wrap .u8 (n3 - 97))) + 10)))) w7) (lI w7 b1 (o2 + 1) fun n8 => clU 76 ([.pointer (some ⟨b1, o2, none⟩), .int .i64 (IntKind.wrap .i64 (n8 - 1))]) w7 R fun w9 => R (.returned (.int .i64 0)) w9))) (lI w7 b1 (o2 + 1) fun n11 => clU 76 ([.pointer (some ⟨b1, o2, none⟩), .int .i64 (IntKind.wrap .i64 (n11 - 1))]) w7 R fun w12 => R (.returned (.int .i64 0)) w12))))) ((cB (decide (n3 ≥ 97)) ((cB (decide (n3 ≤ 102)) (R (.returned (.int .i64 (IntKind.wrap .i64 ((IntKind.wrap .i64 (IntKind.wrap .u8 (n3 - 97))) + 10)))) w7) (lI w7 b1 (o2 + 1) fun n14 => clU 76 ([.pointer (some ⟨b1, o2, none⟩), .int .i64 (IntKind.wrap .i64 (n14 - 1))]) w7 R fun w15 => R (.returned (.int .i64 0)) w15))) (lI w7 b1 (o2 + 1) fun n17 => clU 76 ([.pointer (some ⟨b1, o2, none⟩), .int .i64 (IntKind.wrap .i64 (n17 - 1))]) w7 R fun w18 => R (.returned (.int .i64 0)) w18))))) w4
def scr163 : Scr := (.q 1 (.q 3 (.q 8 (.run [0,1,2] (.split 16 (.r [3,4,5,6] (.cond (.q 4 .nil) (.run [0,1,2] (.split 26 (.r [3,4,5,6] (.cond (.q 5 .nil) (.q 7 (.q 1 .nil)))) (.r [3,4,5,6] (.lit (.q 7 (.q 1 .nil)))))))) (.r [3,4,5,6] (.lit (.run [0,1,2] (.split 26 (.r [3,4,5,6] (.cond (.q 5 .nil) (.q 7 (.q 1 .nil)))) (.r [3,4,5,6] (.lit (.q 7 (.q 1 .nil)))))))))))))
theorem vc163 {b1 o2} {R w} (h : V163 b1 o2 R w) : Cl Try.prog 163 [.pointer (some ⟨b1, o2, none⟩)] w R :=
  cl_of scr163 Try.func163 (by kernel_rfl) _ _ (by kernel_rfl) h
/-- impl.low -/
def V162 (cs1 : Array Value) (R : Rt) : Pred := fun w =>
  newC cs1.toList 177 (fun b2 w3 => ∃ (cs4 : Array Value), cs4.size = 256 ∧ cellsAt w3.heap b2 0 cs4.toList ∧ ∃ (I5 : Nat → Int → World → Prop), (∃ k7, I5 k7 0 w3) ∧ ∀ k6 (d9 : Nat → Value) n10 w8, I5 k6 n10 w8 → (cB (decide (n10 < 256)) (∃ t11, (Instr.index 177 (.agg cs4) (.int .i64 n10)).run Try.prog w8 = .ok (.bool t11) w8 ∧ (cB t11 (R (.returned (.int .i64 n10)) w8) ((∃ m12, m12 < k6 ∧ I5 m12 (IntKind.wrap .i64 (n10 + 1)) w8)))) (R (.returned (.int .i64 (-1))) w8))) w
def scr162 : Scr := (.q 2 (.q 2 (.loop (dr [(6, some (.int .i64))] [(2,3),(7,6)]) (.q 1 (.cond (.q 4 (.q 1 (.cond (.q 2 .nil) (.q 2 .nil)))) (.q 1 .nil))))))
theorem vc162 {cs1} {R w} (h : V162 cs1 R w) : Cl Try.prog 162 [.agg cs1] w R :=
  cl_of scr162 Try.func162 (by kernel_rfl) _ _ (by kernel_rfl) h
/-- (*impl.reader).escape -/
def V147 (b1 o2 : Nat) (R : Rt) : Pred := fun w =>
  newC (List.replicate 256 (.bool false)) 177 (fun b3 w4 => lI w4 b1 (o2 + 1) fun n5 => stW b1 (o2 + 1) [.int .i64 (IntKind.wrap .i64 (n5 + 1))] (fun w6 => clV 143 ([.pointer (some ⟨b1, o2, none⟩)]) w6 R fun r9 w8 => ∃ n7, r9 = .int .u8 n7 ∧ ∃ (J10 : Int → World → Prop), ((cB (n7 == 100) (clU 145 ([.pointer (some ⟨b3, 0, none⟩), .int .i64 48, .int .i64 57]) w8 R fun w11 => J10 (-1) w11) ((cB (n7 == 119) (clU 145 ([.pointer (some ⟨b3, 0, none⟩), .int .i64 48, .int .i64 57]) w8 R fun w13 => clU 145 ([.pointer (some ⟨b3, 0, none⟩), .int .i64 65, .int .i64 90]) w13 R fun w15 => clU 145 ([.pointer (some ⟨b3, 0, none⟩), .int .i64 97, .int .i64 122]) w15 R fun w17 => clU 145 ([.pointer (some ⟨b3, 0, none⟩), .int .i64 95, .int .i64 95]) w17 R fun w19 => J10 (-1) w19) ((cB (n7 == 115) (clU 145 ([.pointer (some ⟨b3, 0, none⟩), .int .i64 9, .int .i64 10]) w8 R fun w21 => clU 145 ([.pointer (some ⟨b3, 0, none⟩), .int .i64 13, .int .i64 13]) w21 R fun w23 => clU 145 ([.pointer (some ⟨b3, 0, none⟩), .int .i64 32, .int .i64 32]) w23 R fun w25 => J10 (-1) w25) ((cB (n7 == 110) (J10 10 w8) ((cB (n7 == 116) (J10 9 w8) ((cB (n7 == 114) (J10 13 w8) ((cB (n7 == 120) (lI w8 b1 (o2 + 1) fun n27 => stW b1 (o2 + 1) [.int .i64 (IntKind.wrap .i64 (n27 + 1))] (fun w28 => clI 163 ([.pointer (some ⟨b1, o2, none⟩)]) w28 R fun n29 w30 => clI 163 ([.pointer (some ⟨b1, o2, none⟩)]) w30 R fun n32 w33 => clU 145 ([.pointer (some ⟨b3, 0, none⟩), .int .i64 (IntKind.wrap .i64 ((IntKind.wrap .i64 (16 * n29)) + n32)), .int .i64 (IntKind.wrap .i64 ((IntKind.wrap .i64 (16 * n29)) + n32))]) w33 R fun w35 => ∃ (cs37 : Array Value), cs37.size = 256 ∧ cellsAt w35.heap b3 0 cs37.toList ∧ stA b3 0 256 cs37 (fun w38 => ∃ (cs39 : Array Value), cs39.size = 256 ∧ cellsAt w38.heap b3 0 cs39.toList ∧ R (.returned (.tuple #[.agg cs39, .bool false])) w38) w35) w8) ((cB (decide (n7 ≥ 33)) ((cB (decide (n7 ≤ 126)) ((cB (decide (n7 ≥ 48)) ((cB (decide (n7 ≤ 57)) (lI w8 b1 (o2 + 1) fun n40 => clU 76 ([.pointer (some ⟨b1, o2, none⟩), .int .i64 n40]) w8 R fun w41 => J10 (-1) w41) ((cB (decide (n7 ≥ 97)) ((cB (decide (n7 ≤ 122)) (lI w8 b1 (o2 + 1) fun n43 => clU 76 ([.pointer (some ⟨b1, o2, none⟩), .int .i64 n43]) w8 R fun w44 => J10 (-1) w44) ((cB (decide (n7 ≥ 65)) ((cB (!(decide (n7 ≤ 90))) (J10 (IntKind.wrap .i64 n7) w8) (lI w8 b1 (o2 + 1) fun n46 => clU 76 ([.pointer (some ⟨b1, o2, none⟩), .int .i64 n46]) w8 R fun w47 => J10 (-1) w47))) (J10 (IntKind.wrap .i64 n7) w8))))) ((cB (decide (n7 ≥ 65)) ((cB (!(decide (n7 ≤ 90))) (J10 (IntKind.wrap .i64 n7) w8) (lI w8 b1 (o2 + 1) fun n49 => clU 76 ([.pointer (some ⟨b1, o2, none⟩), .int .i64 n49]) w8 R fun w50 => J10 (-1) w50))) (J10 (IntKind.wrap .i64 n7) w8))))))) ((cB (decide (n7 ≥ 97)) ((cB (decide (n7 ≤ 122)) (lI w8 b1 (o2 + 1) fun n52 => clU 76 ([.pointer (some ⟨b1, o2, none⟩), .int .i64 n52]) w8 R fun w53 => J10 (-1) w53) ((cB (decide (n7 ≥ 65)) ((cB (!(decide (n7 ≤ 90))) (J10 (IntKind.wrap .i64 n7) w8) (lI w8 b1 (o2 + 1) fun n55 => clU 76 ([.pointer (some ⟨b1, o2, none⟩), .int .i64 n55]) w8 R fun w56 => J10 (-1) w56))) (J10 (IntKind.wrap .i64 n7) w8))))) ((cB (decide (n7 ≥ 65)) ((cB (!(decide (n7 ≤ 90))) (J10 (IntKind.wrap .i64 n7) w8) (lI w8 b1 (o2 + 1) fun n58 => clU 76 ([.pointer (some ⟨b1, o2, none⟩), .int .i64 n58]) w8 R fun w59 => J10 (-1) w59))) (J10 (IntKind.wrap .i64 n7) w8))))))) (lI w8 b1 (o2 + 1) fun n61 => clU 76 ([.pointer (some ⟨b1, o2, none⟩), .int .i64 n61]) w8 R fun w62 => J10 (-1) w62))) (lI w8 b1 (o2 + 1) fun n64 => clU 76 ([.pointer (some ⟨b1, o2, none⟩), .int .i64 n64]) w8 R fun w65 => J10 (-1) w65))))))))))))))))) ∧ ∀ (d67 : Nat → Value) n68 w69, J10 n68 w69 → lI w69 b1 (o2 + 1) fun n70 => stW b1 (o2 + 1) [.int .i64 (IntKind.wrap .i64 (n70 + 1))] (fun w71 => (cB (decide (n68 ≥ 0)) (clU 145 ([.pointer (some ⟨b3, 0, none⟩), .int .i64 n68, .int .i64 n68]) w71 R fun w72 => ∃ (cs74 : Array Value), cs74.size = 256 ∧ cellsAt w72.heap b3 0 cs74.toList ∧ stA b3 0 256 cs74 (fun w75 => ∃ (cs76 : Array Value), cs76.size = 256 ∧ cellsAt w75.heap b3 0 cs76.toList ∧ R (.returned (.tuple #[.agg cs76, .bool (decide (n68 < 0))])) w75) w72) (∃ (cs77 : Array Value), cs77.size = 256 ∧ cellsAt w71.heap b3 0 cs77.toList ∧ stA b3 0 256 cs77 (fun w78 => ∃ (cs79 : Array Value), cs79.size = 256 ∧ cellsAt w78.heap b3 0 cs79.toList ∧ R (.returned (.tuple #[.agg cs79, .bool (decide (n68 < 0))])) w78) w71))) w69) w4) w
def scr147 : Scr := (.q 2 (.q 8 (.q 3 (.q 1 (.q 3 (.cut (dr [(5, some (.int .i64))] [(3,1),(15,6),(24,77)]) (.cond (.q 1 .nil) (.q 3 (.cond (.q 1 (.q 1 (.q 1 (.q 1 .nil)))) (.q 3 (.cond (.q 1 (.q 1 (.q 1 .nil))) (.q 3 (.cond (.q 1 .nil) (.q 3 (.cond (.q 1 .nil) (.q 3 (.cond (.q 1 .nil) (.q 3 (.cond (.q 8 (.q 7 (.q 3 (.q 3 .nil)))) (.run [0,1,2] (.split 70 (.run [3,4,5,6] (.split 74 (.run [7,8,9] (.split 77 (.run [10,11,12,13] (.split 81 (.r [14,15,16,17,18,19,20,21,22,23,24,25,26,27,28,29,30,31] (.lit (.q 6 .nil))) (.run [14,15,16] (.split 84 (.run [17,18,19,20,21] (.split 89 (.r [22,23,24,25,26,27,28,29,30,31] (.lit (.q 6 .nil))) (.run [22,23,24] (.split 92 (.r [25,26,27,28,29,30,31] (.cond (.q 3 .nil) (.q 6 .nil))) (.r [25,26,27,28,29,30,31] (.lit (.q 3 .nil))))))) (.run [17,18,19,20,21,22,23,24] (.split 92 (.r [25,26,27,28,29,30,31] (.cond (.q 3 .nil) (.q 6 .nil))) (.r [25,26,27,28,29,30,31] (.lit (.q 3 .nil))))))))) (.run [10,11,12,13,14,15,16] (.split 84 (.run [17,18,19,20,21] (.split 89 (.r [22,23,24,25,26,27,28,29,30,31] (.lit (.q 6 .nil))) (.run [22,23,24] (.split 92 (.r [25,26,27,28,29,30,31] (.cond (.q 3 .nil) (.q 6 .nil))) (.r [25,26,27,28,29,30,31] (.lit (.q 3 .nil))))))) (.run [17,18,19,20,21,22,23,24] (.split 92 (.r [25,26,27,28,29,30,31] (.cond (.q 3 .nil) (.q 6 .nil))) (.r [25,26,27,28,29,30,31] (.lit (.q 3 .nil))))))))) (.r [7,8,9,10,11,12,13,14,15,16,17,18,19,20,21,22,23,24,25,26,27,28,29,30,31] (.lit (.q 6 .nil))))) (.r [3,4,5,6,7,8,9,10,11,12,13,14,15,16,17,18,19,20,21,22,23,24,25,26,27,28,29,30,31] (.lit (.q 6 .nil)))))))))))))))))) (.q 8 (.q 2 (.cond (.q 3 (.q 5 .nil)) (.q 5 .nil))))))))))
theorem vc147 {b1 o2} {R w} (h : V147 b1 o2 R w) : Cl Try.prog 147 [.pointer (some ⟨b1, o2, none⟩)] w R :=
  cl_of scr147 Try.func147 (by kernel_rfl) _ _ (by kernel_rfl) h
/-- (*impl.reader).part -/
def V161 (b1 o2 : Nat) (t3 : Bool) (R : Rt) : Pred := fun w =>
  newC (List.replicate 256 (.bool false)) 177 (fun b4 w5 => clV 143 ([.pointer (some ⟨b1, o2, none⟩)]) w5 R fun r8 w7 => ∃ n6, r8 = .int .u8 n6 ∧ (cB (n6 == 92) (clV 147 ([.pointer (some ⟨b1, o2, none⟩)]) w7 R fun r12 w11 => ∃ (cs9 : Array Value), ∃ t10, r12 = .tuple #[.agg cs9, .bool t10] ∧ stA b4 0 256 cs9 (fun w13 => ∃ (cs14 : Array Value), cs14.size = 256 ∧ cellsAt w13.heap b4 0 cs14.toList ∧ R (.returned (.tuple #[.agg cs14, .bool t10])) w13) w11) ((cB (n6 == 93) ((cB (!t3) (lI w7 b1 (o2 + 1) fun n15 => clU 76 ([.pointer (some ⟨b1, o2, none⟩), .int .i64 n15]) w7 R fun w16 => lI w16 b1 (o2 + 1) fun n18 => stW b1 (o2 + 1) [.int .i64 (IntKind.wrap .i64 (n18 + 1))] (fun w19 => clU 145 ([.pointer (some ⟨b4, 0, none⟩), .int .i64 (IntKind.wrap .i64 n6), .int .i64 (IntKind.wrap .i64 n6)]) w19 R fun w20 => ∃ (cs22 : Array Value), cs22.size = 256 ∧ cellsAt w20.heap b4 0 cs22.toList ∧ stA b4 0 256 cs22 (fun w23 => ∃ (cs24 : Array Value), cs24.size = 256 ∧ cellsAt w23.heap b4 0 cs24.toList ∧ R (.returned (.tuple #[.agg cs24, .bool false])) w23) w20) w16) (lI w7 b1 (o2 + 1) fun n25 => stW b1 (o2 + 1) [.int .i64 (IntKind.wrap .i64 (n25 + 1))] (fun w26 => clU 145 ([.pointer (some ⟨b4, 0, none⟩), .int .i64 (IntKind.wrap .i64 n6), .int .i64 (IntKind.wrap .i64 n6)]) w26 R fun w27 => ∃ (cs29 : Array Value), cs29.size = 256 ∧ cellsAt w27.heap b4 0 cs29.toList ∧ stA b4 0 256 cs29 (fun w30 => ∃ (cs31 : Array Value), cs31.size = 256 ∧ cellsAt w30.heap b4 0 cs31.toList ∧ R (.returned (.tuple #[.agg cs31, .bool false])) w30) w27) w7))) (lI w7 b1 (o2 + 1) fun n32 => stW b1 (o2 + 1) [.int .i64 (IntKind.wrap .i64 (n32 + 1))] (fun w33 => clU 145 ([.pointer (some ⟨b4, 0, none⟩), .int .i64 (IntKind.wrap .i64 n6), .int .i64 (IntKind.wrap .i64 n6)]) w33 R fun w34 => ∃ (cs36 : Array Value), cs36.size = 256 ∧ cellsAt w34.heap b4 0 cs36.toList ∧ stA b4 0 256 cs36 (fun w37 => ∃ (cs38 : Array Value), cs38.size = 256 ∧ cellsAt w37.heap b4 0 cs38.toList ∧ R (.returned (.tuple #[.agg cs38, .bool false])) w37) w34) w7))))) w
def scr161 : Scr := (.q 2 (.q 3 (.q 2 (.cond (.q 6 .nil) (.run [0,1,2] (.split 17 (.r [3,4,5] (.cond (.q 6 (.q 8 (.q 5 (.q 3 .nil)))) (.q 8 (.q 5 (.q 3 .nil))))) (.r [3,4,5] (.lit (.q 8 (.q 5 (.q 3 .nil)))))))))))
theorem vc161 {b1 o2 t3} {R w} (h : V161 b1 o2 t3 R w) : Cl Try.prog 161 [.pointer (some ⟨b1, o2, none⟩), .bool t3] w R :=
  cl_of scr161 Try.func161 (by kernel_rfl) _ _ (by kernel_rfl) h
end Go.Proofs.Ytngbiaeliphdjaa.V
/- Sets of bytes in memory; the small functions of the program's reader. No statement of the seat is proved here. -/
namespace Go.Vc
open Go.RowKit
set_option linter.unusedVariables false
set_option linter.unusedSimpArgs false
/-- 256 bools. -/
def b256 (f : Nat → Bool) : List Value := (List.range 256).map fun n => .bool (f n)
theorem b256_length (f : Nat → Bool) : (b256 f).length = 256 := by simp [b256]
theorem b256_get (f : Nat → Bool) (i : Nat) (h : i < 256) : (b256 f)[i]? = some (.bool (f i)) := by simp [b256, h]
theorem b256_set (f : Nat → Bool) (i : Nat) (b : Bool) : (b256 f).set i (.bool b) = b256 (fun n => if n = i then b else f n) := by
  apply List.ext_getElem?
  intro n
  by_cases hn : n < 256
  · rw [b256_get _ _ hn, List.getElem?_set]
    by_cases h : i = n
    · subst h; simp [b256_length, hn]
    · rw [if_neg h, b256_get _ _ hn]; simp [Ne.symm h]
  · rw [List.getElem?_eq_none (by rw [List.length_set, b256_length]; omega), List.getElem?_eq_none (by rw [b256_length]; omega)]
theorem b256_false : b256 (fun _ => false) = List.replicate 256 (.bool false) := by simp [b256, List.map_const']
theorem b256_ext {f g : Nat → Bool} (h : ∀ n, n < 256 → f n = g n) : b256 f = b256 g := by
  unfold b256
  apply List.map_congr_left
  intro n hn
  rw [h n (List.mem_range.1 hn)]
theorem b256_inj {f g : Nat → Bool} (h : b256 f = b256 g) : ∀ n, n < 256 → f n = g n := by
  intro n hn
  have h1 := b256_get f n hn
  rw [h, b256_get g n hn] at h1
  simpa using h1.symm
theorem b256_scal (f : Nat → Bool) : (b256 f).all scal = true := by simp [b256, scal]
theorem stA_in {b n : Nat} {cs0 cs : List Value} {K : World → Prop} {w : World} {e : TypeId} (hb : Blk w.heap b e cs0) (hl : cs.length = n) (hl0 : cs0.length = n) (hs : cs.all scal = true)
    (h : ∀ w1, w1.heap.size = w.heap.size → Blk w1.heap b e cs → Ext (fun k => k = b) w w1 → K w1) : stA b 0 n ⟨cs⟩ K w := by
  refine ⟨hl, hs, hb.wrL (by rw [Nat.zero_add]; show cs.length ≤ _; omega), h _ setsW_size ?_ (Ext.vsets (S := fun k => k = b) (b := b) (.inl rfl) (Ext.refl _ _))⟩
  have := hb.sets (vs := cs) (o := 0)
  rw [segSet_eq _ _ _ (by omega)] at this
  simpa [hl, hl0, List.drop_of_length_le] using this
theorem Blk.all {h : Array Obj} {b : Nat} {e : TypeId} {cs : List Value} (hb : Blk h b e cs) : Vc.cellsAt h b 0 cs := hb.cellsAt (n := cs.length) (by simp) rfl
def rngC (l : List (Int × Int)) : List Value := l.flatMap fun r => [.int .i64 r.1, .int .i64 r.2]
theorem rngC_append (l m : List (Int × Int)) : rngC (l ++ m) = rngC l ++ rngC m := by simp [rngC]
theorem rngC_length (l : List (Int × Int)) : (rngC l).length = l.length * 2 := by
  induction l with
  | nil => rfl
  | cons b r ih => rw [show b :: r = [b] ++ r from rfl, rngC_append, List.length_append, ih]; simp [rngC]; omega
/-- The ending of a text that goes wrong. -/
def PanicB (n : Nat) : Ending := .panicked [{ v := .iface 90 (.int .i64 (n : Int)), recovered := false }]
end Go.Vc
namespace Go.Proofs.Ytngbiaeliphdjaa.V
open Go.Vc Go.Proofs Go.RowKit
set_option linter.unusedVariables false
set_option linter.unusedSimpArgs false

/-- The program's reader. -/
def Rd (w : World) (b : Nat) (s : ByteArray) (i g : Nat) (dp : Int) (a : Option Addr) (ln c : Nat) : Prop := Blk w.heap b 89 [.string s, .int .i64 i, .int .i64 g, .int .i64 dp, .slice a ln c]
theorem Rd.below {w w' : World} {b : Nat} {s : ByteArray} {i g : Nat} {dp : Int} {a : Option Addr} {ln c : Nat} (h : Rd w b s i g dp a ln c) (k : Below w.heap.size w w') : Rd w' b s i g dp a ln c := Blk.below h k
/-- The place is moved. -/
theorem Rd.mv {w : World} {b : Nat} {s : ByteArray} {i g : Nat} {dp : Int} {a : Option Addr} {ln c : Nat} (h : Rd w b s i g dp a ln c) {n : Int} {j : Nat} (hn : n = j) {K : World → Prop} (hK : ∀ w1, w1.heap.size = w.heap.size → Rd w1 b s j g dp a ln c → Ext (fun k => k = b) w w1 → K w1) :
    stW b (0 + 1) [.int .i64 n] K w := by
  subst hn
  exact stW_in h (by show 0 + 1 + 1 ≤ 5; decide) fun w1 s1 k1 e1 => hK w1 s1 k1 e1

theorem fail_ok (b : Nat) (n : Nat) {m : Int} (hm : m = n) (w : World) : Cl Try.prog 76 [.pointer (some ⟨b, 0, none⟩), .int .i64 m] w (fun e w' => e = PanicB n ∧ w' = w) := by
  subst hm
  apply vc76
  unfold V76
  exact ⟨rfl, rfl⟩
theorem end_ok {w : World} {b : Nat} {s : ByteArray} {i g : Nat} {dp : Int} {a : Option Addr} {ln c : Nat} (h : Rd w b s i g dp a ln c) : Cl Try.prog 75 [.pointer (some ⟨b, 0, none⟩)] w (RetB (.bool (decide (s.size ≤ i))) w) := by
  apply vc75
  unfold V75
  refine drw_in fun w1 q1 e1 => ?_
  have h1 := Blk.keep h e1 fun h => h
  refine ⟨i, h1.cell 1, s, h1.cell 0, ?_, Ext.to (Below.refl _ _) e1 fun _ h => h.elim⟩
  simp only [ge_iff_le, Int.ofNat_le]
theorem need_ret {w : World} {b : Nat} {s : ByteArray} {i g : Nat} {dp : Int} {a : Option Addr} {ln c : Nat} (h : Rd w b s i g dp a ln c) (hi : i < s.size) : Cl Try.prog 143 [.pointer (some ⟨b, 0, none⟩)] w (RetB (.int .u8 (at_ (L s) i)) w) := by
  apply vc143
  unfold V143
  refine (end_ok h).ret fun w1 b1 => ⟨_, rfl, fun g1 => ?_, fun g1 => ?_⟩
  · have := of_decide_eq_true g1; omega
  · refine drw_in fun w2 q2 e2 => ?_
    have h2 := Blk.keep (h.below b1) e2 fun h => h
    exact ⟨s, h2.cell 0, i, h2.cell 1, ⟨by omega, by omega⟩, rfl, Ext.to b1 e2 fun _ h => h.elim⟩
theorem need_bad {w : World} {b : Nat} {s : ByteArray} {i g : Nat} {dp : Int} {a : Option Addr} {ln c : Nat} (h : Rd w b s i g dp a ln c) (hi : ¬ i < s.size) : Cl Try.prog 143 [.pointer (some ⟨b, 0, none⟩)] w (fun e w' => e = PanicB s.size ∧ Below w.heap.size w w') := by
  apply vc143
  unfold V143
  refine (end_ok h).ret fun w1 b1 => ⟨_, rfl, fun g1 => ?_, fun g1 => ?_⟩
  · refine ⟨s, (h.below b1).cell 0, (fail_ok b s.size rfl w1).use fun e w2 he => ?_⟩
    obtain ⟨rfl, rfl⟩ := he
    exact ⟨rfl, b1⟩
  · have := of_decide_eq_false g1; omega
/-- One digit. -/
def hexP (l : Bytes) (i : Nat) : Pr Nat := if l.length ≤ i then .bad l.length else match hexv (at_ l i) with | none => .bad i | some v => .ok v
theorem hex_ok {w : World} {b : Nat} {s : ByteArray} {i g : Nat} {dp : Int} {a : Option Addr} {ln c : Nat} (h : Rd w b s i g dp a ln c) (hi : i < 100000) :
    Cl Try.prog 163 [.pointer (some ⟨b, 0, none⟩)] w (fun e w' => Ext (fun k => k = b) w w' ∧ match hexP (L s) i with | .bad n => e = PanicB n | .ok v => e = .returned (.int .i64 (v : Int)) ∧ Rd w' b s (i + 1) g dp a ln c) := by
  apply vc163
  unfold V163
  have hsz := size_L s
  by_cases hl : i < s.size
  · refine (need_ret h hl).ret fun w1 b1 => ⟨_, rfl, i, (h.below b1).cell 1, ?_⟩
    refine (h.below b1).mv (j := i + 1) (by rw [w64 (by omega)]; omega) fun w2 s2 k2 e2 => ?_
    have hE : Ext (fun k => k = b) w w2 := (Ext.of_below b1).trans e2
    have hlt := at_lt (L s) i
    have hP : hexP (L s) i = match hexv (at_ (L s) i) with | none => .bad i | some v => .ok v := by unfold hexP; rw [if_neg (by omega)]
    rw [hP]
    have hw : IntKind.wrap .i64 (((i + 1 : Nat) : Int) - 1) = (i : Int) := by rw [w64 (by omega)]; omega
    have hbad : ¬ (48 ≤ at_ (L s) i ∧ at_ (L s) i ≤ 57) → ¬ (97 ≤ at_ (L s) i ∧ at_ (L s) i ≤ 102) → ∀ F : Value → World → Prop, ∃ n8 : Int, cellH w2.heap b (0 + 1) = some (.int .i64 n8) ∧ Cl Try.prog 76 [.pointer (some ⟨b, 0, none⟩), .int .i64 (IntKind.wrap .i64 (n8 - 1))] w2 (retG F
        (fun c1 w' => Ext (fun k => k = b) w w' ∧ match (match hexv (at_ (L s) i) with | none => Pr.bad i | some v => Pr.ok v) with | .bad n => Ending.panicked c1 = PanicB n | .ok v => Ending.panicked c1 = Ending.returned (.int .i64 (v : Int)) ∧ Rd w' b s (i + 1) g dp a ln c)) := by
      intro n1 n2 F
      refine ⟨_, k2.cell 1, (fail_ok b i hw w2).use fun e w3 he => ?_⟩
      obtain ⟨rfl, rfl⟩ := he
      refine ⟨hE, ?_⟩
      rw [show hexv (at_ (L s) i) = none from by unfold hexv; rw [if_neg n1, if_neg n2]]
      rfl
    have ok1 : 48 ≤ at_ (L s) i → at_ (L s) i ≤ 57 → (Ext (fun k => k = b) w w2 ∧ match (match hexv (at_ (L s) i) with | none => Pr.bad i | some v => Pr.ok v) with | .bad n => Ending.returned (.int .i64 (IntKind.wrap .i64 (IntKind.wrap .u8 ((at_ (L s) i : Int) - 48)))) = PanicB n | .ok v => Ending.returned (.int .i64 (IntKind.wrap .i64 (IntKind.wrap .u8 ((at_ (L s) i : Int) - 48)))) = .returned (.int .i64 (v : Int)) ∧ Rd w2 b s (i + 1) g dp a ln c) := by
      intro h1 h2
      refine ⟨hE, ?_⟩
      rw [show hexv (at_ (L s) i) = some (at_ (L s) i - 48) from by unfold hexv; rw [if_pos (by omega)]]
      refine ⟨?_, k2⟩
      rw [w8, w64 (by omega)]; congr 2; omega
    have ok2 : 97 ≤ at_ (L s) i → at_ (L s) i ≤ 102 → (Ext (fun k => k = b) w w2 ∧ match (match hexv (at_ (L s) i) with | none => Pr.bad i | some v => Pr.ok v) with | .bad n => Ending.returned (.int .i64 (IntKind.wrap .i64 (IntKind.wrap .i64 (IntKind.wrap .u8 ((at_ (L s) i : Int) - 97)) + 10))) = PanicB n | .ok v => Ending.returned (.int .i64 (IntKind.wrap .i64 (IntKind.wrap .i64 (IntKind.wrap .u8 ((at_ (L s) i : Int) - 97)) + 10))) = .returned (.int .i64 (v : Int)) ∧ Rd w2 b s (i + 1) g dp a ln c) := by
      intro h1 h2
      refine ⟨hE, ?_⟩
      rw [show hexv (at_ (L s) i) = some (at_ (L s) i - 87) from by unfold hexv; rw [if_neg (by omega), if_pos (by omega)]]
      refine ⟨?_, k2⟩
      rw [w8, w64 (n := ((at_ (L s) i : Int) - 97) % 256) (by omega), w64 (by omega)]; congr 2; omega
    refine ⟨fun g1 => ⟨fun g2 => ?_, fun g2 => ⟨fun g3 => ⟨fun g4 => ?_, fun g4 => ?_⟩, fun g3 => ?_⟩⟩, fun g1 => ⟨fun g3 => ⟨fun g4 => ?_, fun g4 => ?_⟩, fun g3 => ?_⟩⟩ <;>
      simp only [decide_eq_true_eq, decide_eq_false_iff_not] at * <;>
      first
      | exact ok1 (by omega) (by omega)
      | exact ok2 (by omega) (by omega)
      | exact hbad (by omega) (by omega) _
  · refine (need_bad h hl).use fun e w1 he => ?_
    obtain ⟨rfl, b1⟩ := he
    refine ⟨Ext.of_below b1, ?_⟩
    unfold hexP
    rw [if_pos (by omega), ← hsz]
    rfl

/-! ### The bytes' sets -/
theorem add_ok {w : World} {b : Nat} {f : Nat → Bool} (h : Blk w.heap b 177 (b256 f)) (lo hi : Nat) (hh : hi < 256) :
    Cl Try.prog 145 [.pointer (some ⟨b, 0, none⟩), .int .i64 lo, .int .i64 hi] w (fun e w' => e = .returned (.tuple #[]) ∧ Blk w'.heap b 177 (b256 fun n => f n || decide (lo ≤ n ∧ n ≤ hi)) ∧ Ext (fun k => k = b) w w') := by
  apply vc145
  unfold V145
  refine ⟨fun k j w' => ∃ i : Nat, j = i ∧ lo ≤ i ∧ (i ≤ hi + 1 ∨ i = lo) ∧ k = hi + 1 - i ∧ Blk w'.heap b 177 (b256 fun n => f n || decide (lo ≤ n ∧ n < i)) ∧ Ext (fun k => k = b) w w', ⟨_, lo, rfl, Nat.le_refl _, .inr rfl, rfl, ?_, Ext.refl _ _⟩, ?_⟩
  · rw [b256_ext (g := f) fun n _ => by rw [decide_eq_false (by omega), Bool.or_false]]; exact h
  rintro k d j w1 ⟨i, rfl, hl, hi2, rfl, hB, hE⟩
  refine ⟨fun g => ?_, fun g => ?_⟩
  · have g' : i ≤ hi := by have := of_decide_eq_true g; omega
    refine ⟨⟨by omega, by show (i : Int) < 256; omega⟩, ?_⟩
    rw [show 0 + Int.toNat (i : Int) * 1 = i from by omega]
    refine stW_in hB (by rw [b256_length]; show i + 1 ≤ 256; omega) fun w2 s2 k2 e2 => ?_
    refine ⟨hi + 1 - (i + 1), by omega, i + 1, by rw [w64 (by omega)]; omega, by omega, .inl (by omega), rfl, ?_, hE.trans e2⟩
    have : segSet (b256 fun n => f n || decide (lo ≤ n ∧ n < i)) i [.bool true] = b256 fun n => f n || decide (lo ≤ n ∧ n < i + 1) := by
      show (b256 _).set i _ = _
      rw [b256_set]
      apply b256_ext
      intro n hn
      by_cases hni : n = i
      · subst hni; simp [hl]
      · rw [if_neg hni]; congr 1; apply decide_eq_decide.2; omega
    rw [← this]; exact k2
  · have g' : hi < i := by have := of_decide_eq_false g; omega
    refine ⟨rfl, ?_, hE⟩
    rw [b256_ext (g := fun n => f n || decide (lo ≤ n ∧ n < i)) fun n _ => by congr 1; apply decide_eq_decide.2; omega]
    exact hB
end Go.Proofs.Ytngbiaeliphdjaa.V
/- The pieces that are read are small. No statement of the seat is proved here. -/
namespace Go.Vc
set_option linter.unusedVariables false
set_option linter.unusedSimpArgs false
structure Small (p : Pc) : Prop where
  set : p.set.length ≤ 256
  kids : p.kids.length ≤ 121
def AllS (ps : List Pc) : Prop := ∀ p ∈ ps, Small p
theorem AllS.app {ps : List Pc} (h : AllS ps) {x : Pc} (hx : Small x) : AllS (ps ++ [x]) := by
  intro p hp
  rcases List.mem_append.1 hp with hp | hp
  · exact h p hp
  · rw [List.mem_singleton.1 hp]; exact hx
theorem runsF_length (f : Nat → Bool) : ∀ (k i : Nat), k = 256 - i → (runsF f i).length ≤ 256 - i := by
  intro k
  induction k using Nat.strongRecOn with
  | _ k ih =>
    intro i hk
    rw [runsF]
    split
    · split
      · have := runEnd_ge f i
        have := ih (256 - (runEnd f i + 1)) (by omega) (runEnd f i + 1) rfl
        simp only [List.length_cons]; omega
      · have := ih (256 - (i + 1)) (by omega) (i + 1) rfl; omega
    · simp
theorem small_set (f : Nat → Bool) : Small (pSet (runs f)) := ⟨by have := runsF_length f _ 0 rfl; show (runsF f 0).length ≤ 256; omega, by simp [pSet]⟩
theorem small_bare (n : Int) : Small ⟨n, [], 0, 0, false, 0, []⟩ := ⟨by simp, by simp⟩
def SubS (sub : St → Pr (St × Int)) : Prop := ∀ i g out j g' out' k, AllS out → sub (i, g, out) = .ok ((j, g', out'), k) → AllS out'
theorem atomP_small {l : Bytes} {sub : St → Pr (St × Int)} (hsub : SubS sub) {deep : Bool} {i g j g' : Nat} {out out' : List Pc} {k : Int} (hw : AllS out) (h : atomP sub deep l i g out = .ok ((j, g', out'), k)) : AllS out' := by
  unfold atomP at h
  split at h
  · split at h
    · cases h
    split at h
    · cases h
    · rename_i hs
      have h1 := hsub _ _ _ _ _ _ _ hw hs
      split at h
      · cases h
      split at h
      · cases h; exact h1.app ⟨by simp [pGrp], by simp [pGrp]⟩
      · cases h
  split at h
  · split at h
    · cases h
    · rename_i hs
      cases h
      refine hw.app ?_
      unfold setP at hs
      split at hs
      · cases hs
      · generalize clsP l _ true [] = r at hs
        cases r with
        | bad e => cases hs
        | ok y => cases hs; exact small_set _
  split at h
  · cases h; exact hw.app (small_set _)
  split at h
  · cases h; exact hw.app (small_bare 6)
  split at h
  · cases h; exact hw.app (small_bare 7)
  split at h
  · split at h
    · cases h
    · cases h; exact hw.app (small_set _)
  split at h
  · cases h
  · cases h; exact hw.app ⟨by simp [pSet], by simp [pSet]⟩
theorem pieceP_small {l : Bytes} {sub : St → Pr (St × Int)} (hsub : SubS sub) {deep : Bool} {i g j g' : Nat} {out out' : List Pc} {k : Int} (hw : AllS out) (h : pieceP sub deep l i g out = .ok ((j, g', out'), k)) : AllS out' := by
  unfold pieceP at h
  split at h
  · cases h
  · rename_i ha
    have h1 := atomP_small hsub hw ha
    unfold cntR at h
    split at h
    · cases h
    · cases h; exact h1
    · cases h; exact h1.app ⟨by simp [pRep], by simp [pRep]⟩
theorem seqL_small {l : Bytes} {sub : St → Pr (St × Int)} (hsub : SubS sub) {deep : Bool} (hl : l.length ≤ 120) : ∀ (n : Nat) {i g j g' : Nat} {out out' : List Pc} {kids : List Int} {k : Int}, n = l.length - i → i ≤ l.length → kids.length ≤ i → AllS out → seqL sub deep l i g out kids = .ok ((j, g', out'), k) → AllS out' := by
  intro n
  induction n using Nat.strongRecOn with
  | _ n ih =>
    intro i g j g' out out' kids k hn hi hk hw h
    rw [seqL] at h
    split at h
    · split at h
      · cases h
      · rename_i hp
        have h1 := pieceP_small hsub hw hp
        split at h
        · rename_i j1 _ _ _ hj
          by_cases hjl : j1 ≤ l.length
          · exact ih _ (by omega) rfl hjl (by simp; omega) h1 h
          · rw [seqL, dif_neg (by omega)] at h
            cases h
            exact h1.app ⟨by simp [pSeq], by simp [pSeq]; omega⟩
        · cases h
    · cases h
      exact hw.app ⟨by simp [pSeq], by simp [pSeq]; omega⟩
theorem altL_small {l : Bytes} {sub : St → Pr (St × Int)} (hsub : SubS sub) (hsl : SubOk l sub) {deep : Bool} (hl : l.length ≤ 120) : ∀ (n : Nat) {i g j g' : Nat} {out out' : List Pc} {kids : List Int} {k : Int}, n = l.length - i → i ≤ l.length → kids.length ≤ i + 1 → AllS out → altL sub deep l i g out kids = .ok ((j, g', out'), k) → AllS out' := by
  intro n
  induction n using Nat.strongRecOn with
  | _ n ih =>
    intro i g j g' out out' kids k hn hi hk hw h
    rw [altL] at h
    split at h
    · split at h
      · cases h
      · rename_i hp
        have h0 := seqL_len hsl _ rfl (by omega) hp
        have h1 := seqL_small hsub hl _ rfl (by omega) (by simp) hw hp
        split at h
        · exact ih _ (by omega) rfl (by omega) (by simp; omega) h1 h
        · cases h
    · unfold altE at h
      split at h
      · cases h; exact hw
      · cases h
        exact hw.app ⟨by simp [pAlt], by simp [pAlt]; omega⟩
theorem patP_small (l : Bytes) (hl : l.length ≤ 120) : ∀ (d : Nat) {i g j g' : Nat} {out out' : List Pc} {k : Int}, i ≤ l.length → AllS out → patP l d (i, g, out) = .ok ((j, g', out'), k) → AllS out' := by
  have step : ∀ (sub : St → Pr (St × Int)) (deep : Bool) {i g j g' : Nat} {out out' : List Pc} {k : Int}, SubS sub → SubOk l sub → i ≤ l.length → AllS out → (match seqL sub deep l i g out [] with
    | .bad e => .bad e
    | .ok ((j, g', out'), x) => altL sub deep l j g' out' [x]) = Pr.ok ((j, g', out'), k) → AllS out' := by
    intro sub deep i g j g' out out' k hs hsl hi hw h
    split at h
    · cases h
    · rename_i hq
      have h0 := seqL_len hsl _ rfl hi hq
      have h1 := seqL_small hs hl _ rfl hi (by simp) hw hq
      exact altL_small hs hsl hl _ rfl h0.2.1 (by simp) h1 h
  intro d
  induction d with
  | zero =>
    intro i g j g' out out' k hi hw h
    exact step _ _ (by intro i g out j g' out' k _ h; cases h) (by intro i g out j g' out' k _ h; cases h) hi hw h
  | succ d ih =>
    intro i g j g' out out' k hi hw h
    refine step _ _ ?_ (patP_len l d) hi hw h
    intro i g out j g' out' k hw h
    by_cases hi : i ≤ l.length
    · exact ih hi hw h
    · -- out of the text nothing is read
      have hs : ∀ (sub : St → Pr (St × Int)) (deep : Bool), seqL sub deep l i g out [] = .ok ((i, g, out ++ [pSeq []]), (out.length : Int)) := fun sub deep => seqL_out (by omega)
      have ha : ∀ (sub : St → Pr (St × Int)) (deep : Bool) (o : List Pc) (x : Int), altL sub deep l i g o [x] = .ok ((i, g, o), x) := fun sub deep o x => by rw [altL_out (by omega)]; rfl
      cases d with
      | zero => simp only [patP, hs, ha] at h; cases h; exact hw.app ⟨by simp [pSeq], by simp [pSeq]⟩
      | succ d => simp only [patP, hs, ha] at h; cases h; exact hw.app ⟨by simp [pSeq], by simp [pSeq]⟩
theorem readP_small (l : Bytes) : AllS (readP l).pieces ∧ (readP l).pieces.length ≤ 482 ∧ (readP l).groups ≤ 9 := by
  by_cases h : (readP l).ok = true
  · have h1 := readP_wf h
    refine ⟨?_, h1.2.2.2.1, h1.2.2.1⟩
    have hl := h1.2.2.2.2.1
    unfold readP
    rw [if_neg (by omega)]
    split
    · intro p hp; cases hp
    · rename_i hp
      split
      · intro p hp; cases hp
      · exact patP_small l hl 6 (by omega) (by intro p hp; cases hp) hp
  · have h' : (readP l).ok = false := by simpa using h
    have h1 := readP_bad h'
    rw [h1.1, h1.2]
    exact ⟨(by intro p hp; cases hp), by simp, by omega⟩
end Go.Vc
/- Escapes and parts of sets, in the program's reader. No statement of the seat is proved here. -/
namespace Go.Proofs.Ytngbiaeliphdjaa.V
open Go.Vc Go.Proofs Go.RowKit
set_option linter.unusedVariables false
set_option linter.unusedSimpArgs false

theorem inR_app (r r' : Rs) (n : Nat) : inR (r ++ r') n = (inR r n || inR r' n) := by simp [inR]
theorem inR_one (lo hi n : Nat) : inR [(lo, hi)] n = decide (lo ≤ n ∧ n ≤ hi) := by simp [inR]
theorem addR_ok {w : World} {b : Nat} {r : Rs} (h : Blk w.heap b 177 (b256 (inR r))) (lo hi : Nat) (hh : hi < 256) {lo' hi' : Int} (e1 : lo' = lo) (e2 : hi' = hi) :
    Cl Try.prog 145 [.pointer (some ⟨b, 0, none⟩), .int .i64 lo', .int .i64 hi'] w (fun e w' => e = .returned (.tuple #[]) ∧ Blk w'.heap b 177 (b256 (inR (r ++ [(lo, hi)]))) ∧ Ext (fun k => k = b) w w') := by
  subst e1 e2
  refine (add_ok h lo hi hh).use fun e w' he => ?_
  rw [b256_ext (g := inR (r ++ [(lo, hi)])) fun n _ => by rw [inR_app, inR_one]] at he
  exact he
theorem inR_nil : inR [] = fun _ => false := by funext n; rfl
/-- The whole array is stored to itself and given back. -/
theorem self_out {w w0 : World} {b k : Nat} {f : Nat → Bool} {t : Bool} {R : Ending → World → Prop} (h : Blk w.heap k 177 (b256 f)) (hR : ∀ w', Ext (fun x => x = k) w w' → R (.returned (.tuple #[.agg ⟨b256 f⟩, .bool t])) w') :
    ∃ (cs37 : Array Value), cs37.size = 256 ∧ cellsAt w.heap k 0 cs37.toList ∧ stA k 0 256 cs37 (fun (w38) => ∃ (cs39 : Array Value), cs39.size = 256 ∧ cellsAt w38.heap k 0 cs39.toList ∧ R (.returned (.tuple #[.agg cs39, .bool t])) w38) w := by
  refine ⟨⟨b256 f⟩, by simp [b256_length], h.all, ?_⟩
  refine stA_in h (b256_length f) (b256_length f) (b256_scal f) fun w1 s1 k1 e1 => ?_
  exact ⟨⟨b256 f⟩, by simp [b256_length], k1.all, hR w1 e1⟩

/-- What an escape gives. -/
def EscR (w : World) (b : Nat) (s : ByteArray) (g : Nat) (dp : Int) (a : Option Addr) (ln c : Nat) (r : Pr (Nat × Rs × Option Nat)) : Ending → World → Prop := fun e w' => Ext (fun k => k = b) w w' ∧
  match r with
  | .bad n => e = PanicB n
  | .ok (j, rs, o) => e = .returned (.tuple #[.agg ⟨b256 (inR rs)⟩, .bool o.isNone]) ∧ Rd w' b s j g dp a ln c

theorem escape_ok {w : World} {b : Nat} {s : ByteArray} {i g : Nat} {dp : Int} {a : Option Addr} {ln c : Nat} (h : Rd w b s i g dp a ln c) (hi : i < 10000) :
    Cl Try.prog 147 [.pointer (some ⟨b, 0, none⟩)] w (EscR w b s g dp a ln c (escP (L s) (i + 1))) := by
  apply vc147
  unfold V147
  have hsz := size_L s
  have hbl := h.lt
  refine newC_in fun w4 s4 k4 e4 => ?_
  have h4 : Rd w4 b s i g dp a ln c := Blk.keep h e4 fun h => h
  refine ⟨i, h4.cell 1, ?_⟩
  refine h4.mv (j := i + 1) (by rw [w64 (by omega)]; omega) fun w6 s6 h6 e6 => ?_
  have k6 := k4.keep e6 (by omega)
  have E6 : Ext (fun k => k = b) w w6 := (Ext.mono e4 fun _ _ h => h.elim).trans e6
  by_cases hl : i + 1 < s.size
  case neg =>
    refine (need_bad h6 hl).use fun e w8 he => ?_
    obtain ⟨rfl, b8⟩ := he
    refine ⟨E6.trans (Ext.of_below b8), ?_⟩
    unfold escP
    rw [if_pos (by omega), ← hsz]; rfl
  refine (need_ret h6 hl).ret fun w8 b8 => ⟨_, rfl, ?_⟩
  have h8 := h6.below b8
  have k8 := k6.below b8
  rw [← b256_false, ← inR_nil] at k8
  have E8 : Ext (fun k => k = b) w w8 := E6.trans (Ext.of_below b8)
  have hc := at_lt (L s) (i + 1)
  generalize hcc : at_ (L s) (i + 1) = ch at *
  have hP : ch ≠ 120 → escP (L s) (i + 1) = match escC ch with | some (r, o) => .ok (i + 2, r, o) | none => .bad (i + 1) := by
    intro h1; unfold escP; rw [if_neg (by omega), hcc, if_neg h1]; try rfl
  have hbad : escC ch = none → ch ≠ 120 → ∀ F : Value → World → Prop, ∃ n8 : Int, cellH w8.heap b (0 + 1) = some (.int .i64 n8) ∧ Cl Try.prog 76 [.pointer (some ⟨b, 0, none⟩), .int .i64 n8] w8 (retG F
        (fun c1 w' => EscR w b s g dp a ln c (escP (L s) (i + 1)) (.panicked c1) w')) := by
    intro n1 n2 F
    refine ⟨_, h8.cell 1, (fail_ok b (i + 1) rfl w8).use fun e w3 he => ?_⟩
    obtain ⟨rfl, rfl⟩ := he
    refine ⟨E8, ?_⟩
    rw [hP n2, n1]; rfl
  refine ⟨fun n w' => ∃ r o, escC ch = some (r, o) ∧ ch ≠ 120 ∧ Rd w' b s (i + 1) g dp a ln c ∧ Ext (fun k => k = b) w w' ∧
      ((o = none ∧ n = -1 ∧ Blk w'.heap w.heap.size 177 (b256 (inR r))) ∨ (∃ v, o = some v ∧ r = [(v, v)] ∧ v < 256 ∧ n = v ∧ Blk w'.heap w.heap.size 177 (b256 (inR [])))), ?_, ?_⟩
  · have jone : ∀ {n : Int} {v : Nat}, escC ch = some ([(v, v)], some v) → ch ≠ 120 → n = v → v < 256 → ∃ r o, escC ch = some (r, o) ∧ ch ≠ 120 ∧ Rd w8 b s (i + 1) g dp a ln c ∧ Ext (fun k => k = b) w w8 ∧
      ((o = none ∧ n = -1 ∧ Blk w8.heap w.heap.size 177 (b256 (inR r))) ∨ (∃ v, o = some v ∧ r = [(v, v)] ∧ v < 256 ∧ n = v ∧ Blk w8.heap w.heap.size 177 (b256 (inR [])))) :=
      fun h1 h2 h3 h4 => ⟨_, _, h1, h2, h8, E8, .inr ⟨_, rfl, rfl, h4, h3, k8⟩⟩
    have hkeep : ∀ {w' : World}, Ext (fun k => k = w.heap.size) w8 w' → Rd w' b s (i + 1) g dp a ln c ∧ Ext (fun k => k = b) w w' := fun e =>
      ⟨Blk.keep h8 e (by omega), E8.step e fun k hk h => by omega⟩
    refine ⟨fun g1 => ?_, fun g1 => ⟨fun g2 => ?_, fun g2 => ⟨fun g3 => ?_, fun g3 => ⟨fun g4 => ?_, fun g4 => ⟨fun g5 => ?_, fun g5 => ⟨fun g6 => ?_, fun g6 => ⟨fun g7 => ?_, fun g7 => ?_⟩⟩⟩⟩⟩⟩⟩
    all_goals try simp only [beq_iff_eq, beq_eq_false_iff_ne, ne_eq] at g1
    all_goals try simp only [beq_iff_eq, beq_eq_false_iff_ne, ne_eq] at g2
    all_goals try simp only [beq_iff_eq, beq_eq_false_iff_ne, ne_eq] at g3
    all_goals try simp only [beq_iff_eq, beq_eq_false_iff_ne, ne_eq] at g4
    all_goals try simp only [beq_iff_eq, beq_eq_false_iff_ne, ne_eq] at g5
    all_goals try simp only [beq_iff_eq, beq_eq_false_iff_ne, ne_eq] at g6
    all_goals try simp only [beq_iff_eq, beq_eq_false_iff_ne, ne_eq] at g7
    · obtain rfl : ch = 100 := by omega
      refine (addR_ok k8 48 57 (by decide) rfl rfl).use fun e w' he => ?_
      obtain ⟨rfl, k9, e9⟩ := he
      exact ⟨rfl, _, _, rfl, by decide, (hkeep e9).1, (hkeep e9).2, .inl ⟨rfl, rfl, k9⟩⟩
    · obtain rfl : ch = 119 := by omega
      refine (addR_ok k8 48 57 (by decide) rfl rfl).use fun e w9 he => ?_
      obtain ⟨rfl, k9, e9⟩ := he
      refine ⟨rfl, (addR_ok k9 65 90 (by decide) rfl rfl).use fun e w10 he => ?_⟩
      obtain ⟨rfl, k10, e10⟩ := he
      refine ⟨rfl, (addR_ok k10 97 122 (by decide) rfl rfl).use fun e w11 he => ?_⟩
      obtain ⟨rfl, k11, e11⟩ := he
      refine ⟨rfl, (addR_ok k11 95 95 (by decide) rfl rfl).use fun e w12 he => ?_⟩
      obtain ⟨rfl, k12, e12⟩ := he
      have e13 := ((e9.trans e10).trans e11).trans e12
      exact ⟨rfl, _, _, rfl, by decide, (hkeep e13).1, (hkeep e13).2, .inl ⟨rfl, rfl, k12⟩⟩
    · obtain rfl : ch = 115 := by omega
      refine (addR_ok k8 9 10 (by decide) rfl rfl).use fun e w9 he => ?_
      obtain ⟨rfl, k9, e9⟩ := he
      refine ⟨rfl, (addR_ok k9 13 13 (by decide) rfl rfl).use fun e w10 he => ?_⟩
      obtain ⟨rfl, k10, e10⟩ := he
      refine ⟨rfl, (addR_ok k10 32 32 (by decide) rfl rfl).use fun e w11 he => ?_⟩
      obtain ⟨rfl, k11, e11⟩ := he
      have e13 := (e9.trans e10).trans e11
      exact ⟨rfl, _, _, rfl, by decide, (hkeep e13).1, (hkeep e13).2, .inl ⟨rfl, rfl, k11⟩⟩
    · obtain rfl : ch = 110 := by omega
      exact jone rfl (by decide) rfl (by decide)
    · obtain rfl : ch = 116 := by omega
      exact jone rfl (by decide) rfl (by decide)
    · obtain rfl : ch = 114 := by omega
      exact jone rfl (by decide) rfl (by decide)
    · obtain rfl : ch = 120 := by omega
      have hP' : escP (L s) (i + 1) = escX (L s) (i + 1) := by unfold escP; rw [if_neg (by omega), hcc, if_pos rfl]
      rw [hP']
      refine ⟨_, h8.cell 1, ?_⟩
      refine h8.mv (j := i + 2) (by rw [w64 (by omega)]; omega) fun w9 s9 h9 e9 => ?_
      have E9 := E8.trans e9
      have k9 := k8.keep e9 (by omega)
      refine (hex_ok h9 (by omega)).use fun e w10 he => ?_
      obtain ⟨e10, he⟩ := he
      have E10 := E9.trans e10
      have k10 := k9.keep e10 (by omega)
      unfold hexP at he
      unfold escX
      by_cases h12 : (L s).length ≤ i + 2
      · rw [if_pos h12] at he
        subst he
        rw [if_pos (show (L s).length ≤ i + 1 + 1 by omega)]
        exact ⟨E10, rfl⟩
      rw [if_neg h12] at he
      rw [if_neg (show ¬ (L s).length ≤ i + 1 + 1 by omega), show i + 1 + 1 = i + 2 from rfl, show i + 1 + 2 = i + 3 from rfl, show i + 1 + 3 = i + 4 from rfl]
      cases hh : hexv (at_ (L s) (i + 2)) with
      | none => rw [hh] at he; subst he; exact ⟨E10, rfl⟩
      | some v1 =>
        rw [hh] at he
        obtain ⟨rfl, h10⟩ := he
        refine ⟨_, rfl, (hex_ok h10 (by omega)).use fun e w11 he => ?_⟩
        obtain ⟨e11, he⟩ := he
        have E11 := E10.trans e11
        have k11 := k10.keep e11 (by omega)
        unfold hexP at he
        simp only []
        by_cases h13 : (L s).length ≤ i + 3
        · rw [if_pos h13] at he
          subst he
          rw [if_pos h13]
          exact ⟨E11, rfl⟩
        rw [if_neg h13] at he
        rw [if_neg h13]
        cases hh2 : hexv (at_ (L s) (i + 3)) with
        | none => rw [hh2] at he; subst he; exact ⟨E11, rfl⟩
        | some v2 =>
          rw [hh2] at he
          obtain ⟨rfl, h11⟩ := he
          have := hexv_lt hh
          have := hexv_lt hh2
          have hw : IntKind.wrap .i64 (IntKind.wrap .i64 (16 * (v1 : Int)) + v2) = ((16 * v1 + v2 : Nat) : Int) := by rw [w64 (n := 16 * (v1 : Int)) (by omega), w64 (by omega)]; omega
          refine ⟨_, rfl, (addR_ok k11 (16 * v1 + v2) (16 * v1 + v2) (by omega) hw hw).use fun e w12 he => ?_⟩
          obtain ⟨rfl, k12, e12⟩ := he
          refine ⟨rfl, self_out (w0 := w) (b := b) k12 fun w13 e13 => ?_⟩
          refine ⟨E11.step (e12.trans e13) fun k hk h => by omega, rfl, ?_⟩
          exact Blk.keep h11 (e12.trans e13) (by omega)
    · have hn : ch ≠ 120 := by omega
      repeat' (apply And.intro <;> intro g)
      all_goals simp only [decide_eq_true_eq, decide_eq_false_iff_not, Bool.not_eq_true', Bool.not_eq_false', ge_iff_le] at *
      all_goals first
        | exact hbad (by unfold escC; rw [if_neg (by omega), if_neg (by omega), if_neg (by omega), if_neg (by omega), if_neg (by omega), if_neg (by omega), if_neg (by omega)]) hn _
        | exact jone (v := ch) (by unfold escC; rw [if_neg (by omega), if_neg (by omega), if_neg (by omega), if_neg (by omega), if_neg (by omega), if_neg (by omega), if_pos (by omega)]) hn (by rw [w64 (by omega)]) hc
  · rintro d n w9 ⟨r, o, hr, hn, h9, E9, ho⟩
    refine ⟨_, h9.cell 1, ?_⟩
    refine h9.mv (j := i + 2) (by rw [w64 (by omega)]; omega) fun w10 s10 h10 e10 => ?_
    have hP' : escP (L s) (i + 1) = .ok (i + 2, r, o) := by rw [hP hn, hr]
    rw [hP']
    rcases ho with ⟨rfl, rfl, hB⟩ | ⟨v, rfl, rfl, hv, rfl, hB⟩
    · refine ⟨fun g => by simp at g, fun _ => self_out (w0 := w) (b := b) (hB.keep e10 (by omega)) fun w13 e13 => ?_⟩
      exact ⟨(E9.trans e10).step e13 fun k hk h => by omega, rfl, Blk.keep h10 e13 (by omega)⟩
    · refine ⟨fun g => ?_, fun g => by have := of_decide_eq_false g; omega⟩
      refine (addR_ok (hB.keep e10 (by omega)) v v hv rfl rfl).use fun e w12 he => ?_
      obtain ⟨rfl, k12, e12⟩ := he
      have hd : decide ((v : Int) < 0) = false := by simp
      rw [hd]
      refine ⟨rfl, self_out (w0 := w) (b := b) k12 fun w13 e13 => ?_⟩
      exact ⟨(E9.trans e10).step (e12.trans e13) fun k hk h => by omega, rfl, Blk.keep h10 (e12.trans e13) (by omega)⟩
end Go.Proofs.Ytngbiaeliphdjaa.V
/- A set's least byte, its ranges, its parts, in the program's reader. No statement of the seat is proved here. -/
namespace Go.Proofs.Ytngbiaeliphdjaa.V
open Go.Vc Go.Proofs Go.RowKit
set_option linter.unusedVariables false
set_option linter.unusedSimpArgs false

theorem b256_size (f : Nat → Bool) : Array.size (⟨b256 f⟩ : Array Value) = 256 := b256_length f
theorem idx256 (f : Nat → Bool) (n : Nat) (h : n < 256) (w : World) : (Instr.index 177 (.agg ⟨b256 f⟩) (.int .i64 n)).run Try.prog w = .ok (.bool (f n)) w := by
  unfold Instr.index
  rw [bind_run (show (asIntOf (.int .i64 (n : Int))).run Try.prog w = .ok (.i64, (n : Int)) w from rfl)]
  simp only []
  rw [bind_run (underlying_run (show Try.prog.underlying 177 = some (.array 256 4) from by kernel_rfl) w)]
  simp only []
  rw [if_pos (by omega), bind_run (sizeOf_run (show sizeP Try.prog 4 = some 1 from by kernel_rfl) w)]
  rw [show Int.toNat (n : Int) * 1 = n from by omega]
  exact part_run_one (show Try.prog.underlying 4 = some .bool from by kernel_rfl) (by intro fs h; cases h) (by intro n e h; cases h) (by simpa using b256_get f n h) w
theorem low_ok (f : Nat → Bool) (v : Nat) (hv : v < 256) (h1 : f v = true) (h0 : ∀ n, n < v → f n = false) (w : World) : Cl Try.prog 162 [.agg ⟨b256 f⟩] w (RetB (.int .i64 v) w) := by
  apply vc162
  unfold V162
  refine newC_in fun w1 s1 k1 e1 => ?_
  have hb : Below w.heap.size w w1 := Ext.to (Below.refl _ _) e1 fun _ h => h.elim
  refine ⟨⟨b256 f⟩, by simp [b256_length], k1.all, fun k n w' => ∃ i : Nat, n = i ∧ i ≤ v ∧ k = 256 - i ∧ Below w.heap.size w w', ⟨_, 0, rfl, by omega, rfl, hb⟩, ?_⟩
  rintro k d n w2 ⟨i, rfl, hi, rfl, hb2⟩
  refine ⟨fun g => ?_, fun g => by have := of_decide_eq_false g; omega⟩
  refine ⟨f i, idx256 f i (by omega) w2, fun g1 => ?_, fun g1 => ?_⟩
  · have : i = v := by
      rcases Nat.lt_or_ge i v with h | h
      · rw [h0 i h] at g1; cases g1
      · omega
    subst this
    exact ⟨rfl, hb2⟩
  · have : i ≠ v := by rintro rfl; rw [h1] at g1; cases g1
    exact ⟨256 - (i + 1), by omega, i + 1, by rw [w64 (by omega)]; omega, by omega, rfl, hb2⟩

theorem elemRng : Elem Try.prog 108 134 2 16 := ⟨by kernel_rfl, by kernel_rfl, by kernel_rfl, ⟨[.int .i64 0, .int .i64 0], by kernel_rfl, rfl⟩⟩
theorem runEnd_lt (f : Nat → Bool) (j : Nat) (h : j < 256) : runEnd f j < 256 := by
  induction hk : 255 - j using Nat.strongRecOn generalizing j with
  | _ k ih =>
    rw [runEnd]
    split
    · split
      · exact ih (255 - (j + 1)) (by omega) (j + 1) (by omega) rfl
      · omega
    · omega
theorem ranges_ok {w : World} {b : Nat} {f : Nat → Bool} (h : Blk w.heap b 177 (b256 f)) :
    Cl Try.prog 146 [.pointer (some ⟨b, 0, none⟩)] w (fun e w' => ∃ a c, e = .returned (.slice a (runs f).length c) ∧ Row w.heap.size w' 134 2 a (runs f).length c (rngC (runs f)) ∧ Below w.heap.size w w') := by
  apply vc146
  unfold V146
  have hbl := h.lt
  refine ⟨fun k a l c n w' => ∃ (i : Nat) (done : List (Int × Int)), n = i ∧ k = 256 - i ∧ l = done.length ∧ done ++ runsF f i = runs f ∧ done.length ≤ i ∧ i ≤ 256 ∧ Row w.heap.size w' 134 2 a l c (rngC done) ∧ Below w.heap.size w w',
    ⟨_, 0, [], rfl, rfl, rfl, rfl, by simp, by omega, Row.nil _ _ (Nat.le_refl _), Below.refl _ _⟩, ?_⟩
  rintro k d a l c n w1 ⟨i, done, rfl, rfl, rfl, hd, hdl, hi, hR, hb⟩
  refine ⟨fun g => ?_, fun g => ?_⟩
  · have g' : i < 256 := by have := of_decide_eq_true g; omega
    have hB := h.below hb
    refine ⟨⟨by omega, by show (i : Int) < 256; omega⟩, f i, ?_, fun g1 => ?_, fun g1 => ?_⟩
    · rw [hB.cell, show 0 + Int.toNat (i : Int) * 1 = i from by omega]; exact b256_get f i g'
    · have hf : f i = false := by simpa using g1
      refine ⟨256 - (i + 1), by omega, i + 1, done, by rw [w64 (by omega)]; omega, rfl, rfl, ?_, by omega, by omega, hR, hb⟩
      rw [← hd]; conv => rhs; rw [runsF]
      rw [dif_pos g', if_neg (by rw [hf]; simp)]
    · have hf : f i = true := by simpa using g1
      have hrun : runsF f i = ((i : Int), (runEnd f i : Int)) :: runsF f (runEnd f i + 1) := by rw [runsF, dif_pos g', if_pos hf]
      have hre := runEnd_lt f i g'
      have hrg := runEnd_ge f i
      refine ⟨fun k n w' => ∃ j : Nat, n = j ∧ i ≤ j ∧ j < 256 ∧ k = 256 - j ∧ runEnd f j = runEnd f i ∧ Row w.heap.size w' 134 2 a done.length c (rngC done) ∧ Below w.heap.size w w', ⟨_, i, rfl, Nat.le_refl _, g', rfl, rfl, hR, hb⟩, ?_⟩
      rintro k d n w2 ⟨j, rfl, hij, hj, rfl, hje, hR2, hb2⟩
      have hfin : runEnd f i = j → newC [.int .i64 (i : Int), .int .i64 (j : Int)] 134 (fun (b20 : Nat) (w21 : World) => ∃ (a22 : Option Addr), ∃ (l22 : Nat), ∃ (c22 : Nat), ∃ (w23 : World), (Builtin.append_ #[108, 108] 108 #[.slice a done.length c, .slice (some ⟨b20, 0, none⟩) 1 1]).run Try.prog w21 = .ok (.slice a22 l22 c22) w23 ∧ (∃ (m24 : Nat), m24 < 256 - i ∧
          (fun (k : Nat) (a : Option Addr) (l c : Nat) (n : Int) (w' : World) => ∃ (i : Nat) (done : List (Int × Int)), n = i ∧ k = 256 - i ∧ l = done.length ∧ done ++ runsF f i = runs f ∧ done.length ≤ i ∧ i ≤ 256 ∧ Row w.heap.size w' 134 2 a l c (rngC done) ∧ Below w.heap.size w w') m24 a22 l22 c22 (IntKind.wrap .i64 ((j : Int) + 1)) w23)) w2 := by
        intro hjj
        obtain ⟨a3, c3, w3, r1, r2, r3⟩ := hR2.app1 elemRng (ys := [.int .i64 (i : Int), .int .i64 (j : Int)]) (n := 1) rfl rfl (by omega) (by omega)
        refine ⟨a3, _, c3, w3, r1, 256 - (j + 1), by omega, j + 1, done ++ [((i : Int), (j : Int))], by rw [w64 (by omega)]; omega, rfl, by simp, ?_, by simp; omega, by omega, ?_, r3.step hb2 (Nat.le_refl _)⟩
        · rw [← hd, hrun, hjj]; simp
        · rw [rngC_append]; exact r2
      refine ⟨fun g2 => ?_, fun g2 => ?_⟩
      · have g2' : j < 255 := by have := of_decide_eq_true g2; omega
        have e1 : IntKind.wrap .i64 ((j : Int) + 1) = ((j + 1 : Nat) : Int) := by rw [w64 (by omega)]; omega
        have hst : runEnd f j = if f (j + 1) then runEnd f (j + 1) else j := by rw [runEnd, dif_pos g2']
        refine ⟨⟨by omega, by show IntKind.wrap .i64 ((j : Int) + 1) < 256; omega⟩, f (j + 1), ?_, fun g3 => ?_, fun g3 => ?_⟩
        · rw [(h.below hb2).cell, e1, show 0 + Int.toNat ((j + 1 : Nat) : Int) * 1 = j + 1 from by omega]; exact b256_get f (j + 1) (by omega)
        · refine ⟨256 - (j + 1), by omega, j + 1, e1, by omega, by omega, rfl, ?_, hR2, hb2⟩
          rw [← hje, hst, if_pos g3]
        · exact hfin (by rw [← hje, hst, if_neg (by rw [g3]; simp)])
      · have g2' : j = 255 := by have := of_decide_eq_false g2; omega
        exact hfin (by rw [← hje, runEnd, dif_neg (by omega)])
  · have : i = 256 := by have := of_decide_eq_false g; omega
    subst this
    have : done = runs f := by rw [← hd, runsF]; simp
    subst this
    exact ⟨a, c, rfl, hR, hb⟩

theorem part_bad {w : World} {b : Nat} {s : ByteArray} {i g : Nat} {dp : Int} {a : Option Addr} {ln c : Nat} (h : Rd w b s i g dp a ln c) (first : Bool) (hl : ¬ i < s.size) :
    Cl Try.prog 161 [.pointer (some ⟨b, 0, none⟩), .bool first] w (fun e w' => e = PanicB s.size ∧ Below w.heap.size w w') := by
  apply vc161
  unfold V161
  refine newC_in fun w1 s1 k1 e1 => ?_
  have B1 : Below w.heap.size w w1 := Ext.to (Below.refl _ _) e1 fun _ h => h.elim
  refine (need_bad (Blk.keep h e1 fun h => h) hl).use fun e w2 he => ?_
  obtain ⟨rfl, b2⟩ := he
  exact ⟨rfl, B1.vstep b2⟩
theorem part_ok {w : World} {b : Nat} {s : ByteArray} {i g : Nat} {dp : Int} {a : Option Addr} {ln c : Nat} (h : Rd w b s i g dp a ln c) (hi : i < 10000) (first : Bool) (hl : i < s.size) (hf : first = true ∨ at_ (L s) i ≠ 93) :
    Cl Try.prog 161 [.pointer (some ⟨b, 0, none⟩), .bool first] w (EscR w b s g dp a ln c (partP (L s) i)) := by
  apply vc161
  unfold V161
  have hbl := h.lt
  refine newC_in fun w1 s1 k1 e1 => ?_
  have h1 : Rd w1 b s i g dp a ln c := Blk.keep h e1 fun h => h
  have E1 : Ext (fun k => k = b) w w1 := Ext.mono e1 fun _ _ h => h.elim
  refine (need_ret h1 hl).ret fun w2 b2 => ⟨_, rfl, fun g1 => ?_, fun g1 => ?_⟩
  · have g1' : at_ (L s) i = 92 := by have : ((at_ (L s) i : Nat) : Int) = 92 := by simpa using g1
                                      omega
    have hP : partP (L s) i = escP (L s) (i + 1) := by unfold partP; rw [if_pos g1']
    rw [hP]
    refine (escape_ok (h1.below b2) hi).use fun e w3 he => ?_
    obtain ⟨e3, he⟩ := he
    have E3 := (E1.trans (Ext.of_below b2)).trans e3
    cases hq : escP (L s) (i + 1) with
    | bad n => rw [hq] at he; subst he; exact ⟨E3, rfl⟩
    | ok x =>
      obtain ⟨j, rs, o⟩ := x
      rw [hq] at he
      obtain ⟨rfl, h3⟩ := he
      refine ⟨_, _, rfl, ?_⟩
      have k3 := (k1.below b2).keep e3 (by omega)
      refine stA_in k3 (b256_length _) List.length_replicate (b256_scal _) fun w4 s4 k4 e4 => ?_
      refine ⟨_, b256_size _, k4.all, E3.step e4 fun k hk h => by omega, rfl, Blk.keep h3 e4 (by omega)⟩
  · have g1' : at_ (L s) i ≠ 92 := by have : ((at_ (L s) i : Nat) : Int) ≠ 92 := by simpa using g1
                                      omega
    have hc := at_lt (L s) i
    have hP : partP (L s) i = .ok (i + 1, [(at_ (L s) i, at_ (L s) i)], some (at_ (L s) i)) := by unfold partP; rw [if_neg g1']
    rw [hP]
    have hgo : ∃ (n32 : Int), cellH w2.heap b (0 + 1) = some (.int .i64 n32) ∧ stW b (0 + 1) [.int .i64 (IntKind.wrap .i64 (n32 + 1))] (fun (w33 : World) => Cl Try.prog 145 [.pointer (some ⟨w.heap.size, 0, none⟩), .int .i64 (IntKind.wrap .i64 ((at_ (L s) i : Nat) : Int)), .int .i64 (IntKind.wrap .i64 ((at_ (L s) i : Nat) : Int))] w33 (retG (fun (r35 : Value) (w34 : World) => r35 = .tuple #[] ∧ ∃ (cs36 : Array Value), cs36.size = 256 ∧ cellsAt w34.heap w.heap.size 0 cs36.toList ∧ stA w.heap.size 0 256 cs36 (fun (w37 : World) => ∃ (cs38 : Array Value), cs38.size = 256 ∧ cellsAt w37.heap w.heap.size 0 cs38.toList ∧ EscR w b s g dp a ln c (.ok (i + 1, [(at_ (L s) i, at_ (L s) i)], some (at_ (L s) i))) (.returned (.tuple #[.agg cs38, .bool false])) w37) w34)
        fun c1 w1 => EscR w b s g dp a ln c (.ok (i + 1, [(at_ (L s) i, at_ (L s) i)], some (at_ (L s) i))) (.panicked c1) w1)) w2 := by
      have h2 := h1.below b2
      have k2 := k1.below b2
      rw [← b256_false, ← inR_nil] at k2
      refine ⟨_, h2.cell 1, ?_⟩
      refine h2.mv (j := i + 1) (by rw [w64 (by omega)]; omega) fun w3 s3 h3 e3 => ?_
      have hw : IntKind.wrap .i64 ((at_ (L s) i : Nat) : Int) = ((at_ (L s) i : Nat) : Int) := w64 (by omega)
      refine (addR_ok (k2.keep e3 (by omega)) _ _ hc hw hw).use fun e w4 he => ?_
      obtain ⟨rfl, k4, e4⟩ := he
      refine ⟨rfl, self_out (w0 := w) (b := b) k4 fun w5 e5 => ?_⟩
      refine ⟨((E1.trans (Ext.of_below b2)).trans e3).step (e4.trans e5) fun k hk h => by omega, rfl, ?_⟩
      exact Blk.keep h3 (e4.trans e5) (by omega)
    refine ⟨fun g2 => ⟨fun g3 => ?_, fun g3 => hgo⟩, fun g2 => hgo⟩
    have g2' : at_ (L s) i = 93 := by have : ((at_ (L s) i : Nat) : Int) = 93 := by simpa using g2
                                      omega
    rcases hf with hf | hf
    · rw [hf] at g3; cases g3
    · exact absurd g2' hf
end Go.Proofs.Ytngbiaeliphdjaa.V
/- Printed by vcgen.py, a program of this session: formulas of Go functions, each with the proof that it gives the function's contract. No statement of the seat is proved here. -/
namespace Go.Proofs.Ytngbiaeliphdjaa.V
open Go.Vc Go.Proofs
set_option linter.unusedVariables false
set_option maxRecDepth 100000
/-- (*impl.reader).set -/
def V144 (b1 o2 : Nat) (R : Rt) : Pred := fun w =>
  lI w b1 (o2 + 1) fun n3 => stW b1 (o2 + 1) [.int .i64 (IntKind.wrap .i64 (n3 + 1))] (fun w4 => clV 143 ([.pointer (some ⟨b1, o2, none⟩)]) w4 R fun r7 w6 => ∃ n5, r7 = .int .u8 n5 ∧ ∃ (J8 : World → Prop), ((cB (n5 == 94) (lI w6 b1 (o2 + 1) fun n9 => stW b1 (o2 + 1) [.int .i64 (IntKind.wrap .i64 (n9 + 1))] (fun w10 => J8  w10) w6) (J8  w6))) ∧ ∀ (d11 : Nat → Value)  w12, J8  w12 → newC (List.replicate 256 (.bool false)) 177 (fun b13 w14 => ∃ (I15 : Nat → Bool → World → Prop), (∃ k17, I15 k17 true w14) ∧ ∀ k16 (d19 : Nat → Value) t20 w18, I15 k16 t20 w18 → ∃ (J21 : World → Prop), ((cB t20 (J21  w18) (clV 143 ([.pointer (some ⟨b1, o2, none⟩)]) w18 R fun r24 w23 => ∃ n22, r24 = .int .u8 n22 ∧ (cB (n22 != 93) (J21  w23) (lI w23 b1 (o2 + 1) fun n25 => stW b1 (o2 + 1) [.int .i64 (IntKind.wrap .i64 (n25 + 1))] (fun w26 => (cB (n5 == 94) (∃ (I27 : Nat → Int → World → Prop), (∃ k29, I27 k29 0 w26) ∧ ∀ k28 (d31 : Nat → Value) n32 w30, I27 k28 n32 w30 → (cB (decide (n32 < 256)) ((0 ≤ (n32 : Int) ∧ (n32 : Int) < ((256 : Nat) : Int)) ∧ lB w30 b13 (0 + (Int.toNat n32) * 1) fun t33 => (0 ≤ (n32 : Int) ∧ (n32 : Int) < ((256 : Nat) : Int)) ∧ stW b13 (0 + (Int.toNat n32) * 1) [.bool (!t33)] (fun w34 => (∃ m35, m35 < k28 ∧ I27 m35 (IntKind.wrap .i64 (n32 + 1)) w34)) w30) (clL 146 ([.pointer (some ⟨b13, 0, none⟩)]) w30 R fun a36 l36 c36 w37 => R (.returned (.slice a36 l36 c36)) w37))) (clL 146 ([.pointer (some ⟨b13, 0, none⟩)]) w26 R fun a39 l39 c39 w40 => R (.returned (.slice a39 l39 c39)) w40))) w23))))) ∧ ∀ (d42 : Nat → Value)  w43, J21  w43 → clV 161 ([.pointer (some ⟨b1, o2, none⟩), .bool t20]) w43 R fun r47 w46 => ∃ (cs44 : Array Value), ∃ t45, r47 = .tuple #[.agg cs44, .bool t45] ∧ newC (List.replicate 256 (.bool false)) 177 (fun b48 w49 => stA b48 0 256 cs44 (fun w50 => ∃ (J51 : World → Prop), ((cB (!t45) (clV 143 ([.pointer (some ⟨b1, o2, none⟩)]) w50 R fun r54 w53 => ∃ n52, r54 = .int .u8 n52 ∧ (cB (n52 == 45) (drw (fun w55 => lI w55 b1 (o2 + 1) fun n56 => lS w55 b1 o2 fun s57 => ∃ (J58 : World → Prop), ((cB (decide ((IntKind.wrap .i64 (n56 + 1)) ≥ ((ByteArray.size s57 : Nat) : Int))) (lS w55 b1 o2 fun s59 => clU 76 ([.pointer (some ⟨b1, o2, none⟩), .int .i64 ((ByteArray.size s59 : Nat) : Int)]) w55 R fun w60 => J58  w60) (J58  w55))) ∧ ∀ (d62 : Nat → Value)  w63, J58  w63 → drw (fun w64 => lS w64 b1 o2 fun s65 => lI w64 b1 (o2 + 1) fun n66 => (ixT s65 (IntKind.wrap .i64 (n66 + 1))) ∧ (cB ((byteAt s65 (Int.toNat (IntKind.wrap .i64 (n66 + 1)))) != 93) (lI w64 b1 (o2 + 1) fun n67 => stW b1 (o2 + 1) [.int .i64 (IntKind.wrap .i64 (n67 + 1))] (fun w68 => lI w68 b1 (o2 + 1) fun n69 => clV 161 ([.pointer (some ⟨b1, o2, none⟩), .bool false]) w68 R fun r73 w72 => ∃ (cs70 : Array Value), ∃ t71, r73 = .tuple #[.agg cs70, .bool t71] ∧ newC (List.replicate 256 (.bool false)) 177 (fun b74 w75 => stA b74 0 256 cs70 (fun w76 => drw (fun w77 => (cB t71 (clU 76 ([.pointer (some ⟨b1, o2, none⟩), .int .i64 n69]) w77 R fun w78 => drw (fun w80 => ∃ (cs81 : Array Value), cs81.size = 256 ∧ cellsAt w80.heap b48 0 cs81.toList ∧ ∃ (cs82 : Array Value), cs82.size = 256 ∧ cellsAt w80.heap b74 0 cs82.toList ∧ clI 162 ([.agg cs81]) w80 R fun n83 w84 => cellsAt w84.heap b74 0 cs82.toList ∧ clI 162 ([.agg cs82]) w84 R fun n86 w87 => clU 145 ([.pointer (some ⟨b48, 0, none⟩), .int .i64 n83, .int .i64 n86]) w87 R fun w89 => J51  w89) w78) (∃ (cs91 : Array Value), cs91.size = 256 ∧ cellsAt w77.heap b74 0 cs91.toList ∧ ∃ (cs92 : Array Value), cs92.size = 256 ∧ cellsAt w77.heap b48 0 cs92.toList ∧ clI 162 ([.agg cs91]) w77 R fun n93 w94 => cellsAt w94.heap b48 0 cs92.toList ∧ clI 162 ([.agg cs92]) w94 R fun n96 w97 => (cB (decide (n93 < n96)) (clU 76 ([.pointer (some ⟨b1, o2, none⟩), .int .i64 n69]) w97 R fun w99 => drw (fun w101 => ∃ (cs102 : Array Value), cs102.size = 256 ∧ cellsAt w101.heap b48 0 cs102.toList ∧ ∃ (cs103 : Array Value), cs103.size = 256 ∧ cellsAt w101.heap b74 0 cs103.toList ∧ clI 162 ([.agg cs102]) w101 R fun n104 w105 => cellsAt w105.heap b74 0 cs103.toList ∧ clI 162 ([.agg cs103]) w105 R fun n107 w108 => clU 145 ([.pointer (some ⟨b48, 0, none⟩), .int .i64 n104, .int .i64 n107]) w108 R fun w110 => J51  w110) w99) (drw (fun w112 => ∃ (cs113 : Array Value), cs113.size = 256 ∧ cellsAt w112.heap b48 0 cs113.toList ∧ ∃ (cs114 : Array Value), cs114.size = 256 ∧ cellsAt w112.heap b74 0 cs114.toList ∧ clI 162 ([.agg cs113]) w112 R fun n115 w116 => cellsAt w116.heap b74 0 cs114.toList ∧ clI 162 ([.agg cs114]) w116 R fun n118 w119 => clU 145 ([.pointer (some ⟨b48, 0, none⟩), .int .i64 n115, .int .i64 n118]) w119 R fun w121 => J51  w121) w97))))) w76) w75) w72) w64) (J51  w64))) w63) w53) (J51  w53))) (J51  w50))) ∧ ∀ (d123 : Nat → Value)  w124, J51  w124 → ∃ (cs125 : Array Value), cs125.size = 256 ∧ cellsAt w124.heap b48 0 cs125.toList ∧ ∃ (I126 : Nat → Int → World → Prop), (∃ k128, I126 k128 0 w124) ∧ ∀ k127 (d130 : Nat → Value) n131 w129, I126 k127 n131 w129 → (cB (decide (n131 < 256)) (∃ t132, (Instr.index 177 (.agg cs125) (.int .i64 n131)).run Try.prog w129 = .ok (.bool t132) w129 ∧ (0 ≤ (n131 : Int) ∧ (n131 : Int) < ((256 : Nat) : Int)) ∧ lB w129 b13 (0 + (Int.toNat n131) * 1) fun t133 => (cB t133 ((0 ≤ (n131 : Int) ∧ (n131 : Int) < ((256 : Nat) : Int)) ∧ stW b13 (0 + (Int.toNat n131) * 1) [.bool true] (fun w134 => (∃ m135, m135 < k127 ∧ I126 m135 (IntKind.wrap .i64 (n131 + 1)) w134)) w129) ((0 ≤ (n131 : Int) ∧ (n131 : Int) < ((256 : Nat) : Int)) ∧ stW b13 (0 + (Int.toNat n131) * 1) [.bool t132] (fun w136 => (∃ m137, m137 < k127 ∧ I126 m137 (IntKind.wrap .i64 (n131 + 1)) w136)) w129))) ((∃ m138, m138 < k16 ∧ I15 m138 false w129)))) w49) w46) w12) w
def scr144 : Scr := (.q 1 (.q 8 (.q 4 (.q 1 (.cut (dr [] [(25,7)]) (.cond (.q 8 .nil) .nil) (.q 1 (.q 1 (.loop (dr [(5, some .bool)] [(6,7),(32,94)]) (.cutS (dr [] [(32,6)]) (.run [0,1] (.split 33 (.r [2,3,4,5] (.lit .nil)) (.r [2,3,4,5] (.cond .nil (.q 8 (.q 1 (.cond (.q 1 (.loop (dr [(134, some (.int .i64))] [(13,1),(135,9)]) (.q 1 (.cond (.q 2 (.q 7 (.q 2 .nil))) (.q 2 .nil))))) (.q 2 .nil)))))))) (.q 9 (.cutS (dr [] [(8,3),(44,68)]) (.run [0,1,2] (.split 46 (.r [3,4,5,6] (.cond (.q 11 (.cut (dr [] [(62,7)]) (.cond (.q 7 .nil) .nil) (.q 11 (.cond (.q 8 (.q 5 (.q 8 (.run [0,1] (.split 97 (.r [2,3,4,5,6,7] (.lit (.q 3 (.r [0,2,1,3,4] .nil)))) (.r [2,4,3,5,6,7] (.cond (.q 3 (.r [0,2,1,3,4] .nil)) (.r [0,2,1,3,4] .nil)))))))) .nil)))) .nil)) (.r [3,4,5,6] (.lit .nil)))) (.q 2 (.loop (dr [(113, some (.int .i64))] [(11,2),(114,12)]) (.q 1 (.cond (.q 4 (.run [0,1,2,3,4] (.split 121 (.r [5,6,7,8] (.q 2 .nil)) (.r [5,6,7,8] (.q 2 .nil))))) (.q 1 .nil))))))))))))))))
theorem vc144 {b1 o2} {R w} (h : V144 b1 o2 R w) : Cl Try.prog 144 [.pointer (some ⟨b1, o2, none⟩)] w R :=
  cl_of scr144 Try.func144 (by kernel_rfl) _ _ (by kernel_rfl) h
/-- (*impl.reader).number -/
def V148 (b1 o2 : Nat) (R : Rt) : Pred := fun w =>
  lI w b1 (o2 + 1) fun n3 => clV 143 ([.pointer (some ⟨b1, o2, none⟩)]) w R fun r6 w5 => ∃ n4, r6 = .int .u8 n4 ∧ ∃ (J7 : World → Prop), ((cB (decide (n4 < 48)) (lI w5 b1 (o2 + 1) fun n8 => clU 76 ([.pointer (some ⟨b1, o2, none⟩), .int .i64 n8]) w5 R fun w9 => J7  w9) ((cB (decide (n4 > 57)) (lI w5 b1 (o2 + 1) fun n11 => clU 76 ([.pointer (some ⟨b1, o2, none⟩), .int .i64 n11]) w5 R fun w12 => J7  w12) (J7  w5))))) ∧ ∀ (d14 : Nat → Value)  w15, J7  w15 → ∃ (I16 : Nat → Int → World → Prop), (∃ k18, I16 k18 0 w15) ∧ ∀ k17 (d20 : Nat → Value) n21 w19, I16 k17 n21 w19 → drw (fun w22 => clB 75 ([.pointer (some ⟨b1, o2, none⟩)]) w22 R fun t23 w24 => (cB (!t23) (lS w24 b1 o2 fun s26 => lI w24 b1 (o2 + 1) fun n27 => (ixT s26 n27) ∧ (cB (decide ((byteAt s26 (Int.toNat n27)) ≥ 48)) (lS w24 b1 o2 fun s28 => lI w24 b1 (o2 + 1) fun n29 => (ixT s28 n29) ∧ (cB (decide ((byteAt s28 (Int.toNat n29)) ≤ 57)) (drw (fun w30 => lS w30 b1 o2 fun s31 => lI w30 b1 (o2 + 1) fun n32 => (ixT s31 n32) ∧ ∃ n33, (Builtin.min_ #[3, 3] 3 #[.int .i64 1000, .int .i64 (IntKind.wrap .i64 ((IntKind.wrap .i64 (10 * n21)) + (IntKind.wrap .i64 (IntKind.wrap .u8 ((byteAt s31 (Int.toNat n32)) - 48)))))]).run Try.prog w30 = .ok (.int .i64 n33) w30 ∧ lI w30 b1 (o2 + 1) fun n34 => stW b1 (o2 + 1) [.int .i64 (IntKind.wrap .i64 (n34 + 1))] (fun w35 => (∃ m36, m36 < k17 ∧ I16 m36 n33 w35)) w30) w24) ((cB (decide (n21 > 50)) (clU 76 ([.pointer (some ⟨b1, o2, none⟩), .int .i64 n3]) w24 R fun w37 => R (.returned (.int .i64 n21)) w37) (R (.returned (.int .i64 n21)) w24))))) ((cB (decide (n21 > 50)) (clU 76 ([.pointer (some ⟨b1, o2, none⟩), .int .i64 n3]) w24 R fun w39 => R (.returned (.int .i64 n21)) w39) (R (.returned (.int .i64 n21)) w24))))) ((cB (decide (n21 > 50)) (clU 76 ([.pointer (some ⟨b1, o2, none⟩), .int .i64 n3]) w24 R fun w41 => R (.returned (.int .i64 n21)) w41) (R (.returned (.int .i64 n21)) w24))))) w19
def scr148 : Scr := (.q 1 (.q 5 (.q 3 (.cutS (dr [] [(12,12)]) (.run [0,1,2] (.split 14 (.r [3,4,5] (.lit (.q 6 .nil))) (.r [3,4,5] (.cond (.q 6 .nil) .nil)))) (.q 1 (.loop (dr [(5, some (.int .i64))] [(24,49)]) (.run [0,1,2,3] (.split 27 (.run [4,5,6,7,8,9,10,11,12,13,14,15] (.split 39 (.r [16,17,18,19,20,21,22,23,24,25,26] (.cond (.q 16 (.q 8 .nil)) (.q 2 (.cond (.q 3 (.q 2 .nil)) (.q 2 .nil))))) (.r [16,17,18,19,20,21,22,23,24,25,26] (.lit (.q 2 (.cond (.q 3 (.q 2 .nil)) (.q 2 .nil))))))) (.r [4,5,6,7,8,9,10,11,12,13,14,15,16,17,18,19,20,21,22,23,24,25,26] (.lit (.q 2 (.cond (.q 3 (.q 2 .nil)) (.q 2 .nil)))))))))))))
theorem vc148 {b1 o2} {R w} (h : V148 b1 o2 R w) : Cl Try.prog 148 [.pointer (some ⟨b1, o2, none⟩)] w R :=
  cl_of scr148 Try.func148 (by kernel_rfl) _ _ (by kernel_rfl) h
/-- (*impl.reader).counts -/
def V127 (b1 o2 : Nat) (n3 : Int) (R : Rt) : Pred := fun w =>
  clB 75 ([.pointer (some ⟨b1, o2, none⟩)]) w R fun t4 w5 => (cB t4 (R (.returned (.int .i64 n3)) w5) (newC [.int .i64 n3] 3 (fun b7 w8 => newC [.int .i64 0, .slice none 0 0, .int .i64 0, .int .i64 0, .bool false, .int .i64 0, .slice none 0 0] 111 (fun b9 w10 => stW b9 0 [.int .i64 4, .slice none 0 0, .int .i64 0, .int .i64 0, .bool false, .int .i64 0, .slice (some ⟨b7, 0, none⟩) 1 1] (fun w11 => drw (fun w12 => lS w12 b1 o2 fun s13 => lI w12 b1 (o2 + 1) fun n14 => (ixT s13 n14) ∧ ∃ (J15 : World → Prop), ((cB ((byteAt s13 (Int.toNat n14)) == 42) (stW b9 3 [.int .i64 (-1)] (fun w16 => lI w16 b1 (o2 + 1) fun n17 => stW b1 (o2 + 1) [.int .i64 (IntKind.wrap .i64 (n17 + 1))] (fun w18 => J15  w18) w16) w12) ((cB ((byteAt s13 (Int.toNat n14)) == 43) (stW b9 2 [.int .i64 1] (fun w19 => stW b9 3 [.int .i64 (-1)] (fun w20 => lI w20 b1 (o2 + 1) fun n21 => stW b1 (o2 + 1) [.int .i64 (IntKind.wrap .i64 (n21 + 1))] (fun w22 => J15  w22) w20) w19) w12) ((cB ((byteAt s13 (Int.toNat n14)) == 63) (stW b9 3 [.int .i64 1] (fun w23 => lI w23 b1 (o2 + 1) fun n24 => stW b1 (o2 + 1) [.int .i64 (IntKind.wrap .i64 (n24 + 1))] (fun w25 => J15  w25) w23) w12) ((cB ((byteAt s13 (Int.toNat n14)) == 123) (lI w12 b1 (o2 + 1) fun n26 => stW b1 (o2 + 1) [.int .i64 (IntKind.wrap .i64 (n26 + 1))] (fun w27 => clI 148 ([.pointer (some ⟨b1, o2, none⟩)]) w27 R fun n28 w29 => stW b9 2 [.int .i64 n28] (fun w31 => lI w31 b9 2 fun n32 => stW b9 3 [.int .i64 n32] (fun w33 => clV 143 ([.pointer (some ⟨b1, o2, none⟩)]) w33 R fun r36 w35 => ∃ n34, r36 = .int .u8 n34 ∧ (cB (n34 == 44) (lI w35 b1 (o2 + 1) fun n37 => stW b1 (o2 + 1) [.int .i64 (IntKind.wrap .i64 (n37 + 1))] (fun w38 => stW b9 3 [.int .i64 (-1)] (fun w39 => clV 143 ([.pointer (some ⟨b1, o2, none⟩)]) w39 R fun r42 w41 => ∃ n40, r42 = .int .u8 n40 ∧ (cB (n40 != 125) (lI w41 b1 (o2 + 1) fun n43 => clI 148 ([.pointer (some ⟨b1, o2, none⟩)]) w41 R fun n44 w45 => stW b9 3 [.int .i64 n44] (fun w47 => lI w47 b9 3 fun n48 => lI w47 b9 2 fun n49 => (cB (decide (n48 < n49)) (clU 76 ([.pointer (some ⟨b1, o2, none⟩), .int .i64 n43]) w47 R fun w50 => clV 143 ([.pointer (some ⟨b1, o2, none⟩)]) w50 R fun r54 w53 => ∃ n52, r54 = .int .u8 n52 ∧ (cB (n52 != 125) (lI w53 b1 (o2 + 1) fun n55 => clU 76 ([.pointer (some ⟨b1, o2, none⟩), .int .i64 n55]) w53 R fun w56 => lI w56 b1 (o2 + 1) fun n58 => stW b1 (o2 + 1) [.int .i64 (IntKind.wrap .i64 (n58 + 1))] (fun w59 => J15  w59) w56) (lI w53 b1 (o2 + 1) fun n60 => stW b1 (o2 + 1) [.int .i64 (IntKind.wrap .i64 (n60 + 1))] (fun w61 => J15  w61) w53))) (clV 143 ([.pointer (some ⟨b1, o2, none⟩)]) w47 R fun r64 w63 => ∃ n62, r64 = .int .u8 n62 ∧ (cB (n62 != 125) (lI w63 b1 (o2 + 1) fun n65 => clU 76 ([.pointer (some ⟨b1, o2, none⟩), .int .i64 n65]) w63 R fun w66 => lI w66 b1 (o2 + 1) fun n68 => stW b1 (o2 + 1) [.int .i64 (IntKind.wrap .i64 (n68 + 1))] (fun w69 => J15  w69) w66) (lI w63 b1 (o2 + 1) fun n70 => stW b1 (o2 + 1) [.int .i64 (IntKind.wrap .i64 (n70 + 1))] (fun w71 => J15  w71) w63))))) w45) (clV 143 ([.pointer (some ⟨b1, o2, none⟩)]) w41 R fun r74 w73 => ∃ n72, r74 = .int .u8 n72 ∧ (cB (n72 != 125) (lI w73 b1 (o2 + 1) fun n75 => clU 76 ([.pointer (some ⟨b1, o2, none⟩), .int .i64 n75]) w73 R fun w76 => lI w76 b1 (o2 + 1) fun n78 => stW b1 (o2 + 1) [.int .i64 (IntKind.wrap .i64 (n78 + 1))] (fun w79 => J15  w79) w76) (lI w73 b1 (o2 + 1) fun n80 => stW b1 (o2 + 1) [.int .i64 (IntKind.wrap .i64 (n80 + 1))] (fun w81 => J15  w81) w73))))) w38) w35) (clV 143 ([.pointer (some ⟨b1, o2, none⟩)]) w35 R fun r84 w83 => ∃ n82, r84 = .int .u8 n82 ∧ (cB (n82 != 125) (lI w83 b1 (o2 + 1) fun n85 => clU 76 ([.pointer (some ⟨b1, o2, none⟩), .int .i64 n85]) w83 R fun w86 => lI w86 b1 (o2 + 1) fun n88 => stW b1 (o2 + 1) [.int .i64 (IntKind.wrap .i64 (n88 + 1))] (fun w89 => J15  w89) w86) (lI w83 b1 (o2 + 1) fun n90 => stW b1 (o2 + 1) [.int .i64 (IntKind.wrap .i64 (n90 + 1))] (fun w91 => J15  w91) w83))))) w31) w29) w12) (R (.returned (.int .i64 n3)) w12))))))))) ∧ ∀ (d92 : Nat → Value)  w93, J15  w93 → drw (fun w94 => clB 75 ([.pointer (some ⟨b1, o2, none⟩)]) w94 R fun t95 w96 => (cB (!t95) (lS w96 b1 o2 fun s98 => lI w96 b1 (o2 + 1) fun n99 => (ixT s98 n99) ∧ (cB ((byteAt s98 (Int.toNat n99)) == 63) (stW b9 4 [.bool true] (fun w100 => lI w100 b1 (o2 + 1) fun n101 => stW b1 (o2 + 1) [.int .i64 (IntKind.wrap .i64 (n101 + 1))] (fun w102 => lI w102 b9 0 fun n103 => lL w102 b9 1 fun a104 l104 c104 => lI w102 b9 2 fun n105 => lI w102 b9 3 fun n106 => lB w102 b9 4 fun t107 => lI w102 b9 5 fun n108 => lL w102 b9 6 fun a109 l109 c109 => clI 110 ([.pointer (some ⟨b1, o2, none⟩), .agg #[.int .i64 n103, .slice a104 l104 c104, .int .i64 n105, .int .i64 n106, .bool t107, .int .i64 n108, .slice a109 l109 c109]]) w102 R fun n110 w111 => R (.returned (.int .i64 n110)) w111) w100) w96) (lI w96 b9 0 fun n113 => lL w96 b9 1 fun a114 l114 c114 => lI w96 b9 2 fun n115 => lI w96 b9 3 fun n116 => lB w96 b9 4 fun t117 => lI w96 b9 5 fun n118 => lL w96 b9 6 fun a119 l119 c119 => clI 110 ([.pointer (some ⟨b1, o2, none⟩), .agg #[.int .i64 n113, .slice a114 l114 c114, .int .i64 n115, .int .i64 n116, .bool t117, .int .i64 n118, .slice a119 l119 c119]]) w96 R fun n120 w121 => R (.returned (.int .i64 n120)) w121))) (lI w96 b9 0 fun n123 => lL w96 b9 1 fun a124 l124 c124 => lI w96 b9 2 fun n125 => lI w96 b9 3 fun n126 => lB w96 b9 4 fun t127 => lI w96 b9 5 fun n128 => lL w96 b9 6 fun a129 l129 c129 => clI 110 ([.pointer (some ⟨b1, o2, none⟩), .agg #[.int .i64 n123, .slice a124 l124 c124, .int .i64 n125, .int .i64 n126, .bool t127, .int .i64 n128, .slice a129 l129 c129]]) w96 R fun n130 w131 => R (.returned (.int .i64 n130)) w131))) w93) w11) w10) w8) w5))
def scr127 : Scr := (.q 1 (.q 2 (.cond (.q 2 .nil) (.q 5 (.q 9 (.q 2 (.cut (dr [] [(4,1),(6,1),(22,1),(25,89)]) (.cond (.q 2 (.q 8 .nil)) (.q 2 (.cond (.q 4 (.q 8 .nil)) (.q 2 (.cond (.q 2 (.q 8 .nil)) (.q 2 (.cond (.q 8 (.q 4 (.q 4 (.q 3 (.cond (.q 8 (.q 2 (.q 3 (.cond (.q 5 (.q 4 (.q 5 (.cond (.q 3 (.q 3 (.cond (.q 6 (.q 8 .nil)) (.q 8 .nil)))) (.q 3 (.cond (.q 6 (.q 8 .nil)) (.q 8 .nil))))))) (.q 3 (.cond (.q 6 (.q 8 .nil)) (.q 8 .nil))))))) (.q 3 (.cond (.q 6 (.q 8 .nil)) (.q 8 .nil)))))))) (.q 2 .nil)))))))) (.run [0,1,2,3] (.split 117 (.r [4,5,6,7,8,9,10,11,12,13,14] (.cond (.q 2 (.q 8 (.q 4 .nil))) (.q 4 .nil))) (.r [4,5,6,7,8,9,10,11,12,13,14] (.lit (.q 4 .nil))))))))))))
theorem vc127 {b1 o2 n3} {R w} (h : V127 b1 o2 n3 R w) : Cl Try.prog 127 [.pointer (some ⟨b1, o2, none⟩), .int .i64 n3] w R :=
  cl_of scr127 Try.func127 (by kernel_rfl) _ _ (by kernel_rfl) h
/-- (*impl.reader).atom -/
def V126 (b1 o2 : Nat) (n3 : Int) (R : Rt) : Pred := fun w =>
  (cB (n3 == 40) (∃ (J4 : World → Prop), (lI w b1 (o2 + 2) fun n5 => (cB (n5 == 9) (lI w b1 (o2 + 1) fun n6 => clU 76 ([.pointer (some ⟨b1, o2, none⟩), .int .i64 n6]) w R fun w7 => J4  w7) (lI w b1 (o2 + 3) fun n9 => (cB (n9 == 6) (lI w b1 (o2 + 1) fun n10 => clU 76 ([.pointer (some ⟨b1, o2, none⟩), .int .i64 n10]) w R fun w11 => J4  w11) (J4  w))))) ∧ ∀ (d13 : Nat → Value)  w14, J4  w14 → lI w14 b1 (o2 + 2) fun n15 => stW b1 (o2 + 2) [.int .i64 (IntKind.wrap .i64 (n15 + 1))] (fun w16 => lI w16 b1 (o2 + 3) fun n17 => stW b1 (o2 + 3) [.int .i64 (IntKind.wrap .i64 (n17 + 1))] (fun w18 => lI w18 b1 (o2 + 2) fun n19 => lI w18 b1 (o2 + 1) fun n20 => stW b1 (o2 + 1) [.int .i64 (IntKind.wrap .i64 (n20 + 1))] (fun w21 => clI 74 ([.pointer (some ⟨b1, o2, none⟩)]) w21 R fun n22 w23 => clV 143 ([.pointer (some ⟨b1, o2, none⟩)]) w23 R fun r27 w26 => ∃ n25, r27 = .int .u8 n25 ∧ (cB (n25 != 41) (lI w26 b1 (o2 + 1) fun n28 => clU 76 ([.pointer (some ⟨b1, o2, none⟩), .int .i64 n28]) w26 R fun w29 => lI w29 b1 (o2 + 1) fun n31 => stW b1 (o2 + 1) [.int .i64 (IntKind.wrap .i64 (n31 + 1))] (fun w32 => lI w32 b1 (o2 + 3) fun n33 => stW b1 (o2 + 3) [.int .i64 (IntKind.wrap .i64 (n33 - 1))] (fun w34 => newC [.int .i64 n22] 3 (fun b35 w36 => clI 110 ([.pointer (some ⟨b1, o2, none⟩), .agg #[.int .i64 5, .slice none 0 0, .int .i64 0, .int .i64 0, .bool false, .int .i64 n19, .slice (some ⟨b35, 0, none⟩) 1 1]]) w36 R fun n37 w38 => R (.returned (.int .i64 n37)) w38) w34) w32) w29) (lI w26 b1 (o2 + 1) fun n40 => stW b1 (o2 + 1) [.int .i64 (IntKind.wrap .i64 (n40 + 1))] (fun w41 => lI w41 b1 (o2 + 3) fun n42 => stW b1 (o2 + 3) [.int .i64 (IntKind.wrap .i64 (n42 - 1))] (fun w43 => newC [.int .i64 n22] 3 (fun b44 w45 => clI 110 ([.pointer (some ⟨b1, o2, none⟩), .agg #[.int .i64 5, .slice none 0 0, .int .i64 0, .int .i64 0, .bool false, .int .i64 n19, .slice (some ⟨b44, 0, none⟩) 1 1]]) w45 R fun n46 w47 => R (.returned (.int .i64 n46)) w47) w43) w41) w26))) w18) w16) w14) ((cB (n3 == 91) (clL 144 ([.pointer (some ⟨b1, o2, none⟩)]) w R fun a49 l49 c49 w50 => clI 110 ([.pointer (some ⟨b1, o2, none⟩), .agg #[.int .i64 1, .slice a49 l49 c49, .int .i64 0, .int .i64 0, .bool false, .int .i64 0, .slice none 0 0]]) w50 R fun n52 w53 => R (.returned (.int .i64 n52)) w53) ((cB (n3 == 46) (lI w b1 (o2 + 1) fun n55 => stW b1 (o2 + 1) [.int .i64 (IntKind.wrap .i64 (n55 + 1))] (fun w56 => newC (List.replicate 256 (.bool false)) 177 (fun b57 w58 => clU 145 ([.pointer (some ⟨b57, 0, none⟩), .int .i64 0, .int .i64 9]) w58 R fun w59 => clU 145 ([.pointer (some ⟨b57, 0, none⟩), .int .i64 11, .int .i64 255]) w59 R fun w61 => clL 146 ([.pointer (some ⟨b57, 0, none⟩)]) w61 R fun a63 l63 c63 w64 => clI 110 ([.pointer (some ⟨b1, o2, none⟩), .agg #[.int .i64 1, .slice a63 l63 c63, .int .i64 0, .int .i64 0, .bool false, .int .i64 0, .slice none 0 0]]) w64 R fun n66 w67 => R (.returned (.int .i64 n66)) w67) w56) w) ((cB (n3 == 94) (lI w b1 (o2 + 1) fun n69 => stW b1 (o2 + 1) [.int .i64 (IntKind.wrap .i64 (n69 + 1))] (fun w70 => clI 110 ([.pointer (some ⟨b1, o2, none⟩), .agg #[.int .i64 6, .slice none 0 0, .int .i64 0, .int .i64 0, .bool false, .int .i64 0, .slice none 0 0]]) w70 R fun n71 w72 => R (.returned (.int .i64 n71)) w72) w) ((cB (n3 == 36) (lI w b1 (o2 + 1) fun n74 => stW b1 (o2 + 1) [.int .i64 (IntKind.wrap .i64 (n74 + 1))] (fun w75 => clI 110 ([.pointer (some ⟨b1, o2, none⟩), .agg #[.int .i64 7, .slice none 0 0, .int .i64 0, .int .i64 0, .bool false, .int .i64 0, .slice none 0 0]]) w75 R fun n76 w77 => R (.returned (.int .i64 n76)) w77) w) ((cB (n3 == 92) (clV 147 ([.pointer (some ⟨b1, o2, none⟩)]) w R fun r82 w81 => ∃ (cs79 : Array Value), ∃ t80, r82 = .tuple #[.agg cs79, .bool t80] ∧ newC (List.replicate 256 (.bool false)) 177 (fun b83 w84 => stA b83 0 256 cs79 (fun w85 => clL 146 ([.pointer (some ⟨b83, 0, none⟩)]) w85 R fun a86 l86 c86 w87 => clI 110 ([.pointer (some ⟨b1, o2, none⟩), .agg #[.int .i64 1, .slice a86 l86 c86, .int .i64 0, .int .i64 0, .bool false, .int .i64 0, .slice none 0 0]]) w87 R fun n89 w90 => R (.returned (.int .i64 n89)) w90) w84) w81) (∃ (J92 : Bool → World → Prop), ((cB (n3 == 41) (J92 true w) ((cB (n3 == 93) (J92 true w) ((cB (n3 == 123) (J92 true w) ((cB (n3 == 125) (J92 true w) ((cB (n3 == 42) (J92 true w) ((cB (n3 == 43) (J92 true w) ((cB (n3 == 63) (J92 true w) (J92 (n3 == 124) w))))))))))))))) ∧ ∀ (d93 : Nat → Value) t94 w95, J92 t94 w95 → (cB t94 (lI w95 b1 (o2 + 1) fun n96 => clU 76 ([.pointer (some ⟨b1, o2, none⟩), .int .i64 n96]) w95 R fun w97 => lI w97 b1 (o2 + 1) fun n99 => stW b1 (o2 + 1) [.int .i64 (IntKind.wrap .i64 (n99 + 1))] (fun w100 => newC [.int .i64 (IntKind.wrap .i64 n3), .int .i64 (IntKind.wrap .i64 n3)] 134 (fun b101 w102 => clI 110 ([.pointer (some ⟨b1, o2, none⟩), .agg #[.int .i64 1, .slice (some ⟨b101, 0, none⟩) 1 1, .int .i64 0, .int .i64 0, .bool false, .int .i64 0, .slice none 0 0]]) w102 R fun n103 w104 => R (.returned (.int .i64 n103)) w104) w100) w97) (lI w95 b1 (o2 + 1) fun n106 => stW b1 (o2 + 1) [.int .i64 (IntKind.wrap .i64 (n106 + 1))] (fun w107 => newC [.int .i64 (IntKind.wrap .i64 n3), .int .i64 (IntKind.wrap .i64 n3)] 134 (fun b108 w109 => clI 110 ([.pointer (some ⟨b1, o2, none⟩), .agg #[.int .i64 1, .slice (some ⟨b108, 0, none⟩) 1 1, .int .i64 0, .int .i64 0, .bool false, .int .i64 0, .slice none 0 0]]) w109 R fun n110 w111 => R (.returned (.int .i64 n110)) w111) w107) w95))))))))))))))
def scr126 : Scr := (.q 1 (.q 1 (.q 2 (.cond (.cutS (dr [] [(13,18)]) (.run [0,1,2,3,4,5] (.split 18 (.r [6,7,8,9,10,11] (.lit (.q 6 .nil))) (.r [6,7,8,9,10,11] (.cond (.q 6 .nil) .nil)))) (.q 8 (.q 8 (.q 5 (.q 8 (.q 3 (.q 3 (.cond (.q 6 (.q 8 (.q 8 (.q 7 .nil)))) (.q 8 (.q 8 (.q 7 .nil))))))))))) (.q 2 (.cond (.q 6 .nil) (.q 2 (.cond (.q 8 (.q 1 (.q 1 (.q 1 (.q 5 .nil))))) (.q 2 (.cond (.q 8 (.q 4 .nil)) (.q 2 (.cond (.q 8 (.q 4 .nil)) (.q 2 (.cond (.q 8 (.q 5 .nil)) (.q 2 (.cut (dr [(144, some .bool)] [(146,7)]) (.cond .nil (.q 2 (.cond .nil (.q 2 (.cond .nil (.q 2 (.cond .nil (.q 2 (.cond .nil (.q 2 (.cond .nil (.q 2 (.cond .nil (.q 2 .nil)))))))))))))) (.cond (.q 6 (.q 8 (.q 10 .nil))) (.q 8 (.q 10 .nil)))))))))))))))))))
theorem vc126 {b1 o2 n3} {R w} (h : V126 b1 o2 n3 R w) : Cl Try.prog 126 [.pointer (some ⟨b1, o2, none⟩), .int .u8 n3] w R :=
  cl_of scr126 Try.func126 (by kernel_rfl) _ _ (by kernel_rfl) h
/-- (*impl.reader).seq -/
def V109 (b1 o2 : Nat) (R : Rt) : Pred := fun w =>
  ∃ (I3 : Nat → Option Addr → Nat → Nat → World → Prop), (∃ k5, I3 k5 none 0 0 w) ∧ ∀ k4 (d7 : Nat → Value) a8 l8 c8 w6, I3 k4 a8 l8 c8 w6 → clB 75 ([.pointer (some ⟨b1, o2, none⟩)]) w6 R fun t9 w10 => (cB (!t9) (drw (fun w12 => lS w12 b1 o2 fun s13 => lI w12 b1 (o2 + 1) fun n14 => (ixT s13 n14) ∧ (cB ((byteAt s13 (Int.toNat n14)) == 124) (clI 110 ([.pointer (some ⟨b1, o2, none⟩), .agg #[.int .i64 2, .slice none 0 0, .int .i64 0, .int .i64 0, .bool false, .int .i64 0, .slice a8 l8 c8]]) w12 R fun n15 w16 => R (.returned (.int .i64 n15)) w16) ((cB ((byteAt s13 (Int.toNat n14)) == 41) (clI 110 ([.pointer (some ⟨b1, o2, none⟩), .agg #[.int .i64 2, .slice none 0 0, .int .i64 0, .int .i64 0, .bool false, .int .i64 0, .slice a8 l8 c8]]) w12 R fun n18 w19 => R (.returned (.int .i64 n18)) w19) (clI 126 ([.pointer (some ⟨b1, o2, none⟩), .int .u8 (byteAt s13 (Int.toNat n14))]) w12 R fun n21 w22 => clI 127 ([.pointer (some ⟨b1, o2, none⟩), .int .i64 n21]) w22 R fun n24 w25 => newC [.int .i64 n24] 3 (fun b27 w28 => ∃ a29 l29 c29, ∃ w30, (Builtin.append_ #[109, 109] 109 #[.slice a8 l8 c8, .slice (some ⟨b27, 0, none⟩) 1 1]).run Try.prog w28 = .ok (.slice a29 l29 c29) w30 ∧ (∃ m31, m31 < k4 ∧ I3 m31 a29 l29 c29 w30)) w25))))) w10) (clI 110 ([.pointer (some ⟨b1, o2, none⟩), .agg #[.int .i64 2, .slice none 0 0, .int .i64 0, .int .i64 0, .bool false, .int .i64 0, .slice a8 l8 c8]]) w10 R fun n32 w33 => R (.returned (.int .i64 n32)) w33))
def scr109 : Scr := (.q 1 (.q 1 (.loop (dr [(3, some .slice)] [(4,29)]) (.q 3 (.cond (.q 10 (.run [0,1,2] (.split 20 (.r [3,4,5] (.lit (.q 5 .nil))) (.r [3,4,5] (.cond (.q 5 .nil) (.q 4 (.q 7 .nil))))))) (.q 5 .nil))))))
theorem vc109 {b1 o2} {R w} (h : V109 b1 o2 R w) : Cl Try.prog 109 [.pointer (some ⟨b1, o2, none⟩)] w R :=
  cl_of scr109 Try.func109 (by kernel_rfl) _ _ (by kernel_rfl) h
/-- (*impl.reader).pattern -/
def V74 (b1 o2 : Nat) (R : Rt) : Pred := fun w =>
  clI 109 ([.pointer (some ⟨b1, o2, none⟩)]) w R fun n3 w4 => newC [.int .i64 n3] 3 (fun b6 w7 => ∃ (I8 : Nat → Option Addr → Nat → Nat → World → Prop), (∃ k10, I8 k10 (some ⟨b6, 0, none⟩) 1 1 w7) ∧ ∀ k9 (d12 : Nat → Value) a13 l13 c13 w11, I8 k9 a13 l13 c13 w11 → drw (fun w14 => clB 75 ([.pointer (some ⟨b1, o2, none⟩)]) w14 R fun t15 w16 => (cB (!t15) (lS w16 b1 o2 fun s18 => lI w16 b1 (o2 + 1) fun n19 => (ixT s18 n19) ∧ (cB ((byteAt s18 (Int.toNat n19)) == 124) (lI w16 b1 (o2 + 1) fun n20 => stW b1 (o2 + 1) [.int .i64 (IntKind.wrap .i64 (n20 + 1))] (fun w21 => clI 109 ([.pointer (some ⟨b1, o2, none⟩)]) w21 R fun n22 w23 => newC [.int .i64 n22] 3 (fun b25 w26 => ∃ a27 l27 c27, ∃ w28, (Builtin.append_ #[109, 109] 109 #[.slice a13 l13 c13, .slice (some ⟨b25, 0, none⟩) 1 1]).run Try.prog w26 = .ok (.slice a27 l27 c27) w28 ∧ (∃ m29, m29 < k9 ∧ I8 m29 a27 l27 c27 w28)) w23) w16) ((cB (((l13 : Nat) : Int) == 1) (ixS a13 l13 0 fun b30 o31 => lI w16 b30 o31 fun n32 => R (.returned (.int .i64 n32)) w16) (clI 110 ([.pointer (some ⟨b1, o2, none⟩), .agg #[.int .i64 3, .slice none 0 0, .int .i64 0, .int .i64 0, .bool false, .int .i64 0, .slice a13 l13 c13]]) w16 R fun n33 w34 => R (.returned (.int .i64 n33)) w34))))) ((cB (((l13 : Nat) : Int) == 1) (ixS a13 l13 0 fun b36 o37 => lI w16 b36 o37 fun n38 => R (.returned (.int .i64 n38)) w16) (clI 110 ([.pointer (some ⟨b1, o2, none⟩), .agg #[.int .i64 3, .slice none 0 0, .int .i64 0, .int .i64 0, .bool false, .int .i64 0, .slice a13 l13 c13]]) w16 R fun n39 w40 => R (.returned (.int .i64 n39)) w40))))) w11) w4
def scr74 : Scr := (.q 1 (.q 4 (.loop (dr [(3, some .slice)] [(7,27)]) (.run [0,1,2,3] (.split 10 (.r [4,5,6,7,8,9,10,11,12,13,14] (.cond (.q 8 (.q 6 .nil)) (.q 3 (.cond (.q 4 .nil) (.q 5 .nil))))) (.r [4,5,6,7,8,9,10,11,12,13,14] (.lit (.q 3 (.cond (.q 4 .nil) (.q 5 .nil))))))))))
theorem vc74 {b1 o2} {R w} (h : V74 b1 o2 R w) : Cl Try.prog 74 [.pointer (some ⟨b1, o2, none⟩)] w R :=
  cl_of scr74 Try.func74 (by kernel_rfl) _ _ (by kernel_rfl) h
end Go.Proofs.Ytngbiaeliphdjaa.V
/- A set in brackets, in the program's reader. No statement of the seat is proved here. -/
namespace Go.Proofs.Ytngbiaeliphdjaa.V
open Go.Vc Go.Proofs Go.RowKit
set_option linter.unusedVariables false
set_option linter.unusedSimpArgs false

/-- What a set gives. -/
def SetR (w : World) (b : Nat) (s : ByteArray) (g : Nat) (dp : Int) (a : Option Addr) (ln c : Nat) (r : Pr (Nat × List (Int × Int))) : Ending → World → Prop := fun e w' => Ext (fun k => k = b) w w' ∧
  match r with
  | .bad n => e = PanicB n
  | .ok (j, rs) => ∃ a' c', e = .returned (.slice a' rs.length c') ∧ Row w.heap.size w' 134 2 a' rs.length c' (rngC rs) ∧ Rd w' b s j g dp a ln c
theorem byteI (s : ByteArray) {j : Nat} {n : Int} (h : n = j) : byteAt s (Int.toNat n) = (at_ (L s) j : Int) := by subst h; rfl

theorem set_ok {w : World} {b : Nat} {s : ByteArray} {i g : Nat} {dp : Int} {a : Option Addr} {ln c : Nat} (h : Rd w b s i g dp a ln c) (hs : s.size ≤ 120) (hi : i < s.size) :
    Cl Try.prog 144 [.pointer (some ⟨b, 0, none⟩)] w (SetR w b s g dp a ln c (setP (L s) i)) := by
  apply vc144
  unfold V144
  have hsz := size_L s
  have hbl := h.lt
  refine ⟨i, h.cell 1, ?_⟩
  refine h.mv (j := i + 1) (by rw [w64 (by omega)]; omega) fun w4 s4 h4 e4 => ?_
  by_cases hl : i + 1 < s.size
  case neg =>
    refine (need_bad h4 hl).use fun e w8 he => ?_
    obtain ⟨rfl, b8⟩ := he
    refine ⟨e4.trans (Ext.of_below b8), ?_⟩
    unfold setP
    rw [if_pos (by omega), ← hsz]; rfl
  refine (need_ret h4 hl).ret fun w6 b6 => ⟨_, rfl, ?_⟩
  have h6 := h4.below b6
  have E6 : Ext (fun k => k = b) w w6 := e4.trans (Ext.of_below b6)
  obtain ⟨i0, hi0⟩ : ∃ i0, i0 = if at_ (L s) (i + 1) = 94 then i + 2 else i + 1 := ⟨_, rfl⟩
  have hP : setP (L s) i = clsFin (decide (at_ (L s) (i + 1) = 94)) (clsP (L s) i0 true []) := by
    unfold setP; rw [if_neg (by omega), ← hi0]
  rw [hP]
  generalize hC : clsP (L s) i0 true [] = C
  have hi0l : i0 ≤ s.size := by rw [hi0]; split <;> omega
  refine ⟨fun w' => Rd w' b s i0 g dp a ln c ∧ Ext (fun k => k = b) w w', ⟨fun g1 => ?_, fun g1 => ?_⟩, ?_⟩
  · have : ((at_ (L s) (i + 1) : Nat) : Int) = 94 := by simpa using g1
    have e : i0 = i + 2 := by rw [hi0, if_pos (by omega)]
    refine ⟨_, h6.cell 1, ?_⟩
    exact h6.mv (j := i + 2) (by rw [w64 (by omega)]; omega) fun w7 s7 h7 e7 => ⟨by rw [e]; exact h7, E6.trans e7⟩
  · have : ¬ ((at_ (L s) (i + 1) : Nat) : Int) = 94 := by simpa using g1
    have e : i0 = i + 1 := by rw [hi0, if_neg (by omega)]
    exact ⟨by rw [e]; exact h6, E6⟩
  rintro - w12 ⟨h12, E12⟩
  have hz12 := E12.size
  refine newC_in fun w14 s14 k14 e14 => ?_
  generalize hb13 : w12.heap.size = b13 at *
  -- all that the loop keeps
  let St (w' : World) (j : Nat) (rs : Rs) : Prop := Rd w' b s j g dp a ln c ∧ Blk w'.heap b13 177 (b256 (inR rs)) ∧ Ext (fun k => k = b) w w'
  have hst : ∀ {w' w'' : World} {j : Nat} {rs : Rs}, St w' j rs → Below w'.heap.size w' w'' → St w'' j rs := fun h k => ⟨h.1.below k, h.2.1.below k, h.2.2.trans (Ext.of_below k)⟩
  have hstE : ∀ {w' w'' : World} {j : Nat} {rs : Rs}, St w' j rs → Ext (fun _ => False) w' w'' → St w'' j rs := fun h k => ⟨Blk.keep h.1 k fun h => h, h.2.1.keep k fun h => h, h.2.2.trans (Ext.mono k fun _ _ h => h.elim)⟩
  have hpan : ∀ {w' w'' : World} {j n : Nat} {rs : Rs}, St w' j rs → Ext (fun k => k = b) w' w'' → C = .bad n → SetR w b s g dp a ln c (clsFin (decide (at_ (L s) (i + 1) = 94)) C) (PanicB n) w'' := by
    intro w' w'' j n rs h e hn
    rw [hn]
    exact ⟨h.2.2.trans e, rfl⟩
  refine ⟨fun k first w' => ∃ j rs, clsP (L s) j first rs = C ∧ k = s.size + 1 - j ∧ j ≤ s.size ∧ St w' j rs, ⟨_, i0, [], hC, rfl, hi0l, Blk.keep h12 e14 (fun h => h), ?_, E12.trans (Ext.mono e14 fun _ _ h => h.elim)⟩, ?_⟩
  · rw [inR_nil, b256_false]; exact k14
  rintro k d first w18 ⟨j, rs, hCl, rfl, hj, hS⟩
  have hb13b : b13 ≠ b := by omega
  have hout : ¬ j < s.size → C = .bad s.size := fun hn => by rw [← hCl, clsP_out (by omega), hsz]
  refine ⟨fun w' => St w' j rs ∧ (first = true ∨ j < s.size ∧ at_ (L s) j ≠ 93), ?_, ?_⟩
  · -- the test ahead of a round
    refine ⟨fun g1 => ⟨hS, .inl g1⟩, fun g1 => ?_⟩
    by_cases hjl : j < s.size
    case neg =>
      refine (need_bad hS.1 hjl).use fun e w23 he => ?_
      obtain ⟨rfl, b23⟩ := he
      exact hpan hS (Ext.of_below b23) (hout hjl)
    refine (need_ret hS.1 hjl).ret fun w23 b23 => ⟨_, rfl, fun g2 => ?_, fun g2 => ?_⟩
    · have : ¬ ((at_ (L s) j : Nat) : Int) = 93 := by simpa using g2
      exact ⟨hst hS b23, .inr ⟨hjl, by omega⟩⟩
    · have g2' : at_ (L s) j = 93 := by have : ((at_ (L s) j : Nat) : Int) = 93 := by simpa using g2
                                        omega
      have hCe : C = .ok (j + 1, rs) := by rw [← hCl, clsP_end (by omega) g1 g2']
      have hS23 := hst hS b23
      refine ⟨_, hS23.1.cell 1, ?_⟩
      refine hS23.1.mv (j := j + 1) (by rw [w64 (by omega)]; omega) fun w26 s26 h26 e26 => ?_
      have k26 := hS23.2.1.keep e26 hb13b
      have E26 := hS23.2.2.trans e26
      rw [hCe]
      have hend : ∀ {w' : World} {f : Nat → Bool}, Blk w'.heap b13 177 (b256 f) → Rd w' b s (j + 1) g dp a ln c → Ext (fun k => k = b) w w' → (f = fun n => inR rs n != decide (at_ (L s) (i + 1) = 94)) →
          Cl Try.prog 146 [.pointer (some ⟨b13, 0, none⟩)] w' (retG (fun (r38 : Value) (w37 : World) => ∃ (a36 : Option Addr), ∃ (l36 : Nat), ∃ (c36 : Nat), r38 = .slice a36 l36 c36 ∧ SetR w b s g dp a ln c (.ok (j + 1, runs fun n => inR rs n != decide (at_ (L s) (i + 1) = 94))) (.returned (.slice a36 l36 c36)) w37)
            fun c1 w1 => SetR w b s g dp a ln c (.ok (j + 1, runs fun n => inR rs n != decide (at_ (L s) (i + 1) = 94))) (.panicked c1) w1) := by
        intro w' f hB hR hE hf
        subst hf
        refine (ranges_ok hB).use fun e w'' he => ?_
        obtain ⟨a', c', rfl, hRow, hbel⟩ := he
        exact ⟨a', _, c', rfl, hE.trans (Ext.of_below hbel), a', c', rfl, hRow.mono hE.size, hR.below hbel⟩
      refine ⟨fun g3 => ?_, fun g3 => ?_⟩
      · have g3' : at_ (L s) (i + 1) = 94 := by have : ((at_ (L s) (i + 1) : Nat) : Int) = 94 := by simpa using g3
                                                omega
        refine ⟨fun k n w' => ∃ q : Nat, n = q ∧ q ≤ 256 ∧ k = 256 - q ∧ Rd w' b s (j + 1) g dp a ln c ∧ Blk w'.heap b13 177 (b256 fun n => if n < q then !inR rs n else inR rs n) ∧ Ext (fun k => k = b) w w', ⟨_, 0, rfl, by omega, rfl, h26, by simpa using k26, E26⟩, ?_⟩
        rintro k d n w30 ⟨q, rfl, hq, rfl, h30, k30, E30⟩
        refine ⟨fun g4 => ?_, fun g4 => ?_⟩
        · have g4' : q < 256 := by have := of_decide_eq_true g4; omega
          rw [show 0 + Int.toNat (q : Int) * 1 = q from by omega]
          refine ⟨⟨by omega, by show (q : Int) < 256; omega⟩, inR rs q, by rw [k30.cell, b256_get _ _ g4']; simp, ⟨by omega, by show (q : Int) < 256; omega⟩, ?_⟩
          refine stW_in k30 (by rw [b256_length]; show q + 1 ≤ 256; omega) fun w34 s34 k34 e34 => ?_
          refine ⟨_, by omega, q + 1, by rw [w64 (by omega)]; omega, by omega, rfl, Blk.keep h30 e34 (by omega), ?_, E30.step e34 fun k hk h => by omega⟩
          have : segSet (b256 fun n => if n < q then !inR rs n else inR rs n) q [.bool (!inR rs q)] = b256 fun n => if n < q + 1 then !inR rs n else inR rs n := by
            show (b256 _).set q _ = _
            rw [b256_set]
            apply b256_ext
            intro n hn
            by_cases hnq : n = q
            · subst hnq; simp
            · rw [if_neg hnq]
              by_cases h1 : n < q
              · rw [if_pos h1, if_pos (by omega)]
              · rw [if_neg h1, if_neg (by omega)]
          rw [← this]; exact k34
        · have : q = 256 := by have := of_decide_eq_false g4; omega
          subst this
          have hfe : (b256 fun n => if n < 256 then !inR rs n else inR rs n) = b256 fun n => inR rs n != decide (at_ (L s) (i + 1) = 94) := by
            apply b256_ext
            intro n hn
            rw [if_pos hn, g3']; simp
          rw [hfe] at k30
          exact hend k30 h30 E30 rfl
      · have g3' : ¬ at_ (L s) (i + 1) = 94 := by have : ¬ ((at_ (L s) (i + 1) : Nat) : Int) = 94 := by simpa using g3
                                                  omega
        exact hend k26 h26 E26 (by funext n; rw [decide_eq_false g3']; simp)
  · rintro - w43 ⟨hS43, hfj⟩
    by_cases hjl : j < s.size
    case neg =>
      refine (part_bad hS43.1 first hjl).use fun e w46 he => ?_
      obtain ⟨rfl, b46⟩ := he
      exact hpan hS43 (Ext.of_below b46) (hout hjl)
    have hn : ¬ (first = false ∧ at_ (L s) j = 93) := by
      rintro ⟨h1, h2⟩
      rcases hfj with h | h
      · rw [h] at h1; cases h1
      · exact h.2 h2
    refine (part_ok hS43.1 (by omega) first hjl (hfj.imp id (·.2))).use fun e w46 he => ?_
    obtain ⟨e46, he⟩ := he
    cases hp : partP (L s) j with
    | bad n =>
      rw [hp] at he; subst he
      exact hpan hS43 e46 (by rw [← hCl, clsP_bad (by omega) hn hp])
    | ok x =>
    obtain ⟨j1, r, o⟩ := x
    have hj1 := partP_gt (by omega) hp
    rw [hp] at he
    obtain ⟨rfl, h46⟩ := he
    have S46 : St w46 j1 rs := ⟨h46, hS43.2.1.keep e46 hb13b, hS43.2.2.trans e46⟩
    refine ⟨_, _, rfl, ?_⟩
    refine newC_in fun w49 s49 k49 e49 => ?_
    have S49 := hstE S46 e49
    have hlt13 := S46.2.1.lt
    have hbl46 := Blk.lt h46
    refine stA_in k49 (b256_length _) List.length_replicate (b256_scal _) fun w50 s50 k50 e50 => ?_
    have hz46 := S46.2.2.size
    have S50 : St w50 j1 rs := ⟨Blk.keep S49.1 e50 (by omega), S49.2.1.keep e50 (by omega), S49.2.2.step e50 fun k hk h => by omega⟩
    generalize hb48 : w46.heap.size = b48 at *
    -- behind the range, if there is one
    refine ⟨fun w' => ∃ j2 r', clsP (L s) j first rs = clsP (L s) j2 false (rs ++ r') ∧ j < j2 ∧ j2 ≤ s.size ∧ St w' j2 rs ∧ Blk w'.heap b48 177 (b256 (inR r')), ?_, ?_⟩
    · cases o with
      | none =>
        refine ⟨fun g1 => by simp at g1, fun _ => ⟨j1, r, clsP_many (by omega) hn hp, by omega, by omega, S50, k50⟩⟩
      | some v =>
        obtain ⟨rfl, hv⟩ := partP_one hp
        have hone := clsP_one (rs := rs) (by omega) hn hp
        refine ⟨fun _ => ?_, fun g1 => by simp at g1⟩
        by_cases hj1l : j1 < s.size
        case neg =>
          refine (need_bad S50.1 hj1l).use fun e w53 he => ?_
          obtain ⟨rfl, b53⟩ := he
          exact hpan S50 (Ext.of_below b53) (by rw [← hCl, hone, if_pos (by omega), hsz])
        rw [if_neg (by omega)] at hone
        refine (need_ret S50.1 hj1l).ret fun w53 b53 => ⟨_, rfl, fun g2 => ?_, fun g2 => ?_⟩
        case refine_2 =>
          have : at_ (L s) j1 ≠ 45 := by have : ((at_ (L s) j1 : Nat) : Int) ≠ 45 := by simpa using g2
                                         omega
          rw [if_pos this] at hone
          exact ⟨j1, _, hone, by omega, by omega, hst S50 b53, k50.below b53⟩
        have g2' : at_ (L s) j1 = 45 := by have : ((at_ (L s) j1 : Nat) : Int) = 45 := by simpa using g2
                                           omega
        rw [if_neg (by omega)] at hone
        refine drw_in fun w55 q55 e55 => ?_
        have S55 := hstE (hst S50 b53) e55
        have k55 := (k50.below b53).keep e55 fun h => h
        have hw1 : IntKind.wrap .i64 ((j1 : Int) + 1) = ((j1 + 1 : Nat) : Int) := by rw [w64 (by omega)]; omega
        refine ⟨j1, S55.1.cell 1, s, S55.1.cell 0, ?_⟩
        rw [hw1]
        refine ⟨fun w' => w' = w55 ∧ j1 + 1 < s.size, ⟨fun g3 => ?_, fun g3 => ⟨rfl, by have := of_decide_eq_false g3; omega⟩⟩, ?_⟩
        · have g3' := of_decide_eq_true g3
          refine ⟨s, S55.1.cell 0, (fail_ok b s.size rfl w55).use fun e w57 he => ?_⟩
          obtain ⟨rfl, rfl⟩ := he
          exact hpan S55 (Ext.refl _ _) (by rw [← hCl, hone, if_pos (by omega), hsz])
        rintro - w63 ⟨rfl, hj12⟩
        rw [if_neg (by omega)] at hone
        refine drw_in fun w64 q64 e64 => ?_
        have S64 := hstE S55 e64
        have k64 := k55.keep e64 fun h => h
        refine ⟨s, S64.1.cell 0, j1, S64.1.cell 1, ?_⟩
        dsimp only
        rw [hw1, byteI s (j := j1 + 1) rfl]
        refine ⟨⟨by omega, by omega⟩, fun g4 => ?_, fun g4 => ?_⟩
        case refine_2 =>
          have : at_ (L s) (j1 + 1) = 93 := by have : ((at_ (L s) (j1 + 1) : Nat) : Int) = 93 := by simpa using g4
                                               omega
          rw [if_pos this] at hone
          exact ⟨j1, _, hone, by omega, by omega, S64, k64⟩
        have g4' : at_ (L s) (j1 + 1) ≠ 93 := by have : ((at_ (L s) (j1 + 1) : Nat) : Int) ≠ 93 := by simpa using g4
                                                 omega
        rw [if_neg g4'] at hone
        refine ⟨j1, S64.1.cell 1, ?_⟩
        refine S64.1.mv (j := j1 + 1) hw1 fun w68 s68 h68 e68 => ?_
        have k68 := k64.keep e68 (by omega)
        have S68 : St w68 (j1 + 1) rs := ⟨h68, S64.2.1.keep e68 hb13b, S64.2.2.trans e68⟩
        refine ⟨_, h68.cell 1, ?_⟩
        refine (part_ok h68 (by omega) false hj12 (.inr g4')).use fun e w72 he => ?_
        obtain ⟨e72, he⟩ := he
        cases hq : partP (L s) (j1 + 1) with
        | bad n =>
          rw [hq] at he hone; subst he
          exact hpan S68 e72 (by rw [← hCl, hone])
        | ok x =>
        obtain ⟨j2, r2, o2⟩ := x
        have hj2 := partP_gt (by omega) hq
        rw [hq] at he hone
        obtain ⟨rfl, h72⟩ := he
        refine ⟨_, _, rfl, ?_⟩
        have S72 : St w72 j2 rs := ⟨h72, S68.2.1.keep e72 hb13b, S68.2.2.trans e72⟩
        have k72 := k68.keep e72 (by omega)
        have hlt13' := S72.2.1.lt
        have hlt48 := k72.lt
        have hbl72 := Blk.lt h72
        refine newC_in fun w75 s75 k75 e75 => ?_
        have S75 := hstE S72 e75
        have k48 := k72.keep e75 fun h => h
        refine stA_in k75 (b256_length _) List.length_replicate (b256_scal _) fun w76 s76 k76 e76 => ?_
        have hz72 := S72.2.2.size
        have S76 : St w76 j2 rs := ⟨Blk.keep S75.1 e76 (by omega), S75.2.1.keep e76 (by omega), S75.2.2.step e76 fun k hk h => by omega⟩
        have k48' := k48.keep e76 (by omega)
        refine drw_in fun w77 q77 e77 => ?_
        have S77 := hstE S76 e77
        have k48'' := k48'.keep e77 fun h => h
        have k74 := k76.keep e77 fun h => h
        cases o2 with
        | none =>
          refine ⟨fun _ => ?_, fun g => by simp at g⟩
          refine (fail_ok b (j1 + 1) rfl w77).use fun e w78 he => ?_
          obtain ⟨rfl, rfl⟩ := he
          exact hpan S77 (Ext.refl _ _) (by rw [← hCl, hone])
        | some v2 =>
        obtain ⟨rfl, hv2⟩ := partP_one hq
        simp only [] at hone
        refine ⟨fun g => by simp at g, fun _ => ?_⟩
        have lowv : ∀ (v : Nat), v < 256 → ∀ w, Cl Try.prog 162 [.agg ⟨b256 (inR [(v, v)])⟩] w (RetB (.int .i64 v) w) := fun v hv w =>
          low_ok _ v hv (by rw [inR_one]; simp) (fun n hn => by rw [inR_one]; exact decide_eq_false (by omega)) w
        refine ⟨⟨b256 (inR [(v2, v2)])⟩, b256_size _, k74.all, ⟨b256 (inR [(v, v)])⟩, b256_size _, k48''.all, ?_⟩
        refine (lowv v2 hv2 w77).ret fun w94 b94 => ⟨_, rfl, (k48''.below b94).all, ?_⟩
        refine (lowv v hv w94).ret fun w97 b97 => ⟨_, rfl, fun g5 => ?_, fun g5 => ?_⟩
        · have g5' := of_decide_eq_true g5
          refine (fail_ok b (j1 + 1) rfl w97).use fun e w99 he => ?_
          obtain ⟨rfl, rfl⟩ := he
          exact hpan S77 (Ext.of_below (b94.vstep b97)) (by rw [← hCl, hone, if_pos (by omega)])
        · have g5' := of_decide_eq_false g5
          rw [if_neg (by omega)] at hone
          refine drw_in fun w112 q112 e112 => ?_
          have B112 : Below w77.heap.size w77 w112 := Ext.to (b94.vstep b97) e112 fun _ h => h.elim
          have S112 := hst S77 B112
          have k48b := k48''.below B112
          have k74b := k74.below B112
          refine ⟨⟨b256 (inR [(v, v)])⟩, b256_size _, k48b.all, ⟨b256 (inR [(v2, v2)])⟩, b256_size _, k74b.all, ?_⟩
          refine (lowv v hv w112).ret fun w116 b116 => ⟨_, rfl, (k74b.below b116).all, ?_⟩
          refine (lowv v2 hv2 w116).ret fun w119 b119 => ⟨_, rfl, ?_⟩
          have B119 := b116.vstep b119
          refine (addR_ok (k48b.below B119) v v2 hv2 rfl rfl).use fun e w121 he => ?_
          obtain ⟨rfl, k121, e121⟩ := he
          have S119 := hst S112 B119
          refine ⟨rfl, j2, [(v, v)] ++ [(v, v2)], ?_, by omega, by omega, ⟨Blk.keep S119.1 e121 (by omega), S119.2.1.keep e121 (by omega), S119.2.2.step e121 fun k hk h => by omega⟩, k121⟩
          rw [hone, List.append_assoc]
    · rintro - w124 ⟨j2, r', hc2, hj2, hj2l, S124, k124⟩
      refine ⟨⟨b256 (inR r')⟩, b256_size _, k124.all, ?_⟩
      refine ⟨fun k n w' => ∃ q : Nat, n = q ∧ q ≤ 256 ∧ k = 256 - q ∧ Rd w' b s j2 g dp a ln c ∧ Blk w'.heap b13 177 (b256 fun n => inR rs n || (decide (n < q) && inR r' n)) ∧ Ext (fun k => k = b) w w', ⟨_, 0, rfl, by omega, rfl, S124.1, by simpa using S124.2.1, S124.2.2⟩, ?_⟩
      rintro k d n w30 ⟨q, rfl, hq, rfl, h30, k30, E30⟩
      refine ⟨fun g4 => ?_, fun g4 => ?_⟩
      · have g4' : q < 256 := by have := of_decide_eq_true g4; omega
        have hback : ∀ w34 : World, ∀ v : Bool, v = (inR rs q || inR r' q) → Ext (fun k => k = b13) w30 w34 → Blk w34.heap b13 177 (segSet (b256 fun n => inR rs n || (decide (n < q) && inR r' n)) q [.bool v]) →
            ∃ m, m < 256 - q ∧ ∃ q' : Nat, IntKind.wrap .i64 ((q : Int) + 1) = q' ∧ q' ≤ 256 ∧ m = 256 - q' ∧ Rd w34 b s j2 g dp a ln c ∧ Blk w34.heap b13 177 (b256 fun n => inR rs n || (decide (n < q') && inR r' n)) ∧ Ext (fun k => k = b) w w34 := by
          intro w34 v hv e34 k34
          refine ⟨_, by omega, q + 1, by rw [w64 (by omega)]; omega, by omega, rfl, Blk.keep h30 e34 (by omega), ?_, E30.step e34 fun k hk h => by omega⟩
          have : segSet (b256 fun n => inR rs n || (decide (n < q) && inR r' n)) q [.bool v] = b256 fun n => inR rs n || (decide (n < q + 1) && inR r' n) := by
            show (b256 _).set q _ = _
            rw [b256_set]
            apply b256_ext
            intro n hn
            by_cases hnq : n = q
            · subst hnq; simp [hv]
            · rw [if_neg hnq, show decide (n < q) = decide (n < q + 1) from decide_eq_decide.2 (by omega)]
          rw [← this]; exact k34
        rw [show 0 + Int.toNat (q : Int) * 1 = q from by omega]
        have hqi : 0 ≤ (q : Int) ∧ (q : Int) < ((256 : Nat) : Int) := ⟨by omega, by omega⟩
        refine ⟨inR r' q, idx256 (inR r') q g4' w30, hqi, inR rs q, by rw [k30.cell, b256_get _ _ g4']; simp, fun g5 => ⟨hqi, ?_⟩, fun g5 => ⟨hqi, ?_⟩⟩
        · exact stW_in k30 (by rw [b256_length]; show q + 1 ≤ 256; omega) fun w34 s34 k34 e34 => hback w34 true (by rw [g5]; simp) e34 k34
        · exact stW_in k30 (by rw [b256_length]; show q + 1 ≤ 256; omega) fun w34 s34 k34 e34 => hback w34 (inR r' q) (by rw [g5]; simp) e34 k34
      · have : q = 256 := by have := of_decide_eq_false g4; omega
        subst this
        refine ⟨s.size + 1 - j2, by omega, j2, rs ++ r', by rw [← hc2, hCl], rfl, hj2l, h30, ?_, E30⟩
        rw [b256_ext (g := fun n => inR rs n || (decide (n < 256) && inR r' n)) fun n hn => by rw [inR_app]; simp [hn]]
        exact k30
end Go.Proofs.Ytngbiaeliphdjaa.V
/- Pieces in memory; the program's put. No statement of the seat is proved here. -/
namespace Go.Vc
open Go.RowKit
set_option linter.unusedVariables false
set_option linter.unusedSimpArgs false
/-- A piece as its cells hold it. -/
structure Raw where
  kind : Int
  sa : Option Addr
  sl : Nat
  sc : Nat
  min : Int
  max : Int
  lazy : Bool
  num : Int
  ka : Option Addr
  kl : Nat
  kc : Nat
def Raw.cells (r : Raw) : List Value := [.int .i64 r.kind, .slice r.sa r.sl r.sc, .int .i64 r.min, .int .i64 r.max, .bool r.lazy, .int .i64 r.num, .slice r.ka r.kl r.kc]
def rawC (l : List Raw) : List Value := l.flatMap Raw.cells
theorem rawC_append (l m : List Raw) : rawC (l ++ m) = rawC l ++ rawC m := by simp [rawC]
theorem rawC_one (r : Raw) : rawC [r] = r.cells := by simp [rawC]
theorem rawC_length (l : List Raw) : (rawC l).length = l.length * 7 := by
  induction l with
  | nil => rfl
  | cons b r ih => rw [show b :: r = [b] ++ r from rfl, rawC_append, List.length_append, ih, rawC_one]; simp [Raw.cells]; omega
theorem rawC_at : ∀ (l : List Raw) (i : Nat) (h : i < l.length) (o : Nat), o < 7 → (rawC l)[i * 7 + o]? = l[i].cells[o]?
  | b :: r, 0, h, o, ho => by
    rw [show rawC (b :: r) = b.cells ++ rawC r from by simp [rawC]]
    rw [List.getElem?_append_left (by simp [Raw.cells]; omega)]; simp
  | b :: r, i + 1, h, o, ho => by
    rw [show rawC (b :: r) = b.cells ++ rawC r from by simp [rawC]]
    have hl : b.cells.length = 7 := rfl
    rw [List.getElem?_append_right (by rw [hl]; omega), hl, show (i + 1) * 7 + o - 7 = i * 7 + o from by omega]
    simpa using rawC_at r i (by simpa using h) o ho
theorem rawC_scal (l : List Raw) : (rawC l).all scal = true := by
  simp only [rawC, List.all_flatMap, List.all_eq_true]
  intro b _ v hv
  simp only [Raw.cells, List.mem_cons, List.not_mem_nil, or_false] at hv
  rcases hv with rfl | rfl | rfl | rfl | rfl | rfl | rfl <;> rfl
def intC (l : List Int) : List Value := l.map fun n => .int .i64 n
theorem intC_append (l m : List Int) : intC (l ++ m) = intC l ++ intC m := by simp [intC]
theorem intC_length (l : List Int) : (intC l).length = l.length * 1 := by simp [intC]
def ob (a : Option Addr) : List Nat := (blkOf a).toList
theorem mem_ob {a : Option Addr} {k : Nat} : k ∈ ob a ↔ blkOf a = some k := by unfold ob; cases blkOf a <;> simp [eq_comm]
def Raw.blocks (r : Raw) : List Nat := ob r.sa ++ ob r.ka
/-- The piece that these cells mean. -/
structure RawOk (w : World) (r : Raw) (p : Pc) : Prop where
  kind : r.kind = p.kind
  min : r.min = p.min
  max : r.max = p.max
  lazy : r.lazy = p.lazy
  num : r.num = p.num
  set : Vec w.heap 134 2 r.sa r.sl r.sc (rngC p.set)
  kids : Vec w.heap 3 1 r.ka r.kl r.kc (intC p.kids)
theorem RawOk.keep {S : Nat → Prop} {w w' : World} {r : Raw} {p : Pc} (h : RawOk w r p) (e : Ext S w w') (hs : ∀ k ∈ r.blocks, ¬ S k) : RawOk w' r p :=
  ⟨h.kind, h.min, h.max, h.lazy, h.num, h.set.keep e fun b hb => hs b (List.mem_append_left _ (mem_ob.2 hb)), h.kids.keep e fun b hb => hs b (List.mem_append_right _ (mem_ob.2 hb))⟩
theorem RawOk.lt {w : World} {r : Raw} {p : Pc} (h : RawOk w r p) : ∀ k ∈ r.blocks, k < w.heap.size := by
  intro k hk
  rcases List.mem_append.1 hk with hk | hk
  · exact h.set.lt k (mem_ob.1 hk)
  · exact h.kids.lt k (mem_ob.1 hk)
/-- A row of pieces, in blocks of its own, no two of them one. -/
def blks (a : Option Addr) (rs : List Raw) : List Nat := ob a ++ rs.flatMap Raw.blocks
structure Pcs (N : Nat) (w : World) (a : Option Addr) (l c : Nat) (rs : List Raw) (ps : List Pc) : Prop where
  row : Vec w.heap 111 7 a l c (rawC rs)
  len : rs.length = l
  len' : ps.length = l
  all : ∀ (i : Nat) (r : Raw) (p : Pc), rs[i]? = some r → ps[i]? = some p → RawOk w r p
  nodup : (blks a rs).Nodup
  low : ∀ b ∈ blks a rs, N ≤ b
theorem Pcs.nil (N : Nat) (w : World) : Pcs N w none 0 0 [] [] := ⟨Vec.nil _ _ _, rfl, rfl, by intro i r p h; simp at h, by simp [blks, ob, blkOf], by simp [blks, ob, blkOf]⟩
theorem Pcs.each {N : Nat} {w : World} {a : Option Addr} {l c : Nat} {rs : List Raw} {ps : List Pc} (h : Pcs N w a l c rs ps) {r : Raw} (hr : r ∈ rs) : ∃ p, p ∈ ps ∧ RawOk w r p := by
  obtain ⟨i, hi⟩ := List.getElem?_of_mem hr
  have hil : i < ps.length := by rw [h.len', ← h.len]; exact (List.getElem?_eq_some_iff.1 hi).1
  exact ⟨ps[i], List.getElem_mem _, h.all i r _ hi (List.getElem?_eq_getElem hil)⟩
theorem Pcs.lt {N : Nat} {w : World} {a : Option Addr} {l c : Nat} {rs : List Raw} {ps : List Pc} (h : Pcs N w a l c rs ps) : ∀ b ∈ blks a rs, b < w.heap.size := by
  intro b hb
  rcases List.mem_append.1 hb with hb | hb
  · exact h.row.lt b (mem_ob.1 hb)
  · obtain ⟨r, hr, hb⟩ := List.mem_flatMap.1 hb
    obtain ⟨p, _, hp⟩ := h.each hr
    exact hp.lt b hb
theorem Pcs.keep {S : Nat → Prop} {N : Nat} {w w' : World} {a : Option Addr} {l c : Nat} {rs : List Raw} {ps : List Pc} (h : Pcs N w a l c rs ps) (e : Ext S w w') (hs : ∀ k ∈ blks a rs, ¬ S k) : Pcs N w' a l c rs ps :=
  ⟨h.row.keep e fun b hb => hs b (List.mem_append_left _ (mem_ob.2 hb)), h.len, h.len', fun i r p hr hp => (h.all i r p hr hp).keep e fun k hk => hs k (List.mem_append_right _ (List.mem_flatMap.2 ⟨r, List.mem_of_getElem? hr, hk⟩)), h.nodup, h.low⟩
theorem Pcs.below {N : Nat} {w w' : World} {a : Option Addr} {l c : Nat} {rs : List Raw} {ps : List Pc} (h : Pcs N w a l c rs ps) (e : Below w.heap.size w w') : Pcs N w' a l c rs ps :=
  h.keep (S := fun _ => False) (Ext.of_below e) fun _ _ h => h
/-- What a step may have changed: the block b, the blocks B; what it leaves as its own is B or new. -/
def Step (b : Nat) (B : List Nat) (w w' : World) (B' : List Nat) : Prop := Ext (fun k => k = b ∨ k ∈ B) w w' ∧ ∀ k ∈ B', k ∈ B ∨ w.heap.size ≤ k
theorem Step.refl (b : Nat) (B : List Nat) (w : World) : Step b B w w B := ⟨Ext.refl _ _, fun k hk => .inl hk⟩
theorem Step.trans {b : Nat} {B B1 B2 : List Nat} {w w1 w2 : World} (h : Step b B w w1 B1) (k : Step b B1 w1 w2 B2) : Step b B w w2 B2 := by
  refine ⟨h.1.step k.1 fun i hi hk => ?_, fun i hi => ?_⟩
  · rcases hk with hk | hk
    · exact .inl hk
    · rcases h.2 i hk with h1 | h1
      · exact .inr h1
      · omega
  · rcases k.2 i hi with h1 | h1
    · exact h.2 i h1
    · exact .inr (Nat.le_trans h.1.size h1)
theorem Step.of_ext {b : Nat} {B : List Nat} {w w' : World} (h : Ext (fun k => k = b) w w') : Step b B w w' B := ⟨Ext.mono h fun _ _ hk => .inl hk, fun k hk => .inl hk⟩
theorem Step.of_below {b : Nat} {B : List Nat} {w w' : World} (h : Below w.heap.size w w') : Step b B w w' B := ⟨Ext.of_below h, fun k hk => .inl hk⟩
end Go.Vc
namespace Go.Proofs.Ytngbiaeliphdjaa.V
open Go.Vc Go.Proofs Go.RowKit
set_option linter.unusedVariables false
set_option linter.unusedSimpArgs false

theorem elemPc : Elem Try.prog 35 111 7 88 := ⟨by kernel_rfl, by kernel_rfl, by kernel_rfl, ⟨[.int .i64 0, .slice none 0 0, .int .i64 0, .int .i64 0, .bool false, .int .i64 0, .slice none 0 0], by kernel_rfl, rfl⟩⟩
theorem elemInt : Elem Try.prog 109 3 1 8 := ⟨by kernel_rfl, by kernel_rfl, by kernel_rfl, ⟨[.int .i64 0], by kernel_rfl, rfl⟩⟩

/-- One piece more. -/
theorem Pcs_app {N : Nat} {w : World} {a : Option Addr} {l c : Nat} {rs : List Raw} {ps : List Pc} (h : Pcs N w a l c rs ps) (hN : N ≤ w.heap.size) {r : Raw} {p : Pc} (hr : RawOk w r p) (hb : r.blocks.Nodup) (hd : ∀ k ∈ r.blocks, k ∉ blks a rs ∧ N ≤ k) (hl : l ≤ 1000) :
    ∃ a2 c2 w', (Builtin.append_ #[35, 35] 35 #[.slice a l c, .slice (some ⟨w.heap.size, 0, none⟩) 1 1]).run Try.prog (newW w (.cells ⟨r.cells⟩ 111)) = .ok (.slice a2 (l + 1) c2) w' ∧ Pcs N w' a2 (l + 1) c2 (rs ++ [r]) (ps ++ [p]) ∧
      Ext (fun k => k ∈ ob a) w w' ∧ (a2 = a ∨ a2 = some ⟨w.heap.size + 1, 0, none⟩) := by
  have E1 : Ext (fun _ => False) w (newW w (.cells ⟨r.cells⟩ 111)) := (Ext.refl _ w).vnew _
  obtain ⟨a2, c2, w', h1, h2, h3, h4⟩ := append_run (P := Try.prog) (T := 35) (T' := 35) (T'' := 35) elemPc.und elemPc.und elemPc.size elemPc.bytes (by rw [show zeroL Try.prog 111 = some _ from elemPc.zero.choose_spec.1]; simp)
    (by rw [show zeroL Try.prog 111 = some _ from elemPc.zero.choose_spec.1]; intro y hy; cases hy; exact elemPc.zero.choose_spec.2) (h.row.keep E1 fun _ _ h => h) (a' := some ⟨w.heap.size, 0, none⟩) (n := 1) (c' := 1) (ys := r.cells) rfl rfl (.inr ⟨_, _, rfl, cellsAt_newW w _ _⟩) (fun h => by cases h) (by omega) (by omega)
  rw [size_newW] at h4
  have E2 : Ext (fun k => k ∈ ob a) w w' := (Ext.mono E1 fun _ _ h => h.elim).trans (Ext.mono h3 fun k _ hk => mem_ob.2 hk)
  have hnd := List.nodup_append.1 h.nodup
  have hblk : ∀ k, k ∈ blks a2 (rs ++ [r]) → k ∈ blks a rs ∨ k ∈ r.blocks ∨ k = w.heap.size + 1 := by
    intro k hk
    simp only [blks, List.flatMap_append, List.mem_append, List.flatMap_cons, List.flatMap_nil, List.append_nil] at hk ⊢
    rcases hk with hk | hk | hk
    · rcases h4 with rfl | rfl
      · exact .inl (.inl hk)
      · right; right; rw [mem_ob] at hk; simp [blkOf] at hk; omega
    · exact .inl (.inr hk)
    · exact .inr (.inl hk)
  refine ⟨a2, c2, w', h1, ⟨by rw [rawC_append, rawC_one]; exact h2, by simp [h.len], by simp [h.len'], ?_, ?_, ?_⟩, E2, h4⟩
  · intro i x y hx hy
    rw [List.getElem?_append] at hx hy
    rw [h.len] at hx
    rw [h.len'] at hy
    split at hx
    · rename_i hi
      rw [if_pos hi] at hy
      refine (h.all i x y hx hy).keep E2 fun k hk hka => ?_
      exact hnd.2.2 k hka k (List.mem_flatMap.2 ⟨x, List.mem_of_getElem? hx, hk⟩) rfl
    · rename_i hi
      rw [if_neg hi] at hy
      have hx' : x = r := by
        have := List.mem_of_getElem? hx; simpa using this
      have hy' : y = p := by
        have := List.mem_of_getElem? hy; simpa using this
      subst hx' hy'
      exact hr.keep E2 fun k hk hka => (hd k hk).1 (List.mem_append_left _ hka)
  · -- all blocks differ
    have hr2 : ∀ k ∈ rs.flatMap Raw.blocks, k ∉ r.blocks := fun k hk hk2 => (hd k hk2).1 (List.mem_append_right _ hk)
    unfold blks
    rw [List.flatMap_append, List.nodup_append]
    refine ⟨by unfold ob; cases blkOf a2 <;> simp, ?_, ?_⟩
    · rw [List.nodup_append]
      refine ⟨hnd.2.1, by simpa using hb, ?_⟩
      intro x hx y hy hxy
      subst hxy
      exact hr2 x hx (by simpa using hy)
    · intro x hx y hy hxy
      subst hxy
      rcases h4 with rfl | rfl
      · rcases List.mem_append.1 hy with hy | hy
        · exact hnd.2.2 x hx x hy rfl
        · exact (hd x (by simpa using hy)).1 (List.mem_append_left _ hx)
      · have hxe : x = w.heap.size + 1 := by rw [mem_ob] at hx; simp [blkOf] at hx; omega
        rcases List.mem_append.1 hy with hy | hy
        · have := h.lt x (List.mem_append_right _ hy); omega
        · have := hr.lt x (by simpa using hy); omega
  · intro k hk
    rcases hblk k hk with h1 | h1 | h1
    · exact h.low k h1
    · exact (hd k h1).2
    · omega
end Go.Proofs.Ytngbiaeliphdjaa.V
/- Lemmas on rows in memory, marks, boxes. No statement of the seat is proved here. -/
namespace Go.Vc
open Go.RowKit
set_option linter.unusedVariables false
set_option linter.unusedSimpArgs false
theorem Vec.open {h : Array Obj} {e : TypeId} {sz : Nat} {a : Option Addr} {l c : Nat} {xs : List Value} (hv : Vec h e sz a l c xs) (hl : 0 < l * sz) : ∃ b, a = some ⟨b, 0, none⟩ ∧ ∀ o, o < l * sz → cellH h b o = xs[o]? := by
  obtain ⟨h1, h2, h3⟩ := hv
  rcases h3 with ⟨rfl, rfl⟩ | ⟨b, cs, rfl, hb, h6, h7⟩
  · have : l = 0 := by omega
    subst this; simp at hl
  · refine ⟨b, rfl, fun o ho => ?_⟩
    rw [hb.cell, ← h7, List.getElem?_take, if_pos ho]
theorem Vec.st {w : World} {e : TypeId} {sz : Nat} {b : Nat} {l c : Nat} {xs : List Value} (h : Vec w.heap e sz (some ⟨b, 0, none⟩) l c xs) {o : Nat} (ho : o < l * sz) {v : Value} {K : World → Prop}
    (hK : ∀ w1, w1.heap.size = w.heap.size → Vec w1.heap e sz (some ⟨b, 0, none⟩) l c (xs.set o v) → Ext (fun k => k = b) w w1 → K w1) : stW b o [v] K w := by
  obtain ⟨h1, h2, h3⟩ := h
  rcases h3 with ⟨h3, _⟩ | ⟨b', cs, hb', hB, h6, h7⟩
  · cases h3
  obtain rfl : b = b' := by injection hb' with hb'; injection hb'
  have hle := Nat.mul_le_mul_right sz h2
  refine stW_in hB (by simp only [List.length_singleton]; omega) fun w1 s1 k1 e1 => hK w1 s1 ⟨by rw [List.length_set]; exact h1, h2, .inr ⟨b, _, rfl, k1, by rw [segSet_length]; exact h6, ?_⟩⟩ e1
  show (cs.set o v).take (l * sz) = _
  rw [List.take_set, h7]
theorem rngC_at : ∀ (l : List (Int × Int)) (i : Nat) (h : i < l.length), (rngC l)[i * 2]? = some (.int .i64 l[i].1) ∧ (rngC l)[i * 2 + 1]? = some (.int .i64 l[i].2)
  | x :: r, 0, h => ⟨rfl, rfl⟩
  | x :: r, i + 1, h => by
    have := rngC_at r i (by simpa using h)
    rw [show (i + 1) * 2 = i * 2 + 2 from by omega, show i * 2 + 2 + 1 = (i * 2 + 1) + 2 from by omega]
    exact this
theorem intC_at (l : List Int) (i : Nat) (h : i < l.length) : (intC l)[i]? = some (.int .i64 l[i]) := by simp [intC, h]
def mkRng (k : Nat) : List (Int × Int) → List (Int × Int)
  | [] => []
  | _ :: r => ((k : Int), ((k + 1 : Nat) : Int)) :: mkRng (k + 2) r
theorem mkRng_length (s : List (Int × Int)) : ∀ k, (mkRng k s).length = s.length := by
  induction s with
  | nil => intro k; rfl
  | cons x r ih => intro k; simp [mkRng, ih]
theorem mkRng_append (s t : List (Int × Int)) : ∀ k, mkRng k (s ++ t) = mkRng k s ++ mkRng (k + 2 * s.length) t := by
  induction s with
  | nil => intro k; rfl
  | cons x r ih => intro k; simp only [List.cons_append, mkRng, ih, List.length_cons]; rw [show k + 2 + 2 * r.length = k + 2 * (r.length + 1) from by omega]
end Go.Vc
namespace Go.Proofs.Ytngbiaeliphdjaa.V
open Go.Vc Go.Proofs Go.RowKit
set_option linter.unusedVariables false
set_option linter.unusedSimpArgs false
theorem raw_at {w : World} {b l : Nat} {rs : List Raw} (hc : ∀ o, o < l * 7 → cellH w.heap b o = (rawC rs)[o]?) (hl : rs.length = l) {i : Nat} (hi : i < rs.length) (o : Nat) (ho : o < 7) : cellH w.heap b (0 + i * 7 + o) = rs[i].cells[o]? := by
  rw [Nat.zero_add, hc _ (by omega)]
  exact rawC_at rs i hi o ho
/-- A pattern's value as a box on the heap holds it. -/
def Box (w : World) (b : Nat) (t : Bool) (n m : Int) (a : Option Addr) (l c : Nat) : Prop := Blk w.heap b 37 [.bool t, .int .i64 n, .int .i64 m, .slice a l c]
theorem box_in {w : World} {t : Bool} {n m : Int} {a : Option Addr} {l c : Nat} {K : Nat → World → Prop} (h : ∀ w2, w2.heap.size = w.heap.size + 1 → Box w2 w.heap.size t n m a l c → Below w.heap.size w w2 → K w.heap.size w2) :
    newC [.bool false, .int .i64 0, .int .i64 0, .slice none 0 0] 37 (fun b (w8 : World) => stW b 0 [.bool t, .int .i64 n, .int .i64 m, .slice a l c] (fun w9 => K b w9) w8) w := by
  refine newC_in fun w1 s1 k1 e1 => ?_
  refine stW_in k1 (by show 0 + 4 ≤ 4; decide) fun w2 s2 k2 e2 => ?_
  exact h w2 (by omega) k2 (Ext.to (Ext.to (Below.refl _ _) e1 fun _ h => h.elim) e2 fun i h => by omega)
end Go.Proofs.Ytngbiaeliphdjaa.V

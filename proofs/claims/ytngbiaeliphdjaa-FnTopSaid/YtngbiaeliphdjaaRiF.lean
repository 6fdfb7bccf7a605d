/- Parts of a proof, put together: definitions, formulas of Go functions and lemmas. No statement of the seat is proved here. -/
import Derived.Test.YtngbiaeliphdjaaProg
import Derived.Laws.StructEq
import Derived.Test.YtngbiaeliphdjaaRiE
set_option maxHeartbeats 4000000
/- Drawn patterns are read: their parts. No statement of the seat is proved here. -/
namespace Go.Vc
set_option linter.unusedVariables false
set_option linter.unusedSimpArgs false
/-- Nothing holds it to the text's end. -/
def NE (ps : List Pc) : Prop := ∀ x ∈ ps, x.kind ≠ 7
theorem NE.app {ps : List Pc} (h : NE ps) {x : Pc} (hx : x.kind ≠ 7) : NE (ps ++ [x]) := by
  intro y hy
  rcases List.mem_append.1 hy with hy | hy
  · exact h y hy
  · rw [List.mem_singleton.1 hy]; exact hx
theorem NE.nil : NE [] := by intro x hx; cases hx
theorem NE.alt {ps : List Pc} (h : NE ps) (kids : List Int) : NE (altO ps kids).1 := by
  match kids with
  | [] => exact h.app (by simp [pAlt])
  | [k] => exact h
  | a :: b :: r => exact h.app (by simp [pAlt])
def SqS (pl : Bool) (d g : Nat) (s : Bytes) (g' : Nat) : Prop := ∃ F, SqX d g s g' F ∧ (pl = true → ∀ out kids, NE out → NE (F out kids).1)
def PtS (pl : Bool) (d g : Nat) (s : Bytes) (g' : Nat) : Prop := ∃ F, PtX d g s g' F ∧ (pl = true → ∀ out kids, NE out → NE (F out kids).1)
def AtS (pl : Bool) (d g : Nat) (s : Bytes) (g' : Nat) : Prop := ∃ A, AtX d g s g' A ∧ (pl = true → ∀ out, NE out → NE (A out).1)
def CnS (s : Bytes) : Prop := ∃ a b z, CnX s a b z
theorem SqS.nil (pl : Bool) (d g : Nat) : SqS pl d g [] g := ⟨_, SqX.nil d g, fun _ out kids h => h⟩
theorem SqS.app {pl : Bool} {d g g1 g2 : Nat} {s t : Bytes} (h : SqS pl d g s g1) (k : SqS pl d g1 t g2) : SqS pl d g (s ++ t) g2 := by
  obtain ⟨F, hF, nF⟩ := h
  obtain ⟨G, hG, nG⟩ := k
  exact ⟨_, hF.app hG, fun hp out kids hn => nG hp _ _ (nF hp _ _ hn)⟩
theorem AtS.one {pl : Bool} {d g g' : Nat} {s : Bytes} (h : AtS pl d g s g') : SqS pl d g s g' := by
  obtain ⟨A, hA, nA⟩ := h
  exact ⟨_, hA.one, fun hp out kids hn => nA hp out hn⟩
theorem AtS.cnt {pl : Bool} {d g g' : Nat} {s c : Bytes} (h : AtS pl d g s g') (k : CnS c) : SqS pl d g (s ++ c) g' := by
  obtain ⟨A, hA, nA⟩ := h
  obtain ⟨a, b, z, hk⟩ := k
  exact ⟨_, hA.cnt hk, fun hp out kids hn => (nA hp out hn).app (by simp [pRep])⟩
theorem SqS.pat {pl : Bool} {d g g' : Nat} {s : Bytes} (h : SqS pl d g s g') : PtS pl d g s g' := by
  obtain ⟨F, hF, nF⟩ := h
  exact ⟨_, hF.pat, fun hp out kids hn => (nF hp out [] hn).app (by simp [pSeq])⟩
theorem PtS.alt {pl : Bool} {d g g1 g2 : Nat} {s y : Bytes} (h : SqS pl d g s g1) (k : PtS pl d g1 y g2) : PtS pl d g (s ++ 124 :: y) g2 := by
  obtain ⟨F, hF, nF⟩ := h
  obtain ⟨G, hG, nG⟩ := k
  exact ⟨_, PtX.alt hF hG, fun hp out kids hn => nG hp _ _ ((nF hp out [] hn).app (by simp [pSeq]))⟩
theorem PtS.grp {pl : Bool} {d g g' : Nat} {y : Bytes} (h : PtS pl d (g + 1) y g') (hg : g < 9) : AtS pl (d + 1) g (40 :: (y ++ [41])) g' := by
  obtain ⟨F, hF, nF⟩ := h
  exact ⟨_, hF.grp hg, fun hp out hn => ((nF hp out [] hn).alt _).app (by simp [pGrp])⟩
theorem PtS.read {pl : Bool} {s : Bytes} {g' : Nat} (h : PtS pl 6 0 s g') (hl : s.length ≤ 120) : (readP s).ok = true ∧ (pl = true → NE (readP s).pieces) := by
  obtain ⟨F, hF, nF⟩ := h
  rw [hF.read hl]
  exact ⟨rfl, fun hp => (nF hp [] [] NE.nil).alt _⟩
/-! ### Sets in brackets -/
theorem cls_lit {l : Bytes} {i c : Nat} {first : Bool} {rs : Rs} (h : i + 1 < l.length) (e : at_ l i = c) (h1 : ¬ (first = false ∧ c = 93)) (h2 : c ≠ 92) (h3 : at_ l (i + 1) ≠ 45) : clsP l i first rs = clsP l (i + 1) false (rs ++ [(c, c)]) := by
  have hp : partP l i = .ok (i + 1, [(c, c)], some c) := by unfold partP; rw [if_neg (by omega), e]
  rw [clsP_one (by omega) (by rw [e]; exact h1) hp, if_neg (by omega), if_pos h3]
theorem cls_dash {l : Bytes} {i c : Nat} {first : Bool} {rs : Rs} (h : i + 2 < l.length) (e : at_ l i = c) (h1 : ¬ (first = false ∧ c = 93)) (h2 : c ≠ 92) (h3 : at_ l (i + 1) = 45) (h4 : at_ l (i + 2) = 93) : clsP l i first rs = clsP l (i + 1) false (rs ++ [(c, c)]) := by
  have hp : partP l i = .ok (i + 1, [(c, c)], some c) := by unfold partP; rw [if_neg (by omega), e]
  rw [clsP_one (by omega) (by rw [e]; exact h1) hp, if_neg (by omega), if_neg (by omega), if_neg (by omega), if_pos h4]
theorem cls_rng {l : Bytes} {i c d : Nat} {first : Bool} {rs : Rs} (h : i + 2 < l.length) (e : at_ l i = c) (h1 : ¬ (first = false ∧ c = 93)) (h2 : c ≠ 92) (h3 : at_ l (i + 1) = 45) (h4 : at_ l (i + 2) = d) (h5 : d ≠ 93) (h6 : d ≠ 92) (h7 : c ≤ d) : clsP l i first rs = clsP l (i + 3) false (rs ++ [(c, c)] ++ [(c, d)]) := by
  have hp : partP l i = .ok (i + 1, [(c, c)], some c) := by unfold partP; rw [if_neg (by omega), e]
  have hq : partP l (i + 1 + 1) = .ok (i + 3, [(d, d)], some d) := by unfold partP; rw [if_neg (by rw [show i + 1 + 1 = i + 2 from rfl, h4]; exact h6), show i + 1 + 1 = i + 2 from rfl, h4]
  rw [clsP_one (by omega) (by rw [e]; exact h1) hp, if_neg (by omega), if_neg (by omega), if_neg (by omega), if_neg (by rw [show i + 1 + 1 = i + 2 from rfl, h4]; exact h5), hq]
  simp only []
  rw [if_neg (by omega)]
theorem cls_many {l : Bytes} {i j : Nat} {r : Rs} {first : Bool} {rs : Rs} (h : i < l.length) (e : at_ l i = 92) (hp : escP l (i + 1) = .ok (j, r, none)) : clsP l i first rs = clsP l j false (rs ++ r) :=
  clsP_many h (by omega) (by unfold partP; rw [if_pos e]; exact hp)
theorem cls_hex {l : Bytes} {i j k v u : Nat} {r r' : Rs} {first : Bool} {rs : Rs} (h : i < l.length) (e : at_ l i = 92) (hp : escP l (i + 1) = .ok (j, r, some v)) (hj : j + 1 < l.length) (h3 : at_ l j = 45) (h4 : at_ l (j + 1) = 92) (hq : escP l (j + 1 + 1) = .ok (k, r', some u)) (hv : v ≤ u) : clsP l i first rs = clsP l k false (rs ++ r ++ [(v, u)]) := by
  have hp' : partP l i = .ok (j, r, some v) := by unfold partP; rw [if_pos e]; exact hp
  have hq' : partP l (j + 1) = .ok (k, r', some u) := by unfold partP; rw [if_pos h4]; exact hq
  rw [clsP_one h (by omega) hp', if_neg (by omega), if_neg (by omega), if_neg (by omega), if_neg (by omega), hq']
  simp only []
  rw [if_neg (by omega)]
theorem set_in {l : Bytes} {i : Nat} (h : i + 1 < l.length) (h1 : at_ l (i + 1) ≠ 94) : setP l i = clsFin false (clsP l (i + 1) true []) := by
  unfold setP; rw [if_neg (by omega), if_neg h1, decide_eq_false h1]
theorem set_not {l : Bytes} {i : Nat} (h : i + 1 < l.length) (h1 : at_ l (i + 1) = 94) : setP l i = clsFin true (clsP l (i + 2) true []) := by
  unfold setP; rw [if_neg (by omega), if_pos h1, decide_eq_true h1]
theorem set0 : ∃ rs, ∀ (l : Bytes) (i : Nat), Fit l i [91, 97, 98, 93] → setP l i = .ok (i + [91, 97, 98, 93].length, rs) := by
  refine ⟨?_, fun l i hf => ?_⟩
  rotate_left
  · have hl := hf.le
    simp only [List.length_cons, List.length_nil] at hl
    have e0 : at_ l (i + 0) = 91 := hf.2 0 (by decide)
    have e1 : at_ l (i + 1) = 97 := hf.2 1 (by decide)
    have e2 : at_ l (i + 2) = 98 := hf.2 2 (by decide)
    have e3 : at_ l (i + 3) = 93 := hf.2 3 (by decide)
    rw [set_in (by omega) (by omega), cls_lit (by omega) e1 (by simp) (by omega) (show at_ l (i + 2) ≠ 45 by omega), cls_lit (by omega) e2 (by omega) (by omega) (show at_ l (i + 3) ≠ 45 by omega), clsP_end (by omega) rfl e3]
    rfl
theorem set1 : ∃ rs, ∀ (l : Bytes) (i : Nat), Fit l i [91, 94, 97, 93] → setP l i = .ok (i + [91, 94, 97, 93].length, rs) := by
  refine ⟨?_, fun l i hf => ?_⟩
  rotate_left
  · have hl := hf.le
    simp only [List.length_cons, List.length_nil] at hl
    have e0 : at_ l (i + 0) = 91 := hf.2 0 (by decide)
    have e1 : at_ l (i + 1) = 94 := hf.2 1 (by decide)
    have e2 : at_ l (i + 2) = 97 := hf.2 2 (by decide)
    have e3 : at_ l (i + 3) = 93 := hf.2 3 (by decide)
    rw [set_not (by omega) e1, cls_lit (by omega) e2 (by simp) (by omega) (show at_ l (i + 3) ≠ 45 by omega), clsP_end (by omega) rfl e3]
    rfl
theorem set2 : ∃ rs, ∀ (l : Bytes) (i : Nat), Fit l i [91, 97, 45, 99, 93] → setP l i = .ok (i + [91, 97, 45, 99, 93].length, rs) := by
  refine ⟨?_, fun l i hf => ?_⟩
  rotate_left
  · have hl := hf.le
    simp only [List.length_cons, List.length_nil] at hl
    have e0 : at_ l (i + 0) = 91 := hf.2 0 (by decide)
    have e1 : at_ l (i + 1) = 97 := hf.2 1 (by decide)
    have e2 : at_ l (i + 2) = 45 := hf.2 2 (by decide)
    have e3 : at_ l (i + 3) = 99 := hf.2 3 (by decide)
    have e4 : at_ l (i + 4) = 93 := hf.2 4 (by decide)
    rw [set_in (by omega) (by omega), cls_rng (by omega) e1 (by omega) (by omega) e2 e3 (by omega) (by omega) (by omega), clsP_end (by omega) rfl e4]
    rfl
theorem set3 : ∃ rs, ∀ (l : Bytes) (i : Nat), Fit l i [91, 93, 97, 93] → setP l i = .ok (i + [91, 93, 97, 93].length, rs) := by
  refine ⟨?_, fun l i hf => ?_⟩
  rotate_left
  · have hl := hf.le
    simp only [List.length_cons, List.length_nil] at hl
    have e0 : at_ l (i + 0) = 91 := hf.2 0 (by decide)
    have e1 : at_ l (i + 1) = 93 := hf.2 1 (by decide)
    have e2 : at_ l (i + 2) = 97 := hf.2 2 (by decide)
    have e3 : at_ l (i + 3) = 93 := hf.2 3 (by decide)
    rw [set_in (by omega) (by omega), cls_lit (by omega) e1 (by simp) (by omega) (show at_ l (i + 2) ≠ 45 by omega), cls_lit (by omega) e2 (by omega) (by omega) (show at_ l (i + 3) ≠ 45 by omega), clsP_end (by omega) rfl e3]
    rfl
theorem set4 : ∃ rs, ∀ (l : Bytes) (i : Nat), Fit l i [91, 94, 93, 93] → setP l i = .ok (i + [91, 94, 93, 93].length, rs) := by
  refine ⟨?_, fun l i hf => ?_⟩
  rotate_left
  · have hl := hf.le
    simp only [List.length_cons, List.length_nil] at hl
    have e0 : at_ l (i + 0) = 91 := hf.2 0 (by decide)
    have e1 : at_ l (i + 1) = 94 := hf.2 1 (by decide)
    have e2 : at_ l (i + 2) = 93 := hf.2 2 (by decide)
    have e3 : at_ l (i + 3) = 93 := hf.2 3 (by decide)
    rw [set_not (by omega) e1, cls_lit (by omega) e2 (by simp) (by omega) (show at_ l (i + 3) ≠ 45 by omega), clsP_end (by omega) rfl e3]
    rfl
theorem set5 : ∃ rs, ∀ (l : Bytes) (i : Nat), Fit l i [91, 97, 45, 93] → setP l i = .ok (i + [91, 97, 45, 93].length, rs) := by
  refine ⟨?_, fun l i hf => ?_⟩
  rotate_left
  · have hl := hf.le
    simp only [List.length_cons, List.length_nil] at hl
    have e0 : at_ l (i + 0) = 91 := hf.2 0 (by decide)
    have e1 : at_ l (i + 1) = 97 := hf.2 1 (by decide)
    have e2 : at_ l (i + 2) = 45 := hf.2 2 (by decide)
    have e3 : at_ l (i + 3) = 93 := hf.2 3 (by decide)
    rw [set_in (by omega) (by omega), cls_dash (by omega) e1 (by omega) (by omega) e2 e3, cls_lit (by omega) e2 (by omega) (by omega) (show at_ l (i + 3) ≠ 45 by omega), clsP_end (by omega) rfl e3]
    rfl
theorem set6 : ∃ rs, ∀ (l : Bytes) (i : Nat), Fit l i [91, 92, 119, 45, 93] → setP l i = .ok (i + [91, 92, 119, 45, 93].length, rs) := by
  refine ⟨?_, fun l i hf => ?_⟩
  rotate_left
  · have hl := hf.le
    simp only [List.length_cons, List.length_nil] at hl
    have e0 : at_ l (i + 0) = 91 := hf.2 0 (by decide)
    have e1 : at_ l (i + 1) = 92 := hf.2 1 (by decide)
    have e2 : at_ l (i + 2) = 119 := hf.2 2 (by decide)
    have e3 : at_ l (i + 3) = 45 := hf.2 3 (by decide)
    have e4 : at_ l (i + 4) = 93 := hf.2 4 (by decide)
    rw [set_in (by omega) (by omega), cls_many (j := i + 3) (by omega) e1 (esc_one (c := 119) (r := _) (o := none) rfl (by decide) l (i + 1 + 1) ⟨by simp; omega, fun k hk => by match k, hk with | 0, _ => exact e2⟩), cls_lit (by omega) e3 (by omega) (by omega) (show at_ l (i + 4) ≠ 45 by omega), clsP_end (by omega) rfl e4]
    rfl
theorem set7 : ∃ rs, ∀ (l : Bytes) (i : Nat), Fit l i [91, 92, 120, 48, 48, 45, 92, 120, 55, 102, 93] → setP l i = .ok (i + [91, 92, 120, 48, 48, 45, 92, 120, 55, 102, 93].length, rs) := by
  refine ⟨?_, fun l i hf => ?_⟩
  rotate_left
  · have hl := hf.le
    simp only [List.length_cons, List.length_nil] at hl
    have e0 : at_ l (i + 0) = 91 := hf.2 0 (by decide)
    have e1 : at_ l (i + 1) = 92 := hf.2 1 (by decide)
    have e2 : at_ l (i + 2) = 120 := hf.2 2 (by decide)
    have e3 : at_ l (i + 3) = 48 := hf.2 3 (by decide)
    have e4 : at_ l (i + 4) = 48 := hf.2 4 (by decide)
    have e5 : at_ l (i + 5) = 45 := hf.2 5 (by decide)
    have e6 : at_ l (i + 6) = 92 := hf.2 6 (by decide)
    have e7 : at_ l (i + 7) = 120 := hf.2 7 (by decide)
    have e8 : at_ l (i + 8) = 55 := hf.2 8 (by decide)
    have e9 : at_ l (i + 9) = 102 := hf.2 9 (by decide)
    have e10 : at_ l (i + 10) = 93 := hf.2 10 (by decide)
    rw [set_in (by omega) (by omega), cls_hex (j := i + 5) (k := i + 10) (v := 0) (u := 127) (r := [(0, 0)]) (r' := [(127, 127)]) (by omega) e1 (esc_hex (a := 48) (b := 48) (x := 0) (y := 0) (by decide) (by decide) l (i + 1 + 1) ⟨by simp; omega, fun k hk => by match k, hk with | 0, _ => exact e2 | 1, _ => exact e3 | 2, _ => exact e4⟩) (by omega) e5 e6 (esc_hex (a := 55) (b := 102) (x := 7) (y := 15) (by decide) (by decide) l (i + 6 + 1) ⟨by simp; omega, fun k hk => by match k, hk with | 0, _ => exact e7 | 1, _ => exact e8 | 2, _ => exact e9⟩) (by decide), clsP_end (by omega) rfl e10]
    rfl
theorem set8 : ∃ rs, ∀ (l : Bytes) (i : Nat), Fit l i [91, 94, 92, 115, 92, 100, 93] → setP l i = .ok (i + [91, 94, 92, 115, 92, 100, 93].length, rs) := by
  refine ⟨?_, fun l i hf => ?_⟩
  rotate_left
  · have hl := hf.le
    simp only [List.length_cons, List.length_nil] at hl
    have e0 : at_ l (i + 0) = 91 := hf.2 0 (by decide)
    have e1 : at_ l (i + 1) = 94 := hf.2 1 (by decide)
    have e2 : at_ l (i + 2) = 92 := hf.2 2 (by decide)
    have e3 : at_ l (i + 3) = 115 := hf.2 3 (by decide)
    have e4 : at_ l (i + 4) = 92 := hf.2 4 (by decide)
    have e5 : at_ l (i + 5) = 100 := hf.2 5 (by decide)
    have e6 : at_ l (i + 6) = 93 := hf.2 6 (by decide)
    rw [set_not (by omega) e1, cls_many (j := i + 4) (by omega) e2 (esc_one (c := 115) (r := _) (o := none) rfl (by decide) l (i + 2 + 1) ⟨by simp; omega, fun k hk => by match k, hk with | 0, _ => exact e3⟩), cls_many (j := i + 6) (by omega) e4 (esc_one (c := 100) (r := _) (o := none) rfl (by decide) l (i + 4 + 1) ⟨by simp; omega, fun k hk => by match k, hk with | 0, _ => exact e5⟩), clsP_end (by omega) rfl e6]
    rfl
theorem set9 : ∃ rs, ∀ (l : Bytes) (i : Nat), Fit l i [91, 98, 45, 98, 93] → setP l i = .ok (i + [91, 98, 45, 98, 93].length, rs) := by
  refine ⟨?_, fun l i hf => ?_⟩
  rotate_left
  · have hl := hf.le
    simp only [List.length_cons, List.length_nil] at hl
    have e0 : at_ l (i + 0) = 91 := hf.2 0 (by decide)
    have e1 : at_ l (i + 1) = 98 := hf.2 1 (by decide)
    have e2 : at_ l (i + 2) = 45 := hf.2 2 (by decide)
    have e3 : at_ l (i + 3) = 98 := hf.2 3 (by decide)
    have e4 : at_ l (i + 4) = 93 := hf.2 4 (by decide)
    rw [set_in (by omega) (by omega), cls_rng (by omega) e1 (by omega) (by omega) e2 e3 (by omega) (by omega) (by omega), clsP_end (by omega) rfl e4]
    rfl
end Go.Vc
/- The parts that a drawn pattern is made of. No statement of the seat is proved here. -/
namespace Go.Vc
set_option linter.unusedVariables false
set_option linter.unusedSimpArgs false
/-- It ends in no count. -/
def LastOk (s : Bytes) : Prop := s ≠ [] ∧ at_ s (s.length - 1) ≠ 42 ∧ at_ s (s.length - 1) ≠ 43 ∧ at_ s (s.length - 1) ≠ 63 ∧ at_ s (s.length - 1) ≠ 125
instance (s : Bytes) : Decidable (LastOk s) := by unfold LastOk; infer_instance
theorem aS_set (pl : Bool) (d g : Nat) {s : Bytes} (h : ∃ rs, ∀ (l : Bytes) (i : Nat), Fit l i (91 :: s) → setP l i = .ok (i + (91 :: s).length, rs)) : AtS pl d g (91 :: s) g := by
  obtain ⟨rs, h⟩ := h
  exact ⟨_, at_cls d g h, fun _ out hn => hn.app (by simp [pSet])⟩
theorem aS_esc (pl : Bool) (d g : Nat) {s : Bytes} {r : Rs} {o : Option Nat} (h : ∀ (l : Bytes) (i : Nat), Fit l i s → escP l i = .ok (i + s.length, r, o)) : AtS pl d g (92 :: s) g := ⟨_, at_esc d g h, fun _ out hn => hn.app (by simp [pSet])⟩
theorem aS_chr (pl : Bool) (d g : Nat) {c : UInt8} (h : 97 ≤ c.toNat ∧ c.toNat ≤ 122) : AtS pl d g [c] g := ⟨_, at_set1 d g (by omega), fun _ out hn => hn.app (by simp [pSet])⟩
theorem aS_dot (pl : Bool) (d g : Nat) : AtS pl d g [46] g := ⟨_, at_dot d g, fun _ out hn => hn.app (by simp [pSet])⟩
theorem aS_sta (pl : Bool) (d g : Nat) : AtS pl d g [94] g := ⟨_, at_sta d g, fun _ out hn => hn.app (by simp [pSta])⟩
theorem aS_end (d g : Nat) : AtS false d g [36] g := ⟨_, at_end d g, fun h => by cases h⟩
def setsD : List Bytes := [[91, 97, 98, 93], [91, 94, 97, 93], [91, 97, 45, 99, 93], [91, 93, 97, 93], [91, 94, 93, 93], [91, 97, 45, 93], [91, 92, 119, 45, 93], [91, 92, 120, 48, 48, 45, 92, 120, 55, 102, 93], [91, 94, 92, 115, 92, 100, 93], [91, 98, 45, 98, 93]]
def escsD : List Bytes := [[92, 100], [92, 119], [92, 115], [92, 110], [92, 92], [92, 46], [92, 120, 54, 49], [92, 40], [92, 45]]
def cntsD : List Bytes := [[123, 50, 125], [123, 48, 125], [123, 49, 44, 125], [123, 48, 44, 50, 125], [123, 49, 44, 51, 125], [123, 48, 44, 48, 125], [123, 50, 44, 50, 125]]
/-- An atom that is drawn. -/
def AtD (pl : Bool) (d g : Nat) (s : Bytes) (g' : Nat) : Prop := AtS pl d g s g' ∧ LastOk s
theorem setsD_ok (pl : Bool) (d g : Nat) : ∀ s ∈ setsD, AtD pl d g s g ∧ s.length ≤ 11 := by
  intro s hs
  simp only [setsD, List.mem_cons, List.not_mem_nil, or_false] at hs
  rcases hs with rfl | rfl | rfl | rfl | rfl | rfl | rfl | rfl | rfl | rfl
  · exact ⟨⟨aS_set pl d g set0, by decide⟩, by decide⟩
  · exact ⟨⟨aS_set pl d g set1, by decide⟩, by decide⟩
  · exact ⟨⟨aS_set pl d g set2, by decide⟩, by decide⟩
  · exact ⟨⟨aS_set pl d g set3, by decide⟩, by decide⟩
  · exact ⟨⟨aS_set pl d g set4, by decide⟩, by decide⟩
  · exact ⟨⟨aS_set pl d g set5, by decide⟩, by decide⟩
  · exact ⟨⟨aS_set pl d g set6, by decide⟩, by decide⟩
  · exact ⟨⟨aS_set pl d g set7, by decide⟩, by decide⟩
  · exact ⟨⟨aS_set pl d g set8, by decide⟩, by decide⟩
  · exact ⟨⟨aS_set pl d g set9, by decide⟩, by decide⟩
theorem escsD_ok (pl : Bool) (d g : Nat) : ∀ s ∈ escsD, AtD pl d g s g ∧ s.length ≤ 11 := by
  intro s hs
  simp only [escsD, List.mem_cons, List.not_mem_nil, or_false] at hs
  rcases hs with rfl | rfl | rfl | rfl | rfl | rfl | rfl | rfl | rfl
  · exact ⟨⟨aS_esc pl d g (esc_one (c := 100) rfl (by decide)), by decide⟩, by decide⟩
  · exact ⟨⟨aS_esc pl d g (esc_one (c := 119) rfl (by decide)), by decide⟩, by decide⟩
  · exact ⟨⟨aS_esc pl d g (esc_one (c := 115) rfl (by decide)), by decide⟩, by decide⟩
  · exact ⟨⟨aS_esc pl d g (esc_one (c := 110) rfl (by decide)), by decide⟩, by decide⟩
  · exact ⟨⟨aS_esc pl d g (esc_one (c := 92) rfl (by decide)), by decide⟩, by decide⟩
  · exact ⟨⟨aS_esc pl d g (esc_one (c := 46) rfl (by decide)), by decide⟩, by decide⟩
  · exact ⟨⟨aS_esc pl d g (esc_hex (a := 54) (b := 49) (x := 6) (y := 1) (by decide) (by decide)), by decide⟩, by decide⟩
  · exact ⟨⟨aS_esc pl d g (esc_one (c := 40) rfl (by decide)), by decide⟩, by decide⟩
  · exact ⟨⟨aS_esc pl d g (esc_one (c := 45) rfl (by decide)), by decide⟩, by decide⟩
/-- A count, lazy or not. -/
def CnD (c : Bytes) : Prop := CnS c ∧ CnS (c ++ [63])
theorem cnD_of {c : Bytes} {a b : Int} (h : ∀ z, CnX (c ++ lzT z) a b z) : CnD c := ⟨⟨a, b, false, by have := h false; rwa [show c ++ lzT false = c from by simp [lzT]] at this⟩, ⟨a, b, true, h true⟩⟩
theorem cntsD_ok : ∀ s ∈ cntsD, CnD s ∧ s.length ≤ 5 := by
  intro s hs
  simp only [cntsD, List.mem_cons, List.not_mem_nil, or_false] at hs
  rcases hs with rfl | rfl | rfl | rfl | rfl | rfl | rfl
  · exact ⟨cnD_of fun z => cn_bra (bra_one (m := 2) (by decide)) z, by decide⟩
  · exact ⟨cnD_of fun z => cn_bra (bra_one (m := 0) (by decide)) z, by decide⟩
  · exact ⟨cnD_of fun z => cn_bra (bra_from (m := 1) (by decide)) z, by decide⟩
  · exact ⟨cnD_of fun z => cn_bra (bra_two (m := 0) (n := 2) (by decide) (by decide) (by decide)) z, by decide⟩
  · exact ⟨cnD_of fun z => cn_bra (bra_two (m := 1) (n := 3) (by decide) (by decide) (by decide)) z, by decide⟩
  · exact ⟨cnD_of fun z => cn_bra (bra_two (m := 0) (n := 0) (by decide) (by decide) (by decide)) z, by decide⟩
  · exact ⟨cnD_of fun z => cn_bra (bra_two (m := 2) (n := 2) (by decide) (by decide) (by decide)) z, by decide⟩
theorem cnD_star : CnD [42] := cnD_of cn_star
theorem cnD_plus : CnD [43] := cnD_of cn_plus
theorem cnD_opt : CnD [63] := cnD_of cn_opt
/-- An atom with its count, if any. -/
def ElD (pl : Bool) (d g : Nat) (s : Bytes) (g' : Nat) : Prop := s ≠ [] ∧ SqS pl d g s g' ∧ (at_ s (s.length - 1) = 42 ∨ at_ s (s.length - 1) = 43 ∨ at_ s (s.length - 1) = 63 ∨ at_ s (s.length - 1) = 125 → SqS pl d g (s ++ [63]) g')
theorem AtD.el {pl : Bool} {d g g' : Nat} {s : Bytes} (h : AtD pl d g s g') : ElD pl d g s g' := ⟨h.2.1, h.1.one, fun hl => by have := h.2.2; omega⟩
theorem AtD.elc {pl : Bool} {d g g' : Nat} {s c : Bytes} (h : AtD pl d g s g') (k : CnD c) : ElD pl d g (s ++ c) g' := ⟨by simp [h.2.1], h.1.cnt k.1, fun _ => by rw [List.append_assoc]; exact h.1.cnt k.2⟩
theorem lastOk_grp (y : Bytes) : LastOk (40 :: (y ++ [41])) := by
  have e : at_ (40 :: (y ++ [41])) ((40 :: (y ++ [41])).length - 1) = 41 := by
    have := at_app_r (s := 40 :: y) (t := [41]) (k := 0)
    rw [show (40 :: (y ++ [41])).length - 1 = (40 :: y).length + 0 from by simp]
    exact this
  unfold LastOk
  rw [e]
  exact ⟨by simp, by decide, by decide, by decide, by decide⟩
theorem PtS.grpD {pl : Bool} {d g g' : Nat} {y : Bytes} (h : PtS pl d (g + 1) y g') (hg : g < 9) : AtD pl (d + 1) g (40 :: (y ++ [41])) g' := ⟨h.grp hg, lastOk_grp y⟩
end Go.Vc
/- The drawing of a pattern: it ends, and what it draws is read. No statement of the seat is proved here. -/
namespace Go.Proofs.Ytngbiaeliphdjaa.V
open Go.Vc Go.Proofs Go.RowKit
set_option linter.unusedVariables false
set_option linter.unusedSimpArgs false
theorem Cur.le {w : World} {b B : Nat} {a : Option Addr} {l c m : Nat} (h : Cur w b B a l c m) : m ≤ 1125899906842624 := by
  obtain ⟨⟨p, sd, _, _, h⟩, _⟩ := h
  have := h.1; omega
theorem cell_pick {h : Array Obj} {b : Nat} {ss : List Bytes} (k : Blk h b 9 (ss.map fun s => .string (B s))) {q : Nat} (hq : q < ss.length) : cellH h b (0 + Int.toNat (q : Int) * 1) = some (.string (B ss[q])) := by
  rw [show 0 + Int.toNat (q : Int) * 1 = q from by omega, k.cell]
  simp [hq]
theorem byteAt_B (s : Bytes) (i : Nat) : byteAt (B s) i = (at_ s i : Int) := by rw [byteAt_at, L_B]
/-- The contract of pattern, in so much depth yet. -/
def PatD (n : Nat) : Prop := ∀ (m : Nat) (w : World) (b M : Nat) (a : Option Addr) (l c : Nat) (g : Nat) (pl : Bool), 5059 ≤ m → g ≤ 9 → Cur w b M a l c m →
  Cl Try.prog 107 [.pointer (some ⟨b, 0, none⟩), .int .i64 (n : Int), .int .i64 (g : Int), .bool pl] w (Drew w b M a l c fun v m' => m' < m ∧ 5059 ≤ m' + 14 * n + 17 ∧ ∃ (s : Bytes) (g' : Nat), v = .tuple #[.string (B s), .int .i64 (g' : Int)] ∧ g' ≤ g ∧ PtS pl (n + 3) (9 - g) s (9 - g') ∧ s.length ≤ 32 * (m - m'))
set_option maxHeartbeats 4000000 in
theorem pat_ok : ∀ n, n ≤ 3 → PatD n := by
  intro n
  induction n using Nat.strongRecOn with
  | _ n ihd =>
  intro hn m
  induction m using Nat.strongRecOn with
  | _ m ihm =>
  intro w b M a l c g pl hm hg hC
  have hm50 := hC.le
  apply vc107
  unfold V107
  refine (pick_ok hC (by omega) 4 (by omega) (by omega)).use fun e w7 he => ?_
  obtain ⟨_, m7, rfl, ⟨q1, q2, r, rfl, hr, _⟩, hC7, e7⟩ := he
  refine ⟨r, rfl, fun k n14 s15 n16 w' => ∃ (gi : Nat) (xs : Bytes) (mi : Nat), n14 = gi ∧ s15 = B xs ∧ n16 = k ∧ k ≤ 3 ∧ gi ≤ g ∧ SqS pl (n + 3) (9 - g) xs (9 - gi) ∧ xs.length ≤ 32 * (m - mi) ∧ mi < m ∧ 5059 + 5 * k ≤ mi + (14 * n + 3) + 13 ∧ Cur w' b M a l c mi ∧ Ext (fun k => k = b) w w', ⟨r, g, [], m7, rfl, rfl, rfl, by omega, by omega, SqS.nil _ _ _, by simp, by omega, by omega, hC7, e7⟩, ?_⟩
  rintro k d _ _ _ w12 ⟨gi, xs, mi, rfl, rfl, rfl, hk, hgi, hsq, hxs, hmi, hbd, hCi, hEi⟩
  refine ⟨fun g1 => ?_, fun g1 => ?_⟩
  · have hk0 : 0 < k := by have := of_decide_eq_true g1; omega
    refine (pick_ok hCi (by omega) 12 (by omega) (by omega)).use fun e w18 he => ?_
    obtain ⟨_, m1, rfl, ⟨p1, p2, r12, rfl, hr12, hwin⟩, hC1, e1⟩ := he
    have hE1 := hEi.trans e1
    refine ⟨r12, rfl, fun z s w' => ∃ (g' : Nat) (x : Bytes) (mA : Nat), z = g' ∧ s = B x ∧ g' ≤ gi ∧ AtD pl (n + 3) (9 - gi) x (9 - g') ∧ x.length + 32 * mA ≤ 11 + 32 * m1 ∧ mA ≤ m1 ∧ 5059 + 5 * k ≤ mA + (14 * n + 3) + 15 ∧ Cur w' b M a l c mA ∧ Ext (fun k => k = b) w w', ?_, ?_⟩
    · have J : ∀ {x : Bytes} {w' : World} {mA : Nat}, AtD pl (n + 3) (9 - gi) x (9 - gi) ∧ x.length ≤ 11 → mA ≤ m1 → min (m1 - 1) 5059 ≤ mA → Cur w' b M a l c mA → Ext (fun k => k = b) w w' → ∃ (g' : Nat) (x' : Bytes) (mA : Nat), (gi : Int) = g' ∧ B x = B x' ∧ g' ≤ gi ∧ AtD pl (n + 3) (9 - gi) x' (9 - g') ∧ x'.length + 32 * mA ≤ 11 + 32 * m1 ∧ mA ≤ m1 ∧ 5059 + 5 * k ≤ mA + (14 * n + 3) + 15 ∧ Cur w' b M a l c mA ∧ Ext (fun k => k = b) w w' :=
        fun h1 h2 h3 h4 h5 => ⟨gi, _, _, rfl, rfl, Nat.le_refl _, h1.1, by have := h1.2; omega, h2, by omega, h4, h5⟩
      have chr : ∀ {y : UInt8}, 97 ≤ y.toNat ∧ y.toNat ≤ 122 → AtD pl (n + 3) (9 - gi) [y] (9 - gi) ∧ [y].length ≤ 11 := fun {y} h => ⟨⟨aS_chr _ _ _ h, by
        have e : at_ [y] ([y].length - 1) = y.toNat := rfl
        unfold LastOk; rw [e]; exact ⟨by simp, by omega, by omega, by omega, by omega⟩⟩, by simp⟩
      -- one of some texts
      have lst : ∀ {ss : List Bytes} {K : ByteArray → World → Prop}, 2 ≤ ss.length → ss.length ≤ 100 → (∀ s ∈ ss, AtD pl (n + 3) (9 - gi) s (9 - gi) ∧ s.length ≤ 11) → (∀ {x : Bytes} {w' : World}, (∃ (g' : Nat) (x' : Bytes) (mA : Nat), (gi : Int) = g' ∧ B x = B x' ∧ g' ≤ gi ∧ AtD pl (n + 3) (9 - gi) x' (9 - g') ∧ x'.length + 32 * mA ≤ 11 + 32 * m1 ∧ mA ≤ m1 ∧ 5059 + 5 * k ≤ mA + (14 * n + 3) + 15 ∧ Cur w' b M a l c mA ∧ Ext (fun k => k = b) w w') → K (B x) w') → ∀ {R : Rt}, newC (ss.map fun s => .string (B s)) 9 (fun b21 w22 => clI 82 ([.pointer (some ⟨b, 0, none⟩), .int .i64 ((ss.length : Nat) : Int)]) w22 R fun n23 w24 => ixS (some ⟨b21, 0, none⟩) ss.length n23 fun b26 o27 => lS w24 b26 (o27 + (Int.toNat n23) * 1) fun s28 => K s28 w24) w18 := by
        intro ss K h2 h100 hss hK R
        refine newC_in fun w22 s22 k22 e22 => ?_
        refine (pick_ok (hC1.ext e22 fun _ _ h => h) (by omega) ss.length h2 (by omega)).use fun e w24 he => ?_
        obtain ⟨_, m2, rfl, ⟨h3, h4, q, rfl, hq, _⟩, hC2, e2⟩ := he
        have k24 := k22.keep e2 (by have := hC1.lt; omega)
        exact ⟨q, rfl, _, 0, ⟨rfl, by omega, by omega⟩, _, cell_pick k24 hq, hK (J (hss _ (List.getElem_mem hq)) (by omega) h4 hC2 ((hE1.trans (Ext.mono e22 fun _ _ h => h.elim)).trans e2))⟩
      have hgrp : ∀ {KK : Int → ByteArray → World → Prop} {R : Rt}, (∀ {z : Nat} {x : Bytes} {w' : World}, (∃ (g' : Nat) (x' : Bytes) (mA : Nat), (z : Int) = g' ∧ B x = B x' ∧ g' ≤ gi ∧ AtD pl (n + 3) (9 - gi) x' (9 - g') ∧ x'.length + 32 * mA ≤ 11 + 32 * m1 ∧ mA ≤ m1 ∧ 5059 + 5 * k ≤ mA + (14 * n + 3) + 15 ∧ Cur w' b M a l c mA ∧ Ext (fun k => k = b) w w') → KK z (B x) w') → (r12 = 4 ∨ r12 = 5 ∨ r12 = 6) →
          (cB (decide ((gi : Int) > 0)) ((cB (decide ((n : Int) > 0)) (clV 107 ([.pointer (some ⟨b, 0, none⟩), .int .i64 (IntKind.wrap .i64 ((n : Int) - 1)), .int .i64 (IntKind.wrap .i64 ((gi : Int) - 1)), .bool pl]) w18 R fun r48 w47 => ∃ (s45 : ByteArray), ∃ (n46 : Int), r48 = .tuple #[.string s45, .int .i64 n46] ∧ ((⟨#[40]⟩ : ByteArray).size + s45.size ≤ 9223372036854775807) ∧ (((⟨#[40]⟩ : ByteArray) ++ s45).size + (⟨#[41]⟩ : ByteArray).size ≤ 9223372036854775807) ∧ KK n46 (((⟨#[40]⟩ : ByteArray) ++ s45) ++ (⟨#[41]⟩ : ByteArray)) w47) (KK gi (⟨#[98]⟩ : ByteArray) w18))) (KK gi (⟨#[98]⟩ : ByteArray) w18)) := by
        intro KK R hK h456
        have hb : KK gi (⟨#[98]⟩ : ByteArray) w18 := hK (z := gi) (x := [98]) (J (chr (y := 98) (by decide)) (Nat.le_refl _) (by omega) hC1 hE1)
        have hmi2 : 5059 < mi := by
          by_cases h : 5059 < mi
          · exact h
          · have := (hwin (by omega) (by omega)).1 rfl; omega
        refine ⟨fun h1 => ⟨fun h2 => ?_, fun _ => hb⟩, fun _ => hb⟩
        have h1' : 0 < gi := by have := of_decide_eq_true h1; omega
        have h2' : 0 < n := by have := of_decide_eq_true h2; omega
        have t1 : IntKind.wrap .i64 ((n : Int) - 1) = ((n - 1 : Nat) : Int) := by rw [w64 (by omega)]; omega
        have t2 : IntKind.wrap .i64 ((gi : Int) - 1) = ((gi - 1 : Nat) : Int) := by rw [w64 (by omega)]; omega
        rw [t1, t2]
        refine (ihd (n - 1) (by omega) (by omega) m1 w18 b M a l c (gi - 1) pl (by omega) (by omega) hC1).use fun e w47 he => ?_
        obtain ⟨_, m2, rfl, ⟨z1, z2, y, g2, rfl, hg2, hpt, hyl⟩, hC2, e2⟩ := he
        refine ⟨B y, g2, rfl, ?_, ?_, ?_⟩
        · rw [size_B]; show 1 + _ ≤ _; omega
        · rw [show (⟨#[40]⟩ : ByteArray) = B [40] from rfl, B_append, size_B]; show _ + 1 ≤ _; simp; omega
        · rw [show (⟨#[40]⟩ : ByteArray) = B [40] from rfl, show (⟨#[41]⟩ : ByteArray) = B [41] from rfl, B_append, B_append]
          rw [show n - 1 + 3 = n + 2 from by omega, show 9 - (gi - 1) = 9 - gi + 1 from by omega] at hpt
          have hat := hpt.grpD (by omega)
          refine hK (z := g2) ⟨g2, _, m2, rfl, rfl, by omega, hat, ?_, by omega, by omega, hC2, hE1.trans e2⟩
          simp; omega
      refine ⟨fun _ => ?_, fun _ => ⟨fun _ => ?_, fun _ => ⟨fun _ => ?_, fun _ => ⟨fun _ => ⟨fun hp => ?_, fun hp => ?_⟩, fun _ => ⟨fun h4 => ?_, fun _ => ⟨fun h5 => ?_, fun _ => ⟨fun h6 => ?_, fun _ => ?_⟩⟩⟩⟩⟩⟩⟩
      · exact J (x := [46]) ⟨⟨aS_dot _ _ _, by decide⟩, by decide⟩ (Nat.le_refl _) (by omega) hC1 hE1
      · exact lst (ss := setsD) (by decide) (by decide) (setsD_ok pl (n + 3) (9 - gi)) fun h => h
      · exact lst (ss := escsD) (by decide) (by decide) (escsD_ok pl (n + 3) (9 - gi)) fun h => h
      · exact J (x := [97]) (chr (by decide)) (Nat.le_refl _) (by omega) hC1 hE1
      · subst hp
        refine lst (ss := [[94], [36]]) (by decide) (by decide) (fun s hs => ?_) fun h => h
        simp only [List.mem_cons, List.not_mem_nil, or_false] at hs
        rcases hs with rfl | rfl
        · exact ⟨⟨aS_sta _ _ _, by decide⟩, by decide⟩
        · exact ⟨⟨aS_end _ _, by decide⟩, by decide⟩
      · exact hgrp (KK := fun z s w' => ∃ (g' : Nat) (x : Bytes) (mA : Nat), z = g' ∧ s = B x ∧ g' ≤ gi ∧ AtD pl (n + 3) (9 - gi) x (9 - g') ∧ x.length + 32 * mA ≤ 11 + 32 * m1 ∧ mA ≤ m1 ∧ 5059 + 5 * k ≤ mA + (14 * n + 3) + 15 ∧ Cur w' b M a l c mA ∧ Ext (fun k => k = b) w w') (fun h => h) (.inl (by have : (r12 : Int) = 4 := (by simpa using h4); omega))
      · exact hgrp (KK := fun z s w' => ∃ (g' : Nat) (x : Bytes) (mA : Nat), z = g' ∧ s = B x ∧ g' ≤ gi ∧ AtD pl (n + 3) (9 - gi) x (9 - g') ∧ x.length + 32 * mA ≤ 11 + 32 * m1 ∧ mA ≤ m1 ∧ 5059 + 5 * k ≤ mA + (14 * n + 3) + 15 ∧ Cur w' b M a l c mA ∧ Ext (fun k => k = b) w w') (fun h => h) (.inr (.inl (by have : (r12 : Int) = 5 := (by simpa using h5); omega)))
      · exact hgrp (KK := fun z s w' => ∃ (g' : Nat) (x : Bytes) (mA : Nat), z = g' ∧ s = B x ∧ g' ≤ gi ∧ AtD pl (n + 3) (9 - gi) x (9 - g') ∧ x.length + 32 * mA ≤ 11 + 32 * m1 ∧ mA ≤ m1 ∧ 5059 + 5 * k ≤ mA + (14 * n + 3) + 15 ∧ Cur w' b M a l c mA ∧ Ext (fun k => k = b) w w') (fun h => h) (.inr (.inr (by have : (r12 : Int) = 6 := (by simpa using h6); omega)))
      · refine (pick_ok hC1 (by omega) 3 (by omega) (by omega)).use fun e w58 he => ?_
        obtain ⟨_, m2, rfl, ⟨h3, h4, q, rfl, hq, _⟩, hC2, e2⟩ := he
        refine ⟨q, rfl, ?_⟩
        have hy : IntKind.wrap .u8 (IntKind.wrap .i64 (97 + (q : Int))) = ((UInt8.ofNat (97 + q)).toNat : Int) := by
          rw [w64 (by omega), w8, u8N (by omega)]; omega
        refine strOf (w0 := w58) hy (Below.refl _ _) fun w' hb' => ?_
        exact J (chr (by rw [u8N (by omega)]; omega)) (by omega) h4 (hC2.below hb') ((hE1.trans e2).trans (Ext.of_below hb'))
    · rintro d63 _ _ w66 ⟨g', x, mA, rfl, rfl, hg', hat, hxl, hmA, hbA, hCA, hEA⟩
      refine (pick_ok hCA (by omega) 9 (by omega) (by omega)).use fun e w68 he => ?_
      obtain ⟨_, mB, rfl, ⟨p3, p4, q9, rfl, hq9, _⟩, hCB, eB⟩ := he
      have hEB := hEA.trans eB
      refine ⟨q9, rfl, fun s w' => ∃ (y : Bytes) (mC : Nat), s = B y ∧ ElD pl (n + 3) (9 - gi) y (9 - g') ∧ y.length ≤ x.length + 5 ∧ mC ≤ mB ∧ 5059 + 5 * k ≤ mC + (14 * n + 3) + 17 ∧ Cur w' b M a l c mC ∧ Ext (fun k => k = b) w w', ?_, ?_⟩
      · have hsz : ∀ {cc : Bytes}, cc.length ≤ 5 → (B x).size + (B cc).size ≤ 9223372036854775807 := fun h => by rw [size_B, size_B]; omega
        have J : ∀ {cc : Bytes} {w' : World} {mC : Nat}, CnD cc ∧ cc.length ≤ 5 → mC ≤ mB → min (mB - 1) 5059 ≤ mC → Cur w' b M a l c mC → Ext (fun k => k = b) w w' → ∃ (y : Bytes) (mC : Nat), B x ++ B cc = B y ∧ ElD pl (n + 3) (9 - gi) y (9 - g') ∧ y.length ≤ x.length + 5 ∧ mC ≤ mB ∧ 5059 + 5 * k ≤ mC + (14 * n + 3) + 17 ∧ Cur w' b M a l c mC ∧ Ext (fun k => k = b) w w' :=
          fun h1 h2 h3 h4 h5 => ⟨_, _, B_append _ _, hat.elc h1.1, by rw [List.length_append]; have := h1.2; omega, h2, by omega, h4, h5⟩
        refine ⟨fun _ => ?_, fun _ => ⟨fun _ => ?_, fun _ => ⟨fun _ => ?_, fun _ => ⟨fun _ => ?_, fun _ => ⟨fun _ => ?_, fun _ => ?_⟩⟩⟩⟩⟩
        · exact ⟨hsz (cc := [42]) (by decide), J (cc := [42]) ⟨cnD_star, by decide⟩ (Nat.le_refl _) (by omega) hCB hEB⟩
        · exact ⟨hsz (cc := [42]) (by decide), J (cc := [42]) ⟨cnD_star, by decide⟩ (Nat.le_refl _) (by omega) hCB hEB⟩
        · exact ⟨hsz (cc := [43]) (by decide), J (cc := [43]) ⟨cnD_plus, by decide⟩ (Nat.le_refl _) (by omega) hCB hEB⟩
        · exact ⟨hsz (cc := [63]) (by decide), J (cc := [63]) ⟨cnD_opt, by decide⟩ (Nat.le_refl _) (by omega) hCB hEB⟩
        · refine newC_in fun w72 s72 k72 e72 => ?_
          refine (pick_ok (hCB.ext e72 fun _ _ h => h) (by omega) 7 (by omega) (by omega)).use fun e w74 he => ?_
          obtain ⟨_, m2, rfl, ⟨h3, h4, q, rfl, hq, _⟩, hC2, e2⟩ := he
          have k74 : Blk w74.heap w68.heap.size 9 (cntsD.map fun s => .string (B s)) := k72.keep e2 (by have := hCB.lt; omega)
          have hq' : q < cntsD.length := hq
          have hcc := cntsD_ok _ (List.getElem_mem hq')
          exact ⟨q, rfl, _, 0, ⟨rfl, by omega, by omega⟩, _, cell_pick k74 hq', hsz hcc.2, J hcc (by omega) h4 hC2 ((hEB.trans (Ext.mono e72 fun _ _ h => h.elim)).trans e2)⟩
        · exact ⟨x, mB, rfl, hat.el, by omega, Nat.le_refl _, by omega, hCB, hEB⟩
      · rintro d79 _ w81 ⟨y, mC, rfl, hel, hyl, hmC, hbC, hCC, hEC⟩
        have hy0 := List.length_pos_iff.2 hel.1
        have t1 : IntKind.wrap .i64 (((ByteArray.size (B y) : Nat) : Int) - 1) = ((y.length - 1 : Nat) : Int) := by rw [size_B, w64 (by omega)]; omega
        have t3 : IntKind.wrap .i64 ((k : Int) - 1) = ((k - 1 : Nat) : Int) := by rw [w64 (by omega)]; omega
        have t4 : IntKind.wrap .i64 (((ByteArray.size (B y) : Nat) : Int) - 2) = (y.length : Int) - 2 := by rw [size_B, w64 (by omega)]
        rw [t1, t3, t4]
        rw [show Int.toNat ((y.length - 1 : Nat) : Int) = y.length - 1 from by omega, byteAt_B]
        have fin : ∀ {yy : Bytes} {w' : World} {mD : Nat}, SqS pl (n + 3) (9 - gi) yy (9 - g') → yy.length ≤ y.length + 1 → mD ≤ mC → 5059 + 5 * k ≤ mD + (14 * n + 3) + 18 → Cur w' b M a l c mD → Ext (fun k => k = b) w w' →
            ((B xs).size + (B yy).size ≤ 9223372036854775807) ∧ ∃ m85, m85 < k ∧ ∃ (gi : Nat) (xs' : Bytes) (mi : Nat), (g' : Int) = gi ∧ B xs ++ B yy = B xs' ∧ ((k - 1 : Nat) : Int) = m85 ∧ m85 ≤ 3 ∧ gi ≤ g ∧ SqS pl (n + 3) (9 - g) xs' (9 - gi) ∧ xs'.length ≤ 32 * (m - mi) ∧ mi < m ∧ 5059 + 5 * m85 ≤ mi + (14 * n + 3) + 13 ∧ Cur w' b M a l c mi ∧ Ext (fun k => k = b) w w' :=
          fun h1 h2 h3 h4 h5 h6 => ⟨by rw [size_B, size_B]; omega, k - 1, by omega, g', _, _, rfl, B_append _ _, rfl, by omega, by omega, hsq.app h1, by rw [List.length_append]; omega, by omega, by omega, h5, h6⟩
        have plain := fun {w' : World} {mD : Nat} => fin (yy := y) (w' := w') (mD := mD) hel.2.1 (by omega)
        have hsz1 : (B y).size + (⟨#[63]⟩ : ByteArray).size ≤ 9223372036854775807 := by rw [size_B]; show _ + 1 ≤ _; omega
        have hB1 : B y ++ (⟨#[63]⟩ : ByteArray) = B (y ++ [63]) := B_append y [63]
        have lazy : (at_ y (y.length - 1) = 42 ∨ at_ y (y.length - 1) = 43 ∨ at_ y (y.length - 1) = 63 ∨ at_ y (y.length - 1) = 125) → ∀ {w' : World} {mD : Nat}, mD ≤ mC → 5059 + 5 * k ≤ mD + (14 * n + 3) + 18 → Cur w' b M a l c mD → Ext (fun k => k = b) w w' → _ := fun hl {w'} {mD} => fin (yy := y ++ [63]) (w' := w') (mD := mD) (hel.2.2 hl) (by simp)
        -- where a count may be made lazy
        have br : ∀ {KK KL : World → Prop} {R : Rt}, (∀ {w' : World} {mD : Nat}, mD ≤ mC → 5059 + 5 * k ≤ mD + (14 * n + 3) + 18 → Cur w' b M a l c mD → Ext (fun k => k = b) w w' → KK w') → (∀ {w' : World} {mD : Nat}, mD ≤ mC → 5059 + 5 * k ≤ mD + (14 * n + 3) + 18 → Cur w' b M a l c mD → Ext (fun k => k = b) w w' → KL w') →
            clI 82 ([.pointer (some ⟨b, 0, none⟩), .int .i64 3]) w81 R fun n82 w83 => (cB (n82 == 0) ((cB (decide (((ByteArray.size (B y) : Nat) : Int) > 1)) ((ixT (B y) ((y.length : Int) - 2)) ∧ (cB ((byteAt (B y) (Int.toNat ((y.length : Int) - 2))) != 92) (KL w83) (KK w83))) (KK w83))) (KK w83)) := by
          intro KK KL R hK hL
          refine (pick_ok hCC (by omega) 3 (by omega) (by omega)).use fun e w83 he => ?_
          obtain ⟨_, mD, rfl, ⟨h3, h4, q, rfl, hq, _⟩, hC2, e2⟩ := he
          have hpK := hK (by omega) (by omega) hC2 (hEC.trans e2)
          refine ⟨q, rfl, ⟨fun _ => ⟨fun h1 => ⟨⟨?_, ?_⟩, fun _ => hL (by omega) (by omega) hC2 (hEC.trans e2), fun _ => hpK⟩, fun _ => hpK⟩, fun _ => hpK⟩⟩
          · have := of_decide_eq_true h1; rw [size_B] at this; omega
          · rw [size_B]; omega
        refine ⟨⟨by omega, by rw [size_B]; omega⟩, fun h42 => ?_, fun _ => ⟨fun h43 => ?_, fun _ => ⟨fun h125 => ?_, fun _ => ⟨fun h63 => ⟨fun _ => ?_, fun _ => plain (Nat.le_refl _) (by omega) hCC hEC⟩, fun _ => plain (Nat.le_refl _) (by omega) hCC hEC⟩⟩⟩⟩
        · have hl : at_ y (y.length - 1) = 42 := by have : ((at_ y (y.length - 1) : Nat) : Int) = 42 := by simpa using h42
                                                    omega
          exact br plain fun h1 h2 h3 h4 => ⟨hsz1, by rw [hB1]; exact lazy (.inl hl) h1 h2 h3 h4⟩
        · have hl : at_ y (y.length - 1) = 43 := by have : ((at_ y (y.length - 1) : Nat) : Int) = 43 := by simpa using h43
                                                    omega
          exact br plain fun h1 h2 h3 h4 => ⟨hsz1, by rw [hB1]; exact lazy (.inr (.inl hl)) h1 h2 h3 h4⟩
        · have hl : at_ y (y.length - 1) = 125 := by have : ((at_ y (y.length - 1) : Nat) : Int) = 125 := by simpa using h125
                                                     omega
          exact br plain fun h1 h2 h3 h4 => ⟨hsz1, by rw [hB1]; exact lazy (.inr (.inr (.inr hl))) h1 h2 h3 h4⟩
        · have hl : at_ y (y.length - 1) = 63 := by have : ((at_ y (y.length - 1) : Nat) : Int) = 63 := by simpa using h63
                                                    omega
          exact br plain fun h1 h2 h3 h4 => ⟨hsz1, by rw [hB1]; exact lazy (.inr (.inr (.inl hl))) h1 h2 h3 h4⟩
  · have hk0 : k = 0 := by have := of_decide_eq_false g1; omega
    subst hk0
    refine (pick_ok hCi (by omega) 6 (by omega) (by omega)).use fun e w113 he => ?_
    obtain ⟨_, m1, rfl, ⟨p1, p2, r6, rfl, hr6, hwin⟩, hC1, e1⟩ := he
    have hE1 := hEi.trans e1
    refine ⟨r6, rfl, fun h0 => ?_, fun h0 => ⟨_, m1, rfl, ⟨by omega, by omega, xs, gi, rfl, hgi, hsq.pat, by omega⟩, hC1, hE1⟩⟩
    have hr0 : r6 = 0 := by have : (r6 : Int) = 0 := by simpa using h0
                            omega
    have hmi2 : 5059 < mi := by
      by_cases h : 5059 < mi
      · exact h
      · exact absurd hr0 ((hwin (by omega) (by omega)).2 rfl)
    refine (ihm m1 (by omega) w113 b M a l c gi pl (by omega) (by omega) hC1).use fun e w117 he => ?_
    obtain ⟨_, m2, rfl, ⟨z1, z2, y, g2, rfl, hg2, hpt, hyl⟩, hC2, e2⟩ := he
    refine ⟨B y, g2, rfl, ?_, ?_, _, m2, rfl, ⟨by omega, by omega, xs ++ 124 :: y, g2, ?_, by omega, PtS.alt hsq hpt, ?_⟩, hC2, hE1.trans e2⟩
    · rw [size_B]; show 1 + _ ≤ _; omega
    · rw [show (⟨#[124]⟩ : ByteArray) = B [124] from rfl, B_append, size_B, size_B]; simp; omega
    · rw [show (⟨#[124]⟩ : ByteArray) = B [124] from rfl, B_append, B_append]; rfl
    · simp; omega
end Go.Proofs.Ytngbiaeliphdjaa.V
/- Drawn patterns and texts. No statement of the seat is proved here. -/
namespace Go.Proofs.Ytngbiaeliphdjaa.V
open Go.Vc Go.Proofs Go.RowKit
set_option linter.unusedVariables false
set_option linter.unusedSimpArgs false
theorem text_ok {w : World} {b M : Nat} {a : Option Addr} {l c m : Nat} (h : Cur w b M a l c m) (hm : 100 ≤ m) (n : Nat) (h1 : 1 ≤ n) (hn : n ≤ 20) :
    Cl Try.prog 67 [.pointer (some ⟨b, 0, none⟩), .int .i64 (n : Int)] w (Drew w b M a l c fun v m' => min m 5059 ≤ m' + 2 * n + 2 ∧ ∃ s : Bytes, v = .string (B s) ∧ s.length ≤ n) := by
  apply vc67
  unfold V67
  have tn : IntKind.wrap .i64 ((n : Int) + 1) = ((n + 1 : Nat) : Int) := by rw [w64 (by omega)]; omega
  rw [tn]
  have hbl := h.lt
  refine (pick_ok h (by omega) (n + 1) (by omega) (by omega)).use fun e w5 he => ?_
  obtain ⟨_, m5, rfl, ⟨q1, q2, r, rfl, hr, _⟩, hC5, e5⟩ := he
  refine ⟨r, rfl, fun k ax lx cx j w' => ∃ (xs : Bytes) (mi : Nat), j = k ∧ k ≤ r ∧ xs.length + k = r ∧ xs.length = lx ∧ min m 5059 ≤ mi + 1 + 2 * xs.length ∧ Row w.heap.size w' 5 1 ax lx cx (u8s xs) ∧ Cur w' b M a l c mi ∧ Ext (fun k => k = b) w w', ⟨r, [], m5, rfl, Nat.le_refl _, by simp, rfl, by simp; omega, Row.nil _ _ e5.size, hC5, e5⟩, ?_⟩
  rintro k d ax lx cx _ w10 ⟨xs, mi, rfl, hk, hxr, hxl, hbd, hR, hCi, hEi⟩
  -- a byte more
  have app : ∀ {w' : World} {mj : Nat} {y : UInt8} {x : Int} {K : Option Addr → Nat → Nat → World → Prop}, x = (y.toNat : Int) → Cur w' b M a l c mj → Ext (fun k => k = b) w10 w' → (∀ a2 c2 w2, Row w.heap.size w2 5 1 a2 (lx + 1) c2 (u8s (xs ++ [y])) → Cur w2 b M a l c mj → Ext (fun k => k = b) w w2 → K a2 (lx + 1) c2 w2) →
      newC [.int .u8 x] 5 (fun b20 w21 => ∃ (a22 : Option Addr), ∃ (l22 : Nat), ∃ (c22 : Nat), ∃ (w23 : World), (Builtin.append_ #[22, 22] 22 #[.slice ax lx cx, .slice (some ⟨b20, 0, none⟩) 1 1]).run Try.prog w21 = .ok (.slice a22 l22 c22) w23 ∧ K a22 l22 c22 w23) w' := by
    intro w' mj y x K hx hC hE hK
    subst hx
    obtain ⟨a3, c3, w3, r1, r2, r3⟩ := (hR.keep hE fun k hk h => by omega).app1 elemU8 (ys := u8s [y]) (n := 1) rfl rfl (by omega) (by omega)
    exact ⟨a3, _, c3, w3, r1, hK _ _ _ (by rw [u8s_append]; exact r2) (hC.ext r3 fun k hk (h : _ ≤ k) => by omega) ((hEi.trans hE).step r3 fun i hi (h : _ ≤ i) => by omega)⟩
  refine ⟨fun g => ?_, fun g => ?_⟩
  · have g' : 0 < k := by have := of_decide_eq_true g; omega
    have t3 : IntKind.wrap .i64 ((k : Int) - 1) = ((k - 1 : Nat) : Int) := by rw [w64 (by omega)]; omega
    rw [t3]
    refine (pick_ok hCi (by omega) 12 (by omega) (by omega)).use fun e w15 he => ?_
    obtain ⟨_, m1, rfl, ⟨p1, p2, q, rfl, hq, _⟩, hC1, e1⟩ := he
    refine ⟨q, rfl, fun _ => ?_, fun _ => ?_⟩
    · refine (pick_ok hC1 (by omega) 6 (by omega) (by omega)).use fun e w18 he => ?_
      obtain ⟨_, m2, rfl, ⟨p3, p4, q', rfl, hq', _⟩, hC2, e2⟩ := he
      refine ⟨q', rfl, ⟨by omega, by show (q' : Int) < 6; omega⟩, ?_⟩
      exact app rfl hC2 (e1.trans e2) fun a2 c2 w2 r2 hC hE => ⟨k - 1, by omega, _, m2, rfl, by omega, by simp; omega, by simp; omega, by simp; omega, r2, hC, hE⟩
    · refine (pick_ok hC1 (by omega) 3 (by omega) (by omega)).use fun e w18 he => ?_
      obtain ⟨_, m2, rfl, ⟨p3, p4, q', rfl, hq', _⟩, hC2, e2⟩ := he
      have hy : IntKind.wrap .u8 (IntKind.wrap .i64 (97 + (q' : Int))) = ((UInt8.ofNat (97 + q')).toNat : Int) := by
        rw [w64 (by omega), w8, UInt8.toNat_ofNat']; omega
      exact ⟨q', rfl, app hy hC2 (e1.trans e2) fun a2 c2 w2 r2 hC hE => ⟨k - 1, by omega, _, m2, rfl, by omega, by simp; omega, by simp; omega, by simp; omega, r2, hC, hE⟩⟩
  · have hk0 : k = 0 := by have := of_decide_eq_false g; omega
    subst hk0
    refine (pick_ok hCi (by omega) 9 (by omega) (by omega)).use fun e w34 he => ?_
    obtain ⟨_, m1, rfl, ⟨p1, p2, q, rfl, hq, _⟩, hC1, e1⟩ := he
    have fin : ∃ (s41 : ByteArray), (convert 22 9 (.slice ax lx cx)).run Try.prog w34 = .ok (.string s41) w34 ∧ Drew w b M a l c (fun v m' => min m 5059 ≤ m' + 2 * n + 2 ∧ ∃ s : Bytes, v = .string (B s) ∧ s.length ≤ n) (.returned (.string s41)) w34 :=
      ⟨_, row_str (hR.keep e1 fun k hk h => by omega), _, m1, rfl, ⟨by omega, xs, rfl, by omega⟩, hC1, hEi.trans e1⟩
    refine ⟨q, rfl, fun _ => ⟨fun h2 => ?_, fun _ => fin⟩, fun _ => fin⟩
    have h2' : lx < n := by have := of_decide_eq_true h2; omega
    exact app (y := 10) rfl hC1 e1 fun a2 c2 w2 r2 hC hE => ⟨_, row_str r2, _, m1, rfl, ⟨by omega, _, rfl, by simp; omega⟩, hC, hE⟩
/-- A pattern that is read. -/
def GoodP (pl : Bool) (s : Bytes) : Prop := (readP s).ok = true ∧ (pl = true → NE (readP s).pieces) ∧ s.length ≤ 120
theorem good_abc (pl : Bool) : GoodP pl [40, 97, 124, 97, 98, 41, 42, 99, 63] := by
  have a1 : ∀ d g, SqS pl d g [97] g := fun d g => (aS_chr pl d g (by decide)).one
  have b1 : ∀ d g, SqS pl d g [98] g := fun d g => (aS_chr pl d g (by decide)).one
  have p1 : PtS pl 5 1 [97, 124, 97, 98] 1 := PtS.alt (a1 5 1) (((a1 5 1).app (b1 5 1)).pat)
  have g1 : AtS pl 6 0 [40, 97, 124, 97, 98, 41] 1 := p1.grp (g := 0) (by decide)
  have s1 : SqS pl 6 0 [40, 97, 124, 97, 98, 41, 42, 99, 63] 1 := (g1.cnt cnD_star.1).app ((aS_chr pl 6 1 (c := 99) (by decide)).cnt cnD_opt.1)
  have := s1.pat.read (by decide)
  exact ⟨this.1, this.2, by decide⟩
theorem good_ok {w : World} {b M : Nat} {a : Option Addr} {l c m : Nat} (h : Cur w b M a l c m) (hm : 5059 ≤ m) (pl : Bool) :
    Cl Try.prog 66 [.pointer (some ⟨b, 0, none⟩), .bool pl] w (Drew w b M a l c fun v m' => 5000 ≤ m' ∧ ∃ s : Bytes, v = .string (B s) ∧ GoodP pl s) := by
  apply vc66
  unfold V66
  refine (pat_ok 3 (by omega) m w b M a l c 9 pl hm (by omega) h).use fun e w6 he => ?_
  obtain ⟨_, m6, rfl, ⟨z1, z2, y, g2, rfl, hg2, hpt, hyl⟩, hC2, e2⟩ := he
  refine ⟨B y, g2, rfl, fun g => ⟨_, m6, rfl, ⟨by omega, _, rfl, good_abc pl⟩, hC2, e2⟩, fun g => ?_⟩
  have g' : y.length ≤ 120 := by have := of_decide_eq_false g; rw [size_B] at this; omega
  have := hpt.read g'
  exact ⟨_, m6, rfl, ⟨by omega, y, rfl, this.1, this.2, g'⟩, hC2, e2⟩
def RetPT (pl : Bool) (n : Nat) (w : World) : Rt := fun e w' => ∃ p t : Bytes, e = .returned (.tuple #[.string (B p), .string (B t)]) ∧ GoodP pl p ∧ t.length ≤ n ∧ Below w.heap.size w w'
theorem drawn_ok {w : World} {a : Option Addr} {l c : Nat} (h : GBytes w w.heap.size a l) (hl : l ≤ 1048576) : Cl Try.prog 20 [.slice a l c] w (RetPT false 14 w) := by
  apply vc20
  unfold V20
  refine cur_in h hl fun w3 m hm hC B3 => ?_
  refine (good_ok hC hm false).use fun e w5 he => ?_
  obtain ⟨_, m5, rfl, ⟨q1, p, rfl, hp⟩, hC5, e5⟩ := he
  refine ⟨_, rfl, (text_ok hC5 (by omega) 14 (by omega) (by omega)).use fun e w8 he => ?_⟩
  obtain ⟨_, m8, rfl, ⟨_, t, rfl, ht⟩, hC8, e8⟩ := he
  exact ⟨_, rfl, p, t, rfl, hp, ht, Ext.to (Ext.to B3 e5 fun i h => by omega) e8 fun i h => by omega⟩
theorem plain_ok {w : World} {a : Option Addr} {l c : Nat} (h : GBytes w w.heap.size a l) (hl : l ≤ 1048576) : Cl Try.prog 55 [.slice a l c] w (RetPT true 10 w) := by
  apply vc55
  unfold V55
  refine cur_in h hl fun w3 m hm hC B3 => ?_
  refine (good_ok hC hm true).use fun e w5 he => ?_
  obtain ⟨_, m5, rfl, ⟨q1, p, rfl, hp⟩, hC5, e5⟩ := he
  refine ⟨_, rfl, (text_ok hC5 (by omega) 10 (by omega) (by omega)).use fun e w8 he => ?_⟩
  obtain ⟨_, m8, rfl, ⟨_, t, rfl, ht⟩, hC8, e8⟩ := he
  exact ⟨_, rfl, p, t, rfl, hp, ht, Ext.to (Ext.to B3 e5 fun i h => by omega) e8 fun i h => by omega⟩
end Go.Proofs.Ytngbiaeliphdjaa.V
/- Printed by vcgen.py, a program of this session: formulas of Go functions, each with the proof that it gives the function's contract. No statement of the seat is proved here. -/
namespace Go.Proofs.Ytngbiaeliphdjaa.V
open Go.Vc Go.Proofs
set_option linter.unusedVariables false
set_option maxRecDepth 100000
/-- impl.Find -/
def V45 (s1 s2 : ByteArray) (n3 : Int) (R : Rt) : Pred := fun w =>
  newC [.bool false, .int .i64 0, .int .i64 0, .slice none 0 0] 29 (fun b4 w5 => clV 70 ([.string s1, .string s2]) w5 R fun r10 w9 => ∃ b6, ∃ o7, ∃ t8, r10 = .tuple #[.pointer (some ⟨b6, o7, none⟩), .bool t8] ∧ (cB (!t8) (stW b4 0 [.bool false, .int .i64 0, .int .i64 0, .slice none 0 0] (fun w11 => lB w11 b4 0 fun t12 => lI w11 b4 1 fun n13 => lI w11 b4 2 fun n14 => lL w11 b4 3 fun a15 l15 c15 => R (.returned (.agg #[.bool t12, .int .i64 n13, .int .i64 n14, .slice a15 l15 c15])) w11) w9) (clV 71 ([.pointer (some ⟨b6, o7, none⟩), .int .i64 n3]) w9 R fun r21 w20 => ∃ t16, ∃ n17, ∃ n18, ∃ a19 l19 c19, r21 = .agg #[.bool t16, .int .i64 n17, .int .i64 n18, .slice a19 l19 c19] ∧ stW b4 0 [.bool t16, .int .i64 n17, .int .i64 n18, .slice a19 l19 c19] (fun w22 => lB w22 b4 0 fun t23 => lI w22 b4 1 fun n24 => lI w22 b4 2 fun n25 => lL w22 b4 3 fun a26 l26 c26 => R (.returned (.agg #[.bool t23, .int .i64 n24, .int .i64 n25, .slice a26 l26 c26])) w22) w20))) w
def scr45 : Scr := (.q 1 (.q 8 (.q 2 (.cond (.q 2 .nil) (.q 4 .nil)))))
theorem vc45 {s1 s2 n3} {R w} (h : V45 s1 s2 n3 R w) : Cl Try.prog 45 [.string s1, .string s2, .int .i64 n3] w R :=
  cl_of scr45 Try.func45 (by kernel_rfl) _ _ (by kernel_rfl) h
/-- impl.Whole -/
def V35 (s1 s2 : ByteArray) (R : Rt) : Pred := fun w =>
  newC [.bool false, .int .i64 0, .int .i64 0, .slice none 0 0] 29 (fun b3 w4 => clL 30 ([.string s1, .string s2, .int .i64 0]) w4 R fun a5 l5 c5 w6 => ∃ (I8 : Nat → Int → World → Prop), (∃ k10, I8 k10 0 w6) ∧ ∀ k9 (d12 : Nat → Value) n13 w11, I8 k9 n13 w11 → (cB (decide (n13 < ((l5 : Nat) : Int))) (ixS a5 l5 n13 fun b14 o15 => lB w11 b14 (o15 + (Int.toNat n13) * 4) fun t16 => lI w11 b14 (o15 + (Int.toNat n13) * 4 + 1) fun n17 => lI w11 b14 (o15 + (Int.toNat n13) * 4 + 2) fun n18 => lL w11 b14 (o15 + (Int.toNat n13) * 4 + 3) fun a19 l19 c19 => newC [.bool false, .int .i64 0, .int .i64 0, .slice none 0 0] 29 (fun b20 w21 => stW b20 0 [.bool t16, .int .i64 n17, .int .i64 n18, .slice a19 l19 c19] (fun w22 => lI w22 b20 2 fun n23 => (cB (n23 == ((ByteArray.size s2 : Nat) : Int)) (lB w22 b20 0 fun t24 => lI w22 b20 1 fun n25 => lI w22 b20 2 fun n26 => lL w22 b20 3 fun a27 l27 c27 => stW b3 0 [.bool t24, .int .i64 n25, .int .i64 n26, .slice a27 l27 c27] (fun w28 => lB w28 b3 0 fun t29 => lI w28 b3 1 fun n30 => lI w28 b3 2 fun n31 => lL w28 b3 3 fun a32 l32 c32 => R (.returned (.agg #[.bool t29, .int .i64 n30, .int .i64 n31, .slice a32 l32 c32])) w28) w22) ((∃ m33, m33 < k9 ∧ I8 m33 (IntKind.wrap .i64 (n13 + 1)) w22)))) w21) w11) (stW b3 0 [.bool false, .int .i64 0, .int .i64 0, .slice none 0 0] (fun w34 => lB w34 b3 0 fun t35 => lI w34 b3 1 fun n36 => lI w34 b3 2 fun n37 => lL w34 b3 3 fun a38 l38 c38 => R (.returned (.agg #[.bool t35, .int .i64 n36, .int .i64 n37, .slice a38 l38 c38])) w34) w11))) w
def scr35 : Scr := (.q 1 (.q 5 (.loop (dr [(11, some (.int .i64))] [(6,1),(12,10)]) (.q 1 (.cond (.q 4 (.q 5 (.cond (.q 2 .nil) (.q 2 .nil)))) (.q 2 .nil))))))
theorem vc35 {s1 s2} {R w} (h : V35 s1 s2 R w) : Cl Try.prog 35 [.string s1, .string s2] w R :=
  cl_of scr35 Try.func35 (by kernel_rfl) _ _ (by kernel_rfl) h
/-- spec.Find -/
def V44 (s1 s2 : ByteArray) (n3 : Int) (R : Rt) : Pred := fun w =>
  newC [.bool false, .int .i64 0, .int .i64 0, .slice none 0 0] 29 (fun b4 w5 => clV 68 ([.string s1, .string s2]) w5 R fun r10 w9 => ∃ b6, ∃ o7, ∃ t8, r10 = .tuple #[.pointer (some ⟨b6, o7, none⟩), .bool t8] ∧ (cB (!t8) (stW b4 0 [.bool false, .int .i64 0, .int .i64 0, .slice none 0 0] (fun w11 => lB w11 b4 0 fun t12 => lI w11 b4 1 fun n13 => lI w11 b4 2 fun n14 => lL w11 b4 3 fun a15 l15 c15 => R (.returned (.agg #[.bool t12, .int .i64 n13, .int .i64 n14, .slice a15 l15 c15])) w11) w9) ((cB (decide (n3 < 0)) (stW b4 0 [.bool false, .int .i64 0, .int .i64 0, .slice none 0 0] (fun w16 => lB w16 b4 0 fun t17 => lI w16 b4 1 fun n18 => lI w16 b4 2 fun n19 => lL w16 b4 3 fun a20 l20 c20 => R (.returned (.agg #[.bool t17, .int .i64 n18, .int .i64 n19, .slice a20 l20 c20])) w16) w9) ((cB (decide (n3 > ((ByteArray.size s2 : Nat) : Int))) (stW b4 0 [.bool false, .int .i64 0, .int .i64 0, .slice none 0 0] (fun w21 => lB w21 b4 0 fun t22 => lI w21 b4 1 fun n23 => lI w21 b4 2 fun n24 => lL w21 b4 3 fun a25 l25 c25 => R (.returned (.agg #[.bool t22, .int .i64 n23, .int .i64 n24, .slice a25 l25 c25])) w21) w9) (clV 92 ([.pointer (some ⟨b6, o7, none⟩), .int .i64 n3]) w9 R fun r31 w30 => ∃ t26, ∃ n27, ∃ n28, ∃ a29 l29 c29, r31 = .agg #[.bool t26, .int .i64 n27, .int .i64 n28, .slice a29 l29 c29] ∧ stW b4 0 [.bool t26, .int .i64 n27, .int .i64 n28, .slice a29 l29 c29] (fun w32 => lB w32 b4 0 fun t33 => lI w32 b4 1 fun n34 => lI w32 b4 2 fun n35 => lL w32 b4 3 fun a36 l36 c36 => R (.returned (.agg #[.bool t33, .int .i64 n34, .int .i64 n35, .slice a36 l36 c36])) w32) w30))))))) w
def scr44 : Scr := (.q 1 (.q 8 (.run [0,1,2] (.split 17 (.r [3,4,5,6,7,8,9,10,11] (.lit (.q 2 .nil))) (.run [3,4,5,6] (.split 21 (.r [7,8,9,10,11] (.lit (.q 2 .nil))) (.r [7,8,9,10,11] (.cond (.q 2 .nil) (.q 4 .nil)))))))))
theorem vc44 {s1 s2 n3} {R w} (h : V44 s1 s2 n3 R w) : Cl Try.prog 44 [.string s1, .string s2, .int .i64 n3] w R :=
  cl_of scr44 Try.func44 (by kernel_rfl) _ _ (by kernel_rfl) h
/-- spec.Whole -/
def V40 (s1 s2 : ByteArray) (R : Rt) : Pred := fun w =>
  newC [.bool false, .int .i64 0, .int .i64 0, .slice none 0 0] 29 (fun b3 w4 => clV 68 ([.string s1, .string s2]) w4 R fun r9 w8 => ∃ b5, ∃ o6, ∃ t7, r9 = .tuple #[.pointer (some ⟨b5, o6, none⟩), .bool t7] ∧ (cB (!t7) (stW b3 0 [.bool false, .int .i64 0, .int .i64 0, .slice none 0 0] (fun w10 => lB w10 b3 0 fun t11 => lI w10 b3 1 fun n12 => lI w10 b3 2 fun n13 => lL w10 b3 3 fun a14 l14 c14 => R (.returned (.agg #[.bool t11, .int .i64 n12, .int .i64 n13, .slice a14 l14 c14])) w10) w8) (clL 88 ([.pointer (some ⟨b5, o6, none⟩), .int .i64 0]) w8 R fun a15 l15 c15 w16 => ∃ (I18 : Nat → Int → World → Prop), (∃ k20, I18 k20 0 w16) ∧ ∀ k19 (d22 : Nat → Value) n23 w21, I18 k19 n23 w21 → (cB (decide (n23 < ((l15 : Nat) : Int))) (ixS a15 l15 n23 fun b24 o25 => lB w21 b24 (o25 + (Int.toNat n23) * 4) fun t26 => lI w21 b24 (o25 + (Int.toNat n23) * 4 + 1) fun n27 => lI w21 b24 (o25 + (Int.toNat n23) * 4 + 2) fun n28 => lL w21 b24 (o25 + (Int.toNat n23) * 4 + 3) fun a29 l29 c29 => newC [.bool false, .int .i64 0, .int .i64 0, .slice none 0 0] 29 (fun b30 w31 => stW b30 0 [.bool t26, .int .i64 n27, .int .i64 n28, .slice a29 l29 c29] (fun w32 => lI w32 b30 2 fun n33 => (cB (n33 == ((ByteArray.size s2 : Nat) : Int)) (lB w32 b30 0 fun t34 => lI w32 b30 1 fun n35 => lI w32 b30 2 fun n36 => lL w32 b30 3 fun a37 l37 c37 => stW b3 0 [.bool t34, .int .i64 n35, .int .i64 n36, .slice a37 l37 c37] (fun w38 => lB w38 b3 0 fun t39 => lI w38 b3 1 fun n40 => lI w38 b3 2 fun n41 => lL w38 b3 3 fun a42 l42 c42 => R (.returned (.agg #[.bool t39, .int .i64 n40, .int .i64 n41, .slice a42 l42 c42])) w38) w32) ((∃ m43, m43 < k19 ∧ I18 m43 (IntKind.wrap .i64 (n23 + 1)) w32)))) w31) w21) (stW b3 0 [.bool false, .int .i64 0, .int .i64 0, .slice none 0 0] (fun w44 => lB w44 b3 0 fun t45 => lI w44 b3 1 fun n46 => lI w44 b3 2 fun n47 => lL w44 b3 3 fun a48 l48 c48 => R (.returned (.agg #[.bool t45, .int .i64 n46, .int .i64 n47, .slice a48 l48 c48])) w44) w21))))) w
def scr40 : Scr := (.q 1 (.q 8 (.q 2 (.cond (.q 2 .nil) (.q 4 (.loop (dr [(21, some (.int .i64))] [(8,1),(22,10)]) (.q 1 (.cond (.q 4 (.q 5 (.cond (.q 2 .nil) (.q 2 .nil)))) (.q 2 .nil)))))))))
theorem vc40 {s1 s2} {R w} (h : V40 s1 s2 R w) : Cl Try.prog 40 [.string s1, .string s2] w R :=
  cl_of scr40 Try.func40 (by kernel_rfl) _ _ (by kernel_rfl) h
end Go.Proofs.Ytngbiaeliphdjaa.V
/- Find and Whole on both sides give one match. No statement of the seat is proved here. -/
namespace Go.Proofs.Ytngbiaeliphdjaa.V
open Go.Vc Go.Proofs Go.RowKit
set_option linter.unusedVariables false
set_option linter.unusedSimpArgs false
/-! ### Find -/
theorem retMt_store {w w1 : World} {b : Nat} {z : List Value} (hz : z.length = 4) (k : Blk w1.heap b 29 z) (hb : w.heap.size ≤ b) (B : Below w.heap.size w w1) {m : Mt} {g : G3'} (hg : MOk w1 (m, g)) (hn : ∀ k, blkOf g.1 = some k → w.heap.size ≤ k ∧ k ≠ b) {R : Ending → World → Prop} (hR : ∀ e w', RetMt m w e w' → R e w') :
    stW b 0 (mC (m, g)) (fun (w11 : World) => ∃ (t12 : Bool), cellH w11.heap b 0 = some (.bool t12) ∧ ∃ (n13 : Int), cellH w11.heap b 1 = some (.int .i64 n13) ∧ ∃ (n14 : Int), cellH w11.heap b 2 = some (.int .i64 n14) ∧ ∃ (a15 : Option Addr), ∃ (l15 : Nat), ∃ (c15 : Nat), cellH w11.heap b 3 = some (.slice a15 l15 c15) ∧ R (.returned (.agg #[.bool t12, .int .i64 n13, .int .i64 n14, .slice a15 l15 c15])) w11) w1 := by
  refine stW_in k (by rw [hz]; show 0 + 4 ≤ 4; decide) fun w2 s2 k2 e2 => ?_
  have k2' : Blk w2.heap b 29 (mC (m, g)) := by
    unfold mC at k2 ⊢
    rw [seg4 hz] at k2
    exact k2
  refine ⟨_, k2'.cell 0, _, k2'.cell 1, _, k2'.cell 2, _, _, _, k2'.cell 3, hR _ _ ⟨g, rfl, hg.keep e2 fun q hq hqb => ?_, fun q hq => (hn q hq).1, Ext.to B e2 fun i hi => by omega⟩⟩
  exact (hn q (mem_ob.1 hq)).2 hqb
theorem mt0_ok (w : World) : MOk w (mt0, (none, 0, 0)) := Vec.nil _ _ _
theorem implFind_ok (s1 s2 : ByteArray) (n : Int) (w : World) : Cl Try.prog 45 [.string s1, .string s2, .int .i64 n] w (RetMt (findA (L s1) (L s2) n) w) := by
  apply vc45
  unfold V45
  refine newC_in fun w5 s5 k5 e5 => ?_
  have B5 : Below w.heap.size w w5 := Ext.to (Below.refl _ _) e5 fun _ h => h.elim
  refine (newFinder_ok s1 s2 w5).use fun e w9 he => ?_
  obtain ⟨b, rfl, B9, hM⟩ := he
  have k9 := k5.below B9
  have B := B5.vstep B9
  refine ⟨b, 0, _, rfl, fun g => ?_, fun g => ?_⟩
  · have g' : okA (L s1) (L s2) = false := by simpa using g
    have hm : findA (L s1) (L s2) n = mt0 := by unfold findA; rw [if_neg (by rw [g']; simp)]
    rw [hm]
    exact retMt_store rfl k9 (Nat.le_refl _) B (mt0_ok _) (by intro q hq; cases hq) fun _ _ h => h
  · have g' : okA (L s1) (L s2) = true := by simpa using g
    obtain ⟨c, rfl, hP, rfl, hpt, hF, hm⟩ := hM g'
    have key : Cl Try.prog 71 [.pointer (some ⟨c.bf, 0, none⟩), .int .i64 n] w9 (RetMM (machI c) (fun _ => False) w9 (findA (L s1) (L c.t) n)) := by
      unfold findA
      by_cases hn : 0 ≤ n
      · rw [if_pos ⟨g', hn⟩, ← hP]
        obtain ⟨i, rfl⟩ : ∃ i : Nat, n = i := ⟨n.toNat, by omega⟩
        exact findI_ok hpt hF
      · rw [if_neg fun h => hn h.2]
        exact findI_out hF (by omega)
    refine key.use fun e w20 he => ?_
    obtain ⟨gx, rfl, h1, h2, _, h4⟩ := he
    have hz := B9.size
    have E20 : Below w.heap.size w w20 := Ext.to B h4 fun x hx => by have : x = c.m := hx; omega
    have k20 := k9.keep h4 fun hx => by have : w.heap.size = c.m := hx; omega
    exact ⟨_, _, _, gx.1, gx.2.1, gx.2.2, rfl, retMt_store rfl k20 (Nat.le_refl _) E20 h1 (fun q hq => by have := h2 q hq; omega) fun _ _ h => h⟩
theorem specFind_ok (s1 s2 : ByteArray) (n : Int) (w : World) : Cl Try.prog 44 [.string s1, .string s2, .int .i64 n] w (RetMt (findA (L s1) (L s2) n) w) := by
  apply vc44
  unfold V44
  have hsz := size_L s2
  refine newC_in fun w5 s5 k5 e5 => ?_
  have B5 : Below w.heap.size w w5 := Ext.to (Below.refl _ _) e5 fun _ h => h.elim
  refine (l2of_ok s1 s2 w5).use fun e w9 he => ?_
  obtain ⟨b, rfl, B9, hM⟩ := he
  have k9 := k5.below B9
  have B := B5.vstep B9
  have hno : findA (L s1) (L s2) n = mt0 → stW w.heap.size 0 [.bool false, .int .i64 0, .int .i64 0, .slice none 0 0] (fun (w11 : World) => ∃ (t12 : Bool), cellH w11.heap w.heap.size 0 = some (.bool t12) ∧ ∃ (n13 : Int), cellH w11.heap w.heap.size 1 = some (.int .i64 n13) ∧ ∃ (n14 : Int), cellH w11.heap w.heap.size 2 = some (.int .i64 n14) ∧ ∃ (a15 : Option Addr), ∃ (l15 : Nat), ∃ (c15 : Nat), cellH w11.heap w.heap.size 3 = some (.slice a15 l15 c15) ∧ RetMt (findA (L s1) (L s2) n) w (.returned (.agg #[.bool t12, .int .i64 n13, .int .i64 n14, .slice a15 l15 c15])) w11) w9 := fun hm => by
    rw [hm]
    exact retMt_store rfl k9 (Nat.le_refl _) B (mt0_ok _) (by intro q hq; cases hq) fun _ _ h => h
  refine ⟨b, 0, _, rfl, fun g => hno ?_, fun g => ⟨fun g2 => hno ?_, fun g2 => ⟨fun g3 => hno ?_, fun g3 => ?_⟩⟩⟩
  · have g' : okA (L s1) (L s2) = false := by simpa using g
    unfold findA; rw [if_neg (by rw [g']; simp)]
  · have g2' := of_decide_eq_true g2
    unfold findA; rw [if_neg (by omega)]
  · have g3' := of_decide_eq_true g3
    unfold findA
    split
    · rw [findP, if_neg (by omega)]
    · rfl
  · have g' : okA (L s1) (L s2) = true := by simpa using g
    have g2' := of_decide_eq_false g2
    obtain ⟨s, rfl, hP, rfl, hpt, hF, hm⟩ := hM g'
    have key : Cl Try.prog 92 [.pointer (some ⟨s.bm, 0, none⟩), .int .i64 n] w9 (RetMM (machS s) (fun _ => False) w9 (findA (L s1) (L s.t) n)) := by
      unfold findA
      rw [if_pos ⟨g', by omega⟩, ← hP]
      obtain ⟨i, rfl⟩ : ∃ i : Nat, n = i := ⟨n.toNat, by omega⟩
      exact findS_ok hpt hF
    refine key.use fun e w20 he => ?_
    obtain ⟨gx, rfl, h1, h2, _, h4⟩ := he
    have hz := B9.size
    have E20 : Below w.heap.size w w20 := Ext.to B h4 fun x hx => by rcases hx with rfl | rfl <;> omega
    have k20 := k9.keep h4 fun hx => by
      rcases hx with hx | hx <;> omega
    exact ⟨_, _, _, gx.1, gx.2.1, gx.2.2, rfl, retMt_store rfl k20 (Nat.le_refl _) E20 h1 (fun q hq => by have := h2 q hq; omega) fun _ _ h => h⟩
/-! ### Whole -/
theorem wholeLoop {N : Nat} {w w1 : World} {t : ByteArray} {a : Option Addr} {l c b : Nat} {es : List ME} (hM : Ms N w1 a l c es) (hN : w.heap.size ≤ N) {z : List Value} (hz : z.length = 4) (k : Blk w1.heap b 29 z) (hb : w.heap.size ≤ b) (hbM : b < N) (B : Below w.heap.size w w1) (hl : es.length ≤ 1000) {R : Ending → World → Prop} (hR : ∀ e w', RetMt (((es.map (·.1)).find? fun m => m.to == (L t).length).getD mt0) w e w' → R e w') :
    ∃ (I8 : Nat → Int → World → Prop), (∃ (k10 : Nat), I8 k10 0 w1) ∧ ∀ (k9 : Nat) (d12 : Nat → Value) (n13 : Int) (w11 : World), I8 k9 n13 w11 → (((decide ((n13 : Int) < ((l : Nat) : Int))) = true → ∃ (b14 : Nat) (o15 : Nat), ((a : Option Addr) = some ⟨b14, o15, none⟩ ∧ 0 ≤ (n13 : Int) ∧ (n13 : Int) < ((l : Nat) : Int)) ∧ ∃ (t16 : Bool), cellH w11.heap b14 (o15 + (Int.toNat n13) * 4) = some (.bool t16) ∧ ∃ (n17 : Int), cellH w11.heap b14 (o15 + (Int.toNat n13) * 4 + 1) = some (.int .i64 n17) ∧ ∃ (n18 : Int), cellH w11.heap b14 (o15 + (Int.toNat n13) * 4 + 2) = some (.int .i64 n18) ∧ ∃ (a19 : Option Addr), ∃ (l19 : Nat), ∃ (c19 : Nat), cellH w11.heap b14 (o15 + (Int.toNat n13) * 4 + 3) = some (.slice a19 l19 c19) ∧ newC [.bool false, .int .i64 0, .int .i64 0, .slice none 0 0] 29 (fun (b20 : Nat) (w21 : World) => stW b20 0 [.bool t16, .int .i64 n17, .int .i64 n18, .slice a19 l19 c19] (fun (w22 : World) => ∃ (n23 : Int), cellH w22.heap b20 2 = some (.int .i64 n23) ∧ ((((n23 : Int) == ((ByteArray.size t : Nat) : Int)) = true → ∃ (t24 : Bool), cellH w22.heap b20 0 = some (.bool t24) ∧ ∃ (n25 : Int), cellH w22.heap b20 1 = some (.int .i64 n25) ∧ ∃ (n26 : Int), cellH w22.heap b20 2 = some (.int .i64 n26) ∧ ∃ (a27 : Option Addr), ∃ (l27 : Nat), ∃ (c27 : Nat), cellH w22.heap b20 3 = some (.slice a27 l27 c27) ∧ stW b 0 [.bool t24, .int .i64 n25, .int .i64 n26, .slice a27 l27 c27] (fun (w28 : World) => ∃ (t29 : Bool), cellH w28.heap b 0 = some (.bool t29) ∧ ∃ (n30 : Int), cellH w28.heap b 1 = some (.int .i64 n30) ∧ ∃ (n31 : Int), cellH w28.heap b 2 = some (.int .i64 n31) ∧ ∃ (a32 : Option Addr), ∃ (l32 : Nat), ∃ (c32 : Nat), cellH w28.heap b 3 = some (.slice a32 l32 c32) ∧ R (.returned (.agg #[.bool t29, .int .i64 n30, .int .i64 n31, .slice a32 l32 c32])) w28) w22) ∧ (((n23 : Int) == ((ByteArray.size t : Nat) : Int)) = false → (∃ (m33 : Nat), m33 < k9 ∧ I8 m33 (IntKind.wrap .i64 (n13 + 1)) w22)))) w21) w11) ∧ ((decide ((n13 : Int) < ((l : Nat) : Int))) = false → stW b 0 [.bool false, .int .i64 0, .int .i64 0, .slice none 0 0] (fun (w34 : World) => ∃ (t35 : Bool), cellH w34.heap b 0 = some (.bool t35) ∧ ∃ (n36 : Int), cellH w34.heap b 1 = some (.int .i64 n36) ∧ ∃ (n37 : Int), cellH w34.heap b 2 = some (.int .i64 n37) ∧ ∃ (a38 : Option Addr), ∃ (l38 : Nat), ∃ (c38 : Nat), cellH w34.heap b 3 = some (.slice a38 l38 c38) ∧ R (.returned (.agg #[.bool t35, .int .i64 n36, .int .i64 n37, .slice a38 l38 c38])) w34) w11)) := by
  have hsz := size_L t
  have hlen := hM.len
  refine ⟨fun m n w' => ∃ (A D : List ME), es = A ++ D ∧ n = A.length ∧ m = D.length ∧ (∀ e ∈ A, ¬ e.1.to = (L t).length) ∧ Below w1.heap.size w1 w', ⟨_, [], es, rfl, rfl, rfl, by simp, Below.refl _ _⟩, ?_⟩
  rintro m d n w2 ⟨A, D, hes, rfl, rfl, hA, B2⟩
  have hel : es.length = A.length + D.length := by rw [hes]; simp
  have e0 : Int.toNat (A.length : Int) = A.length := by omega
  have e1 : IntKind.wrap .i64 ((A.length : Int) + 1) = ((A.length + 1 : Nat) : Int) := by rw [w64 (by omega)]; omega
  rw [e0, e1]
  have hAf : (A.map (·.1)).find? (fun m => m.to == (L t).length) = none := by
    rw [List.find?_eq_none]
    intro m hm
    obtain ⟨e, he, rfl⟩ := List.mem_map.1 hm
    have := hA e he
    simpa using this
  refine ⟨fun g => ?_, fun g => ?_⟩
  · have g' : A.length < l := by have := of_decide_eq_true g; omega
    obtain ⟨e, D', rfl⟩ : ∃ x B', D = x :: B' := by
      cases D with
      | nil => simp only [List.length_nil] at hel; omega
      | cons x B' => exact ⟨x, B', rfl⟩
    have M2 := hM.below B2
    rw [hes] at M2
    obtain ⟨ba, hba, hc⟩ := M2.cells (i := A.length) (by simp)
    have hge : ∀ h, (A ++ e :: D')[A.length]'h = e := by intro h; simp
    rw [hge] at hc
    refine ⟨ba, 0, ⟨hba, by omega, by omega⟩, _, hc 0 (by decide), _, hc 1 (by decide), _, hc 2 (by decide), _, _, _, hc 3 (by decide), ?_⟩
    refine newC_in fun w3 s3 k3 e3 => ?_
    refine stW_in k3 (by show 0 + 4 ≤ 4; decide) fun w4 s4 k4 e4 => ?_
    have k4' : Blk w4.heap w2.heap.size 29 (mC e) := k4
    have B4 : Below w1.heap.size w1 w4 := Ext.to (Ext.to B2 e3 fun _ h => h.elim) e4 fun i hi => by have := B2.size; omega
    refine ⟨_, k4'.cell 2, fun g2 => ?_, fun g2 => ?_⟩
    · have g2' : e.1.to = (L t).length := by have : ((e.1.to : Nat) : Int) = t.size := by simpa using g2
                                             omega
      refine ⟨_, k4'.cell 0, _, k4'.cell 1, _, k4'.cell 2, _, _, _, k4'.cell 3, ?_⟩
      have M4 := hM.below B4
      rw [hes] at M4
      refine retMt_store (m := e.1) (g := e.2) hz (k.below B4) hb (B.vstep B4) M4.mid.1 (fun q hq => ?_) fun e' w' h => hR e' w' ?_
      · have := hM.low q (by rw [hes]; exact mem_mblks (by simp) (mem_ob.2 hq)); omega
      · rw [hes, List.map_append, List.find?_append, hAf]
        simp only [List.map_cons, Option.none_or]
        rw [List.find?_cons_of_pos (by simpa using g2')]
        exact h
    · have g2' : ¬ e.1.to = (L t).length := by have : ¬ ((e.1.to : Nat) : Int) = t.size := by simpa using g2
                                               omega
      refine ⟨D'.length, by simp, A ++ [e], D', by rw [hes]; simp, by simp, rfl, fun x hx => ?_, B4⟩
      rcases List.mem_append.1 hx with hx | hx
      · exact hA x hx
      · rw [List.mem_singleton.1 hx]; exact g2'
  · have g' : ¬ A.length < l := by have := of_decide_eq_false g; omega
    have : D = [] := by
      cases D with
      | nil => rfl
      | cons x r => simp only [List.length_cons] at hel; omega
    subst this
    rw [List.append_nil] at hes
    subst hes
    rw [hAf] at hR
    exact retMt_store (m := mt0) (g := (none, 0, 0)) hz (k.below B2) hb (B.vstep B2) (mt0_ok _) (by intro q hq; cases hq) hR
theorem wholeA_eq (p t : Bytes) : wholeA p t = ((waysA p t 0).find? fun m => m.to == t.length).getD mt0 := by
  unfold wholeA waysA
  cases h : okA p t
  · rw [if_neg (by simp), if_neg (by simp)]; rfl
  · rw [if_pos rfl, if_pos ⟨rfl, by omega, by omega⟩]; rfl
theorem waysA_S (p t : Bytes) (n : Int) : MsS (waysA p t n) := by
  unfold waysA
  split
  · rename_i h
    exact (okA_pt h.1).waysS (by omega)
  · exact ⟨by simp, by simp⟩
theorem implWhole_ok (s1 s2 : ByteArray) (w : World) : Cl Try.prog 35 [.string s1, .string s2] w (RetMt (wholeA (L s1) (L s2)) w) := by
  apply vc35
  unfold V35
  refine newC_in fun w4 s4 k4 e4 => ?_
  have B4 : Below w.heap.size w w4 := Ext.to (Below.refl _ _) e4 fun _ h => h.elim
  refine (implWays_ok s1 s2 0 w4).use fun e w6 he => ?_
  obtain ⟨a, l, c, es, rfl, M6, hes, B6⟩ := he
  have hS := waysA_S (L s1) (L s2) 0
  have hlen : es.length ≤ 1000 := by
    have h1 := hS.1
    rw [← hes, List.length_map] at h1
    omega
  refine ⟨a, l, c, rfl, wholeLoop (w := w) M6 (by omega) rfl (k4.below B6) (Nat.le_refl _) (by omega) (B4.vstep B6) hlen fun e w' h => ?_⟩
  rw [hes, ← wholeA_eq] at h
  exact h
theorem specWhole_ok (s1 s2 : ByteArray) (w : World) : Cl Try.prog 40 [.string s1, .string s2] w (RetMt (wholeA (L s1) (L s2)) w) := by
  apply vc40
  unfold V40
  refine newC_in fun w4 s4 k4 e4 => ?_
  have B4 : Below w.heap.size w w4 := Ext.to (Below.refl _ _) e4 fun _ h => h.elim
  refine (l2of_ok s1 s2 w4).use fun e w8 he => ?_
  obtain ⟨b, rfl, B8, hM⟩ := he
  have B := B4.vstep B8
  refine ⟨b, 0, _, rfl, fun g => ?_, fun g => ?_⟩
  · have g' : okA (L s1) (L s2) = false := by simpa using g
    have hm : wholeA (L s1) (L s2) = mt0 := by unfold wholeA; rw [if_neg (by rw [g']; simp)]
    rw [hm]
    exact retMt_store rfl (k4.below B8) (Nat.le_refl _) B (mt0_ok _) (by intro q hq; cases hq) fun _ _ h => h
  · have g' : okA (L s1) (L s2) = true := by simpa using g
    obtain ⟨s, rfl, hP, rfl, hpt, hF, hm⟩ := hM g'
    refine (waysS_ok hpt hF (Nat.zero_le _)).use fun e w16 he => ?_
    obtain ⟨a, l, c, es, rfl, M6, hes, _, E6⟩ := he
    have hS := hpt.waysS (Nat.zero_le _)
    have hlen : es.length ≤ 1000 := by
      have h1 := hS.1
      rw [← hes, List.length_map] at h1
      omega
    have hz := B8.size
    have k16 := (k4.below B8).keep E6 fun hx => by rcases hx with hx | hx <;> omega
    refine ⟨a, l, c, rfl, wholeLoop (w := w) M6 (by omega) rfl k16 (Nat.le_refl _) (by omega) (Ext.to B E6 fun x hx => by rcases hx with rfl | rfl <;> omega) hlen fun e w' h => ?_⟩
    rw [hes] at h
    unfold wholeA
    rw [if_pos g', ← hP]
    exact h
end Go.Proofs.Ytngbiaeliphdjaa.V
/- Printed by vcgen.py, a program of this session: formulas of Go functions, each with the proof that it gives the function's contract. No statement of the seat is proved here. -/
namespace Go.Proofs.Ytngbiaeliphdjaa.V
open Go.Vc Go.Proofs
set_option linter.unusedVariables false
set_option maxRecDepth 100000
/-- laws.wMatch -/
def V60 (t1 : Bool) (n2 n3 : Int) (a4 : Option Addr) (l4 c4 : Nat) (t5 : Bool) (n6 n7 : Int) (a8 : Option Addr) (l8 c8 : Nat) (R : Rt) : Pred := fun w =>
  newC [.bool t1, .int .i64 n2, .int .i64 n3, .slice a4 l4 c4] 29 (fun b9 w10 => newC [.bool t5, .int .i64 n6, .int .i64 n7, .slice a8 l8 c8] 29 (fun b11 w12 => lB w12 b9 0 fun t13 => lB w12 b11 0 fun t14 => (cB (!(t13 == t14)) (R (.returned (.bool false)) w12) (lI w12 b9 1 fun n15 => lI w12 b11 1 fun n16 => (cB (n15 != n16) (R (.returned (.bool false)) w12) (lI w12 b9 2 fun n17 => lI w12 b11 2 fun n18 => (cB (n17 != n18) (R (.returned (.bool false)) w12) (lL w12 b9 3 fun a19 l19 c19 => lL w12 b11 3 fun a20 l20 c20 => (cB (((l19 : Nat) : Int) != ((l20 : Nat) : Int)) (R (.returned (.bool false)) w12) (lL w12 b9 3 fun a21 l21 c21 => ∃ (I22 : Nat → Int → World → Prop), (∃ k24, I22 k24 0 w12) ∧ ∀ k23 (d26 : Nat → Value) n27 w25, I22 k23 n27 w25 → (cB (decide (n27 < ((l21 : Nat) : Int))) (drw (fun w28 => lL w28 b9 3 fun a29 l29 c29 => ixS a29 l29 n27 fun b30 o31 => lI w28 b30 (o31 + (Int.toNat n27) * 2) fun n32 => lI w28 b30 (o31 + (Int.toNat n27) * 2 + 1) fun n33 => lL w28 b11 3 fun a34 l34 c34 => ixS a34 l34 n27 fun b35 o36 => lI w28 b35 (o36 + (Int.toNat n27) * 2) fun n37 => lI w28 b35 (o36 + (Int.toNat n27) * 2 + 1) fun n38 => ∃ t39, (do pure (Value.bool (!(← Op.equal 31 (.agg #[.int .i64 n32, .int .i64 n33]) (.agg #[.int .i64 n37, .int .i64 n38])))) : Sem Value).run Try.prog w28 = .ok (.bool t39) w28 ∧ (cB t39 (R (.returned (.bool false)) w28) ((∃ m40, m40 < k23 ∧ I22 m40 (IntKind.wrap .i64 (n27 + 1)) w28)))) w25) (R (.returned (.bool true)) w25))))))))))) w10) w
def scr60 : Scr := (.q 3 (.run [0,1,2,3,4,5] (.split 11 (.r [6,7,8,9,10,11,12,13,14,15,16,17,18,19,20,21,22,23,24,25,26,27] (.lit (.q 1 .nil))) (.run [6,7,8,9,10,11,12] (.split 18 (.r [13,14,15,16,17,18,19,20,21,22,23,24,25,26,27] (.lit (.q 1 .nil))) (.run [13,14,15,16,17,18,19] (.split 25 (.r [20,21,22,23,24,25,26,27] (.lit (.q 1 .nil))) (.r [20,21,22,23,24,25,26,27] (.cond (.q 1 .nil) (.q 4 (.loop (dr [(37, some (.int .i64))] [(4,2),(38,14)]) (.q 1 (.cond (.q 2 (.q 11 (.cond (.q 1 .nil) (.q 2 .nil)))) (.q 1 .nil))))))))))))))
theorem vc60 {t1 n2 n3 a4 l4 c4 t5 n6 n7 a8 l8 c8} {R w} (h : V60 t1 n2 n3 a4 l4 c4 t5 n6 n7 a8 l8 c8 R w) : Cl Try.prog 60 [.agg #[.bool t1, .int .i64 n2, .int .i64 n3, .slice a4 l4 c4], .agg #[.bool t5, .int .i64 n6, .int .i64 n7, .slice a8 l8 c8]] w R :=
  cl_of scr60 Try.func60 (by kernel_rfl) _ _ (by kernel_rfl) h
/-- laws.wMatches -/
def V23 (a1 : Option Addr) (l1 c1 : Nat) (a2 : Option Addr) (l2 c2 : Nat) (R : Rt) : Pred := fun w =>
  (cB (((l1 : Nat) : Int) != ((l2 : Nat) : Int)) (R (.returned (.bool false)) w) (∃ (I3 : Nat → Int → World → Prop), (∃ k5, I3 k5 0 w) ∧ ∀ k4 (d7 : Nat → Value) n8 w6, I3 k4 n8 w6 → (cB (decide (n8 < ((l1 : Nat) : Int))) (drw (fun w9 => ixS a1 l1 n8 fun b10 o11 => lB w9 b10 (o11 + (Int.toNat n8) * 4) fun t12 => lI w9 b10 (o11 + (Int.toNat n8) * 4 + 1) fun n13 => lI w9 b10 (o11 + (Int.toNat n8) * 4 + 2) fun n14 => lL w9 b10 (o11 + (Int.toNat n8) * 4 + 3) fun a15 l15 c15 => ixS a2 l2 n8 fun b16 o17 => lB w9 b16 (o17 + (Int.toNat n8) * 4) fun t18 => lI w9 b16 (o17 + (Int.toNat n8) * 4 + 1) fun n19 => lI w9 b16 (o17 + (Int.toNat n8) * 4 + 2) fun n20 => lL w9 b16 (o17 + (Int.toNat n8) * 4 + 3) fun a21 l21 c21 => clB 60 ([.agg #[.bool t12, .int .i64 n13, .int .i64 n14, .slice a15 l15 c15], .agg #[.bool t18, .int .i64 n19, .int .i64 n20, .slice a21 l21 c21]]) w9 R fun t22 w23 => (cB (!t22) (R (.returned (.bool false)) w23) ((∃ m25, m25 < k4 ∧ I3 m25 (IntKind.wrap .i64 (n8 + 1)) w23)))) w6) (R (.returned (.bool true)) w6))))
def scr23 : Scr := (.q 1 (.q 5 (.cond (.q 1 .nil) (.q 3 (.loop (dr [(13, some (.int .i64))] [(4,2),(14,13)]) (.q 1 (.cond (.q 2 (.q 10 (.cond (.q 1 .nil) (.q 2 .nil)))) (.q 1 .nil))))))))
theorem vc23 {a1 l1 c1 a2 l2 c2} {R w} (h : V23 a1 l1 c1 a2 l2 c2 R w) : Cl Try.prog 23 [.slice a1 l1 c1, .slice a2 l2 c2] w R :=
  cl_of scr23 Try.func23 (by kernel_rfl) _ _ (by kernel_rfl) h
end Go.Proofs.Ytngbiaeliphdjaa.V
/- A match in a box. No statement of the seat is proved here. -/
namespace Go.Proofs.Ytngbiaeliphdjaa.V
open Go.Vc Go.Proofs Go.RowKit
set_option linter.unusedVariables false
/-- A match is laid into a box. -/
theorem mbox_in {w : World} {e : ME} {K : Nat → World → Prop} (h : ∀ w2, w2.heap.size = w.heap.size + 1 → Blk w2.heap w.heap.size 29 (mC e) → Below w.heap.size w w2 → K w.heap.size w2) :
    newC [.bool false, .int .i64 0, .int .i64 0, .slice none 0 0] 29 (fun b w8 => stW b 0 [.bool e.1.ok, .int .i64 (e.1.fr : Int), .int .i64 (e.1.to : Int), .slice e.2.1 e.2.2.1 e.2.2.2] (fun w9 => K b w9) w8) w := by
  refine newC_in fun w1 s1 k1 e1 => ?_
  refine stW_in k1 (by show 0 + 4 ≤ 4; decide) fun w2 s2 k2 e2 => ?_
  exact h w2 (by omega) k2 (Ext.to (Ext.to (Below.refl _ _) e1 fun _ h => h.elim) e2 fun i h => by omega)
end Go.Proofs.Ytngbiaeliphdjaa.V
/- Equality of a struct with itself. No statement of the seat is proved here. -/
namespace Go.Proofs.Ytngbiaeliphdjaa.V
open Go.Vc Go.Proofs Go.RowKit
set_option linter.unusedVariables false
set_option linter.unusedSimpArgs false

theorem eqFields_refl {P : Program} {w : World} (d : Nat) (xs : Array Value) : ∀ fs : List Field, (∀ f ∈ fs, ∃ a, (part f.type xs f.offset).run P w = .ok a w ∧ (Op.equalIn d f.type a a).run P w = .ok true w) → (Op.eqFields d xs xs fs).run P w = .ok true w
  | [], _ => by simp [Op.eqFields]
  | f :: fs, h => by
    obtain ⟨a, h1, h2⟩ := h f (by simp)
    have ih := eqFields_refl d xs fs fun g hg => h g (by simp [hg])
    simp only [Op.eqFields]
    split
    · simp [h1, h2, ih]
    · exact ih
theorem mem_fields {fs : List Field} {l : List (TypeId × Nat)} (h : fs.map (fun f => (f.type, f.offset)) = l) {f : Field} (hf : f ∈ fs) : (f.type, f.offset) ∈ l := by
  rw [← h]; exact List.mem_map.2 ⟨f, hf, rfl⟩
theorem eq31 (n m : Int) (w : World) : (Op.equal 31 (.agg #[.int .i64 n, .int .i64 m]) (.agg #[.int .i64 n, .int .i64 m])).run Try.prog w = .ok true w := by
  unfold Op.equal
  rw [show Op.maxDepth = 9998 + 1 + 1 from rfl]
  rw [run_equalIn_struct w (9998 + 1) 31 _ _ (by kernel_rfl) (by kernel_rfl)]
  refine eqFields_refl _ _ _ fun f hf => ?_
  have := mem_fields (l := [(3, 0), (3, 1)]) (by kernel_rfl) hf
  simp only [List.mem_cons, List.not_mem_nil, or_false, Prod.mk.injEq] at this
  rcases this with ⟨h1, h2⟩ | ⟨h1, h2⟩ <;> rw [h1, h2]
  · exact ⟨.int .i64 n, by kernel_rfl, by rw [run_equalIn_int w 9998 3 .i64 .i64 _ _ Try.underlying3]; simp⟩
  · exact ⟨.int .i64 m, by kernel_rfl, by rw [run_equalIn_int w 9998 3 .i64 .i64 _ _ Try.underlying3]; simp⟩
/-- As the laws ask it. -/
theorem ne_of {T : TypeId} {v : Value} {w : World} (h : (Op.equal T v v).run Try.prog w = .ok true w) : (do pure (Value.bool (!(← Op.equal T v v))) : Sem Value).run Try.prog w = .ok (.bool false) w := by
  rw [bind_run h]; rfl
end Go.Proofs.Ytngbiaeliphdjaa.V
/- Matches are compared by the laws. No statement of the seat is proved here. -/
namespace Go.Proofs.Ytngbiaeliphdjaa.V
open Go.Vc Go.Proofs Go.RowKit
set_option linter.unusedVariables false
set_option linter.unusedSimpArgs false
theorem wMatch_ok {w : World} {e1 e2 : ME} (h1 : MOk w e1) (h2 : MOk w e2) (he : e1.1 = e2.1) (hp : e1.1.gs.length ≤ 1000) : Cl Try.prog 60 [.agg ⟨mC e1⟩, .agg ⟨mC e2⟩] w (RetB (.bool true) w) := by
  refine vc60 (t1 := e1.1.ok) (n2 := e1.1.fr) (n3 := e1.1.to) (a4 := e1.2.1) (l4 := e1.2.2.1) (c4 := e1.2.2.2) (t5 := e2.1.ok) (n6 := e2.1.fr) (n7 := e2.1.to) (a8 := e2.2.1) (l8 := e2.2.2.1) (c8 := e2.2.2.2) ?_
  unfold V60
  refine newC_in fun w1 s1 k1 x1 => ?_
  refine newC_in fun w2 s2 k2 x2 => ?_
  have k1' := k1.keep x2 fun h => h
  have hb : Below w.heap.size w w2 := Ext.to (Ext.to (Below.refl _ _) x1 fun _ h => h.elim) x2 fun _ h => h.elim
  have H1 := h1.below hb
  have H2 := h2.below hb
  unfold MOk at H1 H2
  rw [← he] at H2
  have hl1 : e1.2.2.1 = e1.1.gs.length := by have := H1.1; rw [rngC_length] at this; omega
  have hl2 : e2.2.2.1 = e1.1.gs.length := by have := H2.1; rw [rngC_length] at this; omega
  refine ⟨_, k1'.cell 0, _, k2.cell 0, fun g => by rw [he] at g; simp at g, fun _ => ⟨_, k1'.cell 1, _, k2.cell 1, fun g => by rw [he] at g; simp at g, fun _ => ⟨_, k1'.cell 2, _, k2.cell 2, fun g => by rw [he] at g; simp at g, fun _ => ⟨_, _, _, k1'.cell 3, _, _, _, k2.cell 3, fun g => by rw [hl1, hl2] at g; simp at g, fun _ => ⟨_, _, _, k1'.cell 3, ?_⟩⟩⟩⟩⟩
  refine ⟨fun k n w' => ∃ i : Nat, n = i ∧ i ≤ e1.1.gs.length ∧ k = e1.1.gs.length - i ∧ Below w2.heap.size w2 w', ⟨_, 0, rfl, by omega, rfl, Below.refl _ _⟩, ?_⟩
  rintro k d n w3 ⟨i, rfl, hi, rfl, hb3⟩
  refine ⟨fun g => ?_, fun g => ⟨rfl, hb.vstep hb3⟩⟩
  have g' : i < e1.1.gs.length := by have := of_decide_eq_true g; omega
  have e0 : Int.toNat (i : Int) = i := by omega
  have e1' : IntKind.wrap .i64 ((i : Int) + 1) = ((i + 1 : Nat) : Int) := by rw [w64 (by omega)]; omega
  rw [e0, e1']
  refine drw_in fun w4 q4 x4 => ?_
  have hb4 := Ext.to hb3 x4 fun _ h => h.elim
  have K1 := k1'.below hb4
  have K2 := k2.below hb4
  obtain ⟨b, hb1, hc1⟩ := Vec.open (H1.keep (S := fun _ => False) (Ext.of_below hb4) fun _ _ h => h) (by omega)
  obtain ⟨b', hb2, hc2⟩ := Vec.open (H2.keep (S := fun _ => False) (Ext.of_below hb4) fun _ _ h => h) (by omega)
  have hr := rngC_at e1.1.gs i g'
  refine ⟨_, _, _, K1.cell 3, b, 0, ⟨hb1, by omega, by omega⟩, e1.1.gs[i].1, by rw [Nat.zero_add, hc1 _ (by omega)]; exact hr.1, e1.1.gs[i].2, by rw [Nat.zero_add, hc1 _ (by omega)]; exact hr.2, _, _, _, K2.cell 3, b', 0, ⟨hb2, by omega, by omega⟩, e1.1.gs[i].1, by rw [Nat.zero_add, hc2 _ (by omega)]; exact hr.1, e1.1.gs[i].2, by rw [Nat.zero_add, hc2 _ (by omega)]; exact hr.2, false, ne_of (eq31 _ _ _), ?_⟩
  exact ⟨fun g => (by cases g), fun _ => ⟨_, by omega, i + 1, rfl, by omega, rfl, hb4⟩⟩
theorem wMatches_ok {w : World} {N1 N2 : Nat} {a1 a2 : Option Addr} {l1 l2 c1 c2 : Nat} {es1 es2 : List ME} (h1 : Ms N1 w a1 l1 c1 es1) (h2 : Ms N2 w a2 l2 c2 es2) (he : es1.map (·.1) = es2.map (·.1)) (hp : MsS (es1.map (·.1))) :
    Cl Try.prog 23 [.slice a1 l1 c1, .slice a2 l2 c2] w (RetB (.bool true) w) := by
  apply vc23
  unfold V23
  have hl1 := h1.len
  have hl2 := h2.len
  have hll : es1.length = es2.length := by have := congrArg List.length he; simpa using this
  have hps := hp.1
  rw [List.length_map] at hps
  refine ⟨fun g => ?_, fun _ => ?_⟩
  · rw [← hl1, ← hl2, hll] at g; simp at g
  refine ⟨fun k n w' => ∃ i : Nat, n = i ∧ i ≤ es1.length ∧ k = es1.length - i ∧ Below w.heap.size w w', ⟨_, 0, rfl, by omega, rfl, Below.refl _ _⟩, ?_⟩
  rintro k d n w1 ⟨i, rfl, hi, rfl, hb⟩
  refine ⟨fun g => ?_, fun g => ⟨rfl, hb⟩⟩
  have g' : i < es1.length := by have := of_decide_eq_true g; omega
  have e0 : Int.toNat (i : Int) = i := by omega
  have e1 : IntKind.wrap .i64 ((i : Int) + 1) = ((i + 1 : Nat) : Int) := by rw [w64 (by omega)]; omega
  rw [e0, e1]
  refine drw_in fun w2 q2 e2 => ?_
  have hb2 : Below w.heap.size w w2 := Ext.to hb e2 fun _ h => h.elim
  have P1 := h1.below hb2
  have P2 := h2.below hb2
  have g2 : i < es2.length := by omega
  obtain ⟨b, rfl, q1⟩ := P1.cells g'
  obtain ⟨b', rfl, q2⟩ := P2.cells g2
  refine ⟨b, 0, ⟨rfl, by omega, by omega⟩, _, q1 0 (by decide), _, q1 1 (by decide), _, q1 2 (by decide), _, _, _, q1 3 (by decide), b', 0, ⟨rfl, by omega, by omega⟩, _, q2 0 (by decide), _, q2 1 (by decide), _, q2 2 (by decide), _, _, _, q2 3 (by decide), ?_⟩
  have hee : es1[i].1 = es2[i].1 := by
    have : (es1.map (·.1))[i]'(by simpa using g') = (es2.map (·.1))[i]'(by simpa using g2) := List.getElem_of_eq he _
    simpa using this
  exact (wMatch_ok (P1.all _ (List.getElem_mem g')) (P2.all _ (List.getElem_mem g2)) hee (by have := hp.2 es1[i].1 (List.mem_map_of_mem (List.getElem_mem g')); omega)).ret fun w3 hb3 => ⟨true, rfl, fun h => by simp at h, fun _ => ⟨_, by omega, i + 1, rfl, by omega, rfl, hb2.vstep hb3⟩⟩
end Go.Proofs.Ytngbiaeliphdjaa.V
/- Printed by vcgen.py, a program of this session: formulas of Go functions, each with the proof that it gives the function's contract. No statement of the seat is proved here. -/
namespace Go.Proofs.Ytngbiaeliphdjaa.V
open Go.Vc Go.Proofs
set_option linter.unusedVariables false
set_option maxRecDepth 100000
/-- laws.wPieces -/
def V72 (a1 : Option Addr) (l1 c1 : Nat) (a2 : Option Addr) (l2 c2 : Nat) (R : Rt) : Pred := fun w =>
  (cB (((l1 : Nat) : Int) != ((l2 : Nat) : Int)) (R (.returned (.bool false)) w) (∃ (I3 : Nat → Int → World → Prop), (∃ k5, I3 k5 0 w) ∧ ∀ k4 (d7 : Nat → Value) n8 w6, I3 k4 n8 w6 → (cB (decide (n8 < ((l1 : Nat) : Int))) (ixS a1 l1 n8 fun b9 o10 => lI w6 b9 (o10 + (Int.toNat n8) * 7) fun n11 => lL w6 b9 (o10 + (Int.toNat n8) * 7 + 1) fun a12 l12 c12 => lI w6 b9 (o10 + (Int.toNat n8) * 7 + 2) fun n13 => lI w6 b9 (o10 + (Int.toNat n8) * 7 + 3) fun n14 => lB w6 b9 (o10 + (Int.toNat n8) * 7 + 4) fun t15 => lI w6 b9 (o10 + (Int.toNat n8) * 7 + 5) fun n16 => lL w6 b9 (o10 + (Int.toNat n8) * 7 + 6) fun a17 l17 c17 => newC [.int .i64 0, .slice none 0 0, .int .i64 0, .int .i64 0, .bool false, .int .i64 0, .slice none 0 0] 111 (fun b18 w19 => stW b18 0 [.int .i64 n11, .slice a12 l12 c12, .int .i64 n13, .int .i64 n14, .bool t15, .int .i64 n16, .slice a17 l17 c17] (fun w20 => ixS a2 l2 n8 fun b21 o22 => lI w20 b21 (o22 + (Int.toNat n8) * 7) fun n23 => lL w20 b21 (o22 + (Int.toNat n8) * 7 + 1) fun a24 l24 c24 => lI w20 b21 (o22 + (Int.toNat n8) * 7 + 2) fun n25 => lI w20 b21 (o22 + (Int.toNat n8) * 7 + 3) fun n26 => lB w20 b21 (o22 + (Int.toNat n8) * 7 + 4) fun t27 => lI w20 b21 (o22 + (Int.toNat n8) * 7 + 5) fun n28 => lL w20 b21 (o22 + (Int.toNat n8) * 7 + 6) fun a29 l29 c29 => newC [.int .i64 0, .slice none 0 0, .int .i64 0, .int .i64 0, .bool false, .int .i64 0, .slice none 0 0] 111 (fun b30 w31 => stW b30 0 [.int .i64 n23, .slice a24 l24 c24, .int .i64 n25, .int .i64 n26, .bool t27, .int .i64 n28, .slice a29 l29 c29] (fun w32 => lI w32 b18 0 fun n33 => lI w32 b30 0 fun n34 => (cB (n33 != n34) (R (.returned (.bool false)) w32) (lI w32 b18 2 fun n35 => lI w32 b30 2 fun n36 => (cB (n35 != n36) (R (.returned (.bool false)) w32) (lI w32 b18 3 fun n37 => lI w32 b30 3 fun n38 => (cB (n37 != n38) (R (.returned (.bool false)) w32) (lB w32 b18 4 fun t39 => lB w32 b30 4 fun t40 => (cB (!(t39 == t40)) (R (.returned (.bool false)) w32) (lI w32 b18 5 fun n41 => lI w32 b30 5 fun n42 => (cB (n41 != n42) (R (.returned (.bool false)) w32) (lL w32 b18 1 fun a43 l43 c43 => lL w32 b30 1 fun a44 l44 c44 => (cB (((l43 : Nat) : Int) != ((l44 : Nat) : Int)) (R (.returned (.bool false)) w32) (lL w32 b18 6 fun a45 l45 c45 => lL w32 b30 6 fun a46 l46 c46 => (cB (((l45 : Nat) : Int) != ((l46 : Nat) : Int)) (R (.returned (.bool false)) w32) (lL w32 b18 1 fun a47 l47 c47 => ∃ (I48 : Nat → Int → World → Prop), (∃ k50, I48 k50 0 w32) ∧ ∀ k49 (d52 : Nat → Value) n53 w51, I48 k49 n53 w51 → (cB (decide (n53 < ((l47 : Nat) : Int))) (drw (fun w54 => lL w54 b18 1 fun a55 l55 c55 => ixS a55 l55 n53 fun b56 o57 => lI w54 b56 (o57 + (Int.toNat n53) * 2) fun n58 => lI w54 b56 (o57 + (Int.toNat n53) * 2 + 1) fun n59 => lL w54 b30 1 fun a60 l60 c60 => ixS a60 l60 n53 fun b61 o62 => lI w54 b61 (o62 + (Int.toNat n53) * 2) fun n63 => lI w54 b61 (o62 + (Int.toNat n53) * 2 + 1) fun n64 => ∃ t65, (do pure (Value.bool (!(← Op.equal 134 (.agg #[.int .i64 n58, .int .i64 n59]) (.agg #[.int .i64 n63, .int .i64 n64])))) : Sem Value).run Try.prog w54 = .ok (.bool t65) w54 ∧ (cB t65 (R (.returned (.bool false)) w54) ((∃ m66, m66 < k49 ∧ I48 m66 (IntKind.wrap .i64 (n53 + 1)) w54)))) w51) (lL w51 b18 6 fun a67 l67 c67 => ∃ (I68 : Nat → Int → World → Prop), (∃ k70, I68 k70 0 w51) ∧ ∀ k69 (d72 : Nat → Value) n73 w71, I68 k69 n73 w71 → (cB (decide (n73 < ((l67 : Nat) : Int))) (drw (fun w74 => lL w74 b18 6 fun a75 l75 c75 => ixS a75 l75 n73 fun b76 o77 => lI w74 b76 (o77 + (Int.toNat n73) * 1) fun n78 => lL w74 b30 6 fun a79 l79 c79 => ixS a79 l79 n73 fun b80 o81 => lI w74 b80 (o81 + (Int.toNat n73) * 1) fun n82 => (cB (n78 != n82) (R (.returned (.bool false)) w74) ((∃ m83, m83 < k69 ∧ I68 m83 (IntKind.wrap .i64 (n73 + 1)) w74)))) w71) ((∃ m84, m84 < k4 ∧ I3 m84 (IntKind.wrap .i64 (n8 + 1)) w71)))))))))))))))))))) w31) w20) w19) w6) (R (.returned (.bool true)) w6))))
def scr72 : Scr := (.q 1 (.q 5 (.cond (.q 1 .nil) (.q 3 (.loop (dr [(17, some (.int .i64))] [(4,6),(18,98)]) (.q 1 (.cond (.q 2 (.q 6 (.q 6 (.run [0,1,2,3,4,5] (.split 33 (.r [6,7,8,9,10,11,12,13,14,15,16,17,18,19,20,21,22,23,24,25,26,27,28,29,30,31,32,33,34,35,36,37,38,39,40,41,42,43,44,45,46,47,48,49,50] (.lit (.q 1 .nil))) (.run [6,7,8,9,10,11,12] (.split 40 (.r [13,14,15,16,17,18,19,20,21,22,23,24,25,26,27,28,29,30,31,32,33,34,35,36,37,38,39,40,41,42,43,44,45,46,47,48,49,50] (.lit (.q 1 .nil))) (.run [13,14,15,16,17,18,19] (.split 47 (.r [20,21,22,23,24,25,26,27,28,29,30,31,32,33,34,35,36,37,38,39,40,41,42,43,44,45,46,47,48,49,50] (.lit (.q 1 .nil))) (.run [20,21,22,23,24,25,26] (.split 54 (.r [27,28,29,30,31,32,33,34,35,36,37,38,39,40,41,42,43,44,45,46,47,48,49,50] (.lit (.q 1 .nil))) (.run [27,28,29,30,31,32,33] (.split 61 (.r [34,35,36,37,38,39,40,41,42,43,44,45,46,47,48,49,50] (.lit (.q 1 .nil))) (.run [34,35,36,37,38,39,40,41,42] (.split 70 (.r [43,44,45,46,47,48,49,50] (.lit (.q 1 .nil))) (.r [43,44,45,46,47,48,49,50] (.cond (.q 1 .nil) (.q 4 (.loop (dr [(82, some (.int .i64))] [(4,1),(8,1),(83,14)]) (.q 1 (.cond (.q 2 (.q 11 (.cond (.q 1 .nil) (.q 2 .nil)))) (.q 4 (.loop (dr [(100, some (.int .i64))] [(4,1),(9,1),(101,14)]) (.q 1 (.cond (.q 2 (.q 11 (.cond (.q 1 .nil) (.q 2 .nil)))) (.q 2 .nil)))))))))))))))))))))))))) (.q 1 .nil))))))))
theorem vc72 {a1 l1 c1 a2 l2 c2} {R w} (h : V72 a1 l1 c1 a2 l2 c2 R w) : Cl Try.prog 72 [.slice a1 l1 c1, .slice a2 l2 c2] w R :=
  cl_of scr72 Try.func72 (by kernel_rfl) _ _ (by kernel_rfl) h
/-- spec.l1pieces -/
def V97 := V72
def scr97 : Scr := scr72
theorem vc97 {a1 l1 c1 a2 l2 c2} {R w} (h : V97 a1 l1 c1 a2 l2 c2 R w) : Cl Try.prog 97 [.slice a1 l1 c1, .slice a2 l2 c2] w R :=
  cl_of scr97 Try.func97 (by kernel_rfl) _ _ (by kernel_rfl) h
end Go.Proofs.Ytngbiaeliphdjaa.V
/- Pieces are compared by the laws and by the reference. No statement of the seat is proved here. -/
namespace Go.Proofs.Ytngbiaeliphdjaa.V
open Go.Vc Go.Proofs Go.RowKit
set_option linter.unusedVariables false
set_option linter.unusedSimpArgs false
theorem eq134 (a b c d : Int) (w : World) : (Op.equal 134 (.agg #[.int .i64 a, .int .i64 b]) (.agg #[.int .i64 c, .int .i64 d])).run Try.prog w = .ok (a == c && b == d) w := by
  unfold Op.equal
  rw [show Op.maxDepth = 9998 + 1 + 1 from rfl]
  rw [run_equalIn_struct w (9998 + 1) 134 _ _ (by kernel_rfl) (by kernel_rfl)]
  have hm : (Try.prog.fieldsOf 134).toList.map (fun f => (decide (f.name = "_"), f.type, f.offset)) = [(false, 3, 0), (false, 3, 1)] := by kernel_rfl
  generalize (Try.prog.fieldsOf 134).toList = fs at hm
  obtain ⟨f0, f1, rfl⟩ : ∃ f0 f1, fs = [f0, f1] := by
    cases fs with
    | nil => cases hm
    | cons f0 r =>
      cases r with
      | nil => simp at hm
      | cons f1 r =>
        cases r with
        | nil => exact ⟨f0, f1, rfl⟩
        | cons f2 r => simp at hm
  · simp only [List.map_cons, List.map_nil, List.cons.injEq, Prod.mk.injEq, decide_eq_false_iff_not, and_true] at hm
    obtain ⟨⟨n0, t0, o0⟩, n1, t1, o1⟩ := hm
    have p0 : ∀ x y : Int, (part 3 #[.int .i64 x, .int .i64 y] 0).run Try.prog w = .ok (.int .i64 x) w := fun x y => by kernel_rfl
    have p1 : ∀ x y : Int, (part 3 #[.int .i64 x, .int .i64 y] 1).run Try.prog w = .ok (.int .i64 y) w := fun x y => by kernel_rfl
    have q : ∀ x y : Int, (Op.equalIn (9998 + 1) 3 (.int .i64 x) (.int .i64 y)).run Try.prog w = .ok (x == y) w := fun x y => run_equalIn_int w 9998 3 .i64 .i64 _ _ Try.underlying3
    simp only [Op.eqFields, t0, o0, t1, o1]
    rw [if_pos n0, if_pos n1, bind_run (p0 a b), bind_run (p0 c d), bind_run (q a c)]
    by_cases h : a = c
    · subst h
      rw [if_neg (by simp), bind_run (p1 a b), bind_run (p1 a d), bind_run (q b d)]
      by_cases h2 : b = d
      · subst h2; rw [if_neg (by simp)]; simp
      · have : (b == d) = false := by simpa using h2
        rw [this, if_pos (by rfl)]; simp
    · have : (a == c) = false := by simpa using h
      rw [this, if_pos (by rfl)]; rfl
theorem ne134 (a b c d : Int) (w : World) : (do pure (Value.bool (!(← Op.equal 134 (.agg #[.int .i64 a, .int .i64 b]) (.agg #[.int .i64 c, .int .i64 d])))) : Sem Value).run Try.prog w = .ok (.bool (!(a == c && b == d))) w := by
  rw [bind_run (eq134 a b c d w)]; rfl
/-- Bounds that hold of every row in memory that a law asks for. -/
def Fits (ps : List Pc) : Prop := ps.length ≤ 1099511627776 ∧ ∀ x ∈ ps, x.set.length ≤ 1099511627776 ∧ x.kids.length ≤ 1099511627776
theorem pc_ext {x y : Pc} (h1 : x.kind = y.kind) (h2 : x.set = y.set) (h3 : x.min = y.min) (h4 : x.max = y.max) (h5 : x.lazy = y.lazy) (h6 : x.num = y.num) (h7 : x.kids = y.kids) : x = y := by
  cases x; cases y; simp_all
theorem pieces_V {w : World} {N1 N2 : Nat} {a1 a2 : Option Addr} {l1 l2 c1 c2 : Nat} {rs1 rs2 : List Raw} {ps1 ps2 : List Pc} (h1 : Pcs N1 w a1 l1 c1 rs1 ps1) (h2 : Pcs N2 w a2 l2 c2 rs2 ps2) (f1 : Fits ps1) (f2 : Fits ps2) {R : Rt}
    (hR : ∀ (b : Bool) (w' : World), (b = true ↔ ps1 = ps2) → Below w.heap.size w w' → R (.returned (.bool b)) w') : V72 a1 l1 c1 a2 l2 c2 R w := by
  unfold V72
  have hl1 := h1.len
  have hl2 := h2.len
  have hl1' := h1.len'
  have hl2' := h2.len'
  have hb1 := f1.1
  have hb2 := f2.1
  have no : ps1 ≠ ps2 → ∀ {w'}, Below w.heap.size w w' → R (.returned (.bool false)) w' := fun hne {w'} hb => hR false w' ⟨fun h => (by cases h), fun h => absurd h hne⟩ hb
  refine ⟨fun g => no (fun h => ?_) (Below.refl _ _), fun g => ?_⟩
  · subst h
    have : ((l1 : Nat) : Int) ≠ l2 := by simpa using g
    omega
  have hll : l1 = l2 := by have : ((l1 : Nat) : Int) = l2 := by simpa using g
                           omega
  refine ⟨fun k n w' => ∃ i : Nat, n = i ∧ i ≤ l1 ∧ k = l1 - i ∧ ps1.take i = ps2.take i ∧ Below w.heap.size w w', ⟨_, 0, rfl, by omega, rfl, rfl, Below.refl _ _⟩, ?_⟩
  rintro k d n w6 ⟨i, rfl, hi, rfl, htk, hb⟩
  refine ⟨fun g => ?_, fun g => hR true _ ⟨fun _ => ?_, fun _ => rfl⟩ hb⟩
  rotate_left
  · have : i = l1 := by have := of_decide_eq_false g; omega
    subst this
    rw [List.take_of_length_le (by omega), List.take_of_length_le (by omega)] at htk
    exact htk
  have gi : i < l1 := by have := of_decide_eq_true g; omega
  have e0 : Int.toNat (i : Int) = i := by omega
  have e1 : IntKind.wrap .i64 ((i : Int) + 1) = ((i + 1 : Nat) : Int) := by rw [w64 (by omega)]; omega
  rw [e0, e1]
  have P1 := h1.below hb
  have P2 := h2.below hb
  obtain ⟨b1, ha1, hc1⟩ := P1.row.open (by omega)
  obtain ⟨b2, ha2, hc2⟩ := P2.row.open (by omega)
  have i1 : i < rs1.length := by omega
  have i2 : i < rs2.length := by omega
  have j1 : i < ps1.length := by omega
  have j2 : i < ps2.length := by omega
  have k1 := fun o ho => raw_at hc1 hl1 i1 o ho
  have k2 := fun o ho => raw_at hc2 hl2 i2 o ho
  have o1 := P1.all i _ _ (List.getElem?_eq_getElem i1) (List.getElem?_eq_getElem j1)
  have o2 := P2.all i _ _ (List.getElem?_eq_getElem i2) (List.getElem?_eq_getElem j2)
  have s1 := f1.2 _ (List.getElem_mem j1)
  have s2 := f2.2 _ (List.getElem_mem j2)
  have hsuf : ∀ {w'}, Below w.heap.size w w' → ps1[i] = ps2[i] → ∃ m84, m84 < l1 - i ∧ ∃ i_1 : Nat, ((i + 1 : Nat) : Int) = i_1 ∧ i_1 ≤ l1 ∧ m84 = l1 - i_1 ∧ ps1.take i_1 = ps2.take i_1 ∧ Below w.heap.size w w' := fun hb' he =>
    ⟨_, by omega, i + 1, rfl, by omega, rfl, by rw [List.take_succ_eq_append_getElem j1, List.take_succ_eq_append_getElem j2, htk, he], hb'⟩
  have no' : ps1[i] ≠ ps2[i] → ∀ {w'}, Below w.heap.size w w' → R (.returned (.bool false)) w' := fun hne => no fun h => hne (by subst h; rfl)
  generalize rs1[i] = r1 at *
  generalize rs2[i] = r2 at *
  generalize ps1[i] = p1 at *
  generalize ps2[i] = p2 at *
  refine ⟨b1, 0, ⟨ha1, by omega, by omega⟩, _, k1 0 (by decide), _, _, _, k1 1 (by decide), _, k1 2 (by decide), _, k1 3 (by decide), _, k1 4 (by decide), _, k1 5 (by decide), _, _, _, k1 6 (by decide), ?_⟩
  refine newC_in fun w19 z19 q19 x19 => ?_
  refine stW_in q19 (by show 0 + 7 ≤ 7; decide) fun w20 z20 q20 x20 => ?_
  have B20 : Below w6.heap.size w6 w20 := Ext.to (Ext.to (Below.refl _ _) x19 fun _ h => h.elim) x20 fun i hi => by omega
  have P2' := P2.below B20
  obtain ⟨b2', ha2', hc2'⟩ := P2'.row.open (by omega)
  obtain rfl : b2' = b2 := by rw [ha2] at ha2'; injection ha2' with h; injection h with h; exact h.symm
  have k2' : ∀ o, o < 7 → cellH w20.heap b2' (0 + i * 7 + o) = r2.cells[o]? := fun o ho => by
    have hlt := P2.row.lt b2' (by rw [ha2]; rfl)
    rw [B20.vcell hlt]; exact k2 o ho
  refine ⟨b2', 0, ⟨ha2, by omega, by omega⟩, _, k2' 0 (by decide), _, _, _, k2' 1 (by decide), _, k2' 2 (by decide), _, k2' 3 (by decide), _, k2' 4 (by decide), _, k2' 5 (by decide), _, _, _, k2' 6 (by decide), ?_⟩
  refine newC_in fun w31 z31 q31 x31 => ?_
  refine stW_in q31 (by show 0 + 7 ≤ 7; decide) fun w32 z32 q32 x32 => ?_
  have B32 : Below w20.heap.size w20 w32 := Ext.to (Ext.to (Below.refl _ _) x31 fun _ h => h.elim) x32 fun i hi => by omega
  have B632 := B20.vstep B32
  have Bw := hb.vstep B632
  have y1 : ∀ o, o < 7 → cellH w32.heap w6.heap.size o = r1.cells[o]? := fun o ho => (q20.below B32).cell o
  have y2 : ∀ o, o < 7 → cellH w32.heap w20.heap.size o = r2.cells[o]? := fun o ho => q32.cell o
  have K1 := q20.below B32
  have S1 := o1.keep (S := fun _ => False) (Ext.of_below B632) fun _ _ h => h
  have S2 := o2.keep (S := fun _ => False) (Ext.of_below B632) fun _ _ h => h
  have sl1 : r1.sl = p1.set.length := by have := S1.set.1; rw [rngC_length] at this; omega
  have sl2 : r2.sl = p2.set.length := by have := S2.set.1; rw [rngC_length] at this; omega
  have kl1 : r1.kl = p1.kids.length := by have := S1.kids.1; rw [intC_length] at this; omega
  have kl2 : r2.kl = p2.kids.length := by have := S2.kids.1; rw [intC_length] at this; omega
  have ne_i : ∀ {x y : Int}, (x != y) = true → x ≠ y := fun h => by simpa using h
  have eq_i : ∀ {x y : Int}, (x != y) = false → x = y := fun h => by simpa using h
  refine ⟨_, y1 0 (by decide), _, y2 0 (by decide), fun g => no' (fun h => ne_i g (by rw [o1.kind, o2.kind, h])) Bw, fun u0 => ⟨_, y1 2 (by decide), _, y2 2 (by decide), fun g => no' (fun h => ne_i g (by rw [o1.min, o2.min, h])) Bw, fun u2 => ⟨_, y1 3 (by decide), _, y2 3 (by decide), fun g => no' (fun h => ne_i g (by rw [o1.max, o2.max, h])) Bw, fun u3 =>
    ⟨_, y1 4 (by decide), _, y2 4 (by decide), fun g => no' (fun h => by rw [o1.lazy, o2.lazy, h] at g; simp at g) Bw, fun u4 => ⟨_, y1 5 (by decide), _, y2 5 (by decide), fun g => no' (fun h => ne_i g (by rw [o1.num, o2.num, h])) Bw, fun u5 => ⟨_, _, _, y1 1 (by decide), _, _, _, y2 1 (by decide), fun g => no' (fun h => ne_i g (by rw [sl1, sl2, h])) Bw, fun u1 =>
    ⟨_, _, _, y1 6 (by decide), _, _, _, y2 6 (by decide), fun g => no' (fun h => ne_i g (by rw [kl1, kl2, h])) Bw, fun u6 => ⟨_, _, _, y1 1 (by decide), ?_⟩⟩⟩⟩⟩⟩⟩⟩
  have v0 := eq_i u0
  have v2 := eq_i u2
  have v3 := eq_i u3
  have v4 : r1.lazy = r2.lazy := by simpa using u4
  have v5 := eq_i u5
  have v1 : p1.set.length = p2.set.length := by have := eq_i u1; omega
  have v6 : p1.kids.length = p2.kids.length := by have := eq_i u6; omega
  refine ⟨fun k n w' => ∃ j : Nat, n = j ∧ j ≤ p1.set.length ∧ k = p1.set.length - j ∧ p1.set.take j = p2.set.take j ∧ Below w32.heap.size w32 w', ⟨_, 0, rfl, by omega, rfl, rfl, Below.refl _ _⟩, ?_⟩
  rintro k5 d5 _ w51 ⟨j, rfl, hj, rfl, htj, B51⟩
  have Bw51 := Bw.vstep B51
  refine ⟨fun g => ?_, fun g => ?_⟩
  · have gj : j < p1.set.length := by have := of_decide_eq_true g; omega
    have gj2 : j < p2.set.length := by omega
    have f0 : Int.toNat (j : Int) = j := by omega
    have f1 : IntKind.wrap .i64 ((j : Int) + 1) = ((j + 1 : Nat) : Int) := by rw [w64 (by omega)]; omega
    rw [f0, f1]
    refine drw_in fun w54 z54 x54 => ?_
    have B54 := Ext.to B51 x54 fun _ h => h.elim
    have Bw54 := Ext.to Bw51 x54 fun _ h => h.elim
    have T1 := S1.keep (S := fun _ => False) (Ext.of_below B54) fun _ _ h => h
    have T2 := S2.keep (S := fun _ => False) (Ext.of_below B54) fun _ _ h => h
    obtain ⟨d1, hd1, hg1⟩ := T1.set.open (by omega)
    obtain ⟨d2, hd2, hg2⟩ := T2.set.open (by omega)
    have m1 := rngC_at p1.set j gj
    have m2 := rngC_at p2.set j gj2
    refine ⟨_, _, _, (K1.below B54).cell 1, d1, 0, ⟨hd1, by omega, by omega⟩, _, by rw [Nat.zero_add, hg1 _ (by omega)]; exact m1.1, _, by rw [Nat.zero_add, hg1 _ (by omega)]; exact m1.2,
      _, _, _, (q32.below B54).cell 1, d2, 0, ⟨hd2, by omega, by omega⟩, _, by rw [Nat.zero_add, hg2 _ (by omega)]; exact m2.1, _, by rw [Nat.zero_add, hg2 _ (by omega)]; exact m2.2, _, ne134 _ _ _ _ _, ?_⟩
    refine ⟨fun g => no' (fun h => ?_) Bw54, fun g => ?_⟩
    · subst h; simp at g
    · have h5 : (p1.set[j].1 == p2.set[j].1 && p1.set[j].2 == p2.set[j].2) = true := by simpa using g
      simp only [Bool.and_eq_true, beq_iff_eq] at h5
      have he : p1.set[j] = p2.set[j] := Prod.ext h5.1 h5.2
      exact ⟨_, by omega, j + 1, rfl, by omega, rfl, by rw [List.take_succ_eq_append_getElem gj, List.take_succ_eq_append_getElem gj2, htj, he], B54⟩
  have hset : p1.set = p2.set := by
    have : j = p1.set.length := by have := of_decide_eq_false g; omega
    subst this
    rw [List.take_of_length_le (by omega), List.take_of_length_le (by omega)] at htj
    exact htj
  refine ⟨_, _, _, (K1.below B51).cell 6, ?_⟩
  refine ⟨fun k n w' => ∃ j : Nat, n = j ∧ j ≤ p1.kids.length ∧ k = p1.kids.length - j ∧ p1.kids.take j = p2.kids.take j ∧ Below w32.heap.size w32 w', ⟨_, 0, rfl, by omega, rfl, rfl, B51⟩, ?_⟩
  rintro k6 d6 _ w71 ⟨j, rfl, hj, rfl, htj, B71⟩
  have Bw71 := Bw.vstep B71
  refine ⟨fun g => ?_, fun g => ?_⟩
  · have gj : j < p1.kids.length := by have := of_decide_eq_true g; omega
    have gj2 : j < p2.kids.length := by omega
    have f0 : Int.toNat (j : Int) = j := by omega
    have f1 : IntKind.wrap .i64 ((j : Int) + 1) = ((j + 1 : Nat) : Int) := by rw [w64 (by omega)]; omega
    rw [f0, f1]
    refine drw_in fun w74 z74 x74 => ?_
    have B74 := Ext.to B71 x74 fun _ h => h.elim
    have Bw74 := Ext.to Bw71 x74 fun _ h => h.elim
    have T1 := S1.keep (S := fun _ => False) (Ext.of_below B74) fun _ _ h => h
    have T2 := S2.keep (S := fun _ => False) (Ext.of_below B74) fun _ _ h => h
    obtain ⟨d1, hd1, hg1⟩ := T1.kids.open (by omega)
    obtain ⟨d2, hd2, hg2⟩ := T2.kids.open (by omega)
    refine ⟨_, _, _, (K1.below B74).cell 6, d1, 0, ⟨hd1, by omega, by omega⟩, _, by rw [show 0 + j * 1 = j from by omega, hg1 _ (by omega)]; exact intC_at _ j gj,
      _, _, _, (q32.below B74).cell 6, d2, 0, ⟨hd2, by omega, by omega⟩, _, by rw [show 0 + j * 1 = j from by omega, hg2 _ (by omega)]; exact intC_at _ j gj2, ?_⟩
    refine ⟨fun g => no' (fun h => ?_) Bw74, fun g => ?_⟩
    · subst h; simp at g
    · exact ⟨_, by omega, j + 1, rfl, by omega, rfl, by rw [List.take_succ_eq_append_getElem gj, List.take_succ_eq_append_getElem gj2, htj, eq_i g], B74⟩
  have hkids : p1.kids = p2.kids := by
    have : j = p1.kids.length := by have := of_decide_eq_false g; omega
    subst this
    rw [List.take_of_length_le (by omega), List.take_of_length_le (by omega)] at htj
    exact htj
  exact hsuf Bw71 (pc_ext (by rw [← o1.kind, ← o2.kind]; exact v0) hset (by rw [← o1.min, ← o2.min]; exact v2) (by rw [← o1.max, ← o2.max]; exact v3) (by rw [← o1.lazy, ← o2.lazy]; exact v4) (by rw [← o1.num, ← o2.num]; exact v5) hkids)
def RetEq (ps1 ps2 : List Pc) (w : World) : Rt := fun e w' => ∃ b : Bool, e = .returned (.bool b) ∧ (b = true ↔ ps1 = ps2) ∧ Below w.heap.size w w'
theorem wPieces_ok {w : World} {N1 N2 : Nat} {a1 a2 : Option Addr} {l1 l2 c1 c2 : Nat} {rs1 rs2 : List Raw} {ps1 ps2 : List Pc} (h1 : Pcs N1 w a1 l1 c1 rs1 ps1) (h2 : Pcs N2 w a2 l2 c2 rs2 ps2) (f1 : Fits ps1) (f2 : Fits ps2) : Cl Try.prog 72 [.slice a1 l1 c1, .slice a2 l2 c2] w (RetEq ps1 ps2 w) :=
  vc72 (pieces_V h1 h2 f1 f2 fun b w' hb hB => ⟨b, rfl, hb, hB⟩)
theorem l1pieces_ok {w : World} {N1 N2 : Nat} {a1 a2 : Option Addr} {l1 l2 c1 c2 : Nat} {rs1 rs2 : List Raw} {ps1 ps2 : List Pc} (h1 : Pcs N1 w a1 l1 c1 rs1 ps1) (h2 : Pcs N2 w a2 l2 c2 rs2 ps2) (f1 : Fits ps1) (f2 : Fits ps2) : Cl Try.prog 97 [.slice a1 l1 c1, .slice a2 l2 c2] w (RetEq ps1 ps2 w) :=
  vc97 (pieces_V h1 h2 f1 f2 fun b w' hb hB => ⟨b, rfl, hb, hB⟩)
end Go.Proofs.Ytngbiaeliphdjaa.V
/- The law on all that is found. No statement of the seat is proved here. -/
namespace Go.Vc
open Go.RowKit
set_option linter.unusedVariables false
theorem Vec.app1k {P : Program} {T e : TypeId} {sz by_ : Nat} (E : Elem P T e sz by_) {w : World} {a : Option Addr} {l c : Nat} {xs : List Value} (h : Vec w.heap e sz a l c xs) {ys : List Value} {n : Nat}
    (hy : ys.length = n * sz) (hs : ys.all scal = true) (hbd : (l + n) * by_ ≤ 70368744177664) (hln : l + n ≤ 70368744177664) :
    ∃ a2 c2 w', (Builtin.append_ #[T, T] T #[.slice a l c, .slice (some ⟨w.heap.size, 0, none⟩) n n]).run P (newW w (.cells ⟨ys⟩ e)) = .ok (.slice a2 (l + n) c2) w' ∧ Vec w'.heap e sz a l c xs ∧ Ext (fun k => blkOf a = some k) w w' := by
  obtain ⟨z, hz, hzl⟩ := E.zero
  have hv := h.keep (S := fun _ => False) ((Ext.refl _ w).vnew (.cells ⟨ys⟩ e)) fun _ _ h => h
  obtain ⟨a2, c2, w', h1, h2, h3, h4⟩ := append_run2 (P := P) (T := T) (T' := T) (T'' := T) E.und E.und E.size E.bytes (by rw [hz]; simp) (by rw [hz]; intro y hy; cases hy; exact hzl) hv (a' := some ⟨w.heap.size, 0, none⟩) (n := n) (c' := n) hy hs
    (.inr ⟨_, _, rfl, cellsAt_newW w ys e⟩) (fun _ => .inr ⟨_, _, rfl⟩) hbd hln
  exact ⟨a2, c2, w', h1, hv.before h2 h4, ((Ext.refl _ w).vnew _).trans h3⟩
theorem Vec.st2 {w : World} {e : TypeId} {sz : Nat} {b : Nat} {l c : Nat} {xs : List Value} (h : Vec w.heap e sz (some ⟨b, 0, none⟩) l c xs) {o : Nat} (ho : o + 2 ≤ l * sz) {v1 v2 : Value} {K : World → Prop}
    (hK : ∀ w1, Vec w1.heap e sz (some ⟨b, 0, none⟩) l c ((xs.set o v1).set (o + 1) v2) → Ext (fun k => k = b) w w1 → K w1) : stW b o [v1, v2] K w := by
  obtain ⟨h1, h2, h3⟩ := h
  rcases h3 with ⟨h3, _⟩ | ⟨b', cs, hb', hB, h6, h7⟩
  · cases h3
  obtain rfl : b = b' := by injection hb' with hb'; injection hb'
  have hle := Nat.mul_le_mul_right sz h2
  refine stW_in hB (by simp only [List.length_cons, List.length_nil]; omega) fun w1 s1 k1 e1 => hK w1 ⟨by simp [h1], h2, .inr ⟨b, _, rfl, k1, by rw [segSet_length]; exact h6, ?_⟩⟩ e1
  show ((cs.set o v1).set (o + 1) v2).take (l * sz) = _
  rw [List.take_set, List.take_set, h7]
theorem rngC_set2 (x y : Int) : ∀ (s : List (Int × Int)) (i : Nat), ((rngC s).set (i * 2) (.int .i64 x)).set (i * 2 + 1) (.int .i64 y) = rngC (s.set i (x, y))
  | [], i => by simp [rngC]
  | p :: r, 0 => rfl
  | p :: r, i + 1 => by
    rw [show (i + 1) * 2 = i * 2 + 2 from by omega]
    show Value.int .i64 p.1 :: Value.int .i64 p.2 :: (((rngC r).set (i * 2) (.int .i64 x)).set (i * 2 + 1) (.int .i64 y)) = _
    rw [rngC_set2 x y r i]
    rfl
end Go.Vc
namespace Go.Proofs.Ytngbiaeliphdjaa.V
open Go.Vc Go.Proofs Go.RowKit
set_option linter.unusedVariables false
set_option linter.unusedSimpArgs false
theorem fits_read (l : Bytes) : Fits (readP l).pieces := by
  have := readP_small l
  exact ⟨by omega, fun x hx => by have := this.1 x hx; have h1 := this.1; have h2 := this.2; omega⟩
theorem wPattern_ok {w : World} {N1 N2 : Nat} {a1 a2 : Option Addr} {l1 l2 c1 c2 : Nat} {rs1 rs2 : List Raw} {P : Pat} (h1 : Pcs N1 w a1 l1 c1 rs1 P.pieces) (h2 : Pcs N2 w a2 l2 c2 rs2 P.pieces) (hf : Fits P.pieces) :
    Cl Try.prog 25 [.agg #[.bool P.ok, .int .i64 (P.at_ : Int), .int .i64 (P.groups : Int), .slice a1 l1 c1], .agg #[.bool P.ok, .int .i64 (P.at_ : Int), .int .i64 (P.groups : Int), .slice a2 l2 c2]] w (RetB (.bool true) w) := by
  apply vc25
  unfold V25
  refine newC_in fun w10 s10 k10 e10 => ?_
  refine newC_in fun w12 s12 k12 e12 => ?_
  have k10' := k10.keep e12 fun h => h
  have B12 : Below w.heap.size w w12 := Ext.to (Ext.to (Below.refl _ _) e10 fun _ h => h.elim) e12 fun _ h => h.elim
  refine ⟨_, k10'.cell 0, _, k12.cell 0, fun _ => ⟨_, k10'.cell 1, _, k12.cell 1, fun _ => ⟨_, k10'.cell 2, _, k12.cell 2, fun _ => ⟨_, _, _, k10'.cell 3, _, _, _, k12.cell 3, ?_⟩, fun g => by simp at g⟩, fun g => by simp at g⟩, fun g => by simp at g⟩
  refine (wPieces_ok (h1.below B12) (h2.below B12) hf hf).use fun e w22 he => ?_
  obtain ⟨b, rfl, hb, B22⟩ := he
  have hbt : b = true := hb.2 rfl
  subst hbt
  exact ⟨true, rfl, rfl, B12.vstep B22⟩
theorem lawTop_ok (a1 : Option Addr) (l1 c1 : Nat) (w : World) (h1 : l1 ≤ 1048576 → GBytes w w.heap.size a1 l1) : Cl Try.prog 3 [.slice a1 l1 c1] w (RetB (.bool true) w) := by
  apply vc3
  unfold V3
  refine ⟨fun _ => ⟨rfl, Below.refl _ _⟩, fun g1 => ?_⟩
  have g1' : l1 ≤ 1048576 := by have := of_decide_eq_false g1; omega
  refine (drawn_ok (h1 g1') g1').use fun e w4 he => ?_
  obtain ⟨p, t, rfl, hp, ht, B4⟩ := he
  have hS : MsS (allA p t) := by
    unfold allA
    split
    · rename_i h; exact (okA_pt h).allS
    · exact ⟨by simp, by simp⟩
  refine ⟨_, _, rfl, (specAll_ok (B p) (B t) w4).use fun e w7 he => ?_⟩
  rw [L_B, L_B] at he
  obtain ⟨a6, l6, c6, es0, rfl, M0, hes0, B7⟩ := he
  have B7' := B4.vstep B7
  have hl6 := M0.len
  refine ⟨_, _, _, rfl, fun k n w' => ∃ i : Nat, n = i ∧ i ≤ 2 ∧ k = 2 - i ∧ Below w7.heap.size w7 w', ⟨_, 0, rfl, by omega, rfl, Below.refl _ _⟩, ?_⟩
  rintro k d _ w12 ⟨i, rfl, hi, rfl, B12⟩
  have e1 : IntKind.wrap .i64 ((i : Int) + 1) = ((i + 1 : Nat) : Int) := by rw [w64 (by omega)]; omega
  rw [e1]
  refine ⟨fun g => ?_, fun g => ?_⟩
  · have gi : i < 2 := by have := of_decide_eq_true g; omega
    refine (implAll_ok (B p) (B t) w12).use fun e w16 he => ?_
    rw [L_B, L_B] at he
    obtain ⟨a15, l15, c15, es, rfl, Me, hes, B16⟩ := he
    have hl15 := Me.len
    have hel : es.length ≤ 201 := by have := hS.1; rw [← hes, List.length_map] at this; exact this
    have hgl : ∀ x ∈ es, x.1.gs.length ≤ 9 := fun x hx => hS.2 x.1 (by rw [← hes]; exact List.mem_map_of_mem hx)
    refine ⟨_, _, _, rfl, fun k n w' => ∃ (A D : List ME), es = A ++ D ∧ n = A.length ∧ k = D.length ∧ Ms w12.heap.size w' a15 l15 c15 es ∧ Ext (fun k => w12.heap.size ≤ k) w16 w', ⟨_, [], es, rfl, rfl, rfl, Me, Ext.refl _ _⟩, ?_⟩
    rintro k2 d2 _ w21 ⟨A, D, hAD, rfl, rfl, M21, E21⟩
    have hel2 : es.length = A.length + D.length := by rw [hAD]; simp
    have B21 : Below w7.heap.size w7 w21 := Ext.to (B12.vstep B16) E21 fun i hi => by have := B12.size; omega
    refine ⟨fun g => ?_, fun g => ?_⟩
    · have g' : A.length < l15 := by have := of_decide_eq_true g; omega
      obtain ⟨x, D', rfl⟩ : ∃ x B', D = x :: B' := by
        cases D with
        | nil => simp only [List.length_nil] at hel2; omega
        | cons x B' => exact ⟨x, B', rfl⟩
      have f0 : Int.toNat (A.length : Int) = A.length := by omega
      have f1 : IntKind.wrap .i64 ((A.length : Int) + 1) = ((A.length + 1 : Nat) : Int) := by rw [w64 (by omega)]; omega
      rw [f0, f1]
      have M2 := M21
      rw [hAD] at M2
      obtain ⟨ba, hba, hc⟩ := M2.cells (i := A.length) (by simp)
      have hge : ∀ h, (A ++ x :: D')[A.length]'h = x := by intro h; simp
      rw [hge] at hc
      have hx9 := hgl x (by rw [hAD]; simp)
      have hm := M2.mid.1
      have hxl : x.2.2.1 = x.1.gs.length := by have h := hm; unfold MOk at h; have := h.1; rw [rngC_length] at this; omega
      refine ⟨ba, 0, ⟨hba, by omega, by omega⟩, _, _, _, hc 3 (by decide), ?_⟩
      obtain ⟨a2, c2, w30, r1, r2, r3⟩ := Vec.app1k elemSpan hm (ys := [.int .i64 77, .int .i64 0]) (n := 1) rfl rfl (by omega) (by omega)
      refine ⟨a2, _, c2, w30, r1, fun g => ?_, fun _ => ?_⟩
      · have : ((x.2.2.1 + 1 : Nat) : Int) = 0 := by simpa using g
        omega
      have M30 := M2.setG r2 r3
      exact ⟨D'.length, by simp, A ++ [x], D', by rw [hAD]; simp, by simp, rfl, by rw [hAD]; exact M30, E21.trans (r3.mono fun k _ hk => M2.low k (mem_mblks (by simp) (mem_ob.2 hk)))⟩
    · refine (wMatches_ok M21 (M0.below B21) (by rw [hes, hes0]) (by rw [hes]; exact hS)).ret fun w33 B33 => ⟨true, rfl, fun g => by simp at g, fun _ => ?_⟩
      refine (implCount_ok (B p) (B t) w33).ret fun w36 B36 => ⟨_, rfl, fun g => ?_, fun _ => ?_⟩
      · rw [L_B, L_B, ← hes0, List.length_map, hl6] at g
        simp at g
      have M36 := (M21.below B33).below B36
      have B36' := (B21.vstep B33).vstep B36
      refine ⟨fun k n w' => ∃ (A D : List ME), A.length + D.length = l15 ∧ n = A.length ∧ k = D.length ∧ (∀ x ∈ D, x.1.gs.length ≤ 9) ∧ Ms w12.heap.size w' a15 l15 c15 (A ++ D) ∧ Ext (fun k => w12.heap.size ≤ k) w36 w', ⟨_, [], es, by simpa using hl15, rfl, rfl, hgl, M36, Ext.refl _ _⟩, ?_⟩
      rintro k3 d3 _ w41 ⟨A, D, hAD, rfl, rfl, hD9, M41, E41⟩
      refine ⟨fun g => ?_, fun g => ⟨_, by omega, i + 1, rfl, by omega, rfl, Ext.to B36' E41 fun i hi => by have := B12.size; omega⟩⟩
      have g' : A.length < l15 := by have := of_decide_eq_true g; omega
      obtain ⟨x, D', rfl⟩ : ∃ x B', D = x :: B' := by
        cases D with
        | nil => simp only [List.length_nil] at hAD; omega
        | cons x B' => exact ⟨x, B', rfl⟩
      have f0 : Int.toNat (A.length : Int) = A.length := by omega
      have f1 : IntKind.wrap .i64 ((A.length : Int) + 1) = ((A.length + 1 : Nat) : Int) := by rw [w64 (by omega)]; omega
      rw [f0, f1]
      obtain ⟨ba, hba, hc⟩ := M41.cells (i := A.length) (by simp)
      have hge : ∀ h, (A ++ x :: D')[A.length]'h = x := by intro h; simp
      rw [hge] at hc
      have hm := M41.mid.1
      have hxl : x.2.2.1 = x.1.gs.length := by have h := hm; unfold MOk at h; have := h.1; rw [rngC_length] at this; omega
      have hx9 := hD9 x (List.mem_cons_self ..)
      refine ⟨ba, 0, ⟨hba, by omega, by omega⟩, _, _, _, hc 3 (by decide), ?_⟩
      refine ⟨fun k n w' => ∃ (j : Nat) (gs' : List (Int × Int)), n = j ∧ j ≤ x.1.gs.length ∧ k = x.1.gs.length - j ∧ gs'.length = x.1.gs.length ∧ Ms w12.heap.size w' a15 l15 c15 (A ++ ({ x.1 with gs := gs' }, x.2) :: D') ∧ Ext (fun k => w12.heap.size ≤ k) w36 w', ⟨_, 0, x.1.gs, rfl, by omega, rfl, rfl, M41, E41⟩, ?_⟩
      rintro k4 d4 _ w50 ⟨j, gs', rfl, hj, rfl, hgs, M50, E50⟩
      have h0 : Int.toNat (j : Int) = j := by omega
      have h1' : IntKind.wrap .i64 ((j : Int) + 1) = ((j + 1 : Nat) : Int) := by rw [w64 (by omega)]; omega
      rw [h0, h1']
      refine ⟨fun g => ?_, fun g => ⟨D'.length, by simp, A ++ [({ x.1 with gs := gs' }, x.2)], D', by simp at hAD ⊢; omega, by simp, rfl, fun y hy => hD9 y (List.mem_cons_of_mem _ hy), by simpa using M50, E50⟩⟩
      have gj : j < x.1.gs.length := by have := of_decide_eq_true g; omega
      obtain ⟨bb, hbb, hc2⟩ := M50.cells (i := A.length) (by simp)
      have hge2 : ∀ h, (A ++ (({ x.1 with gs := gs' }, x.2) : ME) :: D')[A.length]'h = ({ x.1 with gs := gs' }, x.2) := by intro h; simp
      rw [hge2] at hc2
      have hm2 := M50.mid.1
      unfold MOk at hm2
      obtain ⟨bg, hbg, _⟩ := hm2.open (by show 0 < x.2.2.1 * 2; omega)
      have hbg' : x.2.1 = some ⟨bg, 0, none⟩ := hbg
      refine ⟨bb, 0, ⟨hbb, by omega, by omega⟩, _, _, _, hc2 3 (by decide), bg, 0, ⟨hbg, by omega, by show (j : Int) < ((x.2.2.1 : Nat) : Int); omega⟩, ?_⟩
      dsimp only
      rw [Nat.zero_add]
      simp only [hbg'] at hm2
      refine hm2.st2 (by omega) fun w58 v58 e58 => ?_
      rw [rngC_set2] at v58
      have M58 := M50.setG (s := gs'.set j (77, 0)) (w' := w58) (by simp only [hbg']; exact v58) (e58.mono fun k _ hk => by subst hk; show blkOf x.2.1 = some k; rw [hbg']; rfl)
      exact ⟨_, by omega, j + 1, _, rfl, by omega, rfl, by simp [hgs], M58, E50.trans (e58.mono fun k _ hk => by subst hk; exact M50.low k (mem_mblks (e := ({ x.1 with gs := gs' }, x.2)) (by simp) (mem_ob.2 (by show blkOf x.2.1 = some k; rw [hbg']; rfl))))⟩
  · refine (readPattern_ok (B p) w12).use fun e w66 he => ?_
    rw [L_B] at he
    obtain ⟨a65, l65, c65, rs1, rfl, P1, B66⟩ := he
    refine ⟨_, _, _, _, _, _, rfl, (sreadPattern_ok (B p) w66).use fun e w72 he => ?_⟩
    rw [L_B] at he
    obtain ⟨a71, l71, c71, rs2, rfl, P2, B72⟩ := he
    refine ⟨_, _, _, _, _, _, rfl, (wPattern_ok (P1.below B72) P2 (fits_read p)).ret fun w75 B75 => ⟨true, rfl, rfl, (((B7'.vstep B12).vstep B66).vstep B72).vstep B75⟩⟩
end Go.Proofs.Ytngbiaeliphdjaa.V

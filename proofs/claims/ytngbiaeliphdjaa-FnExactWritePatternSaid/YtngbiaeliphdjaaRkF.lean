/- Parts of a proof, put together: definitions, formulas of Go functions and lemmas. No statement of the seat is proved here. -/
import Derived.ChangeOld
import Derived.ChangeReads
import Derived.ChangeSlices
import Derived.OpenShut
import Derived.ReadAgain
import Derived.Deep.Slices
import Derived.Deep.Fields
import Derived.ChangeArms
import Derived.Lib.SmallJoins
import Derived.Test.YtngbiaeliphdjaaRkE
set_option maxHeartbeats 4000000
/- The program writes a pattern: the walk. No statement of the seat is proved here. -/
namespace Go.Proofs.Ytngbiaeliphdjaa.V
open Go.Vc Go.Proofs Go.RowKit
set_option linter.unusedVariables false
set_option linter.unusedSimpArgs false
theorem elemDone : Elem Try.prog 107 113 2 24 := ⟨by kernel_rfl, by kernel_rfl, by kernel_rfl, ⟨[.int .i64 0, .string ⟨#[]⟩], by kernel_rfl, rfl⟩⟩
theorem numI_le (n : Int) : (numI n).length ≤ 2 := by
  unfold numI
  split
  · decide
  · exact decN_le _
theorem altJ_mono (ts : List Bytes) (k : Nat) : (altJ (ts.take k)).length ≤ (altJ ts).length := by
  match ts, k with
  | [], k => simp
  | t :: r, 0 => simp [altJ]
  | t :: r, k + 1 =>
    show (altJ (t :: r.take k)).length ≤ _
    unfold altJ
    simp only []
    rw [foldl_len, foldl_len]
    have : ((r.take k).map List.length).sum ≤ (r.map List.length).sum := by
      conv => rhs; rw [← List.take_append_drop k r]
      rw [List.map_append, List.sum_append]; omega
    rw [List.length_take]; omega
theorem sum_le {α : Type} (f : α → Nat) (b : Nat) : ∀ (l : List α), (∀ x ∈ l, f x ≤ b) → (l.map f).sum ≤ b * l.length
  | [], _ => by simp
  | a :: r, h => by
    have h1 := sum_le f b r fun x hx => h x (List.mem_cons_of_mem _ hx)
    have h2 := h a (List.mem_cons_self ..)
    simp only [List.map_cons, List.sum_cons, List.length_cons, Nat.mul_add]; omega
theorem headD_get : ∀ (D : Sk) (h : 0 < D.length), (D.map (·.2)).headD [] = (D[0]'h).2
  | d :: _, _ => rfl
theorem setT_len2 (s : List (Int × Int)) : (setT s).length ≤ 9 * s.length + 20 := by
  unfold setT
  split
  · simp [allT]
  · split
    · have := (escB_len (s.headD (0, 0)).1.toNat).2; omega
    · have := flat_rng s
      rw [List.length_cons, List.length_append, List.length_singleton]; omega
theorem implWrite_ok {w : World} {N : Nat} {a : Option Addr} {l c : Nat} {rs : List Raw} {ps : List Pc} (hP : Pcs N w a l c rs ps) (hf : Fits ps) (ok : Bool) (at_ g : Int) :
    Cl Try.prog 59 [.agg #[.bool ok, .int .i64 at_, .int .i64 g, .slice a l c]] w (RetW (WI ok at_ g ps) w) := by
  apply vc59
  unfold V59
  have hl := hP.len
  have hl' := hP.len'
  have hfl := hf.1
  have no : (¬ ∃ k t, mach ps 0 [] = some [(k, t)] ∧ EqP (readP t) ok at_ g ps) → ∀ {w' : World}, Below w.heap.size w w' → RetW (WI ok at_ g ps) w (.returned (.string (⟨#[]⟩ : ByteArray))) w' := fun hn _ hb => ⟨[], rfl, .inr ⟨rfl, hn⟩, hb⟩
  have no0 : mach ps 0 [] = none → ∀ {w' : World}, Below w.heap.size w w' → RetW (WI ok at_ g ps) w (.returned (.string (⟨#[]⟩ : ByteArray))) w' := fun hn => no (by rintro ⟨k, t, h, _⟩; rw [hn] at h; cases h)
  refine newC_in fun w6 s6 k6 e6 => ?_
  have B6 : Below w.heap.size w w6 := Ext.to (Below.refl _ _) e6 fun _ h => h.elim
  have P6 := hP.below B6
  refine ⟨_, _, _, k6.cell 3, fun m a13 l13 c13 n w' => ∃ (i : Nat) (st : Sk), n = i ∧ i ≤ ps.length ∧ m = ps.length - i ∧ mach (ps.take i) 0 [] = some st ∧ l13 = st.length ∧ st.length ≤ i ∧ (∀ d ∈ st, d.2.length ≤ 120) ∧ Vec w'.heap 113 2 a13 l13 c13 (dnC st) ∧ Below w6.heap.size w6 w', ⟨_, 0, [], rfl, by omega, rfl, rfl, rfl, by simp, (by intro d hd; cases hd), Vec.nil _ _ _, Below.refl _ _⟩, ?_⟩
  rintro m d a13 l13 c13 _ w11 ⟨i, st, rfl, hi, rfl, hm, rfl, hsti, h120, hv, B11⟩
  have B11' := B6.vstep B11
  have k11 := k6.below B11
  have hvlc := hv.2.1
  refine ⟨fun g0 => ?_, fun g0 => ?_⟩
  rotate_left
  · -- the end
    have hie : i = ps.length := by have := of_decide_eq_false g0; omega
    subst hie
    rw [List.take_length] at hm
    refine ⟨fun g1 => no (fun ⟨k, t, h, _⟩ => ?_) B11', fun g1 => ?_⟩
    · rw [hm] at h
      cases h
      simp at g1
    have g1' : st.length = 1 := by have : ((st.length : Nat) : Int) = 1 := by simpa using g1
                                   omega
    obtain ⟨dd, rfl⟩ : ∃ dd, st = [dd] := by
      match st, g1' with
      | [x], _ => exact ⟨x, rfl⟩
    refine drw_in fun w122 z122 x122 => ?_
    have B122 : Below w11.heap.size w11 w122 := Ext.to (Below.refl _ _) x122 fun _ h => h.elim
    have hv122 := hv.keep x122 fun _ _ h => h
    obtain ⟨b1, hb1, hc1⟩ := hv122.open (by simp)
    have c1 : cellH w122.heap b1 (0 + 1) = some (.string (B dd.2)) := by rw [hc1 1 (by simp)]; rfl
    have k122 := k11.below B122
    refine ⟨b1, 0, ⟨hb1, by omega, by simp⟩, _, c1, _, k122.cell 0, _, k122.cell 1, _, k122.cell 2, _, _, _, k122.cell 3, (readPattern_ok _ w122).use fun e w134 he => ?_⟩
    rw [L_B] at he
    obtain ⟨a2, l2, c2, rs2, rfl, P134, B134⟩ := he
    have k134 := k122.below B134
    have B134' := (B11'.vstep B122).vstep B134
    have O134 := ((P6.below B11).below B122).below B134
    refine ⟨_, _, _, _, _, _, rfl, k134.cellsAt (n := 4) rfl rfl, (same_ok P134 O134 (fits_read dd.2) hf _ _ _ _ _ _).use fun e w137 he => ?_⟩
    obtain ⟨b, rfl, hb, B137⟩ := he
    refine ⟨b, rfl, fun g2 => no (fun ⟨k, t, h, hE⟩ => ?_) (B134'.vstep B137), fun g2 => ?_⟩
    · rw [hm] at h
      simp only [Option.some.injEq, List.cons.injEq, and_true] at h
      subst h
      have := hb.2 ⟨hE.1, hE.2.1, hE.2.2.1, hE.2.2.2⟩
      subst this; simp at g2
    · have hbt := hb.1 (by simpa using g2)
      have c2' : cellH w137.heap b1 (0 + 1) = some (.string (B dd.2)) := by
        have hlt : b1 < w122.heap.size := by
          obtain ⟨_, _, hh⟩ := hv122
          rcases hh with ⟨hh, _⟩ | ⟨b', cs, hh, hB, _⟩
          · rw [hb1] at hh; cases hh
          · rw [hb1] at hh; injection hh with hh; injection hh with hh; subst hh; exact hB.lt
        rw [(B134.vstep B137).vcell hlt]; exact c1
      exact ⟨b1, 0, ⟨hb1, by omega, by simp⟩, _, c2', ⟨_, rfl, .inl ⟨dd.1, by rw [hm], ⟨hbt.1, hbt.2.1, hbt.2.2.1, hbt.2.2.2⟩⟩, B134'.vstep B137⟩⟩
  -- a piece
  have gi : i < ps.length := by have := of_decide_eq_true g0; omega
  have gir : i < rs.length := by omega
  have hstep := mach_step gi hm
  have P11 := P6.below B11
  obtain ⟨ba, ha1, hca⟩ := P11.row.open (by omega)
  have k1 := fun o ho => raw_at hca hl gir o ho
  have o1 := P11.all i _ _ (List.getElem?_eq_getElem gir) (List.getElem?_eq_getElem gi)
  have sx := hf.2 _ (List.getElem_mem gi)
  have fail : mst i st ps[i] = none → ∀ {w' : World}, Below w.heap.size w w' → RetW (WI ok at_ g ps) w (.returned (.string (⟨#[]⟩ : ByteArray))) w' := fun hn => no0 (mach_fail (i := i + 1) (by rw [hstep]; exact hn))
  generalize rs[i] = r at *
  generalize ps[i] = x at *
  have f0 : Int.toNat (i : Int) = i := by omega
  have f1 : IntKind.wrap .i64 ((i : Int) + 1) = ((i + 1 : Nat) : Int) := by rw [w64 (by omega)]; omega
  rw [f0, f1]
  refine ⟨ba, 0, ⟨ha1, by omega, by omega⟩, _, k1 0 (by decide), _, _, _, k1 1 (by decide), _, k1 2 (by decide), _, k1 3 (by decide), _, k1 4 (by decide), _, k1 5 (by decide), _, _, _, k1 6 (by decide), ?_⟩
  refine newC_in fun w25 s25 k25 e25 => ?_
  refine stW_in k25 (by show 0 + 7 ≤ 7; decide) fun w26 s26 k26 e26 => ?_
  have B1126 : Below w11.heap.size w11 w26 := Ext.to (Ext.to (Below.refl _ _) e25 fun _ h => h.elim) e26 fun i hi => by omega
  have q26 : Blk w26.heap w11.heap.size 111 r.cells := k26
  have B26 := B11'.vstep B1126
  have S26 := o1.keep (S := fun _ => False) (Ext.of_below B1126) fun _ _ h => h
  have v26 := hv.keep (S := fun _ => False) (Ext.of_below B1126) fun _ _ h => h
  have sl1 : r.sl = x.set.length := by have := S26.set.1; rw [rngC_length] at this; omega
  have kl1 : r.kl = x.kids.length := by have := S26.kids.1; rw [intC_length] at this; omega
  have ek := o1.kind
  refine ⟨_, _, _, q26.cell 6, fun g1 => fail ?_ B26, fun g1 => ?_⟩
  · unfold mst; rw [if_pos (by have := of_decide_eq_true g1; omega)]
  have hkn : x.kids.length ≤ st.length := by have := of_decide_eq_false g1; omega
  obtain ⟨K, hK⟩ : ∃ K, K = st.length - x.kids.length := ⟨_, rfl⟩
  have eK : IntKind.wrap .i64 (((st.length : Nat) : Int) - ((r.kl : Nat) : Int)) = ((K : Nat) : Int) := by rw [w64 (by omega)]; omega
  have hsf := slice_from (P := Try.prog) (T := 107) (e := 113) (sz := 2) elemDone.und elemDone.size (a := a13) (l := st.length) (c := c13) (k := K) (kd := .i64) (by omega) hvlc w26
  obtain ⟨D, hD⟩ : ∃ D, D = st.drop K := ⟨_, rfl⟩
  have hDl : D.length = x.kids.length := by rw [hD, List.length_drop]; omega
  have hD120 : ∀ d ∈ D, d.2.length ≤ 120 := fun d hd => h120 d (by rw [hD] at hd; exact List.mem_of_mem_drop hd)
  have hslD : st.length - K = D.length := by rw [hDl]; omega
  rw [hslD] at hsf
  obtain ⟨a28, ha28⟩ : ∃ a28, a28 = (if c13 = K then a13 else a13.map (·.add (K * 2))) := ⟨_, rfl⟩
  rw [← ha28] at hsf
  have view : ∀ {w' : World}, Below w26.heap.size w26 w' → ∀ (j : Nat) (hj : j < D.length), ∃ b, a28 = some ⟨b, K * 2, none⟩ ∧ cellH w'.heap b (K * 2 + j * 2) = some (.int .i64 (D[j].1 : Int)) ∧ cellH w'.heap b (K * 2 + j * 2 + 1) = some (.string (B D[j].2)) := by
    intro w' hb j hj
    obtain ⟨b, hb1, hc⟩ := (v26.keep (S := fun _ => False) (Ext.of_below hb) fun _ _ h => h).open (by omega)
    have hj2 : K + j < st.length := by omega
    have := dnC_at st (K + j) hj2
    have hget : D[j] = st[K + j] := by subst hD; rw [List.getElem_drop]
    rw [hget]
    refine ⟨b, ?_, ?_, ?_⟩
    · rw [ha28, if_neg (by omega), hb1]
      simp only [Option.map_some, add_spot, Nat.zero_add]
    · rw [show K * 2 + j * 2 = (K + j) * 2 from by omega, hc _ (by omega)]; exact this.1
    · rw [show K * 2 + j * 2 + 1 = (K + j) * 2 + 1 from by omega, hc _ (by omega)]; exact this.2
  -- a kid's number
  have kidAt : ∀ {w' : World} {j : Nat}, Below w26.heap.size w26 w' → (hj : j < x.kids.length) → ∃ b, r.ka = some ⟨b, 0, none⟩ ∧ cellH w'.heap b (0 + j * 1) = some (.int .i64 x.kids[j]) := by
    intro w' j hb hj
    obtain ⟨d1, hd1, hg1⟩ := (S26.keep (S := fun _ => False) (Ext.of_below hb) fun _ _ h => h).kids.open (by omega)
    exact ⟨d1, hd1, by rw [show 0 + j * 1 = j from by omega, hg1 _ (by omega)]; exact intC_at _ j hj⟩
  refine ⟨a28, _, _, by rw [eK]; exact hsf, ?_⟩
  refine ⟨fun mm n34 n w' => ∃ j : Nat, n = j ∧ j ≤ D.length ∧ mm = D.length - j ∧ (D.take j).map (fun d => (d.1 : Int)) = x.kids.take j ∧ n34 = (((D.take j).map fun d => d.2.length).sum : Nat) ∧ Below w26.heap.size w26 w', ⟨_, 0, rfl, by omega, rfl, by simp, by simp, Below.refl _ _⟩, ?_⟩
  rintro mm d3 _ _ w32 ⟨j, rfl, hj, rfl, hat, rfl, B32⟩
  have B32' := B26.vstep B32
  have q32 := q26.below B32
  refine ⟨fun g2 => ?_, fun g2 => ?_⟩
  · have gj : j < D.length := by have := of_decide_eq_true g2; omega
    have f0 : Int.toNat (j : Int) = j := by omega
    have f1 : IntKind.wrap .i64 ((j : Int) + 1) = ((j + 1 : Nat) : Int) := by rw [w64 (by omega)]; omega
    rw [f0, f1]
    obtain ⟨b36, hb36, hc36, hc36'⟩ := view B32 j gj
    refine ⟨b36, _, ⟨hb36, by omega, by omega⟩, _, hc36, _, hc36', ?_⟩
    refine newC_in fun w41 s41 k41 e41 => ?_
    refine stW_in k41 (by show 0 + 2 ≤ 2; decide) fun w42 s42 k42 e42 => ?_
    refine drw_in fun w43 z43 x43 => ?_
    have B43 : Below w32.heap.size w32 w43 := Ext.to (Ext.to (Ext.to (Below.refl _ _) e41 fun _ h => h.elim) e42 fun i hi => by omega) x43 fun _ h => h.elim
    have k43 := k42.keep x43 fun h => h
    have q43 := q32.below B43
    obtain ⟨b46, hb46, hc46⟩ := kidAt (B32.vstep B43) (j := j) (by omega)
    have htk := take_one gj
    have htk2 := take_one (l := x.kids) (show j < x.kids.length by omega)
    refine ⟨_, k43.cell 0, _, _, _, q43.cell 6, b46, 0, ⟨hb46, by omega, by omega⟩, _, hc46, fun g3 => fail ?_ (B32'.vstep B43), fun g3 => ⟨_, k43.cell 1, ?_⟩⟩
    · have g3' : (D[j].1 : Int) ≠ x.kids[j] := by simpa using g3
      unfold mst
      rw [if_neg (by omega), if_pos]
      rw [← hK, ← hD]
      intro he
      apply g3'
      have := congrArg (fun l => l[j]?) he
      simp only [List.getElem?_map, List.getElem?_eq_getElem gj, Option.map_some] at this
      rw [List.getElem?_eq_getElem (by omega)] at this
      injection this
    · have g3' : (D[j].1 : Int) = x.kids[j] := by simpa using g3
      have hle := hD120 _ (List.getElem_mem gj)
      have hsum := sum_le (fun d : Nat × Bytes => d.2.length) 120 (D.take j) fun d hd => hD120 d (List.mem_of_mem_take hd)
      rw [List.length_take] at hsum
      refine ⟨_, by omega, j + 1, rfl, by omega, rfl, ?_, ?_, B32.vstep B43⟩
      · rw [htk, htk2, List.map_append, hat]
        simp [g3']
      · rw [htk, List.map_append, List.sum_append]
        simp only [List.map_cons, List.map_nil, List.sum_cons, List.sum_nil]
        rw [size_B, w64 (by omega)]; omega
  have hjD : j = D.length := by have := of_decide_eq_false g2; omega
  subst hjD
  rw [List.take_length] at hat
  rw [show D.length = x.kids.length from hDl, List.take_length] at hat
  rw [List.take_length]
  refine ⟨fun g3 => fail ?_ B32', fun g3 => ?_⟩
  · have := of_decide_eq_true g3
    unfold mst
    rw [if_neg (by omega), if_neg (by rw [← hK, ← hD, hat]; simp), if_pos (by rw [← hK, ← hD]; omega)]
  have hs120 : (D.map fun d => d.2.length).sum ≤ 120 := by have := of_decide_eq_false g3; omega
  have hmst := mst_ok (i := i) hkn (by rw [← hK, ← hD]; exact hat) (by rw [← hK, ← hD]; exact hs120)
  rw [← hK, ← hD] at hmst
  -- the text
  refine ⟨_, q32.cell 0, fun s w' => ∃ t, pcT x (D.map (·.2)) = some t ∧ s = B t ∧ t.length ≤ 1099511627776 ∧ Below w32.heap.size w32 w', ?_, ?_⟩
  · have S32 := S26.keep (S := fun _ => False) (Ext.of_below B32) fun _ _ h => h
    have bad : pcT x (D.map (·.2)) = none → ∀ {w' : World}, Below w.heap.size w w' → RetW (WI ok at_ g ps) w (.returned (.string (⟨#[]⟩ : ByteArray))) w' := fun hn => fail (by rw [hmst, hn])
    have ne_i : ∀ {y z : Int}, (y == z) = false → y ≠ z := fun h => by simpa using h
    have eq_i : ∀ {y z : Int}, (y == z) = true → y = z := fun h => by simpa using h
    refine ⟨fun h1 => ?_, fun h1 => ⟨fun h2 => ?_, fun h2 => ⟨fun h3 => ?_, fun h3 => ⟨fun h4 => ?_, fun h4 => ⟨fun h5 => ?_, fun h5 => ⟨fun h6 => ?_, fun h6 => ⟨fun h7 => ?_, fun h7 => ?_⟩⟩⟩⟩⟩⟩⟩
    · -- a set
      have h1' : x.kind = 1 := by rw [← ek]; exact eq_i h1
      refine ⟨_, _, _, q32.cell 1, (setText_ok S32.set sx.1).use fun e w56 he => ?_⟩
      obtain ⟨t, b, rfl, hy, hn, B56⟩ := he
      refine ⟨_, _, rfl, fun g => bad ?_ (B32'.vstep B56), fun g => ?_⟩
      · unfold pcT; rw [if_pos h1', if_neg (hn (by simpa using g))]
      · have hy' := hy (by simpa using g)
        have hbd := setT_len2 x.set
        have := hy'.1.1
        exact ⟨_, by unfold pcT; rw [if_pos h1', if_pos hy'.1], hy'.2, by omega, B56⟩
    · -- a sequence
      have h2' : x.kind = 2 := by rw [← ek]; exact eq_i h2
      refine ⟨fun m s n w' => ∃ j : Nat, n = j ∧ j ≤ D.length ∧ m = D.length - j ∧ s = B ((D.take j).flatMap fun d => d.2) ∧ Below w32.heap.size w32 w', ⟨_, 0, rfl, by omega, rfl, rfl, Below.refl _ _⟩, ?_⟩
      rintro m4 d4 _ _ w61 ⟨j, rfl, hj, rfl, rfl, B61⟩
      refine ⟨fun g => ?_, fun g => ?_⟩
      · have gj : j < D.length := by have := of_decide_eq_true g; omega
        have f0 : Int.toNat (j : Int) = j := by omega
        have f1 : IntKind.wrap .i64 ((j : Int) + 1) = ((j + 1 : Nat) : Int) := by rw [w64 (by omega)]; omega
        rw [f0, f1]
        obtain ⟨b36, hb36, hc36, hc36'⟩ := view (B32.vstep B61) j gj
        refine ⟨b36, _, ⟨hb36, by omega, by omega⟩, _, hc36, _, hc36', ?_⟩
        refine newC_in fun w70 s70 k70 e70 => ?_
        refine stW_in k70 (by show 0 + 2 ≤ 2; decide) fun w71 s71 k71 e71 => ?_
        have B71 : Below w61.heap.size w61 w71 := Ext.to (Ext.to (Below.refl _ _) e70 fun _ h => h.elim) e71 fun i hi => by omega
        have htk := take_one gj
        have hle := hD120 _ (List.getElem_mem gj)
        have hsum := sum_le (fun d : Nat × Bytes => d.2.length) 120 (D.take j) fun d hd => hD120 d (List.mem_of_mem_take hd)
        rw [List.length_take] at hsum
        refine ⟨_, k71.cell 1, ?_⟩
        dsimp only
        refine ⟨by rw [size_B, size_B, List.length_flatMap]; omega, _, by omega, j + 1, rfl, by omega, rfl, ?_, B61.vstep B71⟩
        rw [B_append, htk, List.flatMap_append]; simp
      · have hjl : j = D.length := by have := of_decide_eq_false g; omega
        subst hjl
        rw [List.take_length]
        exact ⟨_, by unfold pcT; rw [if_neg (by omega), if_pos h2', ← List.flatMap_def], rfl, by rw [List.length_flatMap]; omega, B61⟩
    · -- alternatives
      have h3' : x.kind = 3 := by rw [← ek]; exact eq_i h3
      have hpc : pcT x (D.map (·.2)) = some (altJ (D.map (·.2))) := by unfold pcT; rw [if_neg (by omega), if_neg (by omega), if_pos h3']
      have long : ∀ {j : Nat}, 120 < (altJ ((D.take j).map (·.2))).length → ∀ {w' : World}, Below w.heap.size w w' → RetW (WI ok at_ g ps) w (.returned (.string (⟨#[]⟩ : ByteArray))) w' := fun {j} hgt => fail (by
        rw [hmst, hpc]
        simp only []
        have := altJ_mono (D.map (·.2)) j
        rw [← List.map_take] at this
        rw [if_pos (by omega)])
      refine ⟨fun m s n w' => ∃ j : Nat, n = j ∧ j ≤ D.length ∧ m = D.length - j ∧ s = B (altJ ((D.take j).map (·.2))) ∧ (altJ ((D.take j).map (·.2))).length ≤ 120 ∧ Below w32.heap.size w32 w', ⟨_, 0, rfl, by omega, rfl, rfl, by simp [altJ], Below.refl _ _⟩, ?_⟩
      rintro m4 d4 _ _ w61 ⟨j, rfl, hj, rfl, rfl, hle0, B61⟩
      refine ⟨fun g => ?_, fun g => ?_⟩
      · have gj : j < D.length := by have := of_decide_eq_true g; omega
        have f0 : Int.toNat (j : Int) = j := by omega
        have f1 : IntKind.wrap .i64 ((j : Int) + 1) = ((j + 1 : Nat) : Int) := by rw [w64 (by omega)]; omega
        rw [f0, f1]
        obtain ⟨b36, hb36, hc36, hc36'⟩ := view (B32.vstep B61) j gj
        refine ⟨b36, _, ⟨hb36, by omega, by omega⟩, _, hc36, _, hc36', ?_⟩
        refine newC_in fun w70 s70 k70 e70 => ?_
        refine stW_in k70 (by show 0 + 2 ≤ 2; decide) fun w71 s71 k71 e71 => ?_
        have B71 : Below w61.heap.size w61 w71 := Ext.to (Ext.to (Below.refl _ _) e70 fun _ h => h.elim) e71 fun i hi => by omega
        have htk := take_one gj
        have hle := hD120 _ (List.getElem_mem gj)
        have B71' := (B32'.vstep B61).vstep B71
        refine ⟨fun g2 => ?_, fun g2 => ?_⟩
        · have g2' : 0 < j := by have := of_decide_eq_true g2; omega
          have hnext : altJ ((D.take (j + 1)).map (·.2)) = altJ ((D.take j).map (·.2)) ++ 124 :: D[j].2 := by
            rw [htk, List.map_append]
            simp only [List.map_cons, List.map_nil]
            rw [altJ_snoc _ _ (by intro h; have := congrArg List.length h; rw [List.length_map, List.length_take, List.length_nil] at this; omega)]
          rw [show (⟨#[124]⟩ : ByteArray) = B [124] from rfl]
          refine ⟨by rw [size_B, size_B]; show _ + 1 ≤ _; omega, _, k71.cell 1, ?_⟩
          dsimp only
          rw [B_append, B_append]
          have e : altJ ((D.take j).map (·.2)) ++ [124] ++ D[j].2 = altJ ((D.take (j + 1)).map (·.2)) := by rw [hnext]; simp
          rw [e]
          refine ⟨by rw [size_B, size_B, List.length_append]; show _ + 1 + _ ≤ _; omega, fun g3 => long (j := j + 1) ?_ B71', fun g3 => ⟨_, by omega, j + 1, rfl, by omega, rfl, rfl, ?_, B61.vstep B71⟩⟩
          · have := of_decide_eq_true g3; rw [size_B] at this; omega
          · have := of_decide_eq_false g3; rw [size_B] at this; omega
        · have g2' : j = 0 := by have := of_decide_eq_false g2; omega
          subst g2'
          refine ⟨_, k71.cell 1, ?_⟩
          dsimp only
          have e : altJ ((D.take 0).map (·.2)) ++ D[0].2 = altJ ((D.take (0 + 1)).map (·.2)) := by rw [htk]; rfl
          rw [B_append, e]
          refine ⟨by rw [size_B, size_B]; omega, fun g3 => long (j := 0 + 1) ?_ B71', fun g3 => ⟨_, by omega, 0 + 1, rfl, by omega, rfl, rfl, ?_, B61.vstep B71⟩⟩
          · have := of_decide_eq_true g3; rw [size_B] at this; omega
          · have := of_decide_eq_false g3; rw [size_B] at this; omega
      · have hjl : j = D.length := by have := of_decide_eq_false g; omega
        subst hjl
        rw [List.take_length] at hle0 ⊢
        exact ⟨_, hpc, rfl, by omega, B61⟩
    · -- a repetition
      have h4' : x.kind = 4 := by rw [← ek]; exact eq_i h4
      refine ⟨fun g => bad ?_ B32', fun g => ?_⟩
      · unfold pcT
        rw [if_neg (by omega), if_neg (by omega), if_neg (by omega), if_pos h4', if_neg]
        have : ((r.kl : Nat) : Int) ≠ 1 := by simpa using g
        omega
      have gk : x.kids.length = 1 := by have : ((r.kl : Nat) : Int) = 1 := by simpa using g
                                        omega
      refine drw_in fun w92 z92 x92 => ?_
      have B92 : Below w32.heap.size w32 w92 := Ext.to (Below.refl _ _) x92 fun _ h => h.elim
      have q92 := q32.below B92
      obtain ⟨b36, hb36, _, hc36⟩ := view (B32.vstep B92) 0 (by omega)
      have hpc : pcT x (D.map (·.2)) = some (repI x (D[0]'(by omega)).2) := by
        unfold pcT
        rw [if_neg (by omega), if_neg (by omega), if_neg (by omega), if_pos h4', if_pos gk, headD_get D (by omega)]
      have hle := hD120 _ (List.getElem_mem (show 0 < D.length by omega))
      have hview := fun {w'} (hb : Below w26.heap.size w26 w') => (view hb 0 (by omega))
      generalize (D[0]'(by omega)).2 = t at *
      refine ⟨b36, _, ⟨hb36, by omega, by omega⟩, _, by rw [show K * 2 + 1 = K * 2 + 0 * 2 + 1 from by omega]; exact hc36, ?_⟩
      dsimp only
      rw [show (⟨#[123]⟩ : ByteArray) = B [123] from rfl, show (⟨#[44]⟩ : ByteArray) = B [44] from rfl, show (⟨#[125]⟩ : ByteArray) = B [125] from rfl, show (⟨#[63]⟩ : ByteArray) = B [63] from rfl]
      have hd1 := numI_le x.min
      have hd2 := numI_le x.max
      refine ⟨by rw [size_B, size_B]; simp; omega, _, q92.cell 2, ?_⟩
      show clS 100 [.int .i64 r.min] w92 _ _
      rw [o1.min]
      refine (num_ok x.min w92).ret fun w98 B98 => ⟨_, rfl, ?_⟩
      dsimp only
      have B98' := B92.vstep B98
      have q98 := q92.below B98
      obtain ⟨b37, hb37, _, hc37⟩ := hview (B32.vstep B98')
      obtain rfl : b37 = b36 := by
        have := hb36.symm.trans hb37
        simp only [Option.some.injEq, Addr.mk.injEq] at this
        exact this.1.symm
      rw [B_append]
      refine ⟨by rw [show K * 2 + 1 = K * 2 + 0 * 2 + 1 from by omega]; exact hc37, by rw [size_B, size_B]; simp; omega, _, q98.cell 3, fun g2 => ?_, fun g2 => ?_⟩
      · have g2' : x.max = -1 := by rw [← o1.max]; exact eq_i g2
        simp only [B_append]
        refine ⟨by rw [size_B, size_B]; simp; omega, by rw [size_B, size_B]; simp; omega, _, q98.cell 4, fun gz => ⟨by rw [size_B, size_B]; simp; omega, _, hpc, ?_, ?_, B98'⟩, fun gz => ⟨_, hpc, ?_, ?_, B98'⟩⟩
        · unfold repI
          rw [if_pos g2', ← o1.lazy, gz]
          simp [lzT]
        · have := lzT_le x.lazy
          unfold repI
          rw [if_pos g2']
          simp only [List.length_append, List.length_cons, List.length_nil]; omega
        · unfold repI
          rw [if_pos g2', ← o1.lazy, gz]
          simp [lzT]
        · have := lzT_le x.lazy
          unfold repI
          rw [if_pos g2']
          simp only [List.length_append, List.length_cons, List.length_nil]; omega
      · have g2' : ¬ x.max = -1 := by rw [← o1.max]; exact ne_i g2
        refine ⟨_, q98.cell 3, _, q98.cell 2, fun g3 => ?_, fun g3 => ?_⟩
        · have g3' : ¬ x.max = x.min := by rw [← o1.max, ← o1.min]; simpa using g3
          refine ⟨_, q98.cell 3, ?_⟩
          show clS 100 [.int .i64 r.max] w98 _ _
          rw [o1.max]
          refine (num_ok x.max w98).ret fun w106 B106 => ⟨_, rfl, ?_⟩
          dsimp only
          have B106' := B98'.vstep B106
          have q106 := q98.below B106
          simp only [B_append]
          refine ⟨by rw [size_B, size_B]; simp; omega, by rw [size_B, size_B]; simp; omega, by rw [size_B, size_B]; simp; omega, _, q106.cell 4, fun gz => ⟨by rw [size_B, size_B]; simp; omega, _, hpc, ?_, ?_, B106'⟩, fun gz => ⟨_, hpc, ?_, ?_, B106'⟩⟩
          · unfold repI
            rw [if_neg g2', if_neg g3', ← o1.lazy, gz]
            simp [lzT]
          · have := lzT_le x.lazy
            unfold repI
            rw [if_neg g2', if_neg g3']
            simp only [List.length_append, List.length_cons, List.length_nil]; omega
          · unfold repI
            rw [if_neg g2', if_neg g3', ← o1.lazy, gz]
            simp [lzT]
          · have := lzT_le x.lazy
            unfold repI
            rw [if_neg g2', if_neg g3']
            simp only [List.length_append, List.length_cons, List.length_nil]; omega
        · have g3' : x.max = x.min := by rw [← o1.max, ← o1.min]; simpa using g3
          simp only [B_append]
          refine ⟨by rw [size_B, size_B]; simp; omega, _, q98.cell 4, fun gz => ⟨by rw [size_B, size_B]; simp; omega, _, hpc, ?_, ?_, B98'⟩, fun gz => ⟨_, hpc, ?_, ?_, B98'⟩⟩
          · unfold repI
            rw [if_neg g2', if_pos g3', ← o1.lazy, gz]
            simp [lzT]
          · have := lzT_le x.lazy
            unfold repI
            rw [if_neg g2', if_pos g3']
            simp only [List.length_append, List.length_cons, List.length_nil]; omega
          · unfold repI
            rw [if_neg g2', if_pos g3', ← o1.lazy, gz]
            simp [lzT]
          · have := lzT_le x.lazy
            unfold repI
            rw [if_neg g2', if_pos g3']
            simp only [List.length_append, List.length_cons, List.length_nil]; omega
    · -- a group
      have h5' : x.kind = 5 := by rw [← ek]; exact eq_i h5
      refine ⟨fun g => bad ?_ B32', fun g => ?_⟩
      · unfold pcT
        rw [if_neg (by omega), if_neg (by omega), if_neg (by omega), if_neg (by omega), if_pos h5', if_neg]
        have : ((r.kl : Nat) : Int) ≠ 1 := by simpa using g
        omega
      have gk : x.kids.length = 1 := by have : ((r.kl : Nat) : Int) = 1 := by simpa using g
                                        omega
      obtain ⟨b36, hb36, _, hc36⟩ := view B32 0 (by omega)
      have hpc : pcT x (D.map (·.2)) = some (((40 : UInt8) :: ((D[0]'(by omega)).2 ++ [(41 : UInt8)]) : Bytes)) := by
        unfold pcT
        rw [if_neg (by omega), if_neg (by omega), if_neg (by omega), if_neg (by omega), if_pos h5', if_pos gk, headD_get D (by omega)]
      have hle := hD120 _ (List.getElem_mem (show 0 < D.length by omega))
      generalize (D[0]'(by omega)).2 = t at *
      refine ⟨b36, _, ⟨hb36, by omega, by omega⟩, _, by rw [show K * 2 + 1 = K * 2 + 0 * 2 + 1 from by omega]; exact hc36, ?_⟩
      dsimp only
      rw [show (⟨#[40]⟩ : ByteArray) = B [40] from rfl, show (⟨#[41]⟩ : ByteArray) = B [41] from rfl]
      simp only [B_append]
      refine ⟨by rw [size_B, size_B]; simp; omega, by rw [size_B, size_B]; simp; omega, _, hpc, by simp, ?_, Below.refl _ _⟩
      simp only [List.length_append, List.length_cons, List.length_nil]; omega
    · have h6' : x.kind = 6 := by rw [← ek]; exact eq_i h6
      exact ⟨[94], by unfold pcT; rw [if_neg (by omega), if_neg (by omega), if_neg (by omega), if_neg (by omega), if_neg (by omega), if_pos h6'], rfl, by decide, Below.refl _ _⟩
    · have h7' : x.kind = 7 := by rw [← ek]; exact eq_i h7
      exact ⟨[36], by unfold pcT; rw [if_neg (by omega), if_neg (by omega), if_neg (by omega), if_neg (by omega), if_neg (by omega), if_neg (by omega), if_pos h7'], rfl, by decide, Below.refl _ _⟩
    · refine bad ?_ B32'
      have e1 := ne_i h1
      have e2 := ne_i h2
      have e3 := ne_i h3
      have e4 := ne_i h4
      have e5 := ne_i h5
      have e6 := ne_i h6
      have e7 := ne_i h7
      unfold pcT
      rw [if_neg (by omega), if_neg (by omega), if_neg (by omega), if_neg (by omega), if_neg (by omega), if_neg (by omega), if_neg (by omega)]
  · rintro d113 _ w115 ⟨t, ht, rfl, htl, B115⟩
    have B115' := B32'.vstep B115
    rw [ht] at hmst
    refine ⟨fun g4 => fail ?_ B115', fun g4 => ?_⟩
    · rw [hmst]
      simp only []
      rw [if_pos (by have := of_decide_eq_true g4; rw [size_B] at this; omega)]
    have g4' : t.length ≤ 120 := by have := of_decide_eq_false g4; rw [size_B] at this; omega
    simp only [] at hmst
    rw [if_neg (by omega)] at hmst
    have v115 := (v26.keep (S := fun _ => False) (Ext.of_below B32) fun _ _ h => h).keep (S := fun _ => False) (Ext.of_below B115) fun _ _ h => h
    have ha13 : ∃ b, a13 = none ∨ a13 = some ⟨b, 0, none⟩ := by
      rcases v115.2.2 with ⟨h, _⟩ | ⟨b, _, h, _⟩
      · exact ⟨0, .inl h⟩
      · exact ⟨b, .inr h⟩
    obtain ⟨bb, hbb⟩ := ha13
    refine ⟨a13, K, K, by rw [eK]; exact slice_full elemDone.und elemDone.size hbb (by omega) w115, ?_⟩
    refine newC_in fun w118 s118 k118 e118 => ?_
    have v118 := v115.keep e118 fun _ _ h => h
    have hrow : a13 = none ∧ K = 0 ∨ ∃ b, a13 = some ⟨b, 0, none⟩ ∧ cellsAt w118.heap b 0 (dnC (st.take K)) := by
      obtain ⟨u1, u2, u3⟩ := v118
      rcases u3 with ⟨rfl, rfl⟩ | ⟨b, cs, rfl, hB, hcs, htk⟩
      · exact .inl ⟨rfl, by omega⟩
      · refine .inr ⟨b, rfl, hB.cellsAt (n := K * 2) ?_ ?_⟩
        · rw [dnC_take, List.drop_zero, ← htk, List.take_take, Nat.min_eq_left (by omega)]
        · rw [dnC_length, List.length_take, Nat.min_eq_left (by omega)]
    obtain ⟨a2, c2, w120, r1, r2, r3⟩ := append_full (T'' := 107) elemDone.und elemDone.und elemDone.size elemDone.bytes elemDone.zero (w := w118) (a := a13) (l := K) (xs := dnC (st.take K)) (ys := dnC [(i, t)]) (n := 1) (c' := 1) (b' := w115.heap.size) (by rw [dnC_length, List.length_take, Nat.min_eq_left (by omega)]) hrow (by omega) rfl (k118.cellsAt (n := 2) rfl rfl) (by omega) (by omega)
    rw [← dnC_app] at r2
    refine ⟨a2, K + 1, c2, w120, r1, _, by omega, i + 1, st.take K ++ [(i, t)], rfl, by omega, rfl, ?_, ?_, ?_, ?_, r2, ?_⟩
    · rw [hstep, hmst]
    · rw [List.length_append, List.length_take, Nat.min_eq_left (by omega)]; rfl
    · rw [List.length_append, List.length_take, Nat.min_eq_left (by omega)]; simp; omega
    · intro d hd
      rcases List.mem_append.1 hd with hd | hd
      · exact h120 d (List.mem_of_mem_take hd)
      · rw [List.mem_singleton.1 hd]; exact g4'
    · exact Ext.to (Ext.to (((B11.vstep B1126).vstep B32).vstep B115) e118 fun _ h => h.elim) r3 fun _ h => h.elim
end Go.Proofs.Ytngbiaeliphdjaa.V
/- Printed by vcgen.py, a program of this session: formulas of Go functions, each with the proof that it gives the function's contract. No statement of the seat is proved here. -/
namespace Go.Proofs.Ytngbiaeliphdjaa.V
open Go.Vc Go.Proofs
set_option linter.unusedVariables false
set_option maxRecDepth 100000
/-- laws.szPattern -/
def V56 (t1 : Bool) (n2 n3 : Int) (a4 : Option Addr) (l4 c4 : Nat) (n5 : Int) (R : Rt) : Pred := fun w =>
  newC [.bool t1, .int .i64 n2, .int .i64 n3, .slice a4 l4 c4] 62 (fun b6 w7 => lL w7 b6 3 fun a8 l8 c8 => clI 94 ([.slice a8 l8 c8, .int .i64 n5]) w7 R fun n9 w10 => (cB (decide (n9 < 0)) (R (.returned (.int .i64 (-1))) w10) (R (.returned (.int .i64 n9)) w10))) w
def scr56 : Scr := (.q 2 (.q 5 (.q 2 (.cond (.q 1 .nil) (.q 2 .nil)))))
theorem vc56 {t1 n2 n3 a4 l4 c4 n5} {R w} (h : V56 t1 n2 n3 a4 l4 c4 n5 R w) : Cl Try.prog 56 [.agg #[.bool t1, .int .i64 n2, .int .i64 n3, .slice a4 l4 c4], .int .i64 n5] w R :=
  cl_of scr56 Try.func56 (by kernel_rfl) _ _ (by kernel_rfl) h
/-- laws.szPieceS -/
def V94 (a1 : Option Addr) (l1 c1 : Nat) (n2 : Int) (R : Rt) : Pred := fun w =>
  (cB (decide ((IntKind.wrap .i64 (n2 - ((l1 : Nat) : Int))) < 0)) (R (.returned (.int .i64 (-1))) w) (∃ (I3 : Nat → Int → Int → World → Prop), (∃ k5, I3 k5 (IntKind.wrap .i64 (n2 - ((l1 : Nat) : Int))) 0 w) ∧ ∀ k4 (d7 : Nat → Value) n8 n9 w6, I3 k4 n8 n9 w6 → (cB (decide (n9 < ((l1 : Nat) : Int))) (ixS a1 l1 n9 fun b10 o11 => lI w6 b10 (o11 + (Int.toNat n9) * 7) fun n12 => lL w6 b10 (o11 + (Int.toNat n9) * 7 + 1) fun a13 l13 c13 => lI w6 b10 (o11 + (Int.toNat n9) * 7 + 2) fun n14 => lI w6 b10 (o11 + (Int.toNat n9) * 7 + 3) fun n15 => lB w6 b10 (o11 + (Int.toNat n9) * 7 + 4) fun t16 => lI w6 b10 (o11 + (Int.toNat n9) * 7 + 5) fun n17 => lL w6 b10 (o11 + (Int.toNat n9) * 7 + 6) fun a18 l18 c18 => clI 123 ([.agg #[.int .i64 n12, .slice a13 l13 c13, .int .i64 n14, .int .i64 n15, .bool t16, .int .i64 n17, .slice a18 l18 c18], .int .i64 n8]) w6 R fun n19 w20 => (cB (decide (n19 < 0)) (R (.returned (.int .i64 (-1))) w20) ((∃ m22, m22 < k4 ∧ I3 m22 n19 (IntKind.wrap .i64 (n9 + 1)) w20)))) (R (.returned (.int .i64 n8)) w6))))
def scr94 : Scr := (.q 1 (.q 5 (.q 2 (.cond (.q 1 .nil) (.q 1 (.loop (dr [(1, some (.int .i64)), (5, some (.int .i64))] [(4,1),(12,14)]) (.q 4 (.cond (.q 7 (.q 2 (.cond (.q 1 .nil) (.q 3 .nil)))) (.q 2 .nil)))))))))
theorem vc94 {a1 l1 c1 n2} {R w} (h : V94 a1 l1 c1 n2 R w) : Cl Try.prog 94 [.slice a1 l1 c1, .int .i64 n2] w R :=
  cl_of scr94 Try.func94 (by kernel_rfl) _ _ (by kernel_rfl) h
/-- laws.szPiece -/
def V123 (n1 : Int) (a2 : Option Addr) (l2 c2 : Nat) (n3 n4 : Int) (t5 : Bool) (n6 : Int) (a7 : Option Addr) (l7 c7 : Nat) (n8 : Int) (R : Rt) : Pred := fun w =>
  newC [.int .i64 n1, .slice a2 l2 c2, .int .i64 n3, .int .i64 n4, .bool t5, .int .i64 n6, .slice a7 l7 c7] 155 (fun b9 w10 => lL w10 b9 1 fun a11 l11 c11 => clI 139 ([.slice a11 l11 c11, .int .i64 n8]) w10 R fun n12 w13 => (cB (decide (n12 < 0)) (R (.returned (.int .i64 (-1))) w13) (lL w13 b9 6 fun a15 l15 c15 => clI 140 ([.slice a15 l15 c15, .int .i64 n12]) w13 R fun n16 w17 => (cB (decide (n16 < 0)) (R (.returned (.int .i64 (-1))) w17) (R (.returned (.int .i64 n16)) w17))))) w
def scr123 : Scr := (.q 2 (.q 5 (.q 2 (.cond (.q 1 .nil) (.q 5 (.q 2 (.cond (.q 1 .nil) (.q 2 .nil))))))))
theorem vc123 {n1 a2 l2 c2 n3 n4 t5 n6 a7 l7 c7 n8} {R w} (h : V123 n1 a2 l2 c2 n3 n4 t5 n6 a7 l7 c7 n8 R w) : Cl Try.prog 123 [.agg #[.int .i64 n1, .slice a2 l2 c2, .int .i64 n3, .int .i64 n4, .bool t5, .int .i64 n6, .slice a7 l7 c7], .int .i64 n8] w R :=
  cl_of scr123 Try.func123 (by kernel_rfl) _ _ (by kernel_rfl) h
/-- laws.szRangeS -/
def V139 (a1 : Option Addr) (l1 c1 : Nat) (n2 : Int) (R : Rt) : Pred := fun w =>
  (cB (decide ((IntKind.wrap .i64 (n2 - ((l1 : Nat) : Int))) < 0)) (R (.returned (.int .i64 (-1))) w) (R (.returned (.int .i64 (IntKind.wrap .i64 (n2 - ((l1 : Nat) : Int))))) w))
def scr139 : Scr := (.q 1 (.q 5 (.q 2 (.cond (.q 1 .nil) (.q 2 .nil)))))
theorem vc139 {a1 l1 c1 n2} {R w} (h : V139 a1 l1 c1 n2 R w) : Cl Try.prog 139 [.slice a1 l1 c1, .int .i64 n2] w R :=
  cl_of scr139 Try.func139 (by kernel_rfl) _ _ (by kernel_rfl) h
/-- laws.szIntS -/
def V140 (a1 : Option Addr) (l1 c1 : Nat) (n2 : Int) (R : Rt) : Pred := fun w =>
  (cB (decide ((IntKind.wrap .i64 (n2 - ((l1 : Nat) : Int))) < 0)) (R (.returned (.int .i64 (-1))) w) (R (.returned (.int .i64 (IntKind.wrap .i64 (n2 - ((l1 : Nat) : Int))))) w))
def scr140 : Scr := (.q 1 (.q 5 (.q 2 (.cond (.q 1 .nil) (.q 2 .nil)))))
theorem vc140 {a1 l1 c1 n2} {R w} (h : V140 a1 l1 c1 n2 R w) : Cl Try.prog 140 [.slice a1 l1 c1, .int .i64 n2] w R :=
  cl_of scr140 Try.func140 (by kernel_rfl) _ _ (by kernel_rfl) h
/-- laws.toPattern -/
def V58 (t1 : Bool) (n2 n3 : Int) (a4 : Option Addr) (l4 c4 : Nat) (R : Rt) : Pred := fun w =>
  newC [.bool t1, .int .i64 n2, .int .i64 n3, .slice a4 l4 c4] 62 (fun b5 w6 => newC [.bool false, .int .i64 0, .int .i64 0, .slice none 0 0] 37 (fun b7 w8 => newC [.bool false, .int .i64 0, .int .i64 0, .slice none 0 0] 37 (fun b9 w10 => lB w10 b5 0 fun t11 => stW b9 0 [.bool t11] (fun w12 => lI w12 b5 1 fun n13 => stW b9 1 [.int .i64 n13] (fun w14 => lI w14 b5 2 fun n15 => stW b9 2 [.int .i64 n15] (fun w16 => lL w16 b5 3 fun a17 l17 c17 => clL 98 ([.slice a17 l17 c17]) w16 R fun a18 l18 c18 w19 => stW b9 3 [.slice a18 l18 c18] (fun w21 => lB w21 b9 0 fun t22 => lI w21 b9 1 fun n23 => lI w21 b9 2 fun n24 => lL w21 b9 3 fun a25 l25 c25 => stW b7 0 [.bool t22, .int .i64 n23, .int .i64 n24, .slice a25 l25 c25] (fun w26 => lB w26 b7 0 fun t27 => lI w26 b7 1 fun n28 => lI w26 b7 2 fun n29 => lL w26 b7 3 fun a30 l30 c30 => R (.returned (.agg #[.bool t27, .int .i64 n28, .int .i64 n29, .slice a30 l30 c30])) w26) w21) w19) w14) w12) w10) w8) w6) w
def scr58 : Scr := (.q 2 (.q 1 (.q 4 (.q 4 (.q 4 (.q 5 (.q 2 .nil)))))))
theorem vc58 {t1 n2 n3 a4 l4 c4} {R w} (h : V58 t1 n2 n3 a4 l4 c4 R w) : Cl Try.prog 58 [.agg #[.bool t1, .int .i64 n2, .int .i64 n3, .slice a4 l4 c4]] w R :=
  cl_of scr58 Try.func58 (by kernel_rfl) _ _ (by kernel_rfl) h
/-- laws.toPieceS -/
def V98 (a1 : Option Addr) (l1 c1 : Nat) (R : Rt) : Pred := fun w =>
  ∃ a2 l2 c2, ∃ w3, (Instr.makeSlice 35 (.int .i64 ((l1 : Nat) : Int)) (.int .i64 ((l1 : Nat) : Int))).run Try.prog w = .ok (.slice a2 l2 c2) w3 ∧ ∃ (I4 : Nat → Int → World → Prop), (∃ k6, I4 k6 0 w3) ∧ ∀ k5 (d8 : Nat → Value) n9 w7, I4 k5 n9 w7 → (cB (decide (n9 < ((l1 : Nat) : Int))) (ixS a1 l1 n9 fun b10 o11 => lI w7 b10 (o11 + (Int.toNat n9) * 7) fun n12 => lL w7 b10 (o11 + (Int.toNat n9) * 7 + 1) fun a13 l13 c13 => lI w7 b10 (o11 + (Int.toNat n9) * 7 + 2) fun n14 => lI w7 b10 (o11 + (Int.toNat n9) * 7 + 3) fun n15 => lB w7 b10 (o11 + (Int.toNat n9) * 7 + 4) fun t16 => lI w7 b10 (o11 + (Int.toNat n9) * 7 + 5) fun n17 => lL w7 b10 (o11 + (Int.toNat n9) * 7 + 6) fun a18 l18 c18 => clV 124 ([.agg #[.int .i64 n12, .slice a13 l13 c13, .int .i64 n14, .int .i64 n15, .bool t16, .int .i64 n17, .slice a18 l18 c18]]) w7 R fun r27 w26 => ∃ n19, ∃ a20 l20 c20, ∃ n21, ∃ n22, ∃ t23, ∃ n24, ∃ a25 l25 c25, r27 = .agg #[.int .i64 n19, .slice a20 l20 c20, .int .i64 n21, .int .i64 n22, .bool t23, .int .i64 n24, .slice a25 l25 c25] ∧ ixS a2 l2 n9 fun b28 o29 => stW b28 (o29 + (Int.toNat n9) * 7) [.int .i64 n19, .slice a20 l20 c20, .int .i64 n21, .int .i64 n22, .bool t23, .int .i64 n24, .slice a25 l25 c25] (fun w30 => (∃ m31, m31 < k5 ∧ I4 m31 (IntKind.wrap .i64 (n9 + 1)) w30)) w26) (R (.returned (.slice a2 l2 c2)) w7))
def scr98 : Scr := (.q 1 (.q 4 (.q 1 (.loop (dr [(4, some (.int .i64))] [(8,14)]) (.q 4 (.cond (.q 9 (.q 3 .nil)) (.q 2 .nil)))))))
theorem vc98 {a1 l1 c1} {R w} (h : V98 a1 l1 c1 R w) : Cl Try.prog 98 [.slice a1 l1 c1] w R :=
  cl_of scr98 Try.func98 (by kernel_rfl) _ _ (by kernel_rfl) h
/-- laws.toPiece -/
def V124 (n1 : Int) (a2 : Option Addr) (l2 c2 : Nat) (n3 n4 : Int) (t5 : Bool) (n6 : Int) (a7 : Option Addr) (l7 c7 : Nat) (R : Rt) : Pred := fun w =>
  newC [.int .i64 n1, .slice a2 l2 c2, .int .i64 n3, .int .i64 n4, .bool t5, .int .i64 n6, .slice a7 l7 c7] 155 (fun b8 w9 => newC [.int .i64 0, .slice none 0 0, .int .i64 0, .int .i64 0, .bool false, .int .i64 0, .slice none 0 0] 111 (fun b10 w11 => newC [.int .i64 0, .slice none 0 0, .int .i64 0, .int .i64 0, .bool false, .int .i64 0, .slice none 0 0] 111 (fun b12 w13 => lI w13 b8 0 fun n14 => stW b12 0 [.int .i64 n14] (fun w15 => lL w15 b8 1 fun a16 l16 c16 => clL 141 ([.slice a16 l16 c16]) w15 R fun a17 l17 c17 w18 => stW b12 1 [.slice a17 l17 c17] (fun w20 => lI w20 b8 2 fun n21 => stW b12 2 [.int .i64 n21] (fun w22 => lI w22 b8 3 fun n23 => stW b12 3 [.int .i64 n23] (fun w24 => lB w24 b8 4 fun t25 => stW b12 4 [.bool t25] (fun w26 => lI w26 b8 5 fun n27 => stW b12 5 [.int .i64 n27] (fun w28 => lL w28 b8 6 fun a29 l29 c29 => clL 142 ([.slice a29 l29 c29]) w28 R fun a30 l30 c30 w31 => stW b12 6 [.slice a30 l30 c30] (fun w33 => lI w33 b12 0 fun n34 => lL w33 b12 1 fun a35 l35 c35 => lI w33 b12 2 fun n36 => lI w33 b12 3 fun n37 => lB w33 b12 4 fun t38 => lI w33 b12 5 fun n39 => lL w33 b12 6 fun a40 l40 c40 => stW b10 0 [.int .i64 n34, .slice a35 l35 c35, .int .i64 n36, .int .i64 n37, .bool t38, .int .i64 n39, .slice a40 l40 c40] (fun w41 => lI w41 b10 0 fun n42 => lL w41 b10 1 fun a43 l43 c43 => lI w41 b10 2 fun n44 => lI w41 b10 3 fun n45 => lB w41 b10 4 fun t46 => lI w41 b10 5 fun n47 => lL w41 b10 6 fun a48 l48 c48 => R (.returned (.agg #[.int .i64 n42, .slice a43 l43 c43, .int .i64 n44, .int .i64 n45, .bool t46, .int .i64 n47, .slice a48 l48 c48])) w41) w33) w31) w26) w24) w22) w20) w18) w13) w11) w9) w
def scr124 : Scr := (.q 2 (.q 1 (.q 4 (.q 5 (.q 4 (.q 4 (.q 4 (.q 4 (.q 5 (.q 2 .nil))))))))))
theorem vc124 {n1 a2 l2 c2 n3 n4 t5 n6 a7 l7 c7} {R w} (h : V124 n1 a2 l2 c2 n3 n4 t5 n6 a7 l7 c7 R w) : Cl Try.prog 124 [.agg #[.int .i64 n1, .slice a2 l2 c2, .int .i64 n3, .int .i64 n4, .bool t5, .int .i64 n6, .slice a7 l7 c7]] w R :=
  cl_of scr124 Try.func124 (by kernel_rfl) _ _ (by kernel_rfl) h
/-- laws.toRangeS -/
def V141 (a1 : Option Addr) (l1 c1 : Nat) (R : Rt) : Pred := fun w =>
  ∃ a2 l2 c2, ∃ w3, (Instr.makeSlice 108 (.int .i64 ((l1 : Nat) : Int)) (.int .i64 ((l1 : Nat) : Int))).run Try.prog w = .ok (.slice a2 l2 c2) w3 ∧ ∃ (I4 : Nat → Int → World → Prop), (∃ k6, I4 k6 0 w3) ∧ ∀ k5 (d8 : Nat → Value) n9 w7, I4 k5 n9 w7 → (cB (decide (n9 < ((l1 : Nat) : Int))) (ixS a1 l1 n9 fun b10 o11 => lI w7 b10 (o11 + (Int.toNat n9) * 2) fun n12 => lI w7 b10 (o11 + (Int.toNat n9) * 2 + 1) fun n13 => clV 160 ([.agg #[.int .i64 n12, .int .i64 n13]]) w7 R fun r17 w16 => ∃ n14, ∃ n15, r17 = .agg #[.int .i64 n14, .int .i64 n15] ∧ ixS a2 l2 n9 fun b18 o19 => stW b18 (o19 + (Int.toNat n9) * 2) [.int .i64 n14, .int .i64 n15] (fun w20 => (∃ m21, m21 < k5 ∧ I4 m21 (IntKind.wrap .i64 (n9 + 1)) w20)) w16) (R (.returned (.slice a2 l2 c2)) w7))
def scr141 : Scr := (.q 1 (.q 4 (.q 1 (.loop (dr [(4, some (.int .i64))] [(8,14)]) (.q 4 (.cond (.q 9 (.q 3 .nil)) (.q 2 .nil)))))))
theorem vc141 {a1 l1 c1} {R w} (h : V141 a1 l1 c1 R w) : Cl Try.prog 141 [.slice a1 l1 c1] w R :=
  cl_of scr141 Try.func141 (by kernel_rfl) _ _ (by kernel_rfl) h
/-- laws.toIntS -/
def V142 (a1 : Option Addr) (l1 c1 : Nat) (R : Rt) : Pred := fun w =>
  ∃ a2 l2 c2, ∃ w3, (Instr.makeSlice 109 (.int .i64 ((l1 : Nat) : Int)) (.int .i64 ((l1 : Nat) : Int))).run Try.prog w = .ok (.slice a2 l2 c2) w3 ∧ ∃ (I4 : Nat → Int → World → Prop), (∃ k6, I4 k6 0 w3) ∧ ∀ k5 (d8 : Nat → Value) n9 w7, I4 k5 n9 w7 → (cB (decide (n9 < ((l1 : Nat) : Int))) (ixS a1 l1 n9 fun b10 o11 => lI w7 b10 (o11 + (Int.toNat n9) * 1) fun n12 => ixS a2 l2 n9 fun b13 o14 => stW b13 (o14 + (Int.toNat n9) * 1) [.int .i64 n12] (fun w15 => (∃ m16, m16 < k5 ∧ I4 m16 (IntKind.wrap .i64 (n9 + 1)) w15)) w7) (R (.returned (.slice a2 l2 c2)) w7))
def scr142 : Scr := (.q 1 (.q 4 (.q 1 (.loop (dr [(4, some (.int .i64))] [(8,13)]) (.q 4 (.cond (.q 8 (.q 3 .nil)) (.q 2 .nil)))))))
theorem vc142 {a1 l1 c1} {R w} (h : V142 a1 l1 c1 R w) : Cl Try.prog 142 [.slice a1 l1 c1] w R :=
  cl_of scr142 Try.func142 (by kernel_rfl) _ _ (by kernel_rfl) h
/-- laws.toRange -/
def V160 (n1 n2 : Int) (R : Rt) : Pred := fun w =>
  newC [.int .i64 n1, .int .i64 n2] 197 (fun b3 w4 => newC [.int .i64 0, .int .i64 0] 134 (fun b5 w6 => newC [.int .i64 0, .int .i64 0] 134 (fun b7 w8 => lI w8 b3 0 fun n9 => stW b7 0 [.int .i64 n9] (fun w10 => lI w10 b3 1 fun n11 => stW b7 1 [.int .i64 n11] (fun w12 => lI w12 b7 0 fun n13 => lI w12 b7 1 fun n14 => stW b5 0 [.int .i64 n13, .int .i64 n14] (fun w15 => lI w15 b5 0 fun n16 => lI w15 b5 1 fun n17 => R (.returned (.agg #[.int .i64 n16, .int .i64 n17])) w15) w12) w10) w8) w6) w4) w
def scr160 : Scr := (.q 2 (.q 1 (.q 4 (.q 4 (.q 2 .nil)))))
theorem vc160 {n1 n2} {R w} (h : V160 n1 n2 R w) : Cl Try.prog 160 [.agg #[.int .i64 n1, .int .i64 n2]] w R :=
  cl_of scr160 Try.func160 (by kernel_rfl) _ _ (by kernel_rfl) h
/-- laws.FnExactWritePattern -/
def V13 (t1 : Bool) (n2 n3 : Int) (a4 : Option Addr) (l4 c4 : Nat) (R : Rt) : Pred := fun w =>
  newC [.bool t1, .int .i64 n2, .int .i64 n3, .slice a4 l4 c4] 62 (fun b5 w6 => lB w6 b5 0 fun t7 => lI w6 b5 1 fun n8 => lI w6 b5 2 fun n9 => lL w6 b5 3 fun a10 l10 c10 => clI 56 ([.agg #[.bool t7, .int .i64 n8, .int .i64 n9, .slice a10 l10 c10], .int .i64 1048576]) w6 R fun n11 w12 => (cB (decide (n11 < 0)) (R (.returned (.bool true)) w12) (lB w12 b5 0 fun t14 => lI w12 b5 1 fun n15 => lI w12 b5 2 fun n16 => lL w12 b5 3 fun a17 l17 c17 => clV 58 ([.agg #[.bool t14, .int .i64 n15, .int .i64 n16, .slice a17 l17 c17]]) w12 R fun r23 w22 => ∃ t18, ∃ n19, ∃ n20, ∃ a21 l21 c21, r23 = .agg #[.bool t18, .int .i64 n19, .int .i64 n20, .slice a21 l21 c21] ∧ clS 57 ([.agg #[.bool t18, .int .i64 n19, .int .i64 n20, .slice a21 l21 c21]]) w22 R fun s24 w25 => lB w25 b5 0 fun t27 => lI w25 b5 1 fun n28 => lI w25 b5 2 fun n29 => lL w25 b5 3 fun a30 l30 c30 => clV 58 ([.agg #[.bool t27, .int .i64 n28, .int .i64 n29, .slice a30 l30 c30]]) w25 R fun r36 w35 => ∃ t31, ∃ n32, ∃ n33, ∃ a34 l34 c34, r36 = .agg #[.bool t31, .int .i64 n32, .int .i64 n33, .slice a34 l34 c34] ∧ newC [.bool false, .int .i64 0, .int .i64 0, .slice none 0 0] 37 (fun b37 w38 => stW b37 0 [.bool t31, .int .i64 n32, .int .i64 n33, .slice a34 l34 c34] (fun w39 => lB w39 b37 0 fun t40 => lI w39 b37 1 fun n41 => lI w39 b37 2 fun n42 => lL w39 b37 3 fun a43 l43 c43 => clS 59 ([.agg #[.bool t40, .int .i64 n41, .int .i64 n42, .slice a43 l43 c43]]) w39 R fun s44 w45 => (cB (!(s44.toList == s24.toList)) (R (.returned (.bool false)) w45) (drw (fun w47 => lB w47 b37 0 fun t48 => lI w47 b37 1 fun n49 => lI w47 b37 2 fun n50 => lL w47 b37 3 fun a51 l51 c51 => lB w47 b5 0 fun t52 => lI w47 b5 1 fun n53 => lI w47 b5 2 fun n54 => lL w47 b5 3 fun a55 l55 c55 => clV 58 ([.agg #[.bool t52, .int .i64 n53, .int .i64 n54, .slice a55 l55 c55]]) w47 R fun r61 w60 => ∃ t56, ∃ n57, ∃ n58, ∃ a59 l59 c59, r61 = .agg #[.bool t56, .int .i64 n57, .int .i64 n58, .slice a59 l59 c59] ∧ cellsAt w60.heap b37 0 [.bool t48, .int .i64 n49, .int .i64 n50, .slice a51 l51 c51] ∧ clB 36 ([.agg #[.bool t48, .int .i64 n49, .int .i64 n50, .slice a51 l51 c51], .agg #[.bool t56, .int .i64 n57, .int .i64 n58, .slice a59 l59 c59]]) w60 R fun t62 w63 => (cB (!t62) (R (.returned (.bool false)) w63) (R (.returned (.bool true)) w63))) w45))) w38) w35))) w
def scr13 : Scr := (.q 2 (.q 1 (.q 4 (.q 2 (.cond (.q 1 .nil) (.q 4 (.q 4 (.q 3 (.q 3 (.cond (.q 1 .nil) (.q 5 (.cond (.q 1 .nil) (.q 1 .nil)))))))))))))
theorem vc13 {t1 n2 n3 a4 l4 c4} {R w} (h : V13 t1 n2 n3 a4 l4 c4 R w) : Cl Try.prog 13 [.agg #[.bool t1, .int .i64 n2, .int .i64 n3, .slice a4 l4 c4]] w R :=
  cl_of scr13 Try.func13 (by kernel_rfl) _ _ (by kernel_rfl) h
end Go.Proofs.Ytngbiaeliphdjaa.V
/- An argument's pieces are copied. No statement of the seat is proved here. -/
namespace Go.Vc
open Go.RowKit
set_option linter.unusedVariables false
set_option linter.unusedSimpArgs false
/-- A row among what was given: to be read, below everything new. -/
def GRow (W : World) (sz : Nat) (a : Option Addr) (l : Nat) (xs : List Value) : Prop :=
  xs.length = l * sz ∧ l ≤ 9223372036854775807 ∧ (l = 0 ∨ ∃ b o, a = some ⟨b, o, none⟩ ∧ b < W.heap.size ∧ ∀ i, i < l * sz → cellH W.heap b (o + i) = xs[i]?)
theorem GRow.open {W w : World} {sz : Nat} {a : Option Addr} {l : Nat} {xs : List Value} (h : GRow W sz a l xs) (hl : 0 < l) (hW : Below W.heap.size W w) : ∃ b o, a = some ⟨b, o, none⟩ ∧ ∀ i, i < l * sz → cellH w.heap b (o + i) = xs[i]? := by
  obtain ⟨h1, h2, h3⟩ := h
  rcases h3 with h3 | ⟨b, o, ha, hb, hc⟩
  · omega
  · exact ⟨b, o, ha, fun i hi => by rw [hW.vcell hb]; exact hc i hi⟩
structure RawG (W : World) (r : Raw) (p : Pc) : Prop where
  kind : r.kind = p.kind
  min : r.min = p.min
  max : r.max = p.max
  lazy : r.lazy = p.lazy
  num : r.num = p.num
  set : GRow W 2 r.sa r.sl (rngC p.set)
  kids : GRow W 1 r.ka r.kl (intC p.kids)
structure GPcs (W : World) (a : Option Addr) (l : Nat) (rs : List Raw) (ps : List Pc) : Prop where
  row : GRow W 7 a l (rawC rs)
  len : rs.length = l
  len' : ps.length = l
  all : ∀ (i : Nat) (r : Raw) (p : Pc), rs[i]? = some r → ps[i]? = some p → RawG W r p
theorem blk_ne {q x : Nat} (h : q ≠ x) : ∀ b, blkOf (some ⟨q, 0, none⟩) = some b → ¬ b = x := fun b hb e => h (by have h2 : some q = some x := hb.trans (congrArg some e); exact Option.some.inj h2)
theorem fill_step {xs zs : List Value} {o n : Nat} (hx : o + n ≤ xs.length) (hz : zs.length = xs.length) : segSet (xs.take o ++ zs.drop o) o ((xs.drop o).take n) = xs.take (o + n) ++ zs.drop (o + n) := by
  have l1 : (xs.take o).length = o := by rw [List.length_take]; omega
  have l2 : ((xs.drop o).take n).length = n := by rw [List.length_take, List.length_drop]; omega
  rw [segSet_eq _ _ _ (by rw [List.length_append, l1, l2, List.length_drop]; omega), l2]
  have e1 : (xs.take o ++ zs.drop o).drop (o + n) = zs.drop (o + n) := by
    rw [List.drop_append, l1, List.drop_of_length_le (l := xs.take o) (by rw [l1]; omega), List.nil_append, List.drop_drop, show o + (o + n - o) = o + n from by omega]
  rw [List.take_left' l1, e1, List.take_add]
theorem make_inN {P : Program} {t e : TypeId} {i : TypeInfo} {z : Value} (ht : P.underlying t = some (.slice e)) (hi : P.info? e = some i) (hz : i.zero = some z) {sz : Nat} (hs : i.size = sz) {by_ : Nat} (hby : i.bytes = by_) (hb8 : by_ ≤ 100) (n : Nat) (hn : n ≤ 1000000000) (w : World) :
    ∃ w' zs, (Instr.makeSlice t (.int .i64 n) (.int .i64 n)).run P w = .ok (.slice (some ⟨w.heap.size, 0, none⟩) n n) w' ∧ w'.heap.size = w.heap.size + 1 ∧ Blk w'.heap w.heap.size e zs ∧ zs.length = n * sz ∧ Ext (fun _ => False) w w' := by
  have hbb : (i.bytes : Int) * (n : Int) ≤ 281474976710656 := by
    have h : i.bytes * n ≤ 281474976710656 := by
      have := Nat.mul_le_mul (show i.bytes ≤ 100 by omega) hn
      omega
    have h2 : ((i.bytes * n : Nat) : Int) ≤ 281474976710656 := by omega
    rwa [Int.natCast_mul] at h2
  have hr := run_make (P := P) w t e i z ht hi hz .i64 .i64 n n (by omega) (Int.le_refl _) hbb (by omega)
  refine ⟨_, (madeCells z.cells ((n : Int).toNat * i.size)).toList, hr, size_newW w _, ?_, ?_, (Ext.refl _ w).vnew _⟩
  · exact Blk.new w e _
  · simp [madeCells, hs]
end Go.Vc
namespace Go.Proofs.Ytngbiaeliphdjaa.V
open Go.Vc Go.Proofs Go.RowKit
set_option linter.unusedVariables false
set_option linter.unusedSimpArgs false
theorem make109 (n : Nat) (hn : n ≤ 1000000000) (w : World) : ∃ w' zs, (Instr.makeSlice 109 (.int .i64 n) (.int .i64 n)).run Try.prog w = .ok (.slice (some ⟨w.heap.size, 0, none⟩) n n) w' ∧ w'.heap.size = w.heap.size + 1 ∧ Blk w'.heap w.heap.size 3 zs ∧ zs.length = n * 1 ∧ Ext (fun _ => False) w w' := make_inN (P := Try.prog) (t := 109) (e := 3) (i := Try.t3) (z := .int .i64 0) (by kernel_rfl) (by kernel_rfl) (by kernel_rfl) (sz := 1) (by kernel_rfl) (by_ := 8) (by kernel_rfl) (by decide) n hn w
theorem make108 (n : Nat) (hn : n ≤ 1000000000) (w : World) : ∃ w' zs, (Instr.makeSlice 108 (.int .i64 n) (.int .i64 n)).run Try.prog w = .ok (.slice (some ⟨w.heap.size, 0, none⟩) n n) w' ∧ w'.heap.size = w.heap.size + 1 ∧ Blk w'.heap w.heap.size 134 zs ∧ zs.length = n * 2 ∧ Ext (fun _ => False) w w' := make_inN (P := Try.prog) (t := 108) (e := 134) (i := Try.t134) (z := .agg #[.int .i64 0, .int .i64 0]) (by kernel_rfl) (by kernel_rfl) (by kernel_rfl) (sz := 2) (by kernel_rfl) (by_ := 16) (by kernel_rfl) (by decide) n hn w
theorem make35 (n : Nat) (hn : n ≤ 1000000000) (w : World) : ∃ w' zs, (Instr.makeSlice 35 (.int .i64 n) (.int .i64 n)).run Try.prog w = .ok (.slice (some ⟨w.heap.size, 0, none⟩) n n) w' ∧ w'.heap.size = w.heap.size + 1 ∧ Blk w'.heap w.heap.size 111 zs ∧ zs.length = n * 7 ∧ Ext (fun _ => False) w w' := make_inN (P := Try.prog) (t := 35) (e := 111) (i := Try.t111) (z := .agg #[.int .i64 0, .slice none 0 0, .int .i64 0, .int .i64 0, .bool false, .int .i64 0, .slice none 0 0]) (by kernel_rfl) (by kernel_rfl) (by kernel_rfl) (sz := 7) (by kernel_rfl) (by_ := 88) (by kernel_rfl) (by decide) n hn w
/-- A new row. -/
def RetRow (e : TypeId) (sz l : Nat) (xs : List Value) (w : World) : Rt := fun en w' => ∃ k, en = .returned (.slice (some ⟨k, 0, none⟩) l l) ∧ w.heap.size ≤ k ∧ Vec w'.heap e sz (some ⟨k, 0, none⟩) l l xs ∧ Below w.heap.size w w'
theorem toIntS_ok {W w : World} (hW : Below W.heap.size W w) {a : Option Addr} {l c : Nat} {s : List Int} (h : GRow W 1 a l (intC s)) (hl : l ≤ 1048576) : Cl Try.prog 142 [.slice a l c] w (RetRow 3 1 l (intC s) w) := by
  apply vc142
  unfold V142
  have hsl := h.1
  rw [intC_length] at hsl
  obtain ⟨w3, zs, hr, s3, k3, hz, e3⟩ := make109 l (by omega) w
  refine ⟨_, _, _, w3, hr, fun m n w' => ∃ i : Nat, n = i ∧ i ≤ l ∧ m = l - i ∧ Blk w'.heap w.heap.size 3 ((intC s).take i ++ zs.drop i) ∧ Below w.heap.size w w', ⟨_, 0, rfl, by omega, rfl, by simpa using k3, Ext.to (Below.refl _ _) e3 fun _ h => h.elim⟩, ?_⟩
  rintro m d _ w7 ⟨i, rfl, hi, rfl, k7, B7⟩
  refine ⟨fun g => ?_, fun g => ?_⟩
  · have gi : i < l := by have := of_decide_eq_true g; omega
    have f0 : Int.toNat (i : Int) = i := by omega
    have f1 : IntKind.wrap .i64 ((i : Int) + 1) = ((i + 1 : Nat) : Int) := by rw [w64 (by omega)]; omega
    rw [f0, f1]
    obtain ⟨b, o, ha, hc⟩ := h.open (by omega) (hW.vstep B7)
    refine ⟨b, o, ⟨ha, by omega, by omega⟩, s[i]'(by omega), by rw [show o + i * 1 = o + i from by omega, hc i (by omega)]; exact intC_at s i (by omega), w.heap.size, 0, ⟨rfl, by omega, by omega⟩, ?_⟩
    dsimp only
    rw [show 0 + i * 1 = i from by omega]
    refine stW_in k7 (by rw [List.length_append, List.length_take, List.length_drop, intC_length, hz]; simp only [List.length_singleton]; omega) fun w15 s15 k15 e15 => ?_
    refine ⟨_, by omega, i + 1, rfl, by omega, rfl, ?_, Ext.to B7 e15 fun j hj => by omega⟩
    have hfs := fill_step (xs := intC s) (zs := zs) (o := i) (n := 1) (by rw [intC_length]; omega) (by rw [intC_length, hz]; omega)
    have hone : ((intC s).drop i).take 1 = [.int .i64 (s[i]'(by omega))] := by
      rw [List.drop_eq_getElem_cons (by rw [intC_length]; omega)]
      simp [intC]
    rw [hone] at hfs
    rw [← hfs]; exact k15
  · have hil : i = l := by have := of_decide_eq_false g; omega
    subst hil
    rw [List.take_of_length_le (by rw [intC_length]; omega), List.drop_of_length_le (by omega), List.append_nil] at k7
    exact ⟨_, rfl, Nat.le_refl _, ⟨h.1, Nat.le_refl _, .inr ⟨_, _, rfl, k7, h.1, List.take_of_length_le (by rw [h.1]; omega)⟩⟩, B7⟩
theorem toRange_ok (a b : Int) (w : World) : Cl Try.prog 160 [.agg #[.int .i64 a, .int .i64 b]] w (RetB (.agg #[.int .i64 a, .int .i64 b]) w) := by
  apply vc160
  unfold V160
  refine newC_in fun w4 s4 k4 e4 => ?_
  refine newC_in fun w6 s6 k6 e6 => ?_
  refine newC_in fun w8 s8 k8 e8 => ?_
  have k4' := (k4.keep e6 fun h => h).keep e8 fun h => h
  have k6' := k6.keep e8 fun h => h
  have B8 : Below w.heap.size w w8 := Ext.to (Ext.to (Ext.to (Below.refl _ _) e4 fun _ h => h.elim) e6 fun _ h => h.elim) e8 fun _ h => h.elim
  refine ⟨_, k4'.cell 0, ?_⟩
  refine stW_in k8 (by show 0 + 1 ≤ 2; decide) fun w10 s10 k10 e10 => ?_
  have k4a := k4'.keep e10 (by omega)
  refine ⟨_, k4a.cell 1, ?_⟩
  refine stW_in k10 (by show 1 + 1 ≤ 2; decide) fun w12 s12 k12 e12 => ?_
  refine ⟨_, k12.cell 0, _, k12.cell 1, ?_⟩
  have k6a := (k6'.keep e10 (by omega)).keep e12 (by omega)
  refine stW_in k6a (by show 0 + 2 ≤ 2; decide) fun w15 s15 k15 e15 => ?_
  exact ⟨_, k15.cell 0, _, k15.cell 1, rfl, Ext.to (Ext.to (Ext.to B8 e10 fun j hj => by omega) e12 fun j hj => by omega) e15 fun j hj => by omega⟩
theorem toRangeS_ok {W w : World} (hW : Below W.heap.size W w) {a : Option Addr} {l c : Nat} {s : List (Int × Int)} (h : GRow W 2 a l (rngC s)) (hl : l ≤ 1048576) : Cl Try.prog 141 [.slice a l c] w (RetRow 134 2 l (rngC s) w) := by
  apply vc141
  unfold V141
  have hsl := h.1
  rw [rngC_length] at hsl
  obtain ⟨w3, zs, hr, s3, k3, hz, e3⟩ := make108 l (by omega) w
  refine ⟨_, _, _, w3, hr, fun m n w' => ∃ i : Nat, n = i ∧ i ≤ l ∧ m = l - i ∧ Blk w'.heap w.heap.size 134 ((rngC s).take (i * 2) ++ zs.drop (i * 2)) ∧ Below w.heap.size w w', ⟨_, 0, rfl, by omega, rfl, by simpa using k3, Ext.to (Below.refl _ _) e3 fun _ h => h.elim⟩, ?_⟩
  rintro m d _ w7 ⟨i, rfl, hi, rfl, k7, B7⟩
  refine ⟨fun g => ?_, fun g => ?_⟩
  · have gi : i < l := by have := of_decide_eq_true g; omega
    have f0 : Int.toNat (i : Int) = i := by omega
    have f1 : IntKind.wrap .i64 ((i : Int) + 1) = ((i + 1 : Nat) : Int) := by rw [w64 (by omega)]; omega
    rw [f0, f1]
    obtain ⟨b, o, ha, hc⟩ := h.open (by omega) (hW.vstep B7)
    have gis : i < s.length := by omega
    have m1 := rngC_at s i gis
    refine ⟨b, o, ⟨ha, by omega, by omega⟩, (s[i]'gis).1, by rw [hc (i * 2) (by omega)]; exact m1.1, (s[i]'gis).2, by rw [show o + i * 2 + 1 = o + (i * 2 + 1) from by omega, hc (i * 2 + 1) (by omega)]; exact m1.2, ?_⟩
    refine (toRange_ok _ _ w7).ret fun w16 B16 => ⟨_, _, rfl, w.heap.size, 0, ⟨rfl, by omega, by omega⟩, ?_⟩
    dsimp only
    rw [show 0 + i * 2 = i * 2 from by omega]
    have k16 := k7.below B16
    refine stW_in k16 (by rw [List.length_append, List.length_take, List.length_drop, rngC_length, hz]; simp only [List.length_cons, List.length_nil]; omega) fun w20 s20 k20 e20 => ?_
    refine ⟨_, by omega, i + 1, rfl, by omega, rfl, ?_, Ext.to (B7.vstep B16) e20 fun j hj => by omega⟩
    have hfs := fill_step (xs := rngC s) (zs := zs) (o := i * 2) (n := 2) (by rw [rngC_length]; omega) (by rw [rngC_length, hz]; omega)
    have hone : ((rngC s).drop (i * 2)).take 2 = [.int .i64 (s[i]'gis).1, .int .i64 (s[i]'gis).2] := by
      have q1 := (List.getElem?_eq_some_iff.1 m1.1)
      have q2 := (List.getElem?_eq_some_iff.1 m1.2)
      rw [List.drop_eq_getElem_cons (by rw [rngC_length]; omega), List.drop_eq_getElem_cons (by rw [rngC_length]; omega), q1.2, q2.2]
      rfl
    rw [hone] at hfs
    rw [show (i + 1) * 2 = i * 2 + 2 from by omega, ← hfs]; exact k20
  · have hil : i = l := by have := of_decide_eq_false g; omega
    subst hil
    rw [List.take_of_length_le (by rw [rngC_length]; omega), List.drop_of_length_le (by omega), List.append_nil] at k7
    exact ⟨_, rfl, Nat.le_refl _, ⟨h.1, Nat.le_refl _, .inr ⟨_, _, rfl, k7, h.1, List.take_of_length_le (by rw [h.1]; omega)⟩⟩, B7⟩
/-- A new piece. -/
def RetPiece (r : Raw) (p : Pc) (w : World) : Rt := fun en w' => ∃ k1 k2, en = .returned (.agg ⟨Raw.cells ⟨r.kind, some ⟨k1, 0, none⟩, r.sl, r.sl, r.min, r.max, r.lazy, r.num, some ⟨k2, 0, none⟩, r.kl, r.kl⟩⟩) ∧ w.heap.size ≤ k1 ∧ k1 < k2 ∧
  RawOk w' ⟨r.kind, some ⟨k1, 0, none⟩, r.sl, r.sl, r.min, r.max, r.lazy, r.num, some ⟨k2, 0, none⟩, r.kl, r.kl⟩ p ∧ Below w.heap.size w w'
theorem toPiece_ok {W w : World} (hW : Below W.heap.size W w) {r : Raw} {p : Pc} (h : RawG W r p) (h1 : r.sl ≤ 1048576) (h2 : r.kl ≤ 1048576) : Cl Try.prog 124 [.agg ⟨r.cells⟩] w (RetPiece r p w) := by
  apply vc124
  unfold V124
  refine newC_in fun w9 s9 k9 e9 => ?_
  refine newC_in fun w11 s11 k11 e11 => ?_
  refine newC_in fun w13 s13 k13 e13 => ?_
  have k9' := (k9.keep e11 fun h => h).keep e13 fun h => h
  have k11' := k11.keep e13 fun h => h
  have B13 : Below w.heap.size w w13 := Ext.to (Ext.to (Ext.to (Below.refl _ _) e9 fun _ h => h.elim) e11 fun _ h => h.elim) e13 fun _ h => h.elim
  refine ⟨_, k9'.cell 0, ?_⟩
  refine stW_in k13 (by show 0 + 1 ≤ 7; decide) fun w15 s15 k15 e15 => ?_
  have k9a := k9'.keep e15 (by omega)
  have k11a := k11'.keep e15 (by omega)
  have B15 := Ext.to B13 e15 fun j hj => by omega
  refine ⟨_, _, _, k9a.cell 1, (toRangeS_ok (hW.vstep B15) h.set h1).use fun e w18 he => ?_⟩
  obtain ⟨q1, rfl, hq1, hv1, B18⟩ := he
  have k9b := k9a.below B18
  have k11b := k11a.below B18
  have k15b := k15.below B18
  have B18' := B15.vstep B18
  refine ⟨_, _, _, rfl, ?_⟩
  have hlt1 : q1 < w18.heap.size := hv1.lt q1 rfl
  refine stW_in k15b (by show 1 + 1 ≤ 7; decide) fun w20 s20 k20 e20 => ?_
  have hv1a := hv1.keep e20 (blk_ne (by omega))
  have k9c := k9b.keep e20 (by omega)
  have k11c := k11b.keep e20 (by omega)
  refine ⟨_, k9c.cell 2, ?_⟩
  refine stW_in k20 (by show 2 + 1 ≤ 7; decide) fun w22 s22 k22 e22 => ?_
  have k9d := k9c.keep e22 (by omega)
  have k11d := k11c.keep e22 (by omega)
  refine ⟨_, k9d.cell 3, ?_⟩
  refine stW_in k22 (by show 3 + 1 ≤ 7; decide) fun w24 s24 k24 e24 => ?_
  have k9e := k9d.keep e24 (by omega)
  have k11e := k11d.keep e24 (by omega)
  refine ⟨_, k9e.cell 4, ?_⟩
  refine stW_in k24 (by show 4 + 1 ≤ 7; decide) fun w26 s26 k26 e26 => ?_
  have k9f := k9e.keep e26 (by omega)
  have k11f := k11e.keep e26 (by omega)
  refine ⟨_, k9f.cell 5, ?_⟩
  refine stW_in k26 (by show 5 + 1 ≤ 7; decide) fun w28 s28 k28 e28 => ?_
  have k9g := k9f.keep e28 (by omega)
  have k11g := k11f.keep e28 (by omega)
  have hne : ∀ b, blkOf (some ⟨q1, 0, none⟩) = some b → ¬ b = w11.heap.size := blk_ne (by omega)
  have hv1b := (((hv1a.keep e22 hne).keep e24 hne).keep e26 hne).keep e28 hne
  have B28 : Below w.heap.size w w28 := Ext.to (Ext.to (Ext.to (Ext.to (Ext.to B18' e20 fun j hj => by omega) e22 fun j hj => by omega) e24 fun j hj => by omega) e26 fun j hj => by omega) e28 fun j hj => by omega
  refine ⟨_, _, _, k9g.cell 6, (toIntS_ok (hW.vstep B28) h.kids h2).use fun e w31 he => ?_⟩
  obtain ⟨q2, rfl, hq2, hv2, B31⟩ := he
  have k28b := k28.below B31
  have k11h := k11g.below B31
  have hv1c := hv1b.keep (S := fun _ => False) (Ext.of_below B31) fun _ _ h => h
  have B31' := B28.vstep B31
  refine ⟨_, _, _, rfl, ?_⟩
  refine stW_in k28b (by show 6 + 1 ≤ 7; decide) fun w33 s33 k33 e33 => ?_
  have hne2 : ∀ b, blkOf (some ⟨q2, 0, none⟩) = some b → ¬ b = w11.heap.size := blk_ne (by omega)
  have hv1d := hv1c.keep e33 hne
  have hv2a := hv2.keep e33 hne2
  have k11i := k11h.keep e33 (by omega)
  refine ⟨_, k33.cell 0, _, _, _, k33.cell 1, _, k33.cell 2, _, k33.cell 3, _, k33.cell 4, _, k33.cell 5, _, _, _, k33.cell 6, ?_⟩
  refine stW_in k11i (by show 0 + 7 ≤ 7; decide) fun w41 s41 k41 e41 => ?_
  have hne3 : ∀ b, blkOf (some ⟨q1, 0, none⟩) = some b → ¬ b = w9.heap.size := blk_ne (by omega)
  have hne4 : ∀ b, blkOf (some ⟨q2, 0, none⟩) = some b → ¬ b = w9.heap.size := blk_ne (by omega)
  refine ⟨_, k41.cell 0, _, _, _, k41.cell 1, _, k41.cell 2, _, k41.cell 3, _, k41.cell 4, _, k41.cell 5, _, _, _, k41.cell 6, q1, q2, rfl, by omega, by omega, ⟨h.kind, h.min, h.max, h.lazy, h.num, hv1d.keep e41 hne3, hv2a.keep e41 hne4⟩, Ext.to (Ext.to B31' e33 fun j hj => by omega) e41 fun j hj => by omega⟩
end Go.Proofs.Ytngbiaeliphdjaa.V
/- An argument's pattern is copied, and measured. No statement of the seat is proved here. -/
namespace Go.Proofs.Ytngbiaeliphdjaa.V
open Go.Vc Go.Proofs Go.RowKit
set_option linter.unusedVariables false
set_option linter.unusedSimpArgs false
/-- Neither sets nor kids too long. -/
def Mod (ps : List Pc) : Prop := ∀ p ∈ ps, p.set.length ≤ 1048576 ∧ p.kids.length ≤ 1048576
theorem _root_.Go.Vc.RawG.sl {W : World} {r : Raw} {p : Pc} (h : RawG W r p) : r.sl = p.set.length ∧ r.kl = p.kids.length := by
  have h1 := h.set.1
  have h2 := h.kids.1
  rw [rngC_length] at h1
  rw [intC_length] at h2
  omega
theorem graw_at {w : World} {b o l : Nat} {rs : List Raw} (hc : ∀ i, i < l * 7 → cellH w.heap b (o + i) = (rawC rs)[i]?) (hl : rs.length = l) {i : Nat} (hi : i < rs.length) (j : Nat) (hj : j < 7) : cellH w.heap b (o + i * 7 + j) = rs[i].cells[j]? := by
  rw [show o + i * 7 + j = o + (i * 7 + j) from by omega, hc _ (by omega)]
  exact rawC_at rs i hi j hj
def RetPcs (ps : List Pc) (w : World) : Rt := fun e w' => ∃ a l c rs, e = .returned (.slice a l c) ∧ Pcs w.heap.size w' a l c rs ps ∧ Below w.heap.size w w'
theorem toPieceS_ok {W w : World} (hW : Below W.heap.size W w) {a : Option Addr} {l c : Nat} {rs : List Raw} {ps : List Pc} (h : GPcs W a l rs ps) (hl : l ≤ 1048576) (hm : Mod ps) : Cl Try.prog 98 [.slice a l c] w (RetPcs ps w) := by
  apply vc98
  unfold V98
  have hlen := h.len
  have hlen' := h.len'
  obtain ⟨w3, zs, hr, s3, k3, hz, e3⟩ := make35 l (by omega) w
  refine ⟨_, _, _, w3, hr, fun m n w' => ∃ (i : Nat) (rs' : List Raw), n = i ∧ i ≤ l ∧ m = l - i ∧ rs'.length = i ∧ Blk w'.heap w.heap.size 111 (rawC rs' ++ zs.drop (i * 7)) ∧ (∀ (j : Nat) (r : Raw) (p : Pc), rs'[j]? = some r → ps[j]? = some p → RawOk w' r p) ∧
    (rs'.flatMap Raw.blocks).Nodup ∧ (∀ b ∈ rs'.flatMap Raw.blocks, w.heap.size < b ∧ b < w'.heap.size) ∧ Below w.heap.size w w', ⟨_, 0, [], rfl, by omega, rfl, rfl, by simpa [rawC] using k3, by intro j r p hr; simp at hr, by simp, by intro b hb; simp at hb, Ext.to (Below.refl _ _) e3 fun _ h => h.elim⟩, ?_⟩
  rintro m d _ w7 ⟨i, rs', rfl, hi, rfl, hrl, k7, hall, hnd, hlow, B7⟩
  refine ⟨fun g => ?_, fun g => ?_⟩
  · have gi : i < l := by have := of_decide_eq_true g; omega
    have f0 : Int.toNat (i : Int) = i := by omega
    have f1 : IntKind.wrap .i64 ((i : Int) + 1) = ((i + 1 : Nat) : Int) := by rw [w64 (by omega)]; omega
    rw [f0, f1]
    have gir : i < rs.length := by omega
    have gip : i < ps.length := by omega
    obtain ⟨b, o, ha, hc⟩ := h.row.open (by omega) (hW.vstep B7)
    have k1 := fun j hj => graw_at hc hlen gir j hj
    have o1 := h.all i _ _ (List.getElem?_eq_getElem gir) (List.getElem?_eq_getElem gip)
    have om := hm _ (List.getElem_mem gip)
    have osl := o1.sl
    have hpi : ps[i]? = some ps[i] := List.getElem?_eq_getElem gip
    generalize rs[i] = r at *
    generalize ps[i] = p at *
    refine ⟨b, o, ⟨ha, by omega, by omega⟩, _, k1 0 (by decide), _, _, _, k1 1 (by decide), _, k1 2 (by decide), _, k1 3 (by decide), _, k1 4 (by decide), _, k1 5 (by decide), _, _, _, k1 6 (by decide), ?_⟩
    refine (toPiece_ok (hW.vstep B7) o1 (by omega) (by omega)).use fun e w26 he => ?_
    obtain ⟨q1, q2, rfl, hq1, hq2, hrk, B26⟩ := he
    have k26 := k7.below B26
    have hlt := hrk.lt
    refine ⟨_, _, _, _, _, _, _, _, _, _, _, rfl, w.heap.size, 0, ⟨rfl, by omega, by omega⟩, ?_⟩
    dsimp only
    rw [show 0 + i * 7 = i * 7 from by omega]
    have hcl : (rawC rs').length = i * 7 := by rw [rawC_length, hrl]
    refine stW_in k26 (by rw [List.length_append, hcl, List.length_drop, hz]; simp only [List.length_cons, List.length_nil]; omega) fun w30 s30 k30 e30 => ?_
    obtain ⟨r', hr'⟩ : ∃ r' : Raw, r' = ⟨r.kind, some ⟨q1, 0, none⟩, r.sl, r.sl, r.min, r.max, r.lazy, r.num, some ⟨q2, 0, none⟩, r.kl, r.kl⟩ := ⟨_, rfl⟩
    rw [← hr'] at hrk hlt
    have hbl : r'.blocks = [q1, q2] := by rw [hr']; rfl
    rw [hbl] at hlt
    have hlt1 := hlt q1 (by simp)
    have hlt2 := hlt q2 (by simp)
    have hz7 := B7.size
    have hk7 := k7.lt
    refine ⟨_, by omega, i + 1, rs' ++ [r'], rfl, by omega, rfl, by rw [List.length_append, hrl]; rfl, ?_, ?_, ?_, ?_, Ext.to (B7.vstep B26) e30 fun j hj => by omega⟩
    · have hseg : segSet (rawC rs' ++ zs.drop (i * 7)) (i * 7) r'.cells = rawC (rs' ++ [r']) ++ zs.drop ((i + 1) * 7) := by
        rw [segSet_eq _ _ _ (by rw [List.length_append, hcl, List.length_drop, hz, show r'.cells.length = 7 from rfl]; omega), List.take_left' hcl, show r'.cells.length = 7 from rfl]
        have e1 : (rawC rs' ++ zs.drop (i * 7)).drop (i * 7 + 7) = zs.drop (i * 7 + 7) := by
          rw [List.drop_append, hcl, List.drop_of_length_le (l := rawC rs') (by rw [hcl]; omega), List.nil_append, List.drop_drop, show i * 7 + (i * 7 + 7 - i * 7) = i * 7 + 7 from by omega]
        rw [e1, rawC_append, rawC_one, show (i + 1) * 7 = i * 7 + 7 from by omega]
      rw [← hseg, hr']
      exact k30
    · intro j r2 p2 hj hp
      rw [List.getElem?_append] at hj
      split at hj
      · rename_i hjl
        have hb2 := hlow
        refine ((hall j r2 p2 hj hp).keep (S := fun _ => False) (Ext.of_below B26) fun _ _ h => h).keep e30 fun b hb hbk => ?_
        have := hlow b (List.mem_flatMap.2 ⟨r2, List.mem_of_getElem? hj, hb⟩)
        omega
      · rename_i hjl
        have hj0 : j - rs'.length = 0 := by
          cases hd : j - rs'.length with
          | zero => rfl
          | succ n => rw [hd] at hj; simp at hj
        rw [hj0] at hj
        simp only [List.getElem?_cons_zero, Option.some.injEq] at hj
        subst hj
        obtain rfl : j = i := by omega
        rw [hpi] at hp
        injection hp with hp
        subst hp
        refine hrk.keep e30 fun b hb hbk => ?_
        rw [hbl] at hb
        simp only [List.mem_cons, List.not_mem_nil, or_false] at hb
        omega
    · rw [List.flatMap_append]
      simp only [List.flatMap_cons, List.flatMap_nil, List.append_nil]
      rw [hbl, List.nodup_append]
      refine ⟨hnd, by simp; omega, fun x hx y hy => ?_⟩
      have := hlow x hx
      simp only [List.mem_cons, List.not_mem_nil, or_false] at hy
      omega
    · intro b hb
      rw [List.flatMap_append] at hb
      rcases List.mem_append.1 hb with hb | hb
      · have := hlow b hb
        have := B26.size
        omega
      · simp only [List.flatMap_cons, List.flatMap_nil, List.append_nil] at hb
        rw [hbl] at hb
        simp only [List.mem_cons, List.not_mem_nil, or_false] at hb
        omega
  · have hil : i = l := by have := of_decide_eq_false g; omega
    subst hil
    rw [List.drop_of_length_le (by omega), List.append_nil] at k7
    have hcl : (rawC rs').length = i * 7 := by rw [rawC_length, hrl]
    refine ⟨_, _, _, rs', rfl, ⟨⟨hcl, Nat.le_refl _, .inr ⟨_, _, rfl, k7, hcl, List.take_of_length_le (by omega)⟩⟩, hrl, hlen', hall, ?_, ?_⟩, B7⟩
    · show (w.heap.size :: rs'.flatMap Raw.blocks).Nodup
      exact List.nodup_cons.2 ⟨fun hx => by have := hlow _ hx; omega, hnd⟩
    · intro b hb
      rcases List.mem_cons.1 (show b ∈ w.heap.size :: rs'.flatMap Raw.blocks from hb) with rfl | hb
      · exact Nat.le_refl _
      · have := hlow b hb; omega
def RetPtn (t : Bool) (n m : Int) (ps : List Pc) (w : World) : Rt := fun e w' => ∃ a l c rs, e = .returned (.agg #[.bool t, .int .i64 n, .int .i64 m, .slice a l c]) ∧ Pcs w.heap.size w' a l c rs ps ∧ Below w.heap.size w w'
theorem toPattern_ok {W w : World} (hW : Below W.heap.size W w) {t : Bool} {n m : Int} {a : Option Addr} {l c : Nat} {rs : List Raw} {ps : List Pc} (h : GPcs W a l rs ps) (hl : l ≤ 1048576) (hm : Mod ps) : Cl Try.prog 58 [.agg #[.bool t, .int .i64 n, .int .i64 m, .slice a l c]] w (RetPtn t n m ps w) := by
  apply vc58
  unfold V58
  refine newC_in fun w6 s6 k6 e6 => ?_
  refine newC_in fun w8 s8 k8 e8 => ?_
  refine newC_in fun w10 s10 k10 e10 => ?_
  have k6' := (k6.keep e8 fun h => h).keep e10 fun h => h
  have k8' := k8.keep e10 fun h => h
  have B10 : Below w.heap.size w w10 := Ext.to (Ext.to (Ext.to (Below.refl _ _) e6 fun _ h => h.elim) e8 fun _ h => h.elim) e10 fun _ h => h.elim
  refine ⟨_, k6'.cell 0, ?_⟩
  refine stW_in k10 (by show 0 + 1 ≤ 4; decide) fun w12 s12 k12 e12 => ?_
  have k6a := k6'.keep e12 (by omega)
  have k8a := k8'.keep e12 (by omega)
  refine ⟨_, k6a.cell 1, ?_⟩
  refine stW_in k12 (by show 1 + 1 ≤ 4; decide) fun w14 s14 k14 e14 => ?_
  have k6b := k6a.keep e14 (by omega)
  have k8b := k8a.keep e14 (by omega)
  refine ⟨_, k6b.cell 2, ?_⟩
  refine stW_in k14 (by show 2 + 1 ≤ 4; decide) fun w16 s16 k16 e16 => ?_
  have k6c := k6b.keep e16 (by omega)
  have k8c := k8b.keep e16 (by omega)
  have B16 : Below w.heap.size w w16 := Ext.to (Ext.to (Ext.to B10 e12 fun j hj => by omega) e14 fun j hj => by omega) e16 fun j hj => by omega
  refine ⟨_, _, _, k6c.cell 3, (toPieceS_ok (hW.vstep B16) h hl hm).use fun e w19 he => ?_⟩
  obtain ⟨a2, l2, c2, rs2, rfl, P19, B19⟩ := he
  have k16a := k16.below B19
  have k8d := k8c.below B19
  have B19' := B16.vstep B19
  refine ⟨_, _, _, rfl, ?_⟩
  refine stW_in k16a (by show 3 + 1 ≤ 4; decide) fun w21 s21 k21 e21 => ?_
  have P21 := P19.keep e21 fun k hk h => by have := P19.low k hk; omega
  have k8e := k8d.keep e21 (by omega)
  refine ⟨_, k21.cell 0, _, k21.cell 1, _, k21.cell 2, _, _, _, k21.cell 3, ?_⟩
  refine stW_in k8e (by show 0 + 4 ≤ 4; decide) fun w26 s26 k26 e26 => ?_
  have P26 := P21.keep e26 fun k hk h => by have := P19.low k hk; omega
  refine ⟨_, k26.cell 0, _, k26.cell 1, _, k26.cell 2, _, _, _, k26.cell 3, a2, l2, c2, rs2, rfl, ⟨P26.row, P26.len, P26.len', P26.all, P26.nodup, fun b hb => by have := P19.low b hb; omega⟩, Ext.to (Ext.to B19' e21 fun j hj => by omega) e26 fun j hj => by omega⟩
/-! ### Measures -/
def RetSz (n : Int) (Q : Prop) (w : World) : Rt := fun e w' => ∃ k : Int, e = .returned (.int .i64 k) ∧ k ≤ n ∧ -1 ≤ k ∧ (0 ≤ k → Q) ∧ Below w.heap.size w w'
theorem szRangeS_ok {a : Option Addr} {l c : Nat} {n : Int} (hl : l ≤ 9223372036854775807) (hn : 0 ≤ n ∧ n ≤ 1048576) (w : World) : Cl Try.prog 139 [.slice a l c, .int .i64 n] w (RetSz n (l ≤ 1048576) w) := by
  apply vc139
  unfold V139
  rw [w64 (by omega)]
  refine ⟨fun g => ⟨-1, rfl, by omega, by omega, fun h => by omega, Below.refl _ _⟩, fun g => ?_⟩
  have g' := of_decide_eq_false g
  exact ⟨_, rfl, by omega, by omega, fun _ => by omega, Below.refl _ _⟩
theorem szIntS_ok {a : Option Addr} {l c : Nat} {n : Int} (hl : l ≤ 9223372036854775807) (hn : 0 ≤ n ∧ n ≤ 1048576) (w : World) : Cl Try.prog 140 [.slice a l c, .int .i64 n] w (RetSz n (l ≤ 1048576) w) := by
  apply vc140
  unfold V140
  rw [w64 (by omega)]
  refine ⟨fun g => ⟨-1, rfl, by omega, by omega, fun h => by omega, Below.refl _ _⟩, fun g => ?_⟩
  have g' := of_decide_eq_false g
  exact ⟨_, rfl, by omega, by omega, fun _ => by omega, Below.refl _ _⟩
theorem szPiece_ok {r : Raw} {n : Int} (h1 : r.sl ≤ 9223372036854775807) (h2 : r.kl ≤ 9223372036854775807) (hn : 0 ≤ n ∧ n ≤ 1048576) (w : World) : Cl Try.prog 123 [.agg ⟨r.cells⟩, .int .i64 n] w (RetSz n (r.sl ≤ 1048576 ∧ r.kl ≤ 1048576) w) := by
  apply vc123
  unfold V123
  refine newC_in fun w10 s10 k10 e10 => ?_
  have B10 : Below w.heap.size w w10 := Ext.to (Below.refl _ _) e10 fun _ h => h.elim
  refine ⟨_, _, _, k10.cell 1, (szRangeS_ok h1 hn w10).use fun e w13 he => ?_⟩
  obtain ⟨k, rfl, hk1, hk2, hk3, B13⟩ := he
  have B13' := B10.vstep B13
  refine ⟨k, rfl, fun g => ⟨-1, rfl, by omega, by omega, fun h => by omega, B13'⟩, fun g => ?_⟩
  have g' := of_decide_eq_false g
  refine ⟨_, _, _, (k10.below B13).cell 6, (szIntS_ok h2 (n := k) (by omega) w13).use fun e w17 he => ?_⟩
  obtain ⟨k', rfl, hk4, hk5, hk6, B17⟩ := he
  refine ⟨k', rfl, fun g => ⟨-1, rfl, by omega, by omega, fun h => by omega, B13'.vstep B17⟩, fun g => ⟨k', rfl, by omega, by omega, fun h => ⟨hk3 (by omega), hk6 h⟩, B13'.vstep B17⟩⟩
theorem szPieceS_ok {W w : World} (hW : Below W.heap.size W w) {a : Option Addr} {l c : Nat} {rs : List Raw} {ps : List Pc} (h : GPcs W a l rs ps) {n : Int} (hn : 0 ≤ n ∧ n ≤ 1048576) : Cl Try.prog 94 [.slice a l c, .int .i64 n] w (RetSz n (l ≤ 1048576 ∧ Mod ps) w) := by
  apply vc94
  unfold V94
  have hlen := h.len
  have hlen' := h.len'
  have hmx := h.row.2.1
  rw [w64 (by omega)]
  refine ⟨fun g => ⟨-1, rfl, by omega, by omega, fun h => by omega, Below.refl _ _⟩, fun g => ?_⟩
  have g' := of_decide_eq_false g
  refine ⟨fun m k n' w' => ∃ i : Nat, n' = i ∧ i ≤ l ∧ m = l - i ∧ 0 ≤ k ∧ k ≤ n ∧ Mod (ps.take i) ∧ Below w.heap.size w w', ⟨_, 0, rfl, by omega, rfl, by omega, by omega, by intro p hp; simp at hp, Below.refl _ _⟩, ?_⟩
  rintro m d k _ w6 ⟨i, rfl, hi, rfl, hk0, hkn, hmd, B6⟩
  refine ⟨fun g2 => ?_, fun g2 => ?_⟩
  · have gi : i < l := by have := of_decide_eq_true g2; omega
    have f0 : Int.toNat (i : Int) = i := by omega
    have f1 : IntKind.wrap .i64 ((i : Int) + 1) = ((i + 1 : Nat) : Int) := by rw [w64 (by omega)]; omega
    rw [f0, f1]
    have gir : i < rs.length := by omega
    have gip : i < ps.length := by omega
    obtain ⟨b, o, ha, hc⟩ := h.row.open (by omega) (hW.vstep B6)
    have k1 := fun j hj => graw_at hc hlen gir j hj
    have o1 := h.all i _ _ (List.getElem?_eq_getElem gir) (List.getElem?_eq_getElem gip)
    have htk := List.take_succ_eq_append_getElem gip
    generalize rs[i] = r at *
    generalize ps[i] = p at *
    have osl := o1.sl
    refine ⟨b, o, ⟨ha, by omega, by omega⟩, _, k1 0 (by decide), _, _, _, k1 1 (by decide), _, k1 2 (by decide), _, k1 3 (by decide), _, k1 4 (by decide), _, k1 5 (by decide), _, _, _, k1 6 (by decide), ?_⟩
    refine (szPiece_ok o1.set.2.1 o1.kids.2.1 (n := k) (by omega) w6).use fun e w20 he => ?_
    obtain ⟨k', rfl, hk4, hk5, hk6, B20⟩ := he
    refine ⟨k', rfl, fun g => ⟨-1, rfl, by omega, by omega, fun h => by omega, B6.vstep B20⟩, fun g => ?_⟩
    have g3 := of_decide_eq_false g
    refine ⟨_, by omega, i + 1, rfl, by omega, rfl, by omega, by omega, ?_, B6.vstep B20⟩
    rw [htk]
    intro q hq
    rcases List.mem_append.1 hq with hq | hq
    · exact hmd q hq
    · rw [List.mem_singleton.1 hq]
      have := hk6 (by omega)
      omega
  · have hil : i = l := by have := of_decide_eq_false g2; omega
    subst hil
    rw [List.take_of_length_le (by omega)] at hmd
    exact ⟨k, rfl, by omega, by omega, fun _ => ⟨by omega, hmd⟩, B6⟩
theorem szPattern_ok {W w : World} (hW : Below W.heap.size W w) {t : Bool} {n1 m1 : Int} {a : Option Addr} {l c : Nat} {rs : List Raw} {ps : List Pc} (h : GPcs W a l rs ps) {n : Int} (hn : 0 ≤ n ∧ n ≤ 1048576) : Cl Try.prog 56 [.agg #[.bool t, .int .i64 n1, .int .i64 m1, .slice a l c], .int .i64 n] w (RetSz n (l ≤ 1048576 ∧ Mod ps) w) := by
  apply vc56
  unfold V56
  refine newC_in fun w7 s7 k7 e7 => ?_
  have B7 : Below w.heap.size w w7 := Ext.to (Below.refl _ _) e7 fun _ h => h.elim
  refine ⟨_, _, _, k7.cell 3, (szPieceS_ok (hW.vstep B7) h hn).use fun e w10 he => ?_⟩
  obtain ⟨k, rfl, hk1, hk2, hk3, B10⟩ := he
  exact ⟨k, rfl, fun g => ⟨-1, rfl, by omega, by omega, fun h => by omega, B7.vstep B10⟩, fun g => ⟨k, rfl, hk1, hk2, hk3, B7.vstep B10⟩⟩
end Go.Proofs.Ytngbiaeliphdjaa.V
/- Printed by vcgen.py, a program of this session: formulas of Go functions, each with the proof that it gives the function's contract. No statement of the seat is proved here. -/
namespace Go.Proofs.Ytngbiaeliphdjaa.V
open Go.Vc Go.Proofs
set_option linter.unusedVariables false
set_option maxRecDepth 100000
/-- laws.eqPattern -/
def V36 (t1 : Bool) (n2 n3 : Int) (a4 : Option Addr) (l4 c4 : Nat) (t5 : Bool) (n6 n7 : Int) (a8 : Option Addr) (l8 c8 : Nat) (R : Rt) : Pred := fun w =>
  newC [.bool t1, .int .i64 n2, .int .i64 n3, .slice a4 l4 c4] 37 (fun b9 w10 => newC [.bool t5, .int .i64 n6, .int .i64 n7, .slice a8 l8 c8] 37 (fun b11 w12 => lB w12 b9 0 fun t13 => lB w12 b11 0 fun t14 => (cB (!(t13 == t14)) (R (.returned (.bool false)) w12) (lI w12 b9 1 fun n15 => lI w12 b11 1 fun n16 => (cB (n15 != n16) (R (.returned (.bool false)) w12) (lI w12 b9 2 fun n17 => lI w12 b11 2 fun n18 => (cB (n17 != n18) (R (.returned (.bool false)) w12) (lL w12 b9 3 fun a19 l19 c19 => lL w12 b11 3 fun a20 l20 c20 => clB 85 ([.slice a19 l19 c19, .slice a20 l20 c20]) w12 R fun t21 w22 => (cB (!t21) (R (.returned (.bool false)) w22) (R (.returned (.bool true)) w22))))))))) w10) w
def scr36 : Scr := (.q 3 (.q 5 (.cond (.q 1 .nil) (.q 5 (.cond (.q 1 .nil) (.q 5 (.cond (.q 1 .nil) (.q 6 (.cond (.q 1 .nil) (.q 1 .nil))))))))))
theorem vc36 {t1 n2 n3 a4 l4 c4 t5 n6 n7 a8 l8 c8} {R w} (h : V36 t1 n2 n3 a4 l4 c4 t5 n6 n7 a8 l8 c8 R w) : Cl Try.prog 36 [.agg #[.bool t1, .int .i64 n2, .int .i64 n3, .slice a4 l4 c4], .agg #[.bool t5, .int .i64 n6, .int .i64 n7, .slice a8 l8 c8]] w R :=
  cl_of scr36 Try.func36 (by kernel_rfl) _ _ (by kernel_rfl) h
/-- laws.eqPieceS -/
def V85 (a1 : Option Addr) (l1 c1 : Nat) (a2 : Option Addr) (l2 c2 : Nat) (R : Rt) : Pred := fun w =>
  (cB (((l1 : Nat) : Int) != ((l2 : Nat) : Int)) (R (.returned (.bool false)) w) (∃ (I3 : Nat → Int → World → Prop), (∃ k5, I3 k5 0 w) ∧ ∀ k4 (d7 : Nat → Value) n8 w6, I3 k4 n8 w6 → (cB (decide (n8 < ((l1 : Nat) : Int))) (drw (fun w9 => ixS a1 l1 n8 fun b10 o11 => lI w9 b10 (o11 + (Int.toNat n8) * 7) fun n12 => lL w9 b10 (o11 + (Int.toNat n8) * 7 + 1) fun a13 l13 c13 => lI w9 b10 (o11 + (Int.toNat n8) * 7 + 2) fun n14 => lI w9 b10 (o11 + (Int.toNat n8) * 7 + 3) fun n15 => lB w9 b10 (o11 + (Int.toNat n8) * 7 + 4) fun t16 => lI w9 b10 (o11 + (Int.toNat n8) * 7 + 5) fun n17 => lL w9 b10 (o11 + (Int.toNat n8) * 7 + 6) fun a18 l18 c18 => ixS a2 l2 n8 fun b19 o20 => lI w9 b19 (o20 + (Int.toNat n8) * 7) fun n21 => lL w9 b19 (o20 + (Int.toNat n8) * 7 + 1) fun a22 l22 c22 => lI w9 b19 (o20 + (Int.toNat n8) * 7 + 2) fun n23 => lI w9 b19 (o20 + (Int.toNat n8) * 7 + 3) fun n24 => lB w9 b19 (o20 + (Int.toNat n8) * 7 + 4) fun t25 => lI w9 b19 (o20 + (Int.toNat n8) * 7 + 5) fun n26 => lL w9 b19 (o20 + (Int.toNat n8) * 7 + 6) fun a27 l27 c27 => clB 116 ([.agg #[.int .i64 n12, .slice a13 l13 c13, .int .i64 n14, .int .i64 n15, .bool t16, .int .i64 n17, .slice a18 l18 c18], .agg #[.int .i64 n21, .slice a22 l22 c22, .int .i64 n23, .int .i64 n24, .bool t25, .int .i64 n26, .slice a27 l27 c27]]) w9 R fun t28 w29 => (cB (!t28) (R (.returned (.bool false)) w29) ((∃ m31, m31 < k4 ∧ I3 m31 (IntKind.wrap .i64 (n8 + 1)) w29)))) w6) (R (.returned (.bool true)) w6))))
def scr85 : Scr := (.q 1 (.q 5 (.cond (.q 1 .nil) (.q 1 (.loop (dr [(5, some (.int .i64))] [(4,1),(11,16)]) (.q 4 (.cond (.q 10 (.cond (.q 1 .nil) (.q 3 .nil))) (.q 1 .nil))))))))
theorem vc85 {a1 l1 c1 a2 l2 c2} {R w} (h : V85 a1 l1 c1 a2 l2 c2 R w) : Cl Try.prog 85 [.slice a1 l1 c1, .slice a2 l2 c2] w R :=
  cl_of scr85 Try.func85 (by kernel_rfl) _ _ (by kernel_rfl) h
/-- laws.eqPiece -/
def V116 (n1 : Int) (a2 : Option Addr) (l2 c2 : Nat) (n3 n4 : Int) (t5 : Bool) (n6 : Int) (a7 : Option Addr) (l7 c7 : Nat) (n8 : Int) (a9 : Option Addr) (l9 c9 : Nat) (n10 n11 : Int) (t12 : Bool) (n13 : Int) (a14 : Option Addr) (l14 c14 : Nat) (R : Rt) : Pred := fun w =>
  newC [.int .i64 n1, .slice a2 l2 c2, .int .i64 n3, .int .i64 n4, .bool t5, .int .i64 n6, .slice a7 l7 c7] 111 (fun b15 w16 => newC [.int .i64 n8, .slice a9 l9 c9, .int .i64 n10, .int .i64 n11, .bool t12, .int .i64 n13, .slice a14 l14 c14] 111 (fun b17 w18 => lI w18 b15 0 fun n19 => lI w18 b17 0 fun n20 => (cB (n19 != n20) (R (.returned (.bool false)) w18) (lL w18 b15 1 fun a21 l21 c21 => lL w18 b17 1 fun a22 l22 c22 => clB 136 ([.slice a21 l21 c21, .slice a22 l22 c22]) w18 R fun t23 w24 => (cB (!t23) (R (.returned (.bool false)) w24) (lI w24 b15 2 fun n26 => lI w24 b17 2 fun n27 => (cB (n26 != n27) (R (.returned (.bool false)) w24) (lI w24 b15 3 fun n28 => lI w24 b17 3 fun n29 => (cB (n28 != n29) (R (.returned (.bool false)) w24) (lB w24 b15 4 fun t30 => lB w24 b17 4 fun t31 => (cB (!(t30 == t31)) (R (.returned (.bool false)) w24) (lI w24 b15 5 fun n32 => lI w24 b17 5 fun n33 => (cB (n32 != n33) (R (.returned (.bool false)) w24) (lL w24 b15 6 fun a34 l34 c34 => lL w24 b17 6 fun a35 l35 c35 => clB 137 ([.slice a34 l34 c34, .slice a35 l35 c35]) w24 R fun t36 w37 => (cB (!t36) (R (.returned (.bool false)) w37) (R (.returned (.bool true)) w37))))))))))))))) w16) w
def scr116 : Scr := (.q 3 (.q 5 (.cond (.q 1 .nil) (.q 6 (.cond (.q 1 .nil) (.q 5 (.cond (.q 1 .nil) (.q 5 (.cond (.q 1 .nil) (.q 5 (.cond (.q 1 .nil) (.q 5 (.cond (.q 1 .nil) (.q 6 (.cond (.q 1 .nil) (.q 1 .nil))))))))))))))))
theorem vc116 {n1 a2 l2 c2 n3 n4 t5 n6 a7 l7 c7 n8 a9 l9 c9 n10 n11 t12 n13 a14 l14 c14} {R w} (h : V116 n1 a2 l2 c2 n3 n4 t5 n6 a7 l7 c7 n8 a9 l9 c9 n10 n11 t12 n13 a14 l14 c14 R w) : Cl Try.prog 116 [.agg #[.int .i64 n1, .slice a2 l2 c2, .int .i64 n3, .int .i64 n4, .bool t5, .int .i64 n6, .slice a7 l7 c7], .agg #[.int .i64 n8, .slice a9 l9 c9, .int .i64 n10, .int .i64 n11, .bool t12, .int .i64 n13, .slice a14 l14 c14]] w R :=
  cl_of scr116 Try.func116 (by kernel_rfl) _ _ (by kernel_rfl) h
/-- laws.eqRangeS -/
def V136 (a1 : Option Addr) (l1 c1 : Nat) (a2 : Option Addr) (l2 c2 : Nat) (R : Rt) : Pred := fun w =>
  (cB (((l1 : Nat) : Int) != ((l2 : Nat) : Int)) (R (.returned (.bool false)) w) (∃ (I3 : Nat → Int → World → Prop), (∃ k5, I3 k5 0 w) ∧ ∀ k4 (d7 : Nat → Value) n8 w6, I3 k4 n8 w6 → (cB (decide (n8 < ((l1 : Nat) : Int))) (drw (fun w9 => ixS a1 l1 n8 fun b10 o11 => lI w9 b10 (o11 + (Int.toNat n8) * 2) fun n12 => lI w9 b10 (o11 + (Int.toNat n8) * 2 + 1) fun n13 => ixS a2 l2 n8 fun b14 o15 => lI w9 b14 (o15 + (Int.toNat n8) * 2) fun n16 => lI w9 b14 (o15 + (Int.toNat n8) * 2 + 1) fun n17 => clB 152 ([.agg #[.int .i64 n12, .int .i64 n13], .agg #[.int .i64 n16, .int .i64 n17]]) w9 R fun t18 w19 => (cB (!t18) (R (.returned (.bool false)) w19) ((∃ m21, m21 < k4 ∧ I3 m21 (IntKind.wrap .i64 (n8 + 1)) w19)))) w6) (R (.returned (.bool true)) w6))))
def scr136 : Scr := (.q 1 (.q 5 (.cond (.q 1 .nil) (.q 1 (.loop (dr [(5, some (.int .i64))] [(4,1),(11,16)]) (.q 4 (.cond (.q 10 (.cond (.q 1 .nil) (.q 3 .nil))) (.q 1 .nil))))))))
theorem vc136 {a1 l1 c1 a2 l2 c2} {R w} (h : V136 a1 l1 c1 a2 l2 c2 R w) : Cl Try.prog 136 [.slice a1 l1 c1, .slice a2 l2 c2] w R :=
  cl_of scr136 Try.func136 (by kernel_rfl) _ _ (by kernel_rfl) h
/-- laws.eqIntS -/
def V137 (a1 : Option Addr) (l1 c1 : Nat) (a2 : Option Addr) (l2 c2 : Nat) (R : Rt) : Pred := fun w =>
  (cB (((l1 : Nat) : Int) != ((l2 : Nat) : Int)) (R (.returned (.bool false)) w) (∃ (I3 : Nat → Int → World → Prop), (∃ k5, I3 k5 0 w) ∧ ∀ k4 (d7 : Nat → Value) n8 w6, I3 k4 n8 w6 → (cB (decide (n8 < ((l1 : Nat) : Int))) (drw (fun w9 => ixS a1 l1 n8 fun b10 o11 => lI w9 b10 (o11 + (Int.toNat n8) * 1) fun n12 => ixS a2 l2 n8 fun b13 o14 => lI w9 b13 (o14 + (Int.toNat n8) * 1) fun n15 => (cB (n12 != n15) (R (.returned (.bool false)) w9) ((∃ m16, m16 < k4 ∧ I3 m16 (IntKind.wrap .i64 (n8 + 1)) w9)))) w6) (R (.returned (.bool true)) w6))))
def scr137 : Scr := (.q 1 (.q 5 (.cond (.q 1 .nil) (.q 1 (.loop (dr [(5, some (.int .i64))] [(4,1),(11,15)]) (.q 4 (.cond (.q 9 (.cond (.q 1 .nil) (.q 3 .nil))) (.q 1 .nil))))))))
theorem vc137 {a1 l1 c1 a2 l2 c2} {R w} (h : V137 a1 l1 c1 a2 l2 c2 R w) : Cl Try.prog 137 [.slice a1 l1 c1, .slice a2 l2 c2] w R :=
  cl_of scr137 Try.func137 (by kernel_rfl) _ _ (by kernel_rfl) h
/-- laws.eqRange -/
def V152 (n1 n2 n3 n4 : Int) (R : Rt) : Pred := fun w =>
  newC [.int .i64 n1, .int .i64 n2] 134 (fun b5 w6 => newC [.int .i64 n3, .int .i64 n4] 134 (fun b7 w8 => lI w8 b5 0 fun n9 => lI w8 b7 0 fun n10 => (cB (n9 != n10) (R (.returned (.bool false)) w8) (lI w8 b5 1 fun n11 => lI w8 b7 1 fun n12 => (cB (n11 != n12) (R (.returned (.bool false)) w8) (R (.returned (.bool true)) w8))))) w6) w
def scr152 : Scr := (.q 3 (.q 5 (.cond (.q 1 .nil) (.q 5 (.cond (.q 1 .nil) (.q 1 .nil))))))
theorem vc152 {n1 n2 n3 n4} {R w} (h : V152 n1 n2 n3 n4 R w) : Cl Try.prog 152 [.agg #[.int .i64 n1, .int .i64 n2], .agg #[.int .i64 n3, .int .i64 n4]] w R :=
  cl_of scr152 Try.func152 (by kernel_rfl) _ _ (by kernel_rfl) h
/-- laws.markPattern -/
def V37 (t1 : Bool) (n2 n3 : Int) (a4 : Option Addr) (l4 c4 : Nat) (n5 : Int) (R : Rt) : Pred := fun w =>
  newC [.bool t1, .int .i64 n2, .int .i64 n3, .slice a4 l4 c4] 37 (fun b6 w7 => lL w7 b6 3 fun a8 l8 c8 => clI 86 ([.slice a8 l8 c8, .int .i64 n5]) w7 R fun n9 w10 => R (.returned (.int .i64 n9)) w10) w
def scr37 : Scr := (.q 2 (.q 5 (.q 2 .nil)))
theorem vc37 {t1 n2 n3 a4 l4 c4 n5} {R w} (h : V37 t1 n2 n3 a4 l4 c4 n5 R w) : Cl Try.prog 37 [.agg #[.bool t1, .int .i64 n2, .int .i64 n3, .slice a4 l4 c4], .int .i64 n5] w R :=
  cl_of scr37 Try.func37 (by kernel_rfl) _ _ (by kernel_rfl) h
/-- laws.markPieceS -/
def V86 (a1 : Option Addr) (l1 c1 : Nat) (n2 : Int) (R : Rt) : Pred := fun w =>
  ∃ (I3 : Nat → Int → Int → World → Prop), (∃ k5, I3 k5 n2 0 w) ∧ ∀ k4 (d7 : Nat → Value) n8 n9 w6, I3 k4 n8 n9 w6 → (cB (decide (n9 < ((l1 : Nat) : Int))) (ixS a1 l1 n9 fun b10 o11 => stW b10 (o11 + (Int.toNat n9) * 7) [.int .i64 n8] (fun w12 => ixS a1 l1 n9 fun b13 o14 => lL w12 b13 (o14 + (Int.toNat n9) * 7 + 1) fun a15 l15 c15 => clI 117 ([.slice a15 l15 c15, .int .i64 (IntKind.wrap .i64 (n8 + 1))]) w12 R fun n16 w17 => ixS a1 l1 n9 fun b19 o20 => stW b19 (o20 + (Int.toNat n9) * 7 + 2) [.int .i64 n16] (fun w21 => ixS a1 l1 n9 fun b22 o23 => stW b22 (o23 + (Int.toNat n9) * 7 + 3) [.int .i64 (IntKind.wrap .i64 (n16 + 1))] (fun w24 => ((3 : Int) ≠ 0) ∧ ixS a1 l1 n9 fun b25 o26 => stW b25 (o26 + (Int.toNat n9) * 7 + 4) [.bool ((Int.tmod (IntKind.wrap .i64 ((IntKind.wrap .i64 (n16 + 1)) + 1)) 3) == 0)] (fun w27 => ixS a1 l1 n9 fun b28 o29 => stW b28 (o29 + (Int.toNat n9) * 7 + 5) [.int .i64 (IntKind.wrap .i64 ((IntKind.wrap .i64 ((IntKind.wrap .i64 (n16 + 1)) + 1)) + 1))] (fun w30 => ixS a1 l1 n9 fun b31 o32 => lL w30 b31 (o32 + (Int.toNat n9) * 7 + 6) fun a33 l33 c33 => clI 118 ([.slice a33 l33 c33, .int .i64 (IntKind.wrap .i64 ((IntKind.wrap .i64 ((IntKind.wrap .i64 ((IntKind.wrap .i64 (n16 + 1)) + 1)) + 1)) + 1))]) w30 R fun n34 w35 => (∃ m37, m37 < k4 ∧ I3 m37 n34 (IntKind.wrap .i64 (n9 + 1)) w35)) w27) w24) w21) w17) w6) (R (.returned (.int .i64 n8)) w6))
def scr86 : Scr := (.q 1 (.q 1 (.loop (dr [(1, some (.int .i64)), (5, some (.int .i64))] [(6,57)]) (.q 4 (.cond (.q 6 (.q 3 (.q 8 (.q 6 (.q 3 (.q 6 (.q 3 (.q 8 (.q 3 (.q 6 (.q 3 (.q 8 (.q 3 .nil))))))))))))) (.q 2 .nil))))))
theorem vc86 {a1 l1 c1 n2} {R w} (h : V86 a1 l1 c1 n2 R w) : Cl Try.prog 86 [.slice a1 l1 c1, .int .i64 n2] w R :=
  cl_of scr86 Try.func86 (by kernel_rfl) _ _ (by kernel_rfl) h
/-- laws.markRangeS -/
def V117 (a1 : Option Addr) (l1 c1 : Nat) (n2 : Int) (R : Rt) : Pred := fun w =>
  ∃ (I3 : Nat → Int → Int → World → Prop), (∃ k5, I3 k5 n2 0 w) ∧ ∀ k4 (d7 : Nat → Value) n8 n9 w6, I3 k4 n8 n9 w6 → (cB (decide (n9 < ((l1 : Nat) : Int))) (ixS a1 l1 n9 fun b10 o11 => stW b10 (o11 + (Int.toNat n9) * 2) [.int .i64 n8] (fun w12 => ixS a1 l1 n9 fun b13 o14 => stW b13 (o14 + (Int.toNat n9) * 2 + 1) [.int .i64 (IntKind.wrap .i64 (n8 + 1))] (fun w15 => (∃ m16, m16 < k4 ∧ I3 m16 (IntKind.wrap .i64 ((IntKind.wrap .i64 (n8 + 1)) + 1)) (IntKind.wrap .i64 (n9 + 1)) w15)) w12) w6) (R (.returned (.int .i64 n8)) w6))
def scr117 : Scr := (.q 1 (.q 1 (.loop (dr [(1, some (.int .i64)), (5, some (.int .i64))] [(6,20)]) (.q 4 (.cond (.q 6 (.q 3 (.q 6 (.q 3 (.q 3 .nil))))) (.q 2 .nil))))))
theorem vc117 {a1 l1 c1 n2} {R w} (h : V117 a1 l1 c1 n2 R w) : Cl Try.prog 117 [.slice a1 l1 c1, .int .i64 n2] w R :=
  cl_of scr117 Try.func117 (by kernel_rfl) _ _ (by kernel_rfl) h
/-- laws.markIntS -/
def V118 (a1 : Option Addr) (l1 c1 : Nat) (n2 : Int) (R : Rt) : Pred := fun w =>
  ∃ (I3 : Nat → Int → Int → World → Prop), (∃ k5, I3 k5 n2 0 w) ∧ ∀ k4 (d7 : Nat → Value) n8 n9 w6, I3 k4 n8 n9 w6 → (cB (decide (n9 < ((l1 : Nat) : Int))) (ixS a1 l1 n9 fun b10 o11 => stW b10 (o11 + (Int.toNat n9) * 1) [.int .i64 n8] (fun w12 => (∃ m13, m13 < k4 ∧ I3 m13 (IntKind.wrap .i64 (n8 + 1)) (IntKind.wrap .i64 (n9 + 1)) w12)) w6) (R (.returned (.int .i64 n8)) w6))
def scr118 : Scr := (.q 1 (.q 1 (.loop (dr [(1, some (.int .i64)), (5, some (.int .i64))] [(6,12)]) (.q 4 (.cond (.q 5 (.q 3 (.q 3 .nil))) (.q 2 .nil))))))
theorem vc118 {a1 l1 c1 n2} {R w} (h : V118 a1 l1 c1 n2 R w) : Cl Try.prog 118 [.slice a1 l1 c1, .int .i64 n2] w R :=
  cl_of scr118 Try.func118 (by kernel_rfl) _ _ (by kernel_rfl) h
/-- laws.heldPattern -/
def V38 (t1 : Bool) (n2 n3 : Int) (a4 : Option Addr) (l4 c4 : Nat) (n5 : Int) (R : Rt) : Pred := fun w =>
  newC [.bool t1, .int .i64 n2, .int .i64 n3, .slice a4 l4 c4] 37 (fun b6 w7 => lL w7 b6 3 fun a8 l8 c8 => clI 87 ([.slice a8 l8 c8, .int .i64 n5]) w7 R fun n9 w10 => (cB (decide (n9 < 0)) (R (.returned (.int .i64 (-1))) w10) (R (.returned (.int .i64 n9)) w10))) w
def scr38 : Scr := (.q 2 (.q 5 (.q 2 (.cond (.q 1 .nil) (.q 2 .nil)))))
theorem vc38 {t1 n2 n3 a4 l4 c4 n5} {R w} (h : V38 t1 n2 n3 a4 l4 c4 n5 R w) : Cl Try.prog 38 [.agg #[.bool t1, .int .i64 n2, .int .i64 n3, .slice a4 l4 c4], .int .i64 n5] w R :=
  cl_of scr38 Try.func38 (by kernel_rfl) _ _ (by kernel_rfl) h
/-- laws.heldPieceS -/
def V87 (a1 : Option Addr) (l1 c1 : Nat) (n2 : Int) (R : Rt) : Pred := fun w =>
  ∃ (I3 : Nat → Int → Int → World → Prop), (∃ k5, I3 k5 n2 0 w) ∧ ∀ k4 (d7 : Nat → Value) n8 n9 w6, I3 k4 n8 n9 w6 → (cB (decide (n9 < ((l1 : Nat) : Int))) (ixS a1 l1 n9 fun b10 o11 => lI w6 b10 (o11 + (Int.toNat n9) * 7) fun n12 => (cB (n12 != n8) (R (.returned (.int .i64 (-1))) w6) (ixS a1 l1 n9 fun b13 o14 => lL w6 b13 (o14 + (Int.toNat n9) * 7 + 1) fun a15 l15 c15 => clI 119 ([.slice a15 l15 c15, .int .i64 (IntKind.wrap .i64 (n8 + 1))]) w6 R fun n16 w17 => (cB (decide (n16 < 0)) (R (.returned (.int .i64 (-1))) w17) (ixS a1 l1 n9 fun b19 o20 => lI w17 b19 (o20 + (Int.toNat n9) * 7 + 2) fun n21 => (cB (n21 != n16) (R (.returned (.int .i64 (-1))) w17) (ixS a1 l1 n9 fun b22 o23 => lI w17 b22 (o23 + (Int.toNat n9) * 7 + 3) fun n24 => (cB (n24 != (IntKind.wrap .i64 (n16 + 1))) (R (.returned (.int .i64 (-1))) w17) (ixS a1 l1 n9 fun b25 o26 => lB w17 b25 (o26 + (Int.toNat n9) * 7 + 4) fun t27 => ((3 : Int) ≠ 0) ∧ (cB (!(t27 == ((Int.tmod (IntKind.wrap .i64 ((IntKind.wrap .i64 (n16 + 1)) + 1)) 3) == 0))) (R (.returned (.int .i64 (-1))) w17) (ixS a1 l1 n9 fun b28 o29 => lI w17 b28 (o29 + (Int.toNat n9) * 7 + 5) fun n30 => (cB (n30 != (IntKind.wrap .i64 ((IntKind.wrap .i64 ((IntKind.wrap .i64 (n16 + 1)) + 1)) + 1))) (R (.returned (.int .i64 (-1))) w17) (ixS a1 l1 n9 fun b31 o32 => lL w17 b31 (o32 + (Int.toNat n9) * 7 + 6) fun a33 l33 c33 => clI 120 ([.slice a33 l33 c33, .int .i64 (IntKind.wrap .i64 ((IntKind.wrap .i64 ((IntKind.wrap .i64 ((IntKind.wrap .i64 (n16 + 1)) + 1)) + 1)) + 1))]) w17 R fun n34 w35 => (cB (decide (n34 < 0)) (R (.returned (.int .i64 (-1))) w35) ((∃ m37, m37 < k4 ∧ I3 m37 n34 (IntKind.wrap .i64 (n9 + 1)) w35)))))))))))))))) (R (.returned (.int .i64 n8)) w6))
def scr87 : Scr := (.q 1 (.q 1 (.loop (dr [(1, some (.int .i64)), (5, some (.int .i64))] [(4,1),(6,71)]) (.q 4 (.cond (.q 7 (.cond (.q 1 .nil) (.q 3 (.q 8 (.q 2 (.cond (.q 1 .nil) (.q 7 (.cond (.q 1 .nil) (.q 3 (.q 7 (.cond (.q 1 .nil) (.q 3 (.q 9 (.cond (.q 1 .nil) (.q 3 (.q 7 (.cond (.q 1 .nil) (.q 3 (.q 8 (.q 2 (.cond (.q 1 .nil) (.q 3 .nil)))))))))))))))))))))) (.q 2 .nil))))))
theorem vc87 {a1 l1 c1 n2} {R w} (h : V87 a1 l1 c1 n2 R w) : Cl Try.prog 87 [.slice a1 l1 c1, .int .i64 n2] w R :=
  cl_of scr87 Try.func87 (by kernel_rfl) _ _ (by kernel_rfl) h
/-- laws.heldRangeS -/
def V119 (a1 : Option Addr) (l1 c1 : Nat) (n2 : Int) (R : Rt) : Pred := fun w =>
  ∃ (I3 : Nat → Int → Int → World → Prop), (∃ k5, I3 k5 n2 0 w) ∧ ∀ k4 (d7 : Nat → Value) n8 n9 w6, I3 k4 n8 n9 w6 → (cB (decide (n9 < ((l1 : Nat) : Int))) (ixS a1 l1 n9 fun b10 o11 => lI w6 b10 (o11 + (Int.toNat n9) * 2) fun n12 => (cB (n12 != n8) (R (.returned (.int .i64 (-1))) w6) (ixS a1 l1 n9 fun b13 o14 => lI w6 b13 (o14 + (Int.toNat n9) * 2 + 1) fun n15 => (cB (n15 != (IntKind.wrap .i64 (n8 + 1))) (R (.returned (.int .i64 (-1))) w6) ((∃ m16, m16 < k4 ∧ I3 m16 (IntKind.wrap .i64 ((IntKind.wrap .i64 (n8 + 1)) + 1)) (IntKind.wrap .i64 (n9 + 1)) w6)))))) (R (.returned (.int .i64 n8)) w6))
def scr119 : Scr := (.q 1 (.q 1 (.loop (dr [(1, some (.int .i64)), (5, some (.int .i64))] [(4,1),(6,24)]) (.q 4 (.cond (.q 7 (.cond (.q 1 .nil) (.q 3 (.q 7 (.cond (.q 1 .nil) (.q 3 (.q 3 .nil))))))) (.q 2 .nil))))))
theorem vc119 {a1 l1 c1 n2} {R w} (h : V119 a1 l1 c1 n2 R w) : Cl Try.prog 119 [.slice a1 l1 c1, .int .i64 n2] w R :=
  cl_of scr119 Try.func119 (by kernel_rfl) _ _ (by kernel_rfl) h
/-- laws.heldIntS -/
def V120 (a1 : Option Addr) (l1 c1 : Nat) (n2 : Int) (R : Rt) : Pred := fun w =>
  ∃ (I3 : Nat → Int → Int → World → Prop), (∃ k5, I3 k5 n2 0 w) ∧ ∀ k4 (d7 : Nat → Value) n8 n9 w6, I3 k4 n8 n9 w6 → (cB (decide (n9 < ((l1 : Nat) : Int))) (ixS a1 l1 n9 fun b10 o11 => lI w6 b10 (o11 + (Int.toNat n9) * 1) fun n12 => (cB (n12 != n8) (R (.returned (.int .i64 (-1))) w6) ((∃ m13, m13 < k4 ∧ I3 m13 (IntKind.wrap .i64 (n8 + 1)) (IntKind.wrap .i64 (n9 + 1)) w6)))) (R (.returned (.int .i64 n8)) w6))
def scr120 : Scr := (.q 1 (.q 1 (.loop (dr [(1, some (.int .i64)), (5, some (.int .i64))] [(4,1),(6,14)]) (.q 4 (.cond (.q 6 (.cond (.q 1 .nil) (.q 3 (.q 3 .nil)))) (.q 2 .nil))))))
theorem vc120 {a1 l1 c1 n2} {R w} (h : V120 a1 l1 c1 n2 R w) : Cl Try.prog 120 [.slice a1 l1 c1, .int .i64 n2] w R :=
  cl_of scr120 Try.func120 (by kernel_rfl) _ _ (by kernel_rfl) h
/-- laws.FnExactReadPattern -/
def V6 (s1 : ByteArray) (R : Rt) : Pred := fun w =>
  (cB (decide (((ByteArray.size s1 : Nat) : Int) > 1048576)) (R (.returned (.bool true)) w) (clV 27 ([.string s1]) w R fun r7 w6 => ∃ t2, ∃ n3, ∃ n4, ∃ a5 l5 c5, r7 = .agg #[.bool t2, .int .i64 n3, .int .i64 n4, .slice a5 l5 c5] ∧ newC [.bool false, .int .i64 0, .int .i64 0, .slice none 0 0] 37 (fun b8 w9 => stW b8 0 [.bool t2, .int .i64 n3, .int .i64 n4, .slice a5 l5 c5] (fun w10 => clV 26 ([.string s1]) w10 R fun r16 w15 => ∃ t11, ∃ n12, ∃ n13, ∃ a14 l14 c14, r16 = .agg #[.bool t11, .int .i64 n12, .int .i64 n13, .slice a14 l14 c14] ∧ newC [.bool false, .int .i64 0, .int .i64 0, .slice none 0 0] 37 (fun b17 w18 => stW b17 0 [.bool t11, .int .i64 n12, .int .i64 n13, .slice a14 l14 c14] (fun w19 => lB w19 b17 0 fun t20 => lI w19 b17 1 fun n21 => lI w19 b17 2 fun n22 => lL w19 b17 3 fun a23 l23 c23 => lB w19 b8 0 fun t24 => lI w19 b8 1 fun n25 => lI w19 b8 2 fun n26 => lL w19 b8 3 fun a27 l27 c27 => clB 36 ([.agg #[.bool t20, .int .i64 n21, .int .i64 n22, .slice a23 l23 c23], .agg #[.bool t24, .int .i64 n25, .int .i64 n26, .slice a27 l27 c27]]) w19 R fun t28 w29 => (cB (!t28) (R (.returned (.bool false)) w29) (lB w29 b17 0 fun t31 => lI w29 b17 1 fun n32 => lI w29 b17 2 fun n33 => lL w29 b17 3 fun a34 l34 c34 => clI 37 ([.agg #[.bool t31, .int .i64 n32, .int .i64 n33, .slice a34 l34 c34], .int .i64 1]) w29 R fun n35 w36 => lB w36 b17 0 fun t38 => lI w36 b17 1 fun n39 => lI w36 b17 2 fun n40 => lL w36 b17 3 fun a41 l41 c41 => clI 38 ([.agg #[.bool t38, .int .i64 n39, .int .i64 n40, .slice a41 l41 c41], .int .i64 1]) w36 R fun n42 w43 => (cB (decide (n42 < 0)) (R (.returned (.bool false)) w43) ((cB (n42 != n35) (R (.returned (.bool false)) w43) (clV 26 ([.string s1]) w43 R fun r50 w49 => ∃ t45, ∃ n46, ∃ n47, ∃ a48 l48 c48, r50 = .agg #[.bool t45, .int .i64 n46, .int .i64 n47, .slice a48 l48 c48] ∧ newC [.bool false, .int .i64 0, .int .i64 0, .slice none 0 0] 37 (fun b51 w52 => stW b51 0 [.bool t45, .int .i64 n46, .int .i64 n47, .slice a48 l48 c48] (fun w53 => lB w53 b51 0 fun t54 => lI w53 b51 1 fun n55 => lI w53 b51 2 fun n56 => lL w53 b51 3 fun a57 l57 c57 => lB w53 b8 0 fun t58 => lI w53 b8 1 fun n59 => lI w53 b8 2 fun n60 => lL w53 b8 3 fun a61 l61 c61 => clB 36 ([.agg #[.bool t54, .int .i64 n55, .int .i64 n56, .slice a57 l57 c57], .agg #[.bool t58, .int .i64 n59, .int .i64 n60, .slice a61 l61 c61]]) w53 R fun t62 w63 => (cB (!t62) (R (.returned (.bool false)) w63) (lB w63 b17 0 fun t65 => lI w63 b17 1 fun n66 => lI w63 b17 2 fun n67 => lL w63 b17 3 fun a68 l68 c68 => clI 38 ([.agg #[.bool t65, .int .i64 n66, .int .i64 n67, .slice a68 l68 c68], .int .i64 1]) w63 R fun n69 w70 => (cB (decide (n69 < 0)) (R (.returned (.bool false)) w70) ((cB (n69 != n35) (R (.returned (.bool false)) w70) (R (.returned (.bool true)) w70))))))) w52) w49))))))) w18) w15) w9) w6))
def scr6 : Scr := (.q 1 (.q 3 (.cond (.q 1 .nil) (.q 4 (.q 4 (.q 4 (.cond (.q 1 .nil) (.q 1 (.q 4 (.q 1 (.q 4 (.q 2 (.cond (.q 1 .nil) (.q 3 (.cond (.q 1 .nil) (.q 4 (.q 4 (.cond (.q 1 .nil) (.q 1 (.q 4 (.q 2 (.cond (.q 1 .nil) (.q 3 (.cond (.q 1 .nil) (.q 1 .nil)))))))))))))))))))))))))
theorem vc6 {s1} {R w} (h : V6 s1 R w) : Cl Try.prog 6 [.string s1] w R :=
  cl_of scr6 Try.func6 (by kernel_rfl) _ _ (by kernel_rfl) h
end Go.Proofs.Ytngbiaeliphdjaa.V
/- Two patterns are compared. No statement of the seat is proved here. -/
namespace Go.Vc
open Go.RowKit
set_option linter.unusedVariables false
set_option linter.unusedSimpArgs false
end Go.Vc
namespace Go.Vc
structure SmallB (p : Pc) : Prop where
  set : p.set.length ≤ 1048576
  kids : p.kids.length ≤ 1048576
def AllB (ps : List Pc) : Prop := ∀ p ∈ ps, SmallB p
end Go.Vc
namespace Go.Proofs.Ytngbiaeliphdjaa.V
open Go.Vc Go.Proofs Go.RowKit
set_option linter.unusedVariables false
set_option linter.unusedSimpArgs false
theorem eqRange_ok (n m : Int) (w : World) : Cl Try.prog 152 [.agg #[.int .i64 n, .int .i64 m], .agg #[.int .i64 n, .int .i64 m]] w (RetB (.bool true) w) := by
  apply vc152
  unfold V152
  refine newC_in fun w1 s1 k1 e1 => ?_
  refine newC_in fun w2 s2 k2 e2 => ?_
  have k1' := k1.keep e2 fun h => h
  have hb : Below w.heap.size w w2 := Ext.to (Ext.to (Below.refl _ _) e1 fun _ h => h.elim) e2 fun _ h => h.elim
  exact ⟨n, k1'.cell 0, n, k2.cell 0, fun g => by simp at g, fun _ => ⟨m, k1'.cell 1, m, k2.cell 1, fun g => by simp at g, fun _ => ⟨rfl, hb⟩⟩⟩
theorem eqRangeS_ok {w : World} {a1 a2 : Option Addr} {l1 l2 c1 c2 : Nat} {s : List (Int × Int)} (h1 : Vec w.heap 134 2 a1 l1 c1 (rngC s)) (h2 : Vec w.heap 134 2 a2 l2 c2 (rngC s)) (hl : s.length ≤ 1048576) :
    Cl Try.prog 136 [.slice a1 l1 c1, .slice a2 l2 c2] w (RetB (.bool true) w) := by
  apply vc136
  unfold V136
  have hl1 : l1 = s.length := by have := h1.1; rw [rngC_length] at this; omega
  have hl2 : l2 = s.length := by have := h2.1; rw [rngC_length] at this; omega
  subst hl1 hl2
  refine ⟨fun g => by simp at g, fun _ => ?_⟩
  refine ⟨fun k n w' => ∃ i : Nat, n = i ∧ i ≤ s.length ∧ k = s.length - i ∧ Below w.heap.size w w', ⟨_, 0, rfl, by omega, rfl, Below.refl _ _⟩, ?_⟩
  rintro k d n w1 ⟨i, rfl, hi, rfl, hb⟩
  refine ⟨fun g => ?_, fun g => ⟨rfl, hb⟩⟩
  have g' : i < s.length := by have := of_decide_eq_true g; omega
  have e0 : Int.toNat (i : Int) = i := by omega
  have e1 : IntKind.wrap .i64 ((i : Int) + 1) = ((i + 1 : Nat) : Int) := by rw [w64 (by omega)]; omega
  rw [e0, e1]
  refine drw_in fun w2 q2 e2 => ?_
  have hb2 : Below w.heap.size w w2 := Ext.to hb e2 fun _ h => h.elim
  have v1 := h1.keep (S := fun _ => False) (Ext.of_below hb2) fun _ _ h => h
  have v2 := h2.keep (S := fun _ => False) (Ext.of_below hb2) fun _ _ h => h
  obtain ⟨b, rfl, hcell⟩ := v1.open (by omega)
  obtain ⟨b', rfl, hcell'⟩ := v2.open (by omega)
  have hr := rngC_at s i g'
  refine ⟨b, 0, ⟨rfl, by omega, by omega⟩, s[i].1, by rw [Nat.zero_add, hcell _ (by omega)]; exact hr.1, s[i].2, by rw [Nat.zero_add, hcell _ (by omega)]; exact hr.2,
    b', 0, ⟨rfl, by omega, by omega⟩, s[i].1, by rw [Nat.zero_add, hcell' _ (by omega)]; exact hr.1, s[i].2, by rw [Nat.zero_add, hcell' _ (by omega)]; exact hr.2, ?_⟩
  exact (eqRange_ok _ _ w2).ret fun w3 hb3 => ⟨true, rfl, fun h => by simp at h, fun _ => ⟨_, by omega, i + 1, rfl, by omega, rfl, hb2.vstep hb3⟩⟩
theorem eqIntS_ok {w : World} {a1 a2 : Option Addr} {l1 l2 c1 c2 : Nat} {s : List Int} (h1 : Vec w.heap 3 1 a1 l1 c1 (intC s)) (h2 : Vec w.heap 3 1 a2 l2 c2 (intC s)) (hl : s.length ≤ 1048576) :
    Cl Try.prog 137 [.slice a1 l1 c1, .slice a2 l2 c2] w (RetB (.bool true) w) := by
  apply vc137
  unfold V137
  have hl1 : l1 = s.length := by have := h1.1; rw [intC_length] at this; omega
  have hl2 : l2 = s.length := by have := h2.1; rw [intC_length] at this; omega
  subst hl1 hl2
  refine ⟨fun g => by simp at g, fun _ => ?_⟩
  refine ⟨fun k n w' => ∃ i : Nat, n = i ∧ i ≤ s.length ∧ k = s.length - i ∧ Below w.heap.size w w', ⟨_, 0, rfl, by omega, rfl, Below.refl _ _⟩, ?_⟩
  rintro k d n w1 ⟨i, rfl, hi, rfl, hb⟩
  refine ⟨fun g => ?_, fun g => ⟨rfl, hb⟩⟩
  have g' : i < s.length := by have := of_decide_eq_true g; omega
  have e0 : Int.toNat (i : Int) = i := by omega
  have e1 : IntKind.wrap .i64 ((i : Int) + 1) = ((i + 1 : Nat) : Int) := by rw [w64 (by omega)]; omega
  rw [e0, e1]
  refine drw_in fun w2 q2 e2 => ?_
  have hb2 : Below w.heap.size w w2 := Ext.to hb e2 fun _ h => h.elim
  have v1 := h1.keep (S := fun _ => False) (Ext.of_below hb2) fun _ _ h => h
  have v2 := h2.keep (S := fun _ => False) (Ext.of_below hb2) fun _ _ h => h
  obtain ⟨b, rfl, hcell⟩ := v1.open (by omega)
  obtain ⟨b', rfl, hcell'⟩ := v2.open (by omega)
  have hr := intC_at s i g'
  refine ⟨b, 0, ⟨rfl, by omega, by omega⟩, s[i], by rw [Nat.zero_add, Nat.mul_one, hcell _ (by omega)]; exact hr,
    b', 0, ⟨rfl, by omega, by omega⟩, s[i], by rw [Nat.zero_add, Nat.mul_one, hcell' _ (by omega)]; exact hr, fun q => by simp at q, fun _ => ⟨_, by omega, i + 1, rfl, by omega, rfl, hb2⟩⟩
theorem eqPiece_ok {w : World} {r1 r2 : Raw} {p : Pc} (h1 : RawOk w r1 p) (h2 : RawOk w r2 p) (hp : SmallB p) : Cl Try.prog 116 [.agg ⟨r1.cells⟩, .agg ⟨r2.cells⟩] w (RetB (.bool true) w) := by
  refine vc116 (n1 := r1.kind) (a2 := r1.sa) (l2 := r1.sl) (c2 := r1.sc) (n3 := r1.min) (n4 := r1.max) (t5 := r1.lazy) (n6 := r1.num) (a7 := r1.ka) (l7 := r1.kl) (c7 := r1.kc) (n8 := r2.kind) (a9 := r2.sa) (l9 := r2.sl) (c9 := r2.sc) (n10 := r2.min) (n11 := r2.max) (t12 := r2.lazy) (n13 := r2.num) (a14 := r2.ka) (l14 := r2.kl) (c14 := r2.kc) ?_
  unfold V116
  refine newC_in fun w1 s1 k1 e1 => ?_
  refine newC_in fun w2 s2 k2 e2 => ?_
  have k1' := k1.keep e2 fun h => h
  have hb : Below w.heap.size w w2 := Ext.to (Ext.to (Below.refl _ _) e1 fun _ h => h.elim) e2 fun _ h => h.elim
  have H1 := h1.keep (S := fun _ => False) (Ext.of_below hb) fun _ _ h => h
  have H2 := h2.keep (S := fun _ => False) (Ext.of_below hb) fun _ _ h => h
  refine ⟨_, k1'.cell 0, _, k2.cell 0, fun g => by rw [h1.kind, h2.kind] at g; simp at g, fun _ => ⟨_, _, _, k1'.cell 1, _, _, _, k2.cell 1, ?_⟩⟩
  refine (eqRangeS_ok H1.set H2.set (by have := hp.set; omega)).ret fun w3 b3 => ⟨true, rfl, fun g => by simp at g, fun _ => ?_⟩
  have k1'' := k1'.below b3
  have k2'' := k2.below b3
  have H1' := H1.keep (S := fun _ => False) (Ext.of_below b3) fun _ _ h => h
  have H2' := H2.keep (S := fun _ => False) (Ext.of_below b3) fun _ _ h => h
  refine ⟨_, k1''.cell 2, _, k2''.cell 2, fun g => by rw [h1.min, h2.min] at g; simp at g, fun _ => ⟨_, k1''.cell 3, _, k2''.cell 3, fun g => by rw [h1.max, h2.max] at g; simp at g, fun _ => ⟨_, k1''.cell 4, _, k2''.cell 4, fun g => by rw [h1.lazy, h2.lazy] at g; simp at g, fun _ => ⟨_, k1''.cell 5, _, k2''.cell 5, fun g => by rw [h1.num, h2.num] at g; simp at g, fun _ => ⟨_, _, _, k1''.cell 6, _, _, _, k2''.cell 6, ?_⟩⟩⟩⟩⟩
  exact (eqIntS_ok H1'.kids H2'.kids (by have := hp.kids; omega)).ret fun w4 b4 => ⟨true, rfl, fun g => by simp at g, fun _ => ⟨rfl, (hb.vstep b3).vstep b4⟩⟩
theorem eqPieceS_ok {w : World} {N1 N2 : Nat} {a1 a2 : Option Addr} {l1 l2 c1 c2 : Nat} {rs1 rs2 : List Raw} {ps : List Pc} (h1 : Pcs N1 w a1 l1 c1 rs1 ps) (h2 : Pcs N2 w a2 l2 c2 rs2 ps) (hl : ps.length ≤ 1048576) (hp : AllB ps) :
    Cl Try.prog 85 [.slice a1 l1 c1, .slice a2 l2 c2] w (RetB (.bool true) w) := by
  apply vc85
  unfold V85
  have hl1 := h1.len'
  have hl2 := h2.len'
  refine ⟨fun g => ?_, fun _ => ?_⟩
  · rw [← hl1, ← hl2] at g; simp at g
  refine ⟨fun k n w' => ∃ i : Nat, n = i ∧ i ≤ ps.length ∧ k = ps.length - i ∧ Below w.heap.size w w', ⟨_, 0, rfl, by omega, rfl, Below.refl _ _⟩, ?_⟩
  rintro k d n w1 ⟨i, rfl, hi, rfl, hb⟩
  refine ⟨fun g => ?_, fun g => ⟨rfl, hb⟩⟩
  have g' : i < ps.length := by have := of_decide_eq_true g; omega
  have e0 : Int.toNat (i : Int) = i := by omega
  have e1 : IntKind.wrap .i64 ((i : Int) + 1) = ((i + 1 : Nat) : Int) := by rw [w64 (by omega)]; omega
  rw [e0, e1]
  refine drw_in fun w2 q2 e2 => ?_
  have hb2 : Below w.heap.size w w2 := Ext.to hb e2 fun _ h => h.elim
  have P1 := h1.below hb2
  have P2 := h2.below hb2
  have hr1 := P1.len
  have hr2 := P2.len
  obtain ⟨b, rfl, hcell⟩ := P1.row.open (by omega)
  obtain ⟨b', rfl, hcell'⟩ := P2.row.open (by omega)
  have q1 := raw_at hcell hr1 (i := i) (by omega)
  have q2 := raw_at hcell' hr2 (i := i) (by omega)
  refine ⟨b, 0, ⟨rfl, by omega, by omega⟩, _, q1 0 (by decide), _, _, _, q1 1 (by decide), _, q1 2 (by decide), _, q1 3 (by decide), _, q1 4 (by decide), _, q1 5 (by decide), _, _, _, q1 6 (by decide),
    b', 0, ⟨rfl, by omega, by omega⟩, _, q2 0 (by decide), _, _, _, q2 1 (by decide), _, q2 2 (by decide), _, q2 3 (by decide), _, q2 4 (by decide), _, q2 5 (by decide), _, _, _, q2 6 (by decide), ?_⟩
  have r1 := P1.all i _ _ (List.getElem?_eq_getElem (by omega)) (List.getElem?_eq_getElem g')
  have r2 := P2.all i _ _ (List.getElem?_eq_getElem (by omega)) (List.getElem?_eq_getElem g')
  exact (eqPiece_ok r1 r2 (hp _ (List.getElem_mem g'))).ret fun w3 hb3 => ⟨true, rfl, fun h => by simp at h, fun _ => ⟨_, by omega, i + 1, rfl, by omega, rfl, hb2.vstep hb3⟩⟩
theorem eqPattern_ok {w : World} {N1 N2 : Nat} {t : Bool} {n m : Int} {a1 a2 : Option Addr} {l1 l2 c1 c2 : Nat} {rs1 rs2 : List Raw} {ps : List Pc} (h1 : Pcs N1 w a1 l1 c1 rs1 ps) (h2 : Pcs N2 w a2 l2 c2 rs2 ps) (hl : ps.length ≤ 1048576) (hp : AllB ps) :
    Cl Try.prog 36 [.agg #[.bool t, .int .i64 n, .int .i64 m, .slice a1 l1 c1], .agg #[.bool t, .int .i64 n, .int .i64 m, .slice a2 l2 c2]] w (RetB (.bool true) w) := by
  apply vc36
  unfold V36
  refine newC_in fun w1 s1 k1 e1 => ?_
  refine newC_in fun w2 s2 k2 e2 => ?_
  have k1' := k1.keep e2 fun h => h
  have hb : Below w.heap.size w w2 := Ext.to (Ext.to (Below.refl _ _) e1 fun _ h => h.elim) e2 fun _ h => h.elim
  refine ⟨t, k1'.cell 0, t, k2.cell 0, fun g => by simp at g, fun _ => ⟨n, k1'.cell 1, n, k2.cell 1, fun g => by simp at g, fun _ => ⟨m, k1'.cell 2, m, k2.cell 2, fun g => by simp at g, fun _ => ⟨_, _, _, k1'.cell 3, _, _, _, k2.cell 3, ?_⟩⟩⟩⟩
  exact (eqPieceS_ok (h1.below hb) (h2.below hb) hl hp).ret fun w3 hb3 => ⟨true, rfl, fun h => by simp at h, fun _ => ⟨rfl, hb.vstep hb3⟩⟩
end Go.Proofs.Ytngbiaeliphdjaa.V
/- For the rows: what was read stays readable where nothing old has changed; bytes among the arguments. No statement of the seat is proved here. -/
namespace Go.Vc
open Go.RowKit
set_option linter.unusedVariables false
set_option linter.unusedSimpArgs false
theorem trodAll_carry {H : Type} {enc : TypeId × Value → H} {P : Program} {w w' : World} {spare : Nat → Bool} {held : Bool} (hb : Below w.heap.size w w') :
    ∀ {ts : List TypeId} {vs : List Value} {ds : List (DataW H)} {ps : List MemPlace}, DataW.TrodAll enc P w 0 spare held ts vs ds ps → DataW.TrodAll enc P w' 0 spare held ts vs ds ps
  | [], [], [], ps, h => h
  | t :: ts, v :: vs, d :: ds, ps, ⟨p, q, ⟨n, h1⟩, h2, h3⟩ =>
    ⟨p, q, ⟨n, DataW.trod_carry n t v.cells.toList (d, p) h1 fun x hx => hb.same (DataW.trod_lt n t v.cells.toList (d, p) h1 x hx)⟩, trodAll_carry hb h2, h3⟩
  | [], [], _ :: _, _, h => h.elim
  | [], _ :: _, _, _, h => h.elim
  | _ :: _, [], _, _, h => h.elim
  | _ :: _, _ :: _, [], _, h => h.elim
theorem trodAll_back {H : Type} {enc : TypeId × Value → H} {P : Program} {w w' : World} (hb : Below w.heap.size w w') (hl : laidOutB P = true) (hm : mapsRowed P = true)
    (hf : ((List.range P.types.size).all fun t => match P.underlying t with | some (.slice e) => decide (0 < P.cellsOf e) | _ => true) = true) {ts : List TypeId} {vs : List Value} {ds : List (DataW H)} {ps : List MemPlace}
    (ht : (ts.all fun t => decide (t < P.types.size)) = true) (h : DataW.TrodAll enc P w 0 (fun _ => true) true ts vs ds ps) : DataW.TrodAll enc P w' 0 (fun b => decide (b < w.heap.size)) true ts vs ds ps :=
  trodAll_carry hb (DataW.TrodAll.respare (kids_rows hl hm) (fun t e h1 h2 => slices_full_of P hf t e h1 h2) (fun t h1 => of_decide_eq_true (List.all_eq_true.1 ht t h1)) h fun p hp => decide_eq_true (DataW.TrodAll.lt h p hp))

/-- The given bytes: readable, below B. -/
def GBytes (w : World) (B : Nat) (a : Option Addr) (l : Nat) : Prop :=
  l ≤ 1048576 ∧ (l = 0 ∨ ∃ b o, a = some ⟨b, o, none⟩ ∧ b < B ∧ ∀ i, i < l → ∃ n : Int, 0 ≤ n ∧ n ≤ 255 ∧ cellH w.heap b (o + i) = some (.int .u8 n))
theorem open_bytes {H : Type} {enc : TypeId × Value → H} {P : Program} {w : World} {base : Nat} {spare : Nat → Bool} {held : Bool} {r : Reach} {b0 : Nat} {t e : TypeId} {v : Value} {d : DataW H} {ps : List MemPlace}
    (ht : P.underlying t = some (.slice e)) (he : P.underlying e = some (.int .u8)) (hc : P.cellsOf e = 1) (hval : Value.okWide P w r b0 t v) (hd : DataW.Trod enc P w base spare held t v d ps) :
    ∃ a l c, v = .slice a l c ∧ (l ≤ 1048576 → GBytes w w.heap.size a l) := by
  obtain ⟨a0, l0, c0, rfl⟩ := Go.WideShapes.okWide_slice ht hval
  obtain ⟨fuel, hf⟩ := hd
  refine ⟨a0, l0, c0, rfl, fun hl => ⟨hl, ?_⟩⟩
  rcases Go.ChangeShapes.open_ints ht he hc hf with ⟨h1, _⟩ | ⟨a, len, cap, zs, h1, _, hle, _, hlen, _, hcell, hwf⟩
  · simp [Value.cells] at h1
    obtain ⟨rfl, rfl, rfl⟩ := h1
    exact .inl rfl
  · simp [Value.cells] at h1
    obtain ⟨rfl, rfl, rfl⟩ := h1
    by_cases h0 : l0 = 0
    · exact .inl h0
    have hz : l0 ≤ zs.length := by rw [hlen]; split <;> omega
    obtain ⟨b, o, rfl, hcell2⟩ := ints_at hcell (by omega)
    have hcell' : ∀ i, i < zs.length → cellH w.heap b (o + i) = some (.int .u8 (zs.getD i 0)) := fun i hi => by
      rw [← cell?_plain]; exact hcell2 i hi
    refine .inr ⟨b, o, rfl, ?_, fun i hi => ⟨zs.getD i 0, ?_, ?_, hcell' i (by omega)⟩⟩
    · have := hcell' 0 (by omega)
      rcases Nat.lt_or_ge b w.heap.size with h | h
      · exact h
      · unfold cellH at this; rw [Array.getElem?_eq_none h] at this; cases this
    · have := bounds_u8 (hwf (zs.getD i 0) (by rw [List.getD_eq_getElem?_getD, List.getElem?_eq_getElem (by omega)]; exact List.getElem_mem _)); omega
    · have := bounds_u8 (hwf (zs.getD i 0) (by rw [List.getD_eq_getElem?_getD, List.getElem?_eq_getElem (by omega)]; exact List.getElem_mem _)); omega
end Go.Vc
/- A pattern among the arguments is opened to its cells. No statement of the seat is proved here. -/
namespace Go.Vc
open Go.RowKit Go.ChangeShapes Go.WideShapes Go.Deep
set_option linter.unusedVariables false
set_option linter.unusedSimpArgs false
theorem list_of {α : Type} {Q : Nat → α → Prop} : ∀ (l : Nat), (∀ i, i < l → ∃ x, Q i x) → ∃ xs : List α, xs.length = l ∧ ∀ i x, xs[i]? = some x → Q i x
  | 0, _ => ⟨[], rfl, by intro i x h; simp at h⟩
  | l + 1, h => by
    obtain ⟨xs, h1, h2⟩ := list_of l fun i hi => h i (by omega)
    obtain ⟨x, hx⟩ := h l (by omega)
    refine ⟨xs ++ [x], by rw [List.length_append, h1]; rfl, fun i y hy => ?_⟩
    rw [List.getElem?_append] at hy
    split at hy
    · exact h2 i y hy
    · rename_i hi
      have h0 : i - xs.length = 0 := by
        cases hd : i - xs.length with
        | zero => rfl
        | succ n => rw [hd] at hy; simp at hy
      rw [h0] at hy
      simp only [List.getElem?_cons_zero, Option.some.injEq] at hy
      subst hy
      obtain rfl : i = l := by omega
      exact hx
theorem GRow.of {W : World} {sz : Nat} {a : Option Addr} {l : Nat} {xs : List Value} (hx : xs.length = l * sz) (hl : l ≤ 9223372036854775807) (hs : 0 < sz)
    (h : ∀ i, i < l → ∃ b o, a = some ⟨b, o, none⟩ ∧ ∀ j, j < sz → ∃ u, cellH W.heap b (o + (i * sz + j)) = some u ∧ xs[i * sz + j]? = some u) : GRow W sz a l xs := by
  refine ⟨hx, hl, ?_⟩
  by_cases h0 : l = 0
  · exact .inl h0
  obtain ⟨b, o, ha, hc⟩ := h 0 (by omega)
  obtain ⟨u, hu, _⟩ := hc 0 hs
  refine .inr ⟨b, o, ha, ?_, fun k hk => ?_⟩
  · rcases Nat.lt_or_ge b W.heap.size with h | h
    · exact h
    · unfold cellH at hu; rw [Array.getElem?_eq_none h] at hu; cases hu
  · have hdl : k / sz < l := (Nat.div_lt_iff_lt_mul hs).2 hk
    obtain ⟨b2, o2, ha2, hc2⟩ := h (k / sz) hdl
    rw [ha] at ha2
    simp only [Option.some.injEq, Addr.mk.injEq] at ha2
    obtain ⟨rfl, rfl, _⟩ := ha2
    obtain ⟨v, hv, hv2⟩ := hc2 (k % sz) (Nat.mod_lt _ hs)
    have e : k / sz * sz + k % sz = k := Nat.div_add_mod' k sz
    rw [e] at hv hv2
    rw [hv, hv2]
section
variable {H : Type} {enc : TypeId × Value → H} {P : Program} {w : World} {base : Nat} {spare : Nat → Bool} {held : Bool}
theorem fields_of {t e : TypeId} {fs : Array Field} {fuel : Nat} {v : Value} {x : DataW H × List MemPlace} (ht : P.underlying t = some (.slice e)) (he : P.underlying e = some (.struct fs)) (hone : oneCellFields P fs = true) (hC : P.cellsOf e = fs.size) (hp : 0 < fs.size)
    (h : DataW.trod enc P w base spare held fuel t [v] = some x) :
    ∃ a l c, v = .slice a l c ∧ l ≤ 9223372036854775807 ∧ ∀ i, i < l → ∃ b o n, a = some ⟨b, o, none⟩ ∧ ∀ j f, fs[j]? = some f → ∃ u y, cellH w.heap b (o + (i * fs.size + j)) = some u ∧ DataW.trod enc P w base spare held n f.type [u] = some y := by
  rcases Go.Deep.open_slice ht h with ⟨h0, _⟩ | ⟨a, len, cap, m, n, D, Pl, hcs, _, hl, hm, hmm, _, hi⟩
  · obtain rfl : v = .slice none 0 0 := by injection h0
    exact ⟨none, 0, 0, rfl, by omega, fun i hi => by omega⟩
  · obtain rfl : v = .slice (some a) len cap := by injection hcs
    have hmx : maxLen = 9223372036854775807 := rfl
    refine ⟨some a, len, cap, rfl, by omega, fun i hil => ?_⟩
    obtain ⟨cs, hc, htr⟩ := hi i (by rw [hmm]; split <;> omega)
    rw [hC] at hc
    obtain ⟨ys, n', _, _, hlen, hyl, hf⟩ := DataW.trod_struct he htr
    obtain ⟨_, hcl, hat⟩ := World.cells?_some hc
    have hget : ∀ j, j < fs.size → ∃ u, cs[j]? = some u ∧ w.cell? ((a.add (i * fs.size)).add j) = some u := fun j hj => by
      have hv : cs[j]? = some (cs[j]'(by omega)) := List.getElem?_eq_getElem (by omega)
      exact ⟨_, hv, by rw [hat j hj]; exact hv⟩
    have hsp : a.spot = none := by
      obtain ⟨cs0, hc0, _⟩ := hi 0 (by rw [hmm]; split <;> omega)
      rw [hC] at hc0
      obtain ⟨_, hcl0, hat0⟩ := World.cells?_some hc0
      have h00 := hat0 0 hp
      rw [List.getElem?_eq_getElem (by omega)] at h00
      have := World.cell?_spot h00
      simpa [Addr.add] using this
    obtain ⟨b, o, sp⟩ := a
    simp only at hsp
    subst hsp
    refine ⟨b, o, n', rfl, fun j f hj => ?_⟩
    have hjl : j < fs.size := (Array.getElem?_eq_some_iff.1 hj).1
    obtain ⟨ho, hk⟩ := hone_of hone j f hj
    obtain ⟨u, hu1, hu2⟩ := hget j hjl
    rw [Go.WideShapes.add_plain, Go.WideShapes.add_plain, cell?_plain] at hu2
    have h1 := hf j f hj
    rw [ho, hk] at h1
    have hone' : (cs.drop j).take 1 = [u] := by
      have hjc := List.getElem?_eq_some_iff.1 hu1
      rw [List.drop_eq_getElem_cons hjc.1, hjc.2]
      rfl
    rw [hone'] at h1
    have hys : ys[j]? = some (ys[j]'(by omega)) := List.getElem?_eq_getElem (by omega)
    exact ⟨u, _, by rw [← Nat.add_assoc]; exact hu2, h1.trans hys⟩
end
end Go.Vc
namespace Go.Proofs.Ytngbiaeliphdjaa.V
open Go.Vc Go.Proofs Go.RowKit Go.ChangeShapes Go.WideShapes Go.Deep
set_option linter.unusedVariables false
set_option linter.unusedSimpArgs false
section
variable {H : Type} {enc : TypeId × Value → H} {w : World} {base : Nat} {spare : Nat → Bool} {held : Bool}
def fld (n : String) (t o b : Nat) : Field := { name := n, type := t, offset := o, embedded := false, tag := "", pkgPath := "", byteOffset := b }
theorem u3 : Try.prog.underlying 3 = some (.int .i64) := by kernel_rfl
theorem u4 : Try.prog.underlying 4 = some .bool := by kernel_rfl
theorem u109 : Try.prog.underlying 109 = some (.slice 3) := by kernel_rfl
theorem u153 : Try.prog.underlying 153 = some (.slice 197) := by kernel_rfl
theorem u60 : Try.prog.underlying 60 = some (.slice 155) := by kernel_rfl
theorem u197 : Try.prog.underlying 197 = some (.struct #[fld "Lo" 3 0 0, fld "Hi" 3 1 8]) := by kernel_rfl
theorem u155 : Try.prog.underlying 155 = some (.struct #[fld "Kind" 3 0 0, fld "Set" 153 1 8, fld "Min" 3 2 32, fld "Max" 3 3 40, fld "Lazy" 4 4 48, fld "Num" 3 5 56, fld "Kids" 109 6 64]) := by kernel_rfl
theorem u62 : Try.prog.underlying 62 = some (.struct #[fld "Ok" 4 0 0, fld "At" 3 1 8, fld "Groups" 3 2 16, fld "Pieces" 60 3 24]) := by kernel_rfl
theorem open_i {fuel : Nat} {v : Value} {x : DataW H × List MemPlace} (h : DataW.trod enc Try.prog w base spare held fuel 3 [v] = some x) : ∃ n, v = .int .i64 n := by
  obtain ⟨n, hn, _⟩ := DataW.trod_int u3 h
  exact ⟨n, by injection hn⟩
theorem open_b {fuel : Nat} {v : Value} {x : DataW H × List MemPlace} (h : DataW.trod enc Try.prog w base spare held fuel 4 [v] = some x) : ∃ b, v = .bool b := by
  obtain ⟨n, hn, _⟩ := DataW.trod_bool u4 h
  exact ⟨n, by injection hn⟩
theorem open_is {fuel : Nat} {v : Value} {x : DataW H × List MemPlace} (h : DataW.trod enc Try.prog w base spare held fuel 109 [v] = some x) : ∃ a l c s, v = .slice a l c ∧ GRow w 1 a l (intC s) := by
  rcases Go.Deep.open_slice1 u109 (by kernel_rfl) h with ⟨h0, _⟩ | ⟨a, len, cap, m, n, V, D, Pl, hcs, _, hl, hm, hmm, _, hi⟩
  · obtain rfl : v = .slice none 0 0 := by injection h0
    exact ⟨none, 0, 0, [], rfl, rfl, by omega, .inl rfl⟩
  · obtain rfl : v = .slice (some a) len cap := by injection hcs
    have hmx : maxLen = 9223372036854775807 := rfl
    have each : ∀ i, i < len → ∃ k : Int, ∃ b o, some a = some ⟨b, o, none⟩ ∧ cellH w.heap b (o + i) = some (.int .i64 k) := fun i hil => by
      obtain ⟨hc, ht⟩ := hi i (by rw [hmm]; split <;> omega)
      obtain ⟨k, hk⟩ := open_i ht
      rw [hk] at hc
      have hsp : a.spot = none := by
        have := World.cell?_spot (hi 0 (by rw [hmm]; split <;> omega)).1
        simpa [Addr.add] using this
      obtain ⟨b, o, sp⟩ := a
      simp only at hsp
      subst hsp
      rw [Go.WideShapes.add_plain, cell?_plain] at hc
      exact ⟨k, b, o, rfl, hc⟩
    obtain ⟨s, hs, hq⟩ := list_of len each
    refine ⟨some a, len, cap, s, rfl, GRow.of (by rw [intC_length, hs]) (by omega) (by omega) fun i hil => ?_⟩
    have his : i < s.length := by omega
    obtain ⟨b, o, ha, hc⟩ := hq i _ (List.getElem?_eq_getElem his)
    refine ⟨b, o, ha, fun j hj => ?_⟩
    obtain rfl : j = 0 := by omega
    rw [show i * 1 + 0 = i from by omega]
    exact ⟨_, hc, intC_at s i his⟩
theorem open_rs {fuel : Nat} {v : Value} {x : DataW H × List MemPlace} (h : DataW.trod enc Try.prog w base spare held fuel 153 [v] = some x) : ∃ a l c s, v = .slice a l c ∧ GRow w 2 a l (rngC s) := by
  obtain ⟨a, l, c, rfl, hl, hf⟩ := fields_of u153 u197 (by kernel_rfl) (by kernel_rfl) (by decide) h
  have each : ∀ i, i < l → ∃ p : Int × Int, ∃ b o, a = some ⟨b, o, none⟩ ∧ cellH w.heap b (o + (i * 2 + 0)) = some (.int .i64 p.1) ∧ cellH w.heap b (o + (i * 2 + 1)) = some (.int .i64 p.2) := fun i hi => by
    obtain ⟨b, o, n, ha, hc⟩ := hf i hi
    obtain ⟨u0, y0, h0, t0⟩ := hc 0 _ rfl
    obtain ⟨u1, y1, h1, t1⟩ := hc 1 _ rfl
    obtain ⟨k0, rfl⟩ := open_i t0
    obtain ⟨k1, rfl⟩ := open_i t1
    exact ⟨(k0, k1), b, o, ha, h0, h1⟩
  obtain ⟨s, hs, hq⟩ := list_of l each
  refine ⟨a, l, c, s, rfl, GRow.of (by rw [rngC_length, hs]) hl (by omega) fun i hi => ?_⟩
  have his : i < s.length := by omega
  obtain ⟨b, o, ha, h0, h1⟩ := hq i _ (List.getElem?_eq_getElem his)
  have m := rngC_at s i his
  refine ⟨b, o, ha, fun j hj => ?_⟩
  rcases (show j = 0 ∨ j = 1 by omega) with rfl | rfl
  · exact ⟨_, h0, m.1⟩
  · exact ⟨_, h1, m.2⟩
theorem open_ps {fuel : Nat} {v : Value} {x : DataW H × List MemPlace} (h : DataW.trod enc Try.prog w base spare held fuel 60 [v] = some x) : ∃ a l c rs ps, v = .slice a l c ∧ GPcs w a l rs ps := by
  obtain ⟨a, l, c, rfl, hl, hf⟩ := fields_of u60 u155 (by kernel_rfl) (by kernel_rfl) (by decide) h
  have each : ∀ i, i < l → ∃ rp : Raw × Pc, RawG w rp.1 rp.2 ∧ ∃ b o, a = some ⟨b, o, none⟩ ∧ ∀ j, j < 7 → cellH w.heap b (o + (i * 7 + j)) = rp.1.cells[j]? := fun i hi => by
    obtain ⟨b, o, n, ha, hc⟩ := hf i hi
    obtain ⟨u0, y0, h0, t0⟩ := hc 0 _ rfl
    obtain ⟨u1, y1, h1, t1⟩ := hc 1 _ rfl
    obtain ⟨u2, y2, h2, t2⟩ := hc 2 _ rfl
    obtain ⟨u3, y3, h3, t3⟩ := hc 3 _ rfl
    obtain ⟨u4, y4, h4, t4⟩ := hc 4 _ rfl
    obtain ⟨u5, y5, h5, t5⟩ := hc 5 _ rfl
    obtain ⟨u6, y6, h6, t6⟩ := hc 6 _ rfl
    obtain ⟨k0, rfl⟩ := open_i t0
    obtain ⟨sa, sl, sc, s, rfl, gs⟩ := open_rs t1
    obtain ⟨k2, rfl⟩ := open_i t2
    obtain ⟨k3, rfl⟩ := open_i t3
    obtain ⟨k4, rfl⟩ := open_b t4
    obtain ⟨k5, rfl⟩ := open_i t5
    obtain ⟨ka, kl, kc, q, rfl, gk⟩ := open_is t6
    refine ⟨(⟨k0, sa, sl, sc, k2, k3, k4, k5, ka, kl, kc⟩, { kind := k0, set := s, min := k2, max := k3, lazy := k4, num := k5, kids := q }), ⟨rfl, rfl, rfl, rfl, rfl, gs, gk⟩, b, o, ha, fun j hj => ?_⟩
    rcases (show j = 0 ∨ j = 1 ∨ j = 2 ∨ j = 3 ∨ j = 4 ∨ j = 5 ∨ j = 6 by omega) with rfl | rfl | rfl | rfl | rfl | rfl | rfl
    · exact h0
    · exact h1
    · exact h2
    · exact h3
    · exact h4
    · exact h5
    · exact h6
  obtain ⟨xs, hs, hq⟩ := list_of l each
  refine ⟨a, l, c, xs.map (·.1), xs.map (·.2), rfl, ⟨GRow.of (by rw [rawC_length, List.length_map, hs]) hl (by omega) fun i hi => ?_, by rw [List.length_map, hs], by rw [List.length_map, hs], fun i r p hr hp => ?_⟩⟩
  · have hix : i < xs.length := by omega
    obtain ⟨_, b, o, ha, hc⟩ := hq i _ (List.getElem?_eq_getElem hix)
    refine ⟨b, o, ha, fun j hj => ?_⟩
    have e := rawC_at (xs.map (·.1)) i (by rw [List.length_map]; exact hix) j hj
    rw [List.getElem_map] at e
    rw [hc j hj, e]
    have hl7 : (xs[i].1.cells).length = 7 := rfl
    exact ⟨_, List.getElem?_eq_getElem (by omega), List.getElem?_eq_getElem (by omega)⟩
  · rw [List.getElem?_map] at hr hp
    cases hx : xs[i]? with
    | none => rw [hx] at hr; cases hr
    | some y =>
      rw [hx] at hr hp
      simp only [Option.map_some, Option.some.injEq] at hr hp
      subst hr hp
      exact (hq i y hx).1
set_option maxRecDepth 100000 in
theorem open_pattern {r : Reach} {b0 : Nat} {v : Value} {d : DataW H} {p : List MemPlace} (hv : Value.okWide Try.prog w r b0 62 v) (h : DataW.Trod enc Try.prog w base spare held 62 v d p) :
    ∃ (t : Bool) (n m : Int) (a : Option Addr) (l c : Nat) (rs : List Raw) (ps : List Pc), v = .agg #[.bool t, .int .i64 n, .int .i64 m, .slice a l c] ∧ GPcs w a l rs ps := by
  obtain ⟨v0, v1, v2, v3, y0, y1, y2, y3, n, rfl, _, _, t0, t1, t2, t3⟩ := Go.Joins.open_agg4 u62 (by kernel_rfl) (by kernel_rfl) hv h
  obtain ⟨k0, rfl⟩ := open_b t0
  obtain ⟨k1, rfl⟩ := open_i t1
  obtain ⟨k2, rfl⟩ := open_i t2
  obtain ⟨a, l, c, rs, ps, rfl, hg⟩ := open_ps t3
  exact ⟨k0, k1, k2, a, l, c, rs, ps, rfl, hg⟩
end
end Go.Proofs.Ytngbiaeliphdjaa.V
/- The law on WritePattern at every argument. No statement of the seat is proved here. -/
namespace Go.Proofs.Ytngbiaeliphdjaa.V
open Go.Vc Go.Proofs Go.RowKit
set_option linter.unusedVariables false
set_option linter.unusedSimpArgs false
theorem lawWrite_ok (t : Bool) (n m : Int) (a : Option Addr) (l c : Nat) (rs : List Raw) (ps : List Pc) (w : World) (h : GPcs w a l rs ps) : Cl Try.prog 13 [.agg #[.bool t, .int .i64 n, .int .i64 m, .slice a l c]] w (RetB (.bool true) w) := by
  apply vc13
  unfold V13
  refine newC_in fun w6 s6 k6 e6 => ?_
  have B6 : Below w.heap.size w w6 := Ext.to (Below.refl _ _) e6 fun _ h => h.elim
  refine ⟨_, k6.cell 0, _, k6.cell 1, _, k6.cell 2, _, _, _, k6.cell 3, (szPattern_ok B6 h (by omega)).use fun e w12 he => ?_⟩
  obtain ⟨k, rfl, hk1, hk2, hk3, B12⟩ := he
  have B12' := B6.vstep B12
  have k12 := k6.below B12
  refine ⟨k, rfl, fun _ => ⟨rfl, B12'⟩, fun g => ?_⟩
  obtain ⟨hl, hm⟩ := hk3 (by have := of_decide_eq_false g; omega)
  have hlen' := h.len'
  have hf : Fits ps := ⟨by omega, fun x hx => by have := hm x hx; omega⟩
  have hb : AllB ps := fun x hx => ⟨(hm x hx).1, (hm x hx).2⟩
  refine ⟨_, k12.cell 0, _, k12.cell 1, _, k12.cell 2, _, _, _, k12.cell 3, (toPattern_ok B12' h hl hm).use fun e w22 he => ?_⟩
  obtain ⟨a21, l21, c21, rs1, rfl, P22, B22⟩ := he
  have k22 := k12.below B22
  have B22' := B12'.vstep B22
  refine ⟨_, _, _, _, _, _, rfl, (specWrite_ok P22 hf _ _ _).use fun e w25 he => ?_⟩
  obtain ⟨s, rfl, hws, B25⟩ := he
  have k25 := k22.below B25
  have B25' := B22'.vstep B25
  refine ⟨_, rfl, _, k25.cell 0, _, k25.cell 1, _, k25.cell 2, _, _, _, k25.cell 3, (toPattern_ok B25' h hl hm).use fun e w35 he => ?_⟩
  obtain ⟨a34, l34, c34, rs2, rfl, P35, B35⟩ := he
  have k35 := k25.below B35
  have B35' := B25'.vstep B35
  refine ⟨_, _, _, _, _, _, rfl, ?_⟩
  refine newC_in fun w38 s38 k38 e38 => ?_
  refine stW_in k38 (by show 0 + 4 ≤ 4; decide) fun w39 s39 k39 e39 => ?_
  have B3539 : Below w35.heap.size w35 w39 := Ext.to (Ext.to (Below.refl _ _) e38 fun _ h => h.elim) e39 fun i hi => by omega
  have k6x := k35.below B3539
  have P39 := P35.below B3539
  have B39 := B35'.vstep B3539
  refine ⟨_, k39.cell 0, _, k39.cell 1, _, k39.cell 2, _, _, _, k39.cell 3, (implWrite_ok P39 hf _ _ _).use fun e w45 he => ?_⟩
  obtain ⟨s', rfl, hwi, B45⟩ := he
  have hs := WI.spec hwi hws
  subst hs
  have k45 := k39.below B45
  have k6y := k6x.below B45
  have P45 := P39.below B45
  have B45' := B39.vstep B45
  refine ⟨_, rfl, fun g => by simp at g, fun _ => ?_⟩
  refine drw_in fun w47 z47 x47 => ?_
  have B4547 : Below w45.heap.size w45 w47 := Ext.to (Below.refl _ _) x47 fun _ h => h.elim
  have k47 := k45.below B4547
  have k6z := k6y.below B4547
  have P47 := P45.below B4547
  have B47 := B45'.vstep B4547
  refine ⟨_, k47.cell 0, _, k47.cell 1, _, k47.cell 2, _, _, _, k47.cell 3, _, k6z.cell 0, _, k6z.cell 1, _, k6z.cell 2, _, _, _, k6z.cell 3, (toPattern_ok B47 h hl hm).use fun e w60 he => ?_⟩
  obtain ⟨a59, l59, c59, rs3, rfl, P60, B60⟩ := he
  refine ⟨_, _, _, _, _, _, rfl, (k47.below B60).cellsAt (n := 4) rfl rfl, ?_⟩
  exact (eqPattern_ok (P47.below B60) P60 (by omega) hb).ret fun w63 B63 => ⟨true, rfl, fun g => by simp at g, fun _ => ⟨rfl, (B47.vstep B60).vstep B63⟩⟩
end Go.Proofs.Ytngbiaeliphdjaa.V

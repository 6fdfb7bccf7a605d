/- Parts of a proof, put together: definitions, formulas of Go functions and lemmas. No statement of the seat is proved here. -/
import Derived.ChangeOld
import Derived.ChangeReads
import Derived.ChangeSlices
import Derived.OpenShut
import Derived.ReadAgain
import Derived.Test.YtngbiaeliphdjaaRjE
set_option maxHeartbeats 4000000
/- The program writes a pattern: the walk. No statement of the seat is proved here. -/
namespace Go.Proofs.Ytngbiaeliphdjaa.V
open Go.Vc Go.Proofs Go.RowKit
set_option linter.unusedVariables false
set_option linter.unusedSimpArgs false
theorem elemDone : Elem Try.prog 107 113 2 24 := ⟨by kernel_rfl, by kernel_rfl, by kernel_rfl, ⟨[.int .i64 0, .string ⟨#[]⟩], by kernel_rfl, rfl⟩⟩
theorem numI_le (n : Int) : (numI n).length ≤ 2 := by
  unfold numI
  split
  · decide
  · exact decN_le _
theorem altJ_mono (ts : List Bytes) (k : Nat) : (altJ (ts.take k)).length ≤ (altJ ts).length := by
  match ts, k with
  | [], k => simp
  | t :: r, 0 => simp [altJ]
  | t :: r, k + 1 =>
    show (altJ (t :: r.take k)).length ≤ _
    unfold altJ
    simp only []
    rw [foldl_len, foldl_len]
    have : ((r.take k).map List.length).sum ≤ (r.map List.length).sum := by
      conv => rhs; rw [← List.take_append_drop k r]
      rw [List.map_append, List.sum_append]; omega
    rw [List.length_take]; omega
theorem sum_le {α : Type} (f : α → Nat) (b : Nat) : ∀ (l : List α), (∀ x ∈ l, f x ≤ b) → (l.map f).sum ≤ b * l.length
  | [], _ => by simp
  | a :: r, h => by
    have h1 := sum_le f b r fun x hx => h x (List.mem_cons_of_mem _ hx)
    have h2 := h a (List.mem_cons_self ..)
    simp only [List.map_cons, List.sum_cons, List.length_cons, Nat.mul_add]; omega
theorem headD_get : ∀ (D : Sk) (h : 0 < D.length), (D.map (·.2)).headD [] = (D[0]'h).2
  | d :: _, _ => rfl
theorem setT_len2 (s : List (Int × Int)) : (setT s).length ≤ 9 * s.length + 20 := by
  unfold setT
  split
  · simp [allT]
  · split
    · have := (escB_len (s.headD (0, 0)).1.toNat).2; omega
    · have := flat_rng s
      rw [List.length_cons, List.length_append, List.length_singleton]; omega
theorem implWrite_ok {w : World} {N : Nat} {a : Option Addr} {l c : Nat} {rs : List Raw} {ps : List Pc} (hP : Pcs N w a l c rs ps) (hf : Fits ps) (ok : Bool) (at_ g : Int) :
    Cl Try.prog 59 [.agg #[.bool ok, .int .i64 at_, .int .i64 g, .slice a l c]] w (RetW (WI ok at_ g ps) w) := by
  apply vc59
  unfold V59
  have hl := hP.len
  have hl' := hP.len'
  have hfl := hf.1
  have no : (¬ ∃ k t, mach ps 0 [] = some [(k, t)] ∧ EqP (readP t) ok at_ g ps) → ∀ {w' : World}, Below w.heap.size w w' → RetW (WI ok at_ g ps) w (.returned (.string (⟨#[]⟩ : ByteArray))) w' := fun hn _ hb => ⟨[], rfl, .inr ⟨rfl, hn⟩, hb⟩
  have no0 : mach ps 0 [] = none → ∀ {w' : World}, Below w.heap.size w w' → RetW (WI ok at_ g ps) w (.returned (.string (⟨#[]⟩ : ByteArray))) w' := fun hn => no (by rintro ⟨k, t, h, _⟩; rw [hn] at h; cases h)
  refine newC_in fun w6 s6 k6 e6 => ?_
  have B6 : Below w.heap.size w w6 := Ext.to (Below.refl _ _) e6 fun _ h => h.elim
  have P6 := hP.below B6
  refine ⟨_, _, _, k6.cell 3, fun m a13 l13 c13 n w' => ∃ (i : Nat) (st : Sk), n = i ∧ i ≤ ps.length ∧ m = ps.length - i ∧ mach (ps.take i) 0 [] = some st ∧ l13 = st.length ∧ st.length ≤ i ∧ (∀ d ∈ st, d.2.length ≤ 120) ∧ Vec w'.heap 113 2 a13 l13 c13 (dnC st) ∧ Below w6.heap.size w6 w', ⟨_, 0, [], rfl, by omega, rfl, rfl, rfl, by simp, (by intro d hd; cases hd), Vec.nil _ _ _, Below.refl _ _⟩, ?_⟩
  rintro m d a13 l13 c13 _ w11 ⟨i, st, rfl, hi, rfl, hm, rfl, hsti, h120, hv, B11⟩
  have B11' := B6.vstep B11
  have k11 := k6.below B11
  have hvlc := hv.2.1
  refine ⟨fun g0 => ?_, fun g0 => ?_⟩
  rotate_left
  · -- the end
    have hie : i = ps.length := by have := of_decide_eq_false g0; omega
    subst hie
    rw [List.take_length] at hm
    refine ⟨fun g1 => no (fun ⟨k, t, h, _⟩ => ?_) B11', fun g1 => ?_⟩
    · rw [hm] at h
      cases h
      simp at g1
    have g1' : st.length = 1 := by have : ((st.length : Nat) : Int) = 1 := by simpa using g1
                                   omega
    obtain ⟨dd, rfl⟩ : ∃ dd, st = [dd] := by
      match st, g1' with
      | [x], _ => exact ⟨x, rfl⟩
    refine drw_in fun w122 z122 x122 => ?_
    have B122 : Below w11.heap.size w11 w122 := Ext.to (Below.refl _ _) x122 fun _ h => h.elim
    have hv122 := hv.keep x122 fun _ _ h => h
    obtain ⟨b1, hb1, hc1⟩ := hv122.open (by simp)
    have c1 : cellH w122.heap b1 (0 + 1) = some (.string (B dd.2)) := by rw [hc1 1 (by simp)]; rfl
    have k122 := k11.below B122
    refine ⟨b1, 0, ⟨hb1, by omega, by simp⟩, _, c1, _, k122.cell 0, _, k122.cell 1, _, k122.cell 2, _, _, _, k122.cell 3, (readPattern_ok _ w122).use fun e w134 he => ?_⟩
    rw [L_B] at he
    obtain ⟨a2, l2, c2, rs2, rfl, P134, B134⟩ := he
    have k134 := k122.below B134
    have B134' := (B11'.vstep B122).vstep B134
    have O134 := ((P6.below B11).below B122).below B134
    refine ⟨_, _, _, _, _, _, rfl, k134.cellsAt (n := 4) rfl rfl, (same_ok P134 O134 (fits_read dd.2) hf _ _ _ _ _ _).use fun e w137 he => ?_⟩
    obtain ⟨b, rfl, hb, B137⟩ := he
    refine ⟨b, rfl, fun g2 => no (fun ⟨k, t, h, hE⟩ => ?_) (B134'.vstep B137), fun g2 => ?_⟩
    · rw [hm] at h
      simp only [Option.some.injEq, List.cons.injEq, and_true] at h
      subst h
      have := hb.2 ⟨hE.1, hE.2.1, hE.2.2.1, hE.2.2.2⟩
      subst this; simp at g2
    · have hbt := hb.1 (by simpa using g2)
      have c2' : cellH w137.heap b1 (0 + 1) = some (.string (B dd.2)) := by
        have hlt : b1 < w122.heap.size := by
          obtain ⟨_, _, hh⟩ := hv122
          rcases hh with ⟨hh, _⟩ | ⟨b', cs, hh, hB, _⟩
          · rw [hb1] at hh; cases hh
          · rw [hb1] at hh; injection hh with hh; injection hh with hh; subst hh; exact hB.lt
        rw [(B134.vstep B137).vcell hlt]; exact c1
      exact ⟨b1, 0, ⟨hb1, by omega, by simp⟩, _, c2', ⟨_, rfl, .inl ⟨dd.1, by rw [hm], ⟨hbt.1, hbt.2.1, hbt.2.2.1, hbt.2.2.2⟩⟩, B134'.vstep B137⟩⟩
  -- a piece
  have gi : i < ps.length := by have := of_decide_eq_true g0; omega
  have gir : i < rs.length := by omega
  have hstep := mach_step gi hm
  have P11 := P6.below B11
  obtain ⟨ba, ha1, hca⟩ := P11.row.open (by omega)
  have k1 := fun o ho => raw_at hca hl gir o ho
  have o1 := P11.all i _ _ (List.getElem?_eq_getElem gir) (List.getElem?_eq_getElem gi)
  have sx := hf.2 _ (List.getElem_mem gi)
  have fail : mst i st ps[i] = none → ∀ {w' : World}, Below w.heap.size w w' → RetW (WI ok at_ g ps) w (.returned (.string (⟨#[]⟩ : ByteArray))) w' := fun hn => no0 (mach_fail (i := i + 1) (by rw [hstep]; exact hn))
  generalize rs[i] = r at *
  generalize ps[i] = x at *
  have f0 : Int.toNat (i : Int) = i := by omega
  have f1 : IntKind.wrap .i64 ((i : Int) + 1) = ((i + 1 : Nat) : Int) := by rw [w64 (by omega)]; omega
  rw [f0, f1]
  refine ⟨ba, 0, ⟨ha1, by omega, by omega⟩, _, k1 0 (by decide), _, _, _, k1 1 (by decide), _, k1 2 (by decide), _, k1 3 (by decide), _, k1 4 (by decide), _, k1 5 (by decide), _, _, _, k1 6 (by decide), ?_⟩
  refine newC_in fun w25 s25 k25 e25 => ?_
  refine stW_in k25 (by show 0 + 7 ≤ 7; decide) fun w26 s26 k26 e26 => ?_
  have B1126 : Below w11.heap.size w11 w26 := Ext.to (Ext.to (Below.refl _ _) e25 fun _ h => h.elim) e26 fun i hi => by omega
  have q26 : Blk w26.heap w11.heap.size 111 r.cells := k26
  have B26 := B11'.vstep B1126
  have S26 := o1.keep (S := fun _ => False) (Ext.of_below B1126) fun _ _ h => h
  have v26 := hv.keep (S := fun _ => False) (Ext.of_below B1126) fun _ _ h => h
  have sl1 : r.sl = x.set.length := by have := S26.set.1; rw [rngC_length] at this; omega
  have kl1 : r.kl = x.kids.length := by have := S26.kids.1; rw [intC_length] at this; omega
  have ek := o1.kind
  refine ⟨_, _, _, q26.cell 6, fun g1 => fail ?_ B26, fun g1 => ?_⟩
  · unfold mst; rw [if_pos (by have := of_decide_eq_true g1; omega)]
  have hkn : x.kids.length ≤ st.length := by have := of_decide_eq_false g1; omega
  obtain ⟨K, hK⟩ : ∃ K, K = st.length - x.kids.length := ⟨_, rfl⟩
  have eK : IntKind.wrap .i64 (((st.length : Nat) : Int) - ((r.kl : Nat) : Int)) = ((K : Nat) : Int) := by rw [w64 (by omega)]; omega
  have hsf := slice_from (P := Try.prog) (T := 107) (e := 113) (sz := 2) elemDone.und elemDone.size (a := a13) (l := st.length) (c := c13) (k := K) (kd := .i64) (by omega) hvlc w26
  obtain ⟨D, hD⟩ : ∃ D, D = st.drop K := ⟨_, rfl⟩
  have hDl : D.length = x.kids.length := by rw [hD, List.length_drop]; omega
  have hD120 : ∀ d ∈ D, d.2.length ≤ 120 := fun d hd => h120 d (by rw [hD] at hd; exact List.mem_of_mem_drop hd)
  have hslD : st.length - K = D.length := by rw [hDl]; omega
  rw [hslD] at hsf
  obtain ⟨a28, ha28⟩ : ∃ a28, a28 = (if c13 = K then a13 else a13.map (·.add (K * 2))) := ⟨_, rfl⟩
  rw [← ha28] at hsf
  have view : ∀ {w' : World}, Below w26.heap.size w26 w' → ∀ (j : Nat) (hj : j < D.length), ∃ b, a28 = some ⟨b, K * 2, none⟩ ∧ cellH w'.heap b (K * 2 + j * 2) = some (.int .i64 (D[j].1 : Int)) ∧ cellH w'.heap b (K * 2 + j * 2 + 1) = some (.string (B D[j].2)) := by
    intro w' hb j hj
    obtain ⟨b, hb1, hc⟩ := (v26.keep (S := fun _ => False) (Ext.of_below hb) fun _ _ h => h).open (by omega)
    have hj2 : K + j < st.length := by omega
    have := dnC_at st (K + j) hj2
    have hget : D[j] = st[K + j] := by subst hD; rw [List.getElem_drop]
    rw [hget]
    refine ⟨b, ?_, ?_, ?_⟩
    · rw [ha28, if_neg (by omega), hb1]
      simp only [Option.map_some, add_spot, Nat.zero_add]
    · rw [show K * 2 + j * 2 = (K + j) * 2 from by omega, hc _ (by omega)]; exact this.1
    · rw [show K * 2 + j * 2 + 1 = (K + j) * 2 + 1 from by omega, hc _ (by omega)]; exact this.2
  -- a kid's number
  have kidAt : ∀ {w' : World} {j : Nat}, Below w26.heap.size w26 w' → (hj : j < x.kids.length) → ∃ b, r.ka = some ⟨b, 0, none⟩ ∧ cellH w'.heap b (0 + j * 1) = some (.int .i64 x.kids[j]) := by
    intro w' j hb hj
    obtain ⟨d1, hd1, hg1⟩ := (S26.keep (S := fun _ => False) (Ext.of_below hb) fun _ _ h => h).kids.open (by omega)
    exact ⟨d1, hd1, by rw [show 0 + j * 1 = j from by omega, hg1 _ (by omega)]; exact intC_at _ j hj⟩
  refine ⟨a28, _, _, by rw [eK]; exact hsf, ?_⟩
  refine ⟨fun mm n34 n w' => ∃ j : Nat, n = j ∧ j ≤ D.length ∧ mm = D.length - j ∧ (D.take j).map (fun d => (d.1 : Int)) = x.kids.take j ∧ n34 = (((D.take j).map fun d => d.2.length).sum : Nat) ∧ Below w26.heap.size w26 w', ⟨_, 0, rfl, by omega, rfl, by simp, by simp, Below.refl _ _⟩, ?_⟩
  rintro mm d3 _ _ w32 ⟨j, rfl, hj, rfl, hat, rfl, B32⟩
  have B32' := B26.vstep B32
  have q32 := q26.below B32
  refine ⟨fun g2 => ?_, fun g2 => ?_⟩
  · have gj : j < D.length := by have := of_decide_eq_true g2; omega
    have f0 : Int.toNat (j : Int) = j := by omega
    have f1 : IntKind.wrap .i64 ((j : Int) + 1) = ((j + 1 : Nat) : Int) := by rw [w64 (by omega)]; omega
    rw [f0, f1]
    obtain ⟨b36, hb36, hc36, hc36'⟩ := view B32 j gj
    refine ⟨b36, _, ⟨hb36, by omega, by omega⟩, _, hc36, _, hc36', ?_⟩
    refine newC_in fun w41 s41 k41 e41 => ?_
    refine stW_in k41 (by show 0 + 2 ≤ 2; decide) fun w42 s42 k42 e42 => ?_
    refine drw_in fun w43 z43 x43 => ?_
    have B43 : Below w32.heap.size w32 w43 := Ext.to (Ext.to (Ext.to (Below.refl _ _) e41 fun _ h => h.elim) e42 fun i hi => by omega) x43 fun _ h => h.elim
    have k43 := k42.keep x43 fun h => h
    have q43 := q32.below B43
    obtain ⟨b46, hb46, hc46⟩ := kidAt (B32.vstep B43) (j := j) (by omega)
    have htk := take_one gj
    have htk2 := take_one (l := x.kids) (show j < x.kids.length by omega)
    refine ⟨_, k43.cell 0, _, _, _, q43.cell 6, b46, 0, ⟨hb46, by omega, by omega⟩, _, hc46, fun g3 => fail ?_ (B32'.vstep B43), fun g3 => ⟨_, k43.cell 1, ?_⟩⟩
    · have g3' : (D[j].1 : Int) ≠ x.kids[j] := by simpa using g3
      unfold mst
      rw [if_neg (by omega), if_pos]
      rw [← hK, ← hD]
      intro he
      apply g3'
      have := congrArg (fun l => l[j]?) he
      simp only [List.getElem?_map, List.getElem?_eq_getElem gj, Option.map_some] at this
      rw [List.getElem?_eq_getElem (by omega)] at this
      injection this
    · have g3' : (D[j].1 : Int) = x.kids[j] := by simpa using g3
      have hle := hD120 _ (List.getElem_mem gj)
      have hsum := sum_le (fun d : Nat × Bytes => d.2.length) 120 (D.take j) fun d hd => hD120 d (List.mem_of_mem_take hd)
      rw [List.length_take] at hsum
      refine ⟨_, by omega, j + 1, rfl, by omega, rfl, ?_, ?_, B32.vstep B43⟩
      · rw [htk, htk2, List.map_append, hat]
        simp [g3']
      · rw [htk, List.map_append, List.sum_append]
        simp only [List.map_cons, List.map_nil, List.sum_cons, List.sum_nil]
        rw [size_B, w64 (by omega)]; omega
  have hjD : j = D.length := by have := of_decide_eq_false g2; omega
  subst hjD
  rw [List.take_length] at hat
  rw [show D.length = x.kids.length from hDl, List.take_length] at hat
  rw [List.take_length]
  refine ⟨fun g3 => fail ?_ B32', fun g3 => ?_⟩
  · have := of_decide_eq_true g3
    unfold mst
    rw [if_neg (by omega), if_neg (by rw [← hK, ← hD, hat]; simp), if_pos (by rw [← hK, ← hD]; omega)]
  have hs120 : (D.map fun d => d.2.length).sum ≤ 120 := by have := of_decide_eq_false g3; omega
  have hmst := mst_ok (i := i) hkn (by rw [← hK, ← hD]; exact hat) (by rw [← hK, ← hD]; exact hs120)
  rw [← hK, ← hD] at hmst
  -- the text
  refine ⟨_, q32.cell 0, fun s w' => ∃ t, pcT x (D.map (·.2)) = some t ∧ s = B t ∧ t.length ≤ 1099511627776 ∧ Below w32.heap.size w32 w', ?_, ?_⟩
  · have S32 := S26.keep (S := fun _ => False) (Ext.of_below B32) fun _ _ h => h
    have bad : pcT x (D.map (·.2)) = none → ∀ {w' : World}, Below w.heap.size w w' → RetW (WI ok at_ g ps) w (.returned (.string (⟨#[]⟩ : ByteArray))) w' := fun hn => fail (by rw [hmst, hn])
    have ne_i : ∀ {y z : Int}, (y == z) = false → y ≠ z := fun h => by simpa using h
    have eq_i : ∀ {y z : Int}, (y == z) = true → y = z := fun h => by simpa using h
    refine ⟨fun h1 => ?_, fun h1 => ⟨fun h2 => ?_, fun h2 => ⟨fun h3 => ?_, fun h3 => ⟨fun h4 => ?_, fun h4 => ⟨fun h5 => ?_, fun h5 => ⟨fun h6 => ?_, fun h6 => ⟨fun h7 => ?_, fun h7 => ?_⟩⟩⟩⟩⟩⟩⟩
    · -- a set
      have h1' : x.kind = 1 := by rw [← ek]; exact eq_i h1
      refine ⟨_, _, _, q32.cell 1, (setText_ok S32.set sx.1).use fun e w56 he => ?_⟩
      obtain ⟨t, b, rfl, hy, hn, B56⟩ := he
      refine ⟨_, _, rfl, fun g => bad ?_ (B32'.vstep B56), fun g => ?_⟩
      · unfold pcT; rw [if_pos h1', if_neg (hn (by simpa using g))]
      · have hy' := hy (by simpa using g)
        have hbd := setT_len2 x.set
        have := hy'.1.1
        exact ⟨_, by unfold pcT; rw [if_pos h1', if_pos hy'.1], hy'.2, by omega, B56⟩
    · -- a sequence
      have h2' : x.kind = 2 := by rw [← ek]; exact eq_i h2
      refine ⟨fun m s n w' => ∃ j : Nat, n = j ∧ j ≤ D.length ∧ m = D.length - j ∧ s = B ((D.take j).flatMap fun d => d.2) ∧ Below w32.heap.size w32 w', ⟨_, 0, rfl, by omega, rfl, rfl, Below.refl _ _⟩, ?_⟩
      rintro m4 d4 _ _ w61 ⟨j, rfl, hj, rfl, rfl, B61⟩
      refine ⟨fun g => ?_, fun g => ?_⟩
      · have gj : j < D.length := by have := of_decide_eq_true g; omega
        have f0 : Int.toNat (j : Int) = j := by omega
        have f1 : IntKind.wrap .i64 ((j : Int) + 1) = ((j + 1 : Nat) : Int) := by rw [w64 (by omega)]; omega
        rw [f0, f1]
        obtain ⟨b36, hb36, hc36, hc36'⟩ := view (B32.vstep B61) j gj
        refine ⟨b36, _, ⟨hb36, by omega, by omega⟩, _, hc36, _, hc36', ?_⟩
        refine newC_in fun w70 s70 k70 e70 => ?_
        refine stW_in k70 (by show 0 + 2 ≤ 2; decide) fun w71 s71 k71 e71 => ?_
        have B71 : Below w61.heap.size w61 w71 := Ext.to (Ext.to (Below.refl _ _) e70 fun _ h => h.elim) e71 fun i hi => by omega
        have htk := take_one gj
        have hle := hD120 _ (List.getElem_mem gj)
        have hsum := sum_le (fun d : Nat × Bytes => d.2.length) 120 (D.take j) fun d hd => hD120 d (List.mem_of_mem_take hd)
        rw [List.length_take] at hsum
        refine ⟨_, k71.cell 1, ?_⟩
        dsimp only
        refine ⟨by rw [size_B, size_B, List.length_flatMap]; omega, _, by omega, j + 1, rfl, by omega, rfl, ?_, B61.vstep B71⟩
        rw [B_append, htk, List.flatMap_append]; simp
      · have hjl : j = D.length := by have := of_decide_eq_false g; omega
        subst hjl
        rw [List.take_length]
        exact ⟨_, by unfold pcT; rw [if_neg (by omega), if_pos h2', ← List.flatMap_def], rfl, by rw [List.length_flatMap]; omega, B61⟩
    · -- alternatives
      have h3' : x.kind = 3 := by rw [← ek]; exact eq_i h3
      have hpc : pcT x (D.map (·.2)) = some (altJ (D.map (·.2))) := by unfold pcT; rw [if_neg (by omega), if_neg (by omega), if_pos h3']
      have long : ∀ {j : Nat}, 120 < (altJ ((D.take j).map (·.2))).length → ∀ {w' : World}, Below w.heap.size w w' → RetW (WI ok at_ g ps) w (.returned (.string (⟨#[]⟩ : ByteArray))) w' := fun {j} hgt => fail (by
        rw [hmst, hpc]
        simp only []
        have := altJ_mono (D.map (·.2)) j
        rw [← List.map_take] at this
        rw [if_pos (by omega)])
      refine ⟨fun m s n w' => ∃ j : Nat, n = j ∧ j ≤ D.length ∧ m = D.length - j ∧ s = B (altJ ((D.take j).map (·.2))) ∧ (altJ ((D.take j).map (·.2))).length ≤ 120 ∧ Below w32.heap.size w32 w', ⟨_, 0, rfl, by omega, rfl, rfl, by simp [altJ], Below.refl _ _⟩, ?_⟩
      rintro m4 d4 _ _ w61 ⟨j, rfl, hj, rfl, rfl, hle0, B61⟩
      refine ⟨fun g => ?_, fun g => ?_⟩
      · have gj : j < D.length := by have := of_decide_eq_true g; omega
        have f0 : Int.toNat (j : Int) = j := by omega
        have f1 : IntKind.wrap .i64 ((j : Int) + 1) = ((j + 1 : Nat) : Int) := by rw [w64 (by omega)]; omega
        rw [f0, f1]
        obtain ⟨b36, hb36, hc36, hc36'⟩ := view (B32.vstep B61) j gj
        refine ⟨b36, _, ⟨hb36, by omega, by omega⟩, _, hc36, _, hc36', ?_⟩
        refine newC_in fun w70 s70 k70 e70 => ?_
        refine stW_in k70 (by show 0 + 2 ≤ 2; decide) fun w71 s71 k71 e71 => ?_
        have B71 : Below w61.heap.size w61 w71 := Ext.to (Ext.to (Below.refl _ _) e70 fun _ h => h.elim) e71 fun i hi => by omega
        have htk := take_one gj
        have hle := hD120 _ (List.getElem_mem gj)
        have B71' := (B32'.vstep B61).vstep B71
        refine ⟨fun g2 => ?_, fun g2 => ?_⟩
        · have g2' : 0 < j := by have := of_decide_eq_true g2; omega
          have hnext : altJ ((D.take (j + 1)).map (·.2)) = altJ ((D.take j).map (·.2)) ++ 124 :: D[j].2 := by
            rw [htk, List.map_append]
            simp only [List.map_cons, List.map_nil]
            rw [altJ_snoc _ _ (by intro h; have := congrArg List.length h; rw [List.length_map, List.length_take, List.length_nil] at this; omega)]
          rw [show (⟨#[124]⟩ : ByteArray) = B [124] from rfl]
          refine ⟨by rw [size_B, size_B]; show _ + 1 ≤ _; omega, _, k71.cell 1, ?_⟩
          dsimp only
          rw [B_append, B_append]
          have e : altJ ((D.take j).map (·.2)) ++ [124] ++ D[j].2 = altJ ((D.take (j + 1)).map (·.2)) := by rw [hnext]; simp
          rw [e]
          refine ⟨by rw [size_B, size_B, List.length_append]; show _ + 1 + _ ≤ _; omega, fun g3 => long (j := j + 1) ?_ B71', fun g3 => ⟨_, by omega, j + 1, rfl, by omega, rfl, rfl, ?_, B61.vstep B71⟩⟩
          · have := of_decide_eq_true g3; rw [size_B] at this; omega
          · have := of_decide_eq_false g3; rw [size_B] at this; omega
        · have g2' : j = 0 := by have := of_decide_eq_false g2; omega
          subst g2'
          refine ⟨_, k71.cell 1, ?_⟩
          dsimp only
          have e : altJ ((D.take 0).map (·.2)) ++ D[0].2 = altJ ((D.take (0 + 1)).map (·.2)) := by rw [htk]; rfl
          rw [B_append, e]
          refine ⟨by rw [size_B, size_B]; omega, fun g3 => long (j := 0 + 1) ?_ B71', fun g3 => ⟨_, by omega, 0 + 1, rfl, by omega, rfl, rfl, ?_, B61.vstep B71⟩⟩
          · have := of_decide_eq_true g3; rw [size_B] at this; omega
          · have := of_decide_eq_false g3; rw [size_B] at this; omega
      · have hjl : j = D.length := by have := of_decide_eq_false g; omega
        subst hjl
        rw [List.take_length] at hle0 ⊢
        exact ⟨_, hpc, rfl, by omega, B61⟩
    · -- a repetition
      have h4' : x.kind = 4 := by rw [← ek]; exact eq_i h4
      refine ⟨fun g => bad ?_ B32', fun g => ?_⟩
      · unfold pcT
        rw [if_neg (by omega), if_neg (by omega), if_neg (by omega), if_pos h4', if_neg]
        have : ((r.kl : Nat) : Int) ≠ 1 := by simpa using g
        omega
      have gk : x.kids.length = 1 := by have : ((r.kl : Nat) : Int) = 1 := by simpa using g
                                        omega
      refine drw_in fun w92 z92 x92 => ?_
      have B92 : Below w32.heap.size w32 w92 := Ext.to (Below.refl _ _) x92 fun _ h => h.elim
      have q92 := q32.below B92
      obtain ⟨b36, hb36, _, hc36⟩ := view (B32.vstep B92) 0 (by omega)
      have hpc : pcT x (D.map (·.2)) = some (repI x (D[0]'(by omega)).2) := by
        unfold pcT
        rw [if_neg (by omega), if_neg (by omega), if_neg (by omega), if_pos h4', if_pos gk, headD_get D (by omega)]
      have hle := hD120 _ (List.getElem_mem (show 0 < D.length by omega))
      have hview := fun {w'} (hb : Below w26.heap.size w26 w') => (view hb 0 (by omega))
      generalize (D[0]'(by omega)).2 = t at *
      refine ⟨b36, _, ⟨hb36, by omega, by omega⟩, _, by rw [show K * 2 + 1 = K * 2 + 0 * 2 + 1 from by omega]; exact hc36, ?_⟩
      dsimp only
      rw [show (⟨#[123]⟩ : ByteArray) = B [123] from rfl, show (⟨#[44]⟩ : ByteArray) = B [44] from rfl, show (⟨#[125]⟩ : ByteArray) = B [125] from rfl, show (⟨#[63]⟩ : ByteArray) = B [63] from rfl]
      have hd1 := numI_le x.min
      have hd2 := numI_le x.max
      refine ⟨by rw [size_B, size_B]; simp; omega, _, q92.cell 2, ?_⟩
      show clS 100 [.int .i64 r.min] w92 _ _
      rw [o1.min]
      refine (num_ok x.min w92).ret fun w98 B98 => ⟨_, rfl, ?_⟩
      dsimp only
      have B98' := B92.vstep B98
      have q98 := q92.below B98
      obtain ⟨b37, hb37, _, hc37⟩ := hview (B32.vstep B98')
      obtain rfl : b37 = b36 := by
        have := hb36.symm.trans hb37
        simp only [Option.some.injEq, Addr.mk.injEq] at this
        exact this.1.symm
      rw [B_append]
      refine ⟨by rw [show K * 2 + 1 = K * 2 + 0 * 2 + 1 from by omega]; exact hc37, by rw [size_B, size_B]; simp; omega, _, q98.cell 3, fun g2 => ?_, fun g2 => ?_⟩
      · have g2' : x.max = -1 := by rw [← o1.max]; exact eq_i g2
        simp only [B_append]
        refine ⟨by rw [size_B, size_B]; simp; omega, by rw [size_B, size_B]; simp; omega, _, q98.cell 4, fun gz => ⟨by rw [size_B, size_B]; simp; omega, _, hpc, ?_, ?_, B98'⟩, fun gz => ⟨_, hpc, ?_, ?_, B98'⟩⟩
        · unfold repI
          rw [if_pos g2', ← o1.lazy, gz]
          simp [lzT]
        · have := lzT_le x.lazy
          unfold repI
          rw [if_pos g2']
          simp only [List.length_append, List.length_cons, List.length_nil]; omega
        · unfold repI
          rw [if_pos g2', ← o1.lazy, gz]
          simp [lzT]
        · have := lzT_le x.lazy
          unfold repI
          rw [if_pos g2']
          simp only [List.length_append, List.length_cons, List.length_nil]; omega
      · have g2' : ¬ x.max = -1 := by rw [← o1.max]; exact ne_i g2
        refine ⟨_, q98.cell 3, _, q98.cell 2, fun g3 => ?_, fun g3 => ?_⟩
        · have g3' : ¬ x.max = x.min := by rw [← o1.max, ← o1.min]; simpa using g3
          refine ⟨_, q98.cell 3, ?_⟩
          show clS 100 [.int .i64 r.max] w98 _ _
          rw [o1.max]
          refine (num_ok x.max w98).ret fun w106 B106 => ⟨_, rfl, ?_⟩
          dsimp only
          have B106' := B98'.vstep B106
          have q106 := q98.below B106
          simp only [B_append]
          refine ⟨by rw [size_B, size_B]; simp; omega, by rw [size_B, size_B]; simp; omega, by rw [size_B, size_B]; simp; omega, _, q106.cell 4, fun gz => ⟨by rw [size_B, size_B]; simp; omega, _, hpc, ?_, ?_, B106'⟩, fun gz => ⟨_, hpc, ?_, ?_, B106'⟩⟩
          · unfold repI
            rw [if_neg g2', if_neg g3', ← o1.lazy, gz]
            simp [lzT]
          · have := lzT_le x.lazy
            unfold repI
            rw [if_neg g2', if_neg g3']
            simp only [List.length_append, List.length_cons, List.length_nil]; omega
          · unfold repI
            rw [if_neg g2', if_neg g3', ← o1.lazy, gz]
            simp [lzT]
          · have := lzT_le x.lazy
            unfold repI
            rw [if_neg g2', if_neg g3']
            simp only [List.length_append, List.length_cons, List.length_nil]; omega
        · have g3' : x.max = x.min := by rw [← o1.max, ← o1.min]; simpa using g3
          simp only [B_append]
          refine ⟨by rw [size_B, size_B]; simp; omega, _, q98.cell 4, fun gz => ⟨by rw [size_B, size_B]; simp; omega, _, hpc, ?_, ?_, B98'⟩, fun gz => ⟨_, hpc, ?_, ?_, B98'⟩⟩
          · unfold repI
            rw [if_neg g2', if_pos g3', ← o1.lazy, gz]
            simp [lzT]
          · have := lzT_le x.lazy
            unfold repI
            rw [if_neg g2', if_pos g3']
            simp only [List.length_append, List.length_cons, List.length_nil]; omega
          · unfold repI
            rw [if_neg g2', if_pos g3', ← o1.lazy, gz]
            simp [lzT]
          · have := lzT_le x.lazy
            unfold repI
            rw [if_neg g2', if_pos g3']
            simp only [List.length_append, List.length_cons, List.length_nil]; omega
    · -- a group
      have h5' : x.kind = 5 := by rw [← ek]; exact eq_i h5
      refine ⟨fun g => bad ?_ B32', fun g => ?_⟩
      · unfold pcT
        rw [if_neg (by omega), if_neg (by omega), if_neg (by omega), if_neg (by omega), if_pos h5', if_neg]
        have : ((r.kl : Nat) : Int) ≠ 1 := by simpa using g
        omega
      have gk : x.kids.length = 1 := by have : ((r.kl : Nat) : Int) = 1 := by simpa using g
                                        omega
      obtain ⟨b36, hb36, _, hc36⟩ := view B32 0 (by omega)
      have hpc : pcT x (D.map (·.2)) = some (((40 : UInt8) :: ((D[0]'(by omega)).2 ++ [(41 : UInt8)]) : Bytes)) := by
        unfold pcT
        rw [if_neg (by omega), if_neg (by omega), if_neg (by omega), if_neg (by omega), if_pos h5', if_pos gk, headD_get D (by omega)]
      have hle := hD120 _ (List.getElem_mem (show 0 < D.length by omega))
      generalize (D[0]'(by omega)).2 = t at *
      refine ⟨b36, _, ⟨hb36, by omega, by omega⟩, _, by rw [show K * 2 + 1 = K * 2 + 0 * 2 + 1 from by omega]; exact hc36, ?_⟩
      dsimp only
      rw [show (⟨#[40]⟩ : ByteArray) = B [40] from rfl, show (⟨#[41]⟩ : ByteArray) = B [41] from rfl]
      simp only [B_append]
      refine ⟨by rw [size_B, size_B]; simp; omega, by rw [size_B, size_B]; simp; omega, _, hpc, by simp, ?_, Below.refl _ _⟩
      simp only [List.length_append, List.length_cons, List.length_nil]; omega
    · have h6' : x.kind = 6 := by rw [← ek]; exact eq_i h6
      exact ⟨[94], by unfold pcT; rw [if_neg (by omega), if_neg (by omega), if_neg (by omega), if_neg (by omega), if_neg (by omega), if_pos h6'], rfl, by decide, Below.refl _ _⟩
    · have h7' : x.kind = 7 := by rw [← ek]; exact eq_i h7
      exact ⟨[36], by unfold pcT; rw [if_neg (by omega), if_neg (by omega), if_neg (by omega), if_neg (by omega), if_neg (by omega), if_neg (by omega), if_pos h7'], rfl, by decide, Below.refl _ _⟩
    · refine bad ?_ B32'
      have e1 := ne_i h1
      have e2 := ne_i h2
      have e3 := ne_i h3
      have e4 := ne_i h4
      have e5 := ne_i h5
      have e6 := ne_i h6
      have e7 := ne_i h7
      unfold pcT
      rw [if_neg (by omega), if_neg (by omega), if_neg (by omega), if_neg (by omega), if_neg (by omega), if_neg (by omega), if_neg (by omega)]
  · rintro d113 _ w115 ⟨t, ht, rfl, htl, B115⟩
    have B115' := B32'.vstep B115
    rw [ht] at hmst
    refine ⟨fun g4 => fail ?_ B115', fun g4 => ?_⟩
    · rw [hmst]
      simp only []
      rw [if_pos (by have := of_decide_eq_true g4; rw [size_B] at this; omega)]
    have g4' : t.length ≤ 120 := by have := of_decide_eq_false g4; rw [size_B] at this; omega
    simp only [] at hmst
    rw [if_neg (by omega)] at hmst
    have v115 := (v26.keep (S := fun _ => False) (Ext.of_below B32) fun _ _ h => h).keep (S := fun _ => False) (Ext.of_below B115) fun _ _ h => h
    have ha13 : ∃ b, a13 = none ∨ a13 = some ⟨b, 0, none⟩ := by
      rcases v115.2.2 with ⟨h, _⟩ | ⟨b, _, h, _⟩
      · exact ⟨0, .inl h⟩
      · exact ⟨b, .inr h⟩
    obtain ⟨bb, hbb⟩ := ha13
    refine ⟨a13, K, K, by rw [eK]; exact slice_full elemDone.und elemDone.size hbb (by omega) w115, ?_⟩
    refine newC_in fun w118 s118 k118 e118 => ?_
    have v118 := v115.keep e118 fun _ _ h => h
    have hrow : a13 = none ∧ K = 0 ∨ ∃ b, a13 = some ⟨b, 0, none⟩ ∧ cellsAt w118.heap b 0 (dnC (st.take K)) := by
      obtain ⟨u1, u2, u3⟩ := v118
      rcases u3 with ⟨rfl, rfl⟩ | ⟨b, cs, rfl, hB, hcs, htk⟩
      · exact .inl ⟨rfl, by omega⟩
      · refine .inr ⟨b, rfl, hB.cellsAt (n := K * 2) ?_ ?_⟩
        · rw [dnC_take, List.drop_zero, ← htk, List.take_take, Nat.min_eq_left (by omega)]
        · rw [dnC_length, List.length_take, Nat.min_eq_left (by omega)]
    obtain ⟨a2, c2, w120, r1, r2, r3⟩ := append_full (T'' := 107) elemDone.und elemDone.und elemDone.size elemDone.bytes elemDone.zero (w := w118) (a := a13) (l := K) (xs := dnC (st.take K)) (ys := dnC [(i, t)]) (n := 1) (c' := 1) (b' := w115.heap.size) (by rw [dnC_length, List.length_take, Nat.min_eq_left (by omega)]) hrow (by omega) rfl (k118.cellsAt (n := 2) rfl rfl) (by omega) (by omega)
    rw [← dnC_app] at r2
    refine ⟨a2, K + 1, c2, w120, r1, _, by omega, i + 1, st.take K ++ [(i, t)], rfl, by omega, rfl, ?_, ?_, ?_, ?_, r2, ?_⟩
    · rw [hstep, hmst]
    · rw [List.length_append, List.length_take, Nat.min_eq_left (by omega)]; rfl
    · rw [List.length_append, List.length_take, Nat.min_eq_left (by omega)]; simp; omega
    · intro d hd
      rcases List.mem_append.1 hd with hd | hd
      · exact h120 d (List.mem_of_mem_take hd)
      · rw [List.mem_singleton.1 hd]; exact g4'
    · exact Ext.to (Ext.to (((B11.vstep B1126).vstep B32).vstep B115) e118 fun _ h => h.elim) r3 fun _ h => h.elim
end Go.Proofs.Ytngbiaeliphdjaa.V
/- A text that is no pattern has no ways, no find, no pieces. No statement of the seat is proved here. -/
namespace Go.Proofs.Ytngbiaeliphdjaa.V
open Go.Vc Go.Proofs Go.RowKit
set_option linter.unusedVariables false
set_option linter.unusedSimpArgs false
theorem newFinder_no {s1 : ByteArray} (h : (readP (L s1)).ok = false) (s2 : ByteArray) (w : World) : Cl Try.prog 70 [.string s1, .string s2] w (fun e w' => ∃ b, e = .returned (.tuple #[.pointer (some ⟨b, 0, none⟩), .bool false]) ∧ Below w.heap.size w w') := by
  apply vc70
  unfold V70
  refine (readPattern_ok s1 w).use fun e w7 he => ?_
  obtain ⟨a, l, c, rs, rfl, P7, B7⟩ := he
  refine ⟨_, _, _, a, l, c, rfl, ?_⟩
  refine newC_in fun w10 s10 k10 e10 => ?_
  refine stW_in k10 (by show 0 + 4 ≤ 4; decide) fun w11 s11 k11 e11 => ?_
  have B11 : Below w.heap.size w w11 := Ext.to (Ext.to B7 e10 fun _ h => h.elim) e11 fun i hi => by have := B7.size; omega
  refine ⟨_, k11.cell 0, _, k11.cell 1, _, k11.cell 2, _, _, _, k11.cell 3, ?_⟩
  refine ⟨some w11.heap.size, newW w11 (.map #[] 0), rfl, ?_⟩
  have e17 : Ext (fun _ => False) w11 (newW w11 (.map #[] 0)) := (Ext.refl _ w11).vnew _
  refine newC_in fun w19 s19 k19 e19 => ?_
  have k19' := (k11.keep e17 fun h => h).keep e19 fun h => h
  have B19 : Below w.heap.size w w19 := Ext.to (Ext.to B11 e17 fun _ h => h.elim) e19 fun _ h => h.elim
  refine ⟨_, k19'.cell 0, fun g => ?_, fun g => ⟨_, rfl, B19⟩⟩
  rw [h] at g; cases g
theorem ways_no {s1 : ByteArray} (h : (readP (L s1)).ok = false) (s2 : ByteArray) (n : Int) (w : World) : Cl Try.prog 30 [.string s1, .string s2, .int .i64 n] w (RetB (.slice none 0 0) w) := by
  apply vc30
  unfold V30
  refine (newFinder_no h s2 w).use fun e w7 he => ?_
  obtain ⟨b, rfl, B7⟩ := he
  exact ⟨b, 0, _, rfl, fun g => ⟨rfl, B7⟩, fun g => by cases g⟩
theorem split_no {s1 : ByteArray} (h : (readP (L s1)).ok = false) (s2 : ByteArray) (w : World) : Cl Try.prog 51 [.string s1, .string s2] w (RetB (.slice none 0 0) w) := by
  apply vc51
  unfold V51
  refine (newFinder_no h s2 w).use fun e w7 he => ?_
  obtain ⟨b, rfl, B7⟩ := he
  exact ⟨b, 0, _, rfl, fun g => ⟨rfl, B7⟩, fun g => by cases g⟩
theorem find_no {s1 : ByteArray} (h : (readP (L s1)).ok = false) (s2 : ByteArray) (n : Int) (w : World) : Cl Try.prog 45 [.string s1, .string s2, .int .i64 n] w (RetB (.agg #[.bool false, .int .i64 0, .int .i64 0, .slice none 0 0]) w) := by
  apply vc45
  unfold V45
  refine newC_in fun w5 s5 k5 e5 => ?_
  have B5 : Below w.heap.size w w5 := Ext.to (Below.refl _ _) e5 fun _ h => h.elim
  refine (newFinder_no h s2 w5).use fun e w9 he => ?_
  obtain ⟨b, rfl, B9⟩ := he
  have k9 := k5.below B9
  refine ⟨b, 0, _, rfl, fun g => ?_, fun g => by cases g⟩
  refine stW_in k9 (by show 0 + 4 ≤ 4; decide) fun w11 s11 k11 e11 => ?_
  have B11 : Below w.heap.size w w11 := Ext.to (B5.vstep B9) e11 fun i hi => by omega
  exact ⟨_, k11.cell 0, _, k11.cell 1, _, k11.cell 2, _, _, _, k11.cell 3, rfl, B11⟩
end Go.Proofs.Ytngbiaeliphdjaa.V
/- Printed by vcgen.py, a program of this session: formulas of Go functions, each with the proof that it gives the function's contract. No statement of the seat is proved here. -/
namespace Go.Proofs.Ytngbiaeliphdjaa.V
open Go.Vc Go.Proofs
set_option linter.unusedVariables false
set_option maxRecDepth 100000
/-- (*spec.l6Cur).pattern -/
def V107 (b1 o2 : Nat) (n3 n4 : Int) (t5 : Bool) (R : Rt) : Pred := fun w =>
  clI 82 ([.pointer (some ⟨b1, o2, none⟩), .int .i64 4]) w R fun n6 w7 => ∃ (I9 : Nat → Int → ByteArray → Int → World → Prop), (∃ k11, I9 k11 n4 (⟨#[]⟩ : ByteArray) n6 w7) ∧ ∀ k10 (d13 : Nat → Value) n14 s15 n16 w12, I9 k10 n14 s15 n16 w12 → (cB (decide (n16 > 0)) (clI 82 ([.pointer (some ⟨b1, o2, none⟩), .int .i64 12]) w12 R fun n17 w18 => ∃ (J20 : Int → ByteArray → World → Prop), ((cB (n17 == 0) (J20 n14 (⟨#[46]⟩ : ByteArray) w18) ((cB (n17 == 1) (newC [.string (⟨#[91, 97, 98, 93]⟩ : ByteArray), .string (⟨#[91, 94, 97, 93]⟩ : ByteArray), .string (⟨#[91, 97, 45, 99, 93]⟩ : ByteArray), .string (⟨#[91, 93, 97, 93]⟩ : ByteArray), .string (⟨#[91, 94, 93, 93]⟩ : ByteArray), .string (⟨#[91, 97, 45, 93]⟩ : ByteArray), .string (⟨#[91, 92, 119, 45, 93]⟩ : ByteArray), .string (⟨#[91, 92, 120, 48, 48, 45, 92, 120, 55, 102, 93]⟩ : ByteArray), .string (⟨#[91, 94, 92, 115, 92, 100, 93]⟩ : ByteArray), .string (⟨#[91, 98, 45, 98, 93]⟩ : ByteArray)] 9 (fun b21 w22 => clI 82 ([.pointer (some ⟨b1, o2, none⟩), .int .i64 ((10 : Nat) : Int)]) w22 R fun n23 w24 => ixS (some ⟨b21, 0, none⟩) 10 n23 fun b26 o27 => lS w24 b26 (o27 + (Int.toNat n23) * 1) fun s28 => J20 n14 s28 w24) w18) ((cB (n17 == 2) (newC [.string (⟨#[92, 100]⟩ : ByteArray), .string (⟨#[92, 119]⟩ : ByteArray), .string (⟨#[92, 115]⟩ : ByteArray), .string (⟨#[92, 110]⟩ : ByteArray), .string (⟨#[92, 92]⟩ : ByteArray), .string (⟨#[92, 46]⟩ : ByteArray), .string (⟨#[92, 120, 54, 49]⟩ : ByteArray), .string (⟨#[92, 40]⟩ : ByteArray), .string (⟨#[92, 45]⟩ : ByteArray)] 9 (fun b29 w30 => clI 82 ([.pointer (some ⟨b1, o2, none⟩), .int .i64 ((9 : Nat) : Int)]) w30 R fun n31 w32 => ixS (some ⟨b29, 0, none⟩) 9 n31 fun b34 o35 => lS w32 b34 (o35 + (Int.toNat n31) * 1) fun s36 => J20 n14 s36 w32) w18) ((cB (n17 == 3) ((cB t5 (J20 n14 (⟨#[97]⟩ : ByteArray) w18) (newC [.string (⟨#[94]⟩ : ByteArray), .string (⟨#[36]⟩ : ByteArray)] 9 (fun b37 w38 => clI 82 ([.pointer (some ⟨b1, o2, none⟩), .int .i64 2]) w38 R fun n39 w40 => ixS (some ⟨b37, 0, none⟩) 2 n39 fun b42 o43 => lS w40 b42 (o43 + (Int.toNat n39) * 1) fun s44 => J20 n14 s44 w40) w18))) ((cB (n17 == 4) ((cB (decide (n14 > 0)) ((cB (decide (n3 > 0)) (clV 107 ([.pointer (some ⟨b1, o2, none⟩), .int .i64 (IntKind.wrap .i64 (n3 - 1)), .int .i64 (IntKind.wrap .i64 (n14 - 1)), .bool t5]) w18 R fun r48 w47 => ∃ s45, ∃ n46, r48 = .tuple #[.string s45, .int .i64 n46] ∧ ((⟨#[40]⟩ : ByteArray).size + s45.size ≤ 9223372036854775807) ∧ (((⟨#[40]⟩ : ByteArray) ++ s45).size + (⟨#[41]⟩ : ByteArray).size ≤ 9223372036854775807) ∧ J20 n46 (((⟨#[40]⟩ : ByteArray) ++ s45) ++ (⟨#[41]⟩ : ByteArray)) w47) (J20 n14 (⟨#[98]⟩ : ByteArray) w18))) (J20 n14 (⟨#[98]⟩ : ByteArray) w18))) ((cB (n17 == 5) ((cB (decide (n14 > 0)) ((cB (decide (n3 > 0)) (clV 107 ([.pointer (some ⟨b1, o2, none⟩), .int .i64 (IntKind.wrap .i64 (n3 - 1)), .int .i64 (IntKind.wrap .i64 (n14 - 1)), .bool t5]) w18 R fun r52 w51 => ∃ s49, ∃ n50, r52 = .tuple #[.string s49, .int .i64 n50] ∧ ((⟨#[40]⟩ : ByteArray).size + s49.size ≤ 9223372036854775807) ∧ (((⟨#[40]⟩ : ByteArray) ++ s49).size + (⟨#[41]⟩ : ByteArray).size ≤ 9223372036854775807) ∧ J20 n50 (((⟨#[40]⟩ : ByteArray) ++ s49) ++ (⟨#[41]⟩ : ByteArray)) w51) (J20 n14 (⟨#[98]⟩ : ByteArray) w18))) (J20 n14 (⟨#[98]⟩ : ByteArray) w18))) ((cB (n17 == 6) ((cB (decide (n14 > 0)) ((cB (decide (n3 > 0)) (clV 107 ([.pointer (some ⟨b1, o2, none⟩), .int .i64 (IntKind.wrap .i64 (n3 - 1)), .int .i64 (IntKind.wrap .i64 (n14 - 1)), .bool t5]) w18 R fun r56 w55 => ∃ s53, ∃ n54, r56 = .tuple #[.string s53, .int .i64 n54] ∧ ((⟨#[40]⟩ : ByteArray).size + s53.size ≤ 9223372036854775807) ∧ (((⟨#[40]⟩ : ByteArray) ++ s53).size + (⟨#[41]⟩ : ByteArray).size ≤ 9223372036854775807) ∧ J20 n54 (((⟨#[40]⟩ : ByteArray) ++ s53) ++ (⟨#[41]⟩ : ByteArray)) w55) (J20 n14 (⟨#[98]⟩ : ByteArray) w18))) (J20 n14 (⟨#[98]⟩ : ByteArray) w18))) (clI 82 ([.pointer (some ⟨b1, o2, none⟩), .int .i64 3]) w18 R fun n57 w58 => newC [.int .u8 (IntKind.wrap .u8 (IntKind.wrap .i64 (97 + n57)))] 5 (fun b60 w61 => ∃ s62, (convert 22 9 (.slice (some ⟨b60, 0, none⟩) 1 1)).run Try.prog w61 = .ok (.string s62) w61 ∧ J20 n14 s62 w61) w58))))))))))))))) ∧ ∀ (d63 : Nat → Value) n64 s65 w66, J20 n64 s65 w66 → clI 82 ([.pointer (some ⟨b1, o2, none⟩), .int .i64 9]) w66 R fun n67 w68 => ∃ (J70 : ByteArray → World → Prop), ((cB (n67 == 0) ((s65.size + (⟨#[42]⟩ : ByteArray).size ≤ 9223372036854775807) ∧ J70 (s65 ++ (⟨#[42]⟩ : ByteArray)) w68) ((cB (n67 == 1) ((s65.size + (⟨#[42]⟩ : ByteArray).size ≤ 9223372036854775807) ∧ J70 (s65 ++ (⟨#[42]⟩ : ByteArray)) w68) ((cB (n67 == 2) ((s65.size + (⟨#[43]⟩ : ByteArray).size ≤ 9223372036854775807) ∧ J70 (s65 ++ (⟨#[43]⟩ : ByteArray)) w68) ((cB (n67 == 3) ((s65.size + (⟨#[63]⟩ : ByteArray).size ≤ 9223372036854775807) ∧ J70 (s65 ++ (⟨#[63]⟩ : ByteArray)) w68) ((cB (n67 == 4) (newC [.string (⟨#[123, 50, 125]⟩ : ByteArray), .string (⟨#[123, 48, 125]⟩ : ByteArray), .string (⟨#[123, 49, 44, 125]⟩ : ByteArray), .string (⟨#[123, 48, 44, 50, 125]⟩ : ByteArray), .string (⟨#[123, 49, 44, 51, 125]⟩ : ByteArray), .string (⟨#[123, 48, 44, 48, 125]⟩ : ByteArray), .string (⟨#[123, 50, 44, 50, 125]⟩ : ByteArray)] 9 (fun b71 w72 => clI 82 ([.pointer (some ⟨b1, o2, none⟩), .int .i64 ((7 : Nat) : Int)]) w72 R fun n73 w74 => ixS (some ⟨b71, 0, none⟩) 7 n73 fun b76 o77 => lS w74 b76 (o77 + (Int.toNat n73) * 1) fun s78 => (s65.size + s78.size ≤ 9223372036854775807) ∧ J70 (s65 ++ s78) w74) w68) (J70 s65 w68))))))))))) ∧ ∀ (d79 : Nat → Value) s80 w81, J70 s80 w81 → (ixT s80 (IntKind.wrap .i64 (((ByteArray.size s80 : Nat) : Int) - 1))) ∧ (cB ((byteAt s80 (Int.toNat (IntKind.wrap .i64 (((ByteArray.size s80 : Nat) : Int) - 1)))) == 42) (clI 82 ([.pointer (some ⟨b1, o2, none⟩), .int .i64 3]) w81 R fun n82 w83 => (cB (n82 == 0) ((cB (decide (((ByteArray.size s80 : Nat) : Int) > 1)) ((ixT s80 (IntKind.wrap .i64 (((ByteArray.size s80 : Nat) : Int) - 2))) ∧ (cB ((byteAt s80 (Int.toNat (IntKind.wrap .i64 (((ByteArray.size s80 : Nat) : Int) - 2)))) != 92) ((s80.size + (⟨#[63]⟩ : ByteArray).size ≤ 9223372036854775807) ∧ (s15.size + (s80 ++ (⟨#[63]⟩ : ByteArray)).size ≤ 9223372036854775807) ∧ (∃ m85, m85 < k10 ∧ I9 m85 n64 (s15 ++ (s80 ++ (⟨#[63]⟩ : ByteArray))) (IntKind.wrap .i64 (n16 - 1)) w83)) ((s15.size + s80.size ≤ 9223372036854775807) ∧ (∃ m86, m86 < k10 ∧ I9 m86 n64 (s15 ++ s80) (IntKind.wrap .i64 (n16 - 1)) w83)))) ((s15.size + s80.size ≤ 9223372036854775807) ∧ (∃ m87, m87 < k10 ∧ I9 m87 n64 (s15 ++ s80) (IntKind.wrap .i64 (n16 - 1)) w83)))) ((s15.size + s80.size ≤ 9223372036854775807) ∧ (∃ m88, m88 < k10 ∧ I9 m88 n64 (s15 ++ s80) (IntKind.wrap .i64 (n16 - 1)) w83)))) ((cB ((byteAt s80 (Int.toNat (IntKind.wrap .i64 (((ByteArray.size s80 : Nat) : Int) - 1)))) == 43) (clI 82 ([.pointer (some ⟨b1, o2, none⟩), .int .i64 3]) w81 R fun n89 w90 => (cB (n89 == 0) ((cB (decide (((ByteArray.size s80 : Nat) : Int) > 1)) ((ixT s80 (IntKind.wrap .i64 (((ByteArray.size s80 : Nat) : Int) - 2))) ∧ (cB ((byteAt s80 (Int.toNat (IntKind.wrap .i64 (((ByteArray.size s80 : Nat) : Int) - 2)))) != 92) ((s80.size + (⟨#[63]⟩ : ByteArray).size ≤ 9223372036854775807) ∧ (s15.size + (s80 ++ (⟨#[63]⟩ : ByteArray)).size ≤ 9223372036854775807) ∧ (∃ m92, m92 < k10 ∧ I9 m92 n64 (s15 ++ (s80 ++ (⟨#[63]⟩ : ByteArray))) (IntKind.wrap .i64 (n16 - 1)) w90)) ((s15.size + s80.size ≤ 9223372036854775807) ∧ (∃ m93, m93 < k10 ∧ I9 m93 n64 (s15 ++ s80) (IntKind.wrap .i64 (n16 - 1)) w90)))) ((s15.size + s80.size ≤ 9223372036854775807) ∧ (∃ m94, m94 < k10 ∧ I9 m94 n64 (s15 ++ s80) (IntKind.wrap .i64 (n16 - 1)) w90)))) ((s15.size + s80.size ≤ 9223372036854775807) ∧ (∃ m95, m95 < k10 ∧ I9 m95 n64 (s15 ++ s80) (IntKind.wrap .i64 (n16 - 1)) w90)))) ((cB ((byteAt s80 (Int.toNat (IntKind.wrap .i64 (((ByteArray.size s80 : Nat) : Int) - 1)))) == 125) (clI 82 ([.pointer (some ⟨b1, o2, none⟩), .int .i64 3]) w81 R fun n96 w97 => (cB (n96 == 0) ((cB (decide (((ByteArray.size s80 : Nat) : Int) > 1)) ((ixT s80 (IntKind.wrap .i64 (((ByteArray.size s80 : Nat) : Int) - 2))) ∧ (cB ((byteAt s80 (Int.toNat (IntKind.wrap .i64 (((ByteArray.size s80 : Nat) : Int) - 2)))) != 92) ((s80.size + (⟨#[63]⟩ : ByteArray).size ≤ 9223372036854775807) ∧ (s15.size + (s80 ++ (⟨#[63]⟩ : ByteArray)).size ≤ 9223372036854775807) ∧ (∃ m99, m99 < k10 ∧ I9 m99 n64 (s15 ++ (s80 ++ (⟨#[63]⟩ : ByteArray))) (IntKind.wrap .i64 (n16 - 1)) w97)) ((s15.size + s80.size ≤ 9223372036854775807) ∧ (∃ m100, m100 < k10 ∧ I9 m100 n64 (s15 ++ s80) (IntKind.wrap .i64 (n16 - 1)) w97)))) ((s15.size + s80.size ≤ 9223372036854775807) ∧ (∃ m101, m101 < k10 ∧ I9 m101 n64 (s15 ++ s80) (IntKind.wrap .i64 (n16 - 1)) w97)))) ((s15.size + s80.size ≤ 9223372036854775807) ∧ (∃ m102, m102 < k10 ∧ I9 m102 n64 (s15 ++ s80) (IntKind.wrap .i64 (n16 - 1)) w97)))) ((cB ((byteAt s80 (Int.toNat (IntKind.wrap .i64 (((ByteArray.size s80 : Nat) : Int) - 1)))) == 63) ((cB (decide (((ByteArray.size s80 : Nat) : Int) > 1)) (clI 82 ([.pointer (some ⟨b1, o2, none⟩), .int .i64 3]) w81 R fun n103 w104 => (cB (n103 == 0) ((cB (decide (((ByteArray.size s80 : Nat) : Int) > 1)) ((ixT s80 (IntKind.wrap .i64 (((ByteArray.size s80 : Nat) : Int) - 2))) ∧ (cB ((byteAt s80 (Int.toNat (IntKind.wrap .i64 (((ByteArray.size s80 : Nat) : Int) - 2)))) != 92) ((s80.size + (⟨#[63]⟩ : ByteArray).size ≤ 9223372036854775807) ∧ (s15.size + (s80 ++ (⟨#[63]⟩ : ByteArray)).size ≤ 9223372036854775807) ∧ (∃ m106, m106 < k10 ∧ I9 m106 n64 (s15 ++ (s80 ++ (⟨#[63]⟩ : ByteArray))) (IntKind.wrap .i64 (n16 - 1)) w104)) ((s15.size + s80.size ≤ 9223372036854775807) ∧ (∃ m107, m107 < k10 ∧ I9 m107 n64 (s15 ++ s80) (IntKind.wrap .i64 (n16 - 1)) w104)))) ((s15.size + s80.size ≤ 9223372036854775807) ∧ (∃ m108, m108 < k10 ∧ I9 m108 n64 (s15 ++ s80) (IntKind.wrap .i64 (n16 - 1)) w104)))) ((s15.size + s80.size ≤ 9223372036854775807) ∧ (∃ m109, m109 < k10 ∧ I9 m109 n64 (s15 ++ s80) (IntKind.wrap .i64 (n16 - 1)) w104)))) ((s15.size + s80.size ≤ 9223372036854775807) ∧ (∃ m110, m110 < k10 ∧ I9 m110 n64 (s15 ++ s80) (IntKind.wrap .i64 (n16 - 1)) w81)))) ((s15.size + s80.size ≤ 9223372036854775807) ∧ (∃ m111, m111 < k10 ∧ I9 m111 n64 (s15 ++ s80) (IntKind.wrap .i64 (n16 - 1)) w81)))))))))) (clI 82 ([.pointer (some ⟨b1, o2, none⟩), .int .i64 6]) w12 R fun n112 w113 => (cB (n112 == 0) (clV 107 ([.pointer (some ⟨b1, o2, none⟩), .int .i64 n3, .int .i64 n14, .bool t5]) w113 R fun r118 w117 => ∃ s115, ∃ n116, r118 = .tuple #[.string s115, .int .i64 n116] ∧ ((⟨#[124]⟩ : ByteArray).size + s115.size ≤ 9223372036854775807) ∧ (s15.size + ((⟨#[124]⟩ : ByteArray) ++ s115).size ≤ 9223372036854775807) ∧ R (.returned (.tuple #[.string (s15 ++ ((⟨#[124]⟩ : ByteArray) ++ s115)), .int .i64 n116])) w117) (R (.returned (.tuple #[.string s15, .int .i64 n14])) w113))))
def scr107 : Scr := (.q 2 (.q 1 (.q 3 (.loop (dr [(2, some (.int .i64)), (10, some .str), (11, some (.int .i64))] [(12,7),(22,140)]) (.q 2 (.cond (.q 1 (.q 2 (.q 2 (.cut (dr [(2, some (.int .i64)), (12, some .str)] [(13,4),(28,6),(36,52)]) (.cond (.q 1 .nil) (.q 2 (.cond (.q 2 (.q 8 .nil)) (.q 2 (.cond (.q 2 (.q 8 .nil)) (.q 2 (.cond (.q 1 (.cond (.q 1 .nil) (.q 2 (.q 6 .nil)))) (.q 2 (.cond (.lit (.run [0,1,2] (.split 71 (.r [3,4,5] (.cond (.q 1 (.q 12 (.q 4 .nil))) (.q 1 .nil))) (.r [3,4,5] (.lit (.q 1 .nil)))))) (.q 2 (.cond (.lit (.run [0,1,2] (.split 71 (.r [3,4,5] (.cond (.q 1 (.q 12 (.q 4 .nil))) (.q 1 .nil))) (.r [3,4,5] (.lit (.q 1 .nil)))))) (.q 2 (.cond (.run [0,1,2] (.split 71 (.r [3,4,5] (.cond (.q 1 (.q 12 (.q 4 .nil))) (.q 1 .nil))) (.r [3,4,5] (.lit (.q 1 .nil))))) (.q 7 .nil)))))))))))))) (.q 2 (.cut (dr [(12, some .str)] [(17,1),(90,25)]) (.q 2 (.cond (.lit (.q 3 .nil)) (.q 2 (.cond (.q 3 .nil) (.q 2 (.cond (.q 3 .nil) (.q 2 (.cond (.q 3 .nil) (.q 2 (.cond (.q 2 (.q 10 .nil)) .nil)))))))))) (.q 6 (.run [0,1,2] (.split 122 (.run [3,4,5,6,7,8,9,10,11,12,13,14,15,16,17,18,19,20,21,22,23,24] (.split 144 (.run [25,26,27,28,29] (.split 149 (.r [30,31,32,33,34,35,36] (.cond (.q 3 (.q 4 (.q 3 .nil))) (.q 4 (.q 3 .nil)))) (.r [30,31,32,33,34,35,36] (.lit (.q 4 (.q 3 .nil)))))) (.r [25,26,27,28,29,30,31,32,33,34,35,36] (.lit (.q 4 (.q 3 .nil)))))) (.run [3,4,5,6] (.split 126 (.run [7,8,9,10,11,12,13,14,15,16,17,18,19,20,21,22,23,24] (.split 144 (.run [25,26,27,28,29] (.split 149 (.r [30,31,32,33,34,35,36] (.cond (.q 3 (.q 4 (.q 3 .nil))) (.q 4 (.q 3 .nil)))) (.r [30,31,32,33,34,35,36] (.lit (.q 4 (.q 3 .nil)))))) (.r [25,26,27,28,29,30,31,32,33,34,35,36] (.lit (.q 4 (.q 3 .nil)))))) (.run [7,8,9,10] (.split 130 (.run [11,12,13,14,15,16,17,18,19,20,21,22,23,24] (.split 144 (.run [25,26,27,28,29] (.split 149 (.r [30,31,32,33,34,35,36] (.cond (.q 3 (.q 4 (.q 3 .nil))) (.q 4 (.q 3 .nil)))) (.r [30,31,32,33,34,35,36] (.lit (.q 4 (.q 3 .nil)))))) (.r [25,26,27,28,29,30,31,32,33,34,35,36] (.lit (.q 4 (.q 3 .nil)))))) (.run [11,12,13] (.split 133 (.run [14,15,16,17,18,19] (.split 139 (.run [20,21,22,23,24] (.split 144 (.run [25,26,27,28,29] (.split 149 (.r [30,31,32,33,34,35,36] (.cond (.q 3 (.q 4 (.q 3 .nil))) (.q 4 (.q 3 .nil)))) (.r [30,31,32,33,34,35,36] (.lit (.q 4 (.q 3 .nil)))))) (.r [25,26,27,28,29,30,31,32,33,34,35,36] (.lit (.q 4 (.q 3 .nil)))))) (.r [20,21,22,23,24,25,26,27,28,29,30,31,32,33,34,35,36] (.lit (.q 4 (.q 3 .nil)))))) (.r [14,15,16,17,18,19,20,21,22,23,24,25,26,27,28,29,30,31,32,33,34,35,36] (.lit (.q 4 (.q 3 .nil))))))))))))))))))) (.q 3 (.cond (.q 1 (.q 10 (.q 5 (.q 4 .nil)))) (.q 4 .nil)))))))))
theorem vc107 {b1 o2 n3 n4 t5} {R w} (h : V107 b1 o2 n3 n4 t5 R w) : Cl Try.prog 107 [.pointer (some ⟨b1, o2, none⟩), .int .i64 n3, .int .i64 n4, .bool t5] w R :=
  cl_of scr107 Try.func107 (by kernel_rfl) _ _ (by kernel_rfl) h
/-- (*spec.l6Cur).good -/
def V66 (b1 o2 : Nat) (t3 : Bool) (R : Rt) : Pred := fun w =>
  clV 107 ([.pointer (some ⟨b1, o2, none⟩), .int .i64 3, .int .i64 9, .bool t3]) w R fun r7 w6 => ∃ s4, ∃ n5, r7 = .tuple #[.string s4, .int .i64 n5] ∧ (cB (decide (((ByteArray.size s4 : Nat) : Int) > 120)) (R (.returned (.string (⟨#[40, 97, 124, 97, 98, 41, 42, 99, 63]⟩ : ByteArray))) w6) (R (.returned (.string s4)) w6))
def scr66 : Scr := (.q 1 (.q 8 (.q 3 (.cond (.q 1 .nil) (.q 2 .nil)))))
theorem vc66 {b1 o2 t3} {R w} (h : V66 b1 o2 t3 R w) : Cl Try.prog 66 [.pointer (some ⟨b1, o2, none⟩), .bool t3] w R :=
  cl_of scr66 Try.func66 (by kernel_rfl) _ _ (by kernel_rfl) h
/-- spec.Drawn -/
def V20 (a1 : Option Addr) (l1 c1 : Nat) (R : Rt) : Pred := fun w =>
  newC [.slice a1 l1 c1, .int .i64 0, .int .u64 0] 76 (fun b2 w3 => clS 66 ([.pointer (some ⟨b2, 0, none⟩), .bool false]) w3 R fun s4 w5 => clS 67 ([.pointer (some ⟨b2, 0, none⟩), .int .i64 14]) w5 R fun s7 w8 => R (.returned (.tuple #[.string s4, .string s7])) w8) w
def scr20 : Scr := (.q 2 (.q 4 (.q 3 (.q 5 .nil))))
theorem vc20 {a1 l1 c1} {R w} (h : V20 a1 l1 c1 R w) : Cl Try.prog 20 [.slice a1 l1 c1] w R :=
  cl_of scr20 Try.func20 (by kernel_rfl) _ _ (by kernel_rfl) h
/-- spec.Plain -/
def V55 (a1 : Option Addr) (l1 c1 : Nat) (R : Rt) : Pred := fun w =>
  newC [.slice a1 l1 c1, .int .i64 0, .int .u64 0] 76 (fun b2 w3 => clS 66 ([.pointer (some ⟨b2, 0, none⟩), .bool true]) w3 R fun s4 w5 => clS 67 ([.pointer (some ⟨b2, 0, none⟩), .int .i64 10]) w5 R fun s7 w8 => R (.returned (.tuple #[.string s4, .string s7])) w8) w
def scr55 : Scr := (.q 2 (.q 4 (.q 3 (.q 5 .nil))))
theorem vc55 {a1 l1 c1} {R w} (h : V55 a1 l1 c1 R w) : Cl Try.prog 55 [.slice a1 l1 c1] w R :=
  cl_of scr55 Try.func55 (by kernel_rfl) _ _ (by kernel_rfl) h
end Go.Proofs.Ytngbiaeliphdjaa.V
/- Printed by vcgen.py, a program of this session: formulas of Go functions, each with the proof that it gives the function's contract. No statement of the seat is proved here. -/
namespace Go.Proofs.Ytngbiaeliphdjaa.V
open Go.Vc Go.Proofs
set_option linter.unusedVariables false
set_option maxRecDepth 100000
/-- laws.wByte -/
def V28 (a1 : Option Addr) (l1 c1 : Nat) (n2 : Int) (R : Rt) : Pred := fun w =>
  (cB (((l1 : Nat) : Int) == 0) (R (.returned (.int .i64 0)) w) (((((l1 : Nat) : Int) : Int) ≠ 0) ∧ ixS a1 l1 (Int.tmod n2 ((l1 : Nat) : Int)) fun b3 o4 => lK .u8 w b3 (o4 + (Int.toNat (Int.tmod n2 ((l1 : Nat) : Int))) * 1) fun n5 => R (.returned (.int .i64 (IntKind.wrap .i64 n5))) w))
def scr28 : Scr := (.q 1 (.q 3 (.cond (.q 1 .nil) (.q 9 .nil))))
theorem vc28 {a1 l1 c1 n2} {R w} (h : V28 a1 l1 c1 n2 R w) : Cl Try.prog 28 [.slice a1 l1 c1, .int .i64 n2] w R :=
  cl_of scr28 Try.func28 (by kernel_rfl) _ _ (by kernel_rfl) h
/-- laws.wNumber -/
def V29 (n1 : Int) (R : Rt) : Pred := fun w =>
  (cB (decide (n1 < 10)) (newC [.int .u8 (IntKind.wrap .u8 (IntKind.wrap .i64 (48 + n1)))] 5 (fun b2 w3 => ∃ s4, (convert 22 9 (.slice (some ⟨b2, 0, none⟩) 1 1)).run Try.prog w3 = .ok (.string s4) w3 ∧ R (.returned (.string s4)) w3) w) (((10 : Int) ≠ 0) ∧ ((10 : Int) ≠ 0) ∧ newC [.int .u8 (IntKind.wrap .u8 (IntKind.wrap .i64 (48 + (IntKind.wrap .i64 (Int.tdiv n1 10))))), .int .u8 (IntKind.wrap .u8 (IntKind.wrap .i64 (48 + (Int.tmod n1 10))))] 5 (fun b5 w6 => ∃ s7, (convert 22 9 (.slice (some ⟨b5, 0, none⟩) 2 2)).run Try.prog w6 = .ok (.string s7) w6 ∧ R (.returned (.string s7)) w6) w))
def scr29 : Scr := (.q 1 (.q 2 (.cond (.q 6 .nil) (.q 11 .nil))))
theorem vc29 {n1} {R w} (h : V29 n1 R w) : Cl Try.prog 29 [.int .i64 n1] w R :=
  cl_of scr29 Try.func29 (by kernel_rfl) _ _ (by kernel_rfl) h
/-- laws.wA -/
def V31 (n1 : Int) (R : Rt) : Pred := fun w =>
  ∃ (I2 : Nat → Int → ByteArray → World → Prop), (∃ k4, I2 k4 n1 (⟨#[]⟩ : ByteArray) w) ∧ ∀ k3 (d6 : Nat → Value) n7 s8 w5, I2 k3 n7 s8 w5 → (cB (decide (n7 > 0)) ((s8.size + (⟨#[97]⟩ : ByteArray).size ≤ 9223372036854775807) ∧ (∃ m9, m9 < k3 ∧ I2 m9 (IntKind.wrap .i64 (n7 - 1)) (s8 ++ (⟨#[97]⟩ : ByteArray)) w5)) (R (.returned (.string s8)) w5))
def scr31 : Scr := (.q 1 (.q 1 (.loop (dr [(0, some (.int .i64)), (3, some .str)] [(4,6)]) (.q 2 (.cond (.q 3 (.q 3 .nil)) (.q 2 .nil))))))
theorem vc31 {n1} {R w} (h : V31 n1 R w) : Cl Try.prog 31 [.int .i64 n1] w R :=
  cl_of scr31 Try.func31 (by kernel_rfl) _ _ (by kernel_rfl) h
/-- (*spec.l6Cur).next -/
def V115 (b1 o2 : Nat) (R : Rt) : Pred := fun w =>
  drw (fun w3 => lI w3 b1 (o2 + 1) fun n4 => lL w3 b1 o2 fun a5 l5 c5 => (cB (decide (n4 < ((l5 : Nat) : Int))) (drw (fun w6 => lL w6 b1 o2 fun a7 l7 c7 => lI w6 b1 (o2 + 1) fun n8 => ixS a7 l7 n8 fun b9 o10 => lK .u8 w6 b9 (o10 + (Int.toNat n8) * 1) fun n11 => lI w6 b1 (o2 + 1) fun n12 => stW b1 (o2 + 1) [.int .i64 (IntKind.wrap .i64 (n12 + 1))] (fun w13 => lK .u64 w13 b1 (o2 + 2) fun n14 => stW b1 (o2 + 2) [.int .u64 (IntKind.wrap .u64 ((IntKind.wrap .u64 ((IntKind.wrap .u64 (n14 * 6364136223846793005)) + (IntKind.wrap .u64 n11))) + 1442695040888963407))] (fun w15 => R (.returned (.int .i64 (IntKind.wrap .i64 n11))) w15) w13) w6) w3) (lK .u64 w3 b1 (o2 + 2) fun n16 => stW b1 (o2 + 2) [.int .u64 (IntKind.wrap .u64 ((IntKind.wrap .u64 (n16 * 6364136223846793005)) + 1442695040888963407))] (fun w17 => lI w17 b1 (o2 + 1) fun n18 => stW b1 (o2 + 1) [.int .i64 (IntKind.wrap .i64 (n18 + 1))] (fun w19 => lK .u64 w19 b1 (o2 + 2) fun n20 => ((0 : Int) ≤ 40) ∧ R (.returned (.int .i64 (IntKind.wrap .i64 (IntKind.wrap .u64 (((BitVec.ofInt 64 (Int.fdiv n20 (2 ^ (min (Int.toNat 40) 64))) &&& BitVec.ofInt 64 255).toNat : Int)))))) w19) w17) w3))) w
def scr115 : Scr := (.q 1 (.q 10 (.cond (.q 11 (.q 8 (.q 13 (.q 3 .nil)))) (.q 10 (.q 8 (.q 8 .nil))))))
theorem vc115 {b1 o2} {R w} (h : V115 b1 o2 R w) : Cl Try.prog 115 [.pointer (some ⟨b1, o2, none⟩)] w R :=
  cl_of scr115 Try.func115 (by kernel_rfl) _ _ (by kernel_rfl) h
/-- (*spec.l6Cur).pick -/
def V82 (b1 o2 : Nat) (n3 : Int) (R : Rt) : Pred := fun w =>
  (cB (decide (n3 ≤ 1)) (R (.returned (.int .i64 0)) w) (clI 115 ([.pointer (some ⟨b1, o2, none⟩)]) w R fun n4 w5 => (cB (decide (n3 > 200)) (clI 115 ([.pointer (some ⟨b1, o2, none⟩)]) w5 R fun n7 w8 => ((n3 : Int) ≠ 0) ∧ R (.returned (.int .i64 (Int.tmod (IntKind.wrap .i64 ((IntKind.wrap .i64 (n4 * 256)) + n7)) n3))) w8) (((n3 : Int) ≠ 0) ∧ R (.returned (.int .i64 (Int.tmod n4 n3))) w5))))
def scr82 : Scr := (.q 1 (.q 2 (.cond (.q 1 .nil) (.q 3 (.q 2 (.cond (.q 6 (.q 4 .nil)) (.q 4 .nil)))))))
theorem vc82 {b1 o2 n3} {R w} (h : V82 b1 o2 n3 R w) : Cl Try.prog 82 [.pointer (some ⟨b1, o2, none⟩), .int .i64 n3] w R :=
  cl_of scr82 Try.func82 (by kernel_rfl) _ _ (by kernel_rfl) h
/-- (*spec.l6Cur).bytes -/
def V81 (b1 o2 : Nat) (n3 : Int) (R : Rt) : Pred := fun w =>
  ∃ (I4 : Nat → Int → Option Addr → Nat → Nat → World → Prop), (∃ k6, I4 k6 n3 none 0 0 w) ∧ ∀ k5 (d8 : Nat → Value) n9 a10 l10 c10 w7, I4 k5 n9 a10 l10 c10 w7 → (cB (decide (n9 > 0)) (clI 115 ([.pointer (some ⟨b1, o2, none⟩)]) w7 R fun n11 w12 => newC [.int .u8 (IntKind.wrap .u8 n11)] 5 (fun b14 w15 => ∃ a16 l16 c16, ∃ w17, (Builtin.append_ #[22, 22] 22 #[.slice a10 l10 c10, .slice (some ⟨b14, 0, none⟩) 1 1]).run Try.prog w15 = .ok (.slice a16 l16 c16) w17 ∧ (∃ m18, m18 < k5 ∧ I4 m18 (IntKind.wrap .i64 (n9 - 1)) a16 l16 c16 w17)) w12) (∃ s19, (convert 22 9 (.slice a10 l10 c10)).run Try.prog w7 = .ok (.string s19) w7 ∧ R (.returned (.string s19)) w7))
def scr81 : Scr := (.q 1 (.q 1 (.loop (dr [(1, some (.int .i64)), (5, some .slice)] [(6,10)]) (.q 2 (.cond (.q 7 (.q 3 .nil)) (.q 3 .nil))))))
theorem vc81 {b1 o2 n3} {R w} (h : V81 b1 o2 n3 R w) : Cl Try.prog 81 [.pointer (some ⟨b1, o2, none⟩), .int .i64 n3] w R :=
  cl_of scr81 Try.func81 (by kernel_rfl) _ _ (by kernel_rfl) h
/-- spec.Texts -/
def V32 (a1 : Option Addr) (l1 c1 : Nat) (R : Rt) : Pred := fun w =>
  newC [.slice a1 l1 c1, .int .i64 0, .int .u64 0] 76 (fun b2 w3 => clI 82 ([.pointer (some ⟨b2, 0, none⟩), .int .i64 28]) w3 R fun n4 w5 => clS 81 ([.pointer (some ⟨b2, 0, none⟩), .int .i64 n4]) w5 R fun s7 w8 => R (.returned (.string s7)) w8) w
def scr32 : Scr := (.q 1 (.q 4 (.q 5 .nil)))
theorem vc32 {a1 l1 c1} {R w} (h : V32 a1 l1 c1 R w) : Cl Try.prog 32 [.slice a1 l1 c1] w R :=
  cl_of scr32 Try.func32 (by kernel_rfl) _ _ (by kernel_rfl) h
/-- (*spec.l6Cur).text -/
def V67 (b1 o2 : Nat) (n3 : Int) (R : Rt) : Pred := fun w =>
  clI 82 ([.pointer (some ⟨b1, o2, none⟩), .int .i64 (IntKind.wrap .i64 (n3 + 1))]) w R fun n4 w5 => ∃ (I7 : Nat → Option Addr → Nat → Nat → Int → World → Prop), (∃ k9, I7 k9 none 0 0 n4 w5) ∧ ∀ k8 (d11 : Nat → Value) a12 l12 c12 n13 w10, I7 k8 a12 l12 c12 n13 w10 → (cB (decide (n13 > 0)) (clI 82 ([.pointer (some ⟨b1, o2, none⟩), .int .i64 12]) w10 R fun n14 w15 => (cB (n14 == 0) (clI 82 ([.pointer (some ⟨b1, o2, none⟩), .int .i64 6]) w15 R fun n17 w18 => (ixT (⟨#[49, 95, 32, 10, 92, 45]⟩ : ByteArray) n17) ∧ newC [.int .u8 (byteAt (⟨#[49, 95, 32, 10, 92, 45]⟩ : ByteArray) (Int.toNat n17))] 5 (fun b20 w21 => ∃ a22 l22 c22, ∃ w23, (Builtin.append_ #[22, 22] 22 #[.slice a12 l12 c12, .slice (some ⟨b20, 0, none⟩) 1 1]).run Try.prog w21 = .ok (.slice a22 l22 c22) w23 ∧ (∃ m24, m24 < k8 ∧ I7 m24 a22 l22 c22 (IntKind.wrap .i64 (n13 - 1)) w23)) w18) (clI 82 ([.pointer (some ⟨b1, o2, none⟩), .int .i64 3]) w15 R fun n25 w26 => newC [.int .u8 (IntKind.wrap .u8 (IntKind.wrap .i64 (97 + n25)))] 5 (fun b28 w29 => ∃ a30 l30 c30, ∃ w31, (Builtin.append_ #[22, 22] 22 #[.slice a12 l12 c12, .slice (some ⟨b28, 0, none⟩) 1 1]).run Try.prog w29 = .ok (.slice a30 l30 c30) w31 ∧ (∃ m32, m32 < k8 ∧ I7 m32 a30 l30 c30 (IntKind.wrap .i64 (n13 - 1)) w31)) w26))) (clI 82 ([.pointer (some ⟨b1, o2, none⟩), .int .i64 9]) w10 R fun n33 w34 => (cB (n33 == 0) ((cB (decide (((l12 : Nat) : Int) < n3)) (newC [.int .u8 10] 5 (fun b36 w37 => ∃ a38 l38 c38, ∃ w39, (Builtin.append_ #[22, 22] 22 #[.slice a12 l12 c12, .slice (some ⟨b36, 0, none⟩) 1 1]).run Try.prog w37 = .ok (.slice a38 l38 c38) w39 ∧ ∃ s40, (convert 22 9 (.slice a38 l38 c38)).run Try.prog w39 = .ok (.string s40) w39 ∧ R (.returned (.string s40)) w39) w34) (∃ s41, (convert 22 9 (.slice a12 l12 c12)).run Try.prog w34 = .ok (.string s41) w34 ∧ R (.returned (.string s41)) w34))) (∃ s42, (convert 22 9 (.slice a12 l12 c12)).run Try.prog w34 = .ok (.string s42) w34 ∧ R (.returned (.string s42)) w34))))
def scr67 : Scr := (.q 1 (.q 1 (.q 5 (.loop (dr [(5, some .slice), (6, some (.int .i64))] [(11,20)]) (.q 2 (.cond (.q 3 (.cond (.q 7 (.q 3 .nil)) (.q 8 (.q 3 .nil)))) (.run [0,1,2,3] (.split 34 (.r [4,5,6,7,8] (.cond (.q 4 (.q 3 .nil)) (.q 3 .nil))) (.r [4,5,6,7,8] (.lit (.q 3 .nil)))))))))))
theorem vc67 {b1 o2 n3} {R w} (h : V67 b1 o2 n3 R w) : Cl Try.prog 67 [.pointer (some ⟨b1, o2, none⟩), .int .i64 n3] w R :=
  cl_of scr67 Try.func67 (by kernel_rfl) _ _ (by kernel_rfl) h
end Go.Proofs.Ytngbiaeliphdjaa.V
/- The sequence behind the bytes: from every seed it comes to one place, behind which it is harmless for a while. No statement of the seat is proved here. -/
namespace Go.Vc
set_option linter.unusedVariables false
set_option linter.unusedSimpArgs false
def lg (x : Nat) : Nat := x * 6364136223846793005 + 1442695040888963407
def itg : Nat → Nat → Nat
  | 0, x => x
  | n + 1, x => itg n (lg x)
theorem itg_head (n x : Nat) : itg (n + 1) x = itg n (lg x) := rfl
theorem itg_add : ∀ (m n x : Nat), itg (m + n) x = itg n (itg m x)
  | 0, n, x => by rw [Nat.zero_add]; rfl
  | m + 1, n, x => by rw [Nat.add_right_comm]; exact itg_add m n (lg x)
theorem itg_last (n x : Nat) : itg (n + 1) x = lg (itg n x) := itg_add n 1 x
theorem itg_pow : ∀ k : Nat, ∃ u v : Nat, ∀ z, itg (2 ^ k) z = (1 + 2 ^ (k + 2) * u) * z + 2 ^ k * (1 + 2 * v)
  | 0 => ⟨1591034055961698251, 721347520444481703, fun z => by
      show z * 6364136223846793005 + 1442695040888963407 = _
      omega⟩
  | k + 1 => by
    obtain ⟨u, v, h⟩ := itg_pow k
    refine ⟨u + 2 ^ (k + 1) * u * u, v + 2 ^ k * u + 2 ^ (k + 1) * u * v, fun z => ?_⟩
    rw [show 2 ^ (k + 1) = 2 ^ k + 2 ^ k from by rw [Nat.pow_succ]; omega, itg_add, h, h]
    rw [show 2 ^ (k + 1 + 2) = 2 ^ k * 8 from by rw [Nat.pow_add, Nat.pow_add]; omega, show 2 ^ (k + 2) = 2 ^ k * 4 from Nat.pow_add 2 k 2]
    generalize 2 ^ k = P
    grind
theorem mod_two {P z y : Nat} (h : z % P = y % P) (hn : z % (P * 2) ≠ y % (P * 2)) : (z + P) % (P * 2) = y % (P * 2) := by
  by_cases hP : P = 0
  · subst hP; simp at h hn; exact absurd h hn
  rw [Nat.mod_mul] at hn ⊢
  rw [Nat.mod_mul] at hn ⊢
  rw [Nat.add_mod_right, Nat.add_div_right _ (by omega), h]
  rw [h] at hn
  congr 2
  have : z / P % 2 ≠ y / P % 2 := fun e => hn (by rw [e])
  omega
theorem itg_reach : ∀ (k x y : Nat), ∃ n, n < 2 ^ k ∧ itg n x % 2 ^ k = y % 2 ^ k
  | 0, x, y => ⟨0, by decide, by omega⟩
  | k + 1, x, y => by
    obtain ⟨n, h1, h2⟩ := itg_reach k x y
    obtain ⟨u, v, h⟩ := itg_pow k
    rw [Nat.pow_succ]
    by_cases h3 : itg n x % (2 ^ k * 2) = y % (2 ^ k * 2)
    · exact ⟨n, by omega, h3⟩
    · refine ⟨n + 2 ^ k, by omega, ?_⟩
      rw [itg_add, h, ← mod_two h2 h3]
      generalize itg n x = z
      rw [show 2 ^ (k + 2) = 2 ^ k * 4 from Nat.pow_add 2 k 2]
      generalize 2 ^ k = P
      have : (1 + P * 4 * u) * z + P * (1 + 2 * v) = z + P + P * 2 * (2 * u * z + v) := by grind
      rw [this, Nat.add_mul_mod_self_left]
theorem lg_mod {M x y : Nat} (h : x % M = y % M) : lg x % M = lg y % M := by
  unfold lg
  rw [Nat.add_mod, Nat.mul_mod, h, ← Nat.mul_mod, ← Nat.add_mod]
theorem itg_mod {M : Nat} : ∀ (n : Nat) {x y : Nat}, x % M = y % M → itg n x % M = itg n y % M
  | 0, _, _, h => h
  | n + 1, _, _, h => itg_mod n (lg_mod h)
/-- The place. -/
def lcS : Nat := 138374360053217
def good (v : Nat) : Prop := v % 12 ≠ 4 ∧ v % 12 ≠ 5 ∧ v % 12 ≠ 6 ∧ v % 6 ≠ 0
instance (v : Nat) : Decidable (good v) := by unfold good; infer_instance
theorem good_win : ∀ j : Nat, j < 59 → good (itg (j + 1) lcS % 281474976710656 / 1099511627776) := by
  have : ∀ j : Fin 59, good (itg (j.val + 1) lcS % 281474976710656 / 1099511627776) := by decide +kernel
  exact fun j h => this ⟨j, h⟩
/-- How many draws there may be yet: more than 5059 far from the place; the last 59 ahead of 5000 stand behind it. -/
def Bd (l p sd m : Nat) : Prop := p + m ≤ 1125899906842624 ∧
  (m ≤ 5000 ∨ (5000 < m ∧ m ≤ 5059 ∧ l ≤ p ∧ sd % 281474976710656 = itg (5059 - m) lcS % 281474976710656) ∨ (5059 < m ∧ (l ≤ p ∧ itg (m - 5059) sd % 281474976710656 = lcS % 281474976710656 ∨ p < l ∧ m = 5059 + 281474976710656 + (l - p))))
theorem bd_out {l p sd : Nat} (hp : p ≤ 1048576) (h : l ≤ p) : ∃ n, n < 281474976710656 ∧ Bd l p sd (5059 + n) := by
  obtain ⟨n, h1, h2⟩ := itg_reach 48 sd lcS
  refine ⟨n, h1, by omega, .inr ?_⟩
  by_cases hn : n = 0
  · subst hn
    exact .inl ⟨by omega, by omega, h, h2⟩
  · exact .inr ⟨by omega, .inl ⟨h, by rw [show 5059 + n - 5059 = n from by omega]; exact h2⟩⟩
theorem bd_start {l sd : Nat} (h : l ≤ 1048576) : ∃ m, 5059 ≤ m ∧ Bd l 0 sd m := by
  by_cases hl : l = 0
  · subst hl
    obtain ⟨n, _, h2⟩ := bd_out (l := 0) (p := 0) (sd := sd) (by omega) (by omega)
    exact ⟨_, by omega, h2⟩
  · exact ⟨5059 + 281474976710656 + (l - 0), by omega, by omega, .inr (.inr ⟨by omega, .inr ⟨by omega, rfl⟩⟩)⟩
theorem bd_code {l p sd m sd' : Nat} (h : Bd l p sd m) (hm : 0 < m) (hl : l ≤ 1048576) (hp : p < l) : ∃ m', m' < m ∧ min (m - 1) 5059 ≤ m' ∧ Bd l (p + 1) sd' m' := by
  obtain ⟨h1, h2 | ⟨h2, h3, h4, h5⟩ | ⟨h2, ⟨h3, h4⟩ | ⟨h3, h4⟩⟩⟩ := h
  · exact ⟨m - 1, by omega, by omega, by omega, .inl (by omega)⟩
  · omega
  · omega
  · by_cases he : p + 1 < l
    · exact ⟨m - 1, by omega, by omega, by omega, .inr (.inr ⟨by omega, .inr ⟨he, by omega⟩⟩)⟩
    · obtain ⟨n, h5, h6⟩ := bd_out (l := l) (p := p + 1) (sd := sd') (by omega) (by omega)
      exact ⟨_, by omega, by omega, h6⟩
theorem bd_seq {l p sd m sd' : Nat} (h : Bd l p sd m) (hm : 0 < m) (hp : l ≤ p) (hs : sd' % 281474976710656 = lg sd % 281474976710656) : Bd l (p + 1) sd' (m - 1) := by
  obtain ⟨h1, h2 | ⟨h2, h3, h4, h5⟩ | ⟨h2, ⟨h3, h4⟩ | ⟨h3, h4⟩⟩⟩ := h
  · exact ⟨by omega, .inl (by omega)⟩
  · refine ⟨by omega, ?_⟩
    by_cases h6 : m - 1 ≤ 5000
    · exact .inl h6
    · refine .inr (.inl ⟨by omega, by omega, by omega, ?_⟩)
      rw [show 5059 - (m - 1) = 5059 - m + 1 from by omega, itg_last, hs]
      exact lg_mod h5
  · refine ⟨by omega, .inr ?_⟩
    have h7 : itg (m - 1 - 5059) sd' % 281474976710656 = lcS % 281474976710656 := by
      rw [itg_mod _ hs]
      rw [show m - 5059 = (m - 1 - 5059) + 1 from by omega, itg_head] at h4
      exact h4
    by_cases h6 : m - 1 = 5059
    · rw [h6] at h7 ⊢
      rw [Nat.sub_self] at h7
      exact .inl ⟨by omega, by omega, by omega, by rw [Nat.sub_self]; exact h7⟩
    · exact .inr ⟨by omega, .inl ⟨by omega, h7⟩⟩
  · omega
theorem bd_good {l p sd m sd' : Nat} (h : Bd l p sd m) (h1 : 5000 < m) (h2 : m ≤ 5059) (hs : sd' % 281474976710656 = lg sd % 281474976710656) : l ≤ p ∧ good (sd' / 1099511627776 % 256) := by
  obtain ⟨_, h3 | ⟨_, _, h4, h5⟩ | ⟨h3, _⟩⟩ := h
  · omega
  · refine ⟨h4, ?_⟩
    have h6 : sd' % 281474976710656 = itg (5059 - m + 1) lcS % 281474976710656 := by rw [itg_last, hs]; exact lg_mod h5
    have h7 := good_win (5059 - m) (by omega)
    rw [← h6] at h7
    have h8 : sd' % 281474976710656 / 1099511627776 = sd' / 1099511627776 % 256 := by omega
    rw [← h8]; exact h7
  · omega
end Go.Vc
/- For the rows: what was read stays readable where nothing old has changed; bytes among the arguments. No statement of the seat is proved here. -/
namespace Go.Vc
open Go.RowKit
set_option linter.unusedVariables false
set_option linter.unusedSimpArgs false
theorem trodAll_carry {H : Type} {enc : TypeId × Value → H} {P : Program} {w w' : World} {spare : Nat → Bool} {held : Bool} (hb : Below w.heap.size w w') :
    ∀ {ts : List TypeId} {vs : List Value} {ds : List (DataW H)} {ps : List MemPlace}, DataW.TrodAll enc P w 0 spare held ts vs ds ps → DataW.TrodAll enc P w' 0 spare held ts vs ds ps
  | [], [], [], ps, h => h
  | t :: ts, v :: vs, d :: ds, ps, ⟨p, q, ⟨n, h1⟩, h2, h3⟩ =>
    ⟨p, q, ⟨n, DataW.trod_carry n t v.cells.toList (d, p) h1 fun x hx => hb.same (DataW.trod_lt n t v.cells.toList (d, p) h1 x hx)⟩, trodAll_carry hb h2, h3⟩
  | [], [], _ :: _, _, h => h.elim
  | [], _ :: _, _, _, h => h.elim
  | _ :: _, [], _, _, h => h.elim
  | _ :: _, _ :: _, [], _, h => h.elim
theorem trodAll_back {H : Type} {enc : TypeId × Value → H} {P : Program} {w w' : World} (hb : Below w.heap.size w w') (hl : laidOutB P = true) (hm : mapsRowed P = true)
    (hf : ((List.range P.types.size).all fun t => match P.underlying t with | some (.slice e) => decide (0 < P.cellsOf e) | _ => true) = true) {ts : List TypeId} {vs : List Value} {ds : List (DataW H)} {ps : List MemPlace}
    (ht : (ts.all fun t => decide (t < P.types.size)) = true) (h : DataW.TrodAll enc P w 0 (fun _ => true) true ts vs ds ps) : DataW.TrodAll enc P w' 0 (fun b => decide (b < w.heap.size)) true ts vs ds ps :=
  trodAll_carry hb (DataW.TrodAll.respare (kids_rows hl hm) (fun t e h1 h2 => slices_full_of P hf t e h1 h2) (fun t h1 => of_decide_eq_true (List.all_eq_true.1 ht t h1)) h fun p hp => decide_eq_true (DataW.TrodAll.lt h p hp))

/-- The given bytes: readable, below B. -/
def GBytes (w : World) (B : Nat) (a : Option Addr) (l : Nat) : Prop :=
  l ≤ 1048576 ∧ (l = 0 ∨ ∃ b o, a = some ⟨b, o, none⟩ ∧ b < B ∧ ∀ i, i < l → ∃ n : Int, 0 ≤ n ∧ n ≤ 255 ∧ cellH w.heap b (o + i) = some (.int .u8 n))
theorem open_bytes {H : Type} {enc : TypeId × Value → H} {P : Program} {w : World} {base : Nat} {spare : Nat → Bool} {held : Bool} {r : Reach} {b0 : Nat} {t e : TypeId} {v : Value} {d : DataW H} {ps : List MemPlace}
    (ht : P.underlying t = some (.slice e)) (he : P.underlying e = some (.int .u8)) (hc : P.cellsOf e = 1) (hval : Value.okWide P w r b0 t v) (hd : DataW.Trod enc P w base spare held t v d ps) :
    ∃ a l c, v = .slice a l c ∧ (l ≤ 1048576 → GBytes w w.heap.size a l) := by
  obtain ⟨a0, l0, c0, rfl⟩ := Go.WideShapes.okWide_slice ht hval
  obtain ⟨fuel, hf⟩ := hd
  refine ⟨a0, l0, c0, rfl, fun hl => ⟨hl, ?_⟩⟩
  rcases Go.ChangeShapes.open_ints ht he hc hf with ⟨h1, _⟩ | ⟨a, len, cap, zs, h1, _, hle, _, hlen, _, hcell, hwf⟩
  · simp [Value.cells] at h1
    obtain ⟨rfl, rfl, rfl⟩ := h1
    exact .inl rfl
  · simp [Value.cells] at h1
    obtain ⟨rfl, rfl, rfl⟩ := h1
    by_cases h0 : l0 = 0
    · exact .inl h0
    have hz : l0 ≤ zs.length := by rw [hlen]; split <;> omega
    obtain ⟨b, o, rfl, hcell2⟩ := ints_at hcell (by omega)
    have hcell' : ∀ i, i < zs.length → cellH w.heap b (o + i) = some (.int .u8 (zs.getD i 0)) := fun i hi => by
      rw [← cell?_plain]; exact hcell2 i hi
    refine .inr ⟨b, o, rfl, ?_, fun i hi => ⟨zs.getD i 0, ?_, ?_, hcell' i (by omega)⟩⟩
    · have := hcell' 0 (by omega)
      rcases Nat.lt_or_ge b w.heap.size with h | h
      · exact h
      · unfold cellH at this; rw [Array.getElem?_eq_none h] at this; cases this
    · have := bounds_u8 (hwf (zs.getD i 0) (by rw [List.getD_eq_getElem?_getD, List.getElem?_eq_getElem (by omega)]; exact List.getElem_mem _)); omega
    · have := bounds_u8 (hwf (zs.getD i 0) (by rw [List.getD_eq_getElem?_getD, List.getElem?_eq_getElem (by omega)]; exact List.getElem_mem _)); omega
end Go.Vc
/- The functions that draw, over their cursor: what they draw, and how many draws there may be yet. No statement of the seat is proved here. -/
namespace Go.Proofs.Ytngbiaeliphdjaa.V
open Go.Vc Go.Proofs Go.RowKit
set_option linter.unusedVariables false
set_option linter.unusedSimpArgs false

theorem _root_.Go.Vc.GBytes.ext {S : Nat → Prop} {w w' : World} {B : Nat} {a : Option Addr} {l : Nat} (h : GBytes w B a l) (e : Ext S w w') (hB : B ≤ w.heap.size) (hs : ∀ k, k < B → ¬ S k) : GBytes w' B a l := by
  refine ⟨h.1, h.2.imp id ?_⟩
  rintro ⟨b, o, rfl, hb, hc⟩
  refine ⟨b, o, rfl, hb, fun i hi => ?_⟩
  obtain ⟨n, h1, h2, h3⟩ := hc i hi
  exact ⟨n, h1, h2, by rw [e.cellH (by omega) (hs b hb)]; exact h3⟩
def Cur (w : World) (b B : Nat) (a : Option Addr) (l c m : Nat) : Prop :=
  (∃ (p : Nat) (sd : Nat), Blk w.heap b 76 [.slice a l c, .int .i64 (p : Int), .int .u64 (sd : Int)] ∧ sd < 18446744073709551616 ∧ Bd l p sd m) ∧ GBytes w B a l ∧ B ≤ b ∧ l ≤ 1048576
theorem Cur.lt {w : World} {b B : Nat} {a : Option Addr} {l c m : Nat} (h : Cur w b B a l c m) : b < w.heap.size := by obtain ⟨⟨p, sd, h, _⟩, _⟩ := h; exact h.lt
theorem Cur.ext {S : Nat → Prop} {w w' : World} {b B : Nat} {a : Option Addr} {l c m : Nat} (h : Cur w b B a l c m) (e : Ext S w w') (hs : ∀ k, k ≤ b → ¬ S k) : Cur w' b B a l c m := by
  have hlt := h.lt
  obtain ⟨⟨p, sd, h1, h2⟩, h3, h4, h5⟩ := h
  exact ⟨⟨p, sd, h1.keep e (hs b (by omega)), h2⟩, h3.ext e (by omega) (fun k hk => hs k (by omega)), h4, h5⟩
theorem Cur.below {w w' : World} {b B : Nat} {a : Option Addr} {l c m : Nat} (h : Cur w b B a l c m) (e : Below w.heap.size w w') : Cur w' b B a l c m :=
  h.ext (S := fun _ => False) (Ext.of_below e) fun _ _ h => h
theorem Cur.blk {w w' : World} {b k : Nat} {e : TypeId} {cs : List Value} (hk : Blk w.heap k e cs) (hb : b < k) (E : Ext (fun k => k = b) w w') : Blk w'.heap k e cs := hk.keep E (by omega)
/-- What a drawing leaves: the value, and how many draws there may be yet. -/
def Drew (w : World) (b B : Nat) (a : Option Addr) (l c : Nat) (φ : Value → Nat → Prop) : Ending → World → Prop :=
  fun e w' => ∃ v m', e = .returned v ∧ φ v m' ∧ Cur w' b B a l c m' ∧ Ext (fun k => k = b) w w'
theorem u64w {n : Int} : IntKind.wrap .u64 n = n % 18446744073709551616 := by
  have h1 : (2 ^ IntKind.u64.bits : Int) = 18446744073709551616 := by decide
  have h3 : IntKind.u64.signed = false := rfl
  unfold IntKind.wrap
  simp only [h1, h3, Bool.false_and, Bool.false_eq_true, if_false]
theorem lg_u64 (sd : Nat) : IntKind.wrap .u64 ((IntKind.wrap .u64 ((sd : Int) * 6364136223846793005)) + 1442695040888963407) = ((lg sd % 18446744073709551616 : Nat) : Int) := by
  rw [u64w, u64w]; unfold lg; omega
theorem top_byte {sd : Nat} (h : sd < 18446744073709551616) : IntKind.wrap .i64 (IntKind.wrap .u64 (((BitVec.ofInt 64 (Int.fdiv (sd : Int) (2 ^ (min (Int.toNat 40) 64))) &&& BitVec.ofInt 64 255).toNat : Int))) = ((sd / 1099511627776 % 256 : Nat) : Int) := by
  have e : (2 : Int) ^ (min (Int.toNat 40) 64) = 1099511627776 := by decide
  rw [e, Int.fdiv_eq_ediv_of_nonneg _ (by decide)]
  have e2 : (BitVec.ofInt 64 ((sd : Int) / 1099511627776) &&& BitVec.ofInt 64 255).toNat = sd / 1099511627776 % 256 := by
    rw [BitVec.toNat_and]
    have h1 : (BitVec.ofInt 64 ((sd : Int) / 1099511627776)).toNat = sd / 1099511627776 := by
      rw [BitVec.toNat_ofInt]
      have : ((2 ^ 64 : Nat) : Int) = 18446744073709551616 := by decide
      rw [this]; omega
    have h2 : (BitVec.ofInt 64 255).toNat = 2 ^ 8 - 1 := by decide
    rw [h1, h2, Nat.and_two_pow_sub_one_eq_mod]
  rw [e2, u64w, w64 (by omega)]
  omega
theorem next_ok {w : World} {b B : Nat} {a : Option Addr} {l c m : Nat} (h : Cur w b B a l c m) (hm : 0 < m) :
    Cl Try.prog 115 [.pointer (some ⟨b, 0, none⟩)] w (Drew w b B a l c fun v m' => m' < m ∧ min (m - 1) 5059 ≤ m' ∧ ∃ n : Nat, v = .int .i64 (n : Int) ∧ n ≤ 255 ∧ (5000 < m → m ≤ 5059 → good n)) := by
  apply vc115
  unfold V115
  obtain ⟨⟨p, sd, hB, hsd, hbd⟩, hC, hb, hl⟩ := h
  have hpl := hB.lt
  have hp := hbd.1
  refine drw_in fun w1 q1 e1 => ?_
  have hB1 := hB.keep e1 fun h => h
  refine ⟨p, hB1.cell 1, a, l, c, hB1.cell 0, fun g => ?_, fun g => ?_⟩
  · have g' : p < l := by have := of_decide_eq_true g; omega
    refine drw_in fun w2 q2 e2 => ?_
    have hB2 := hB1.keep e2 fun h => h
    have hC2 := (hC.ext e1 (by omega) (fun _ _ h => h)).ext e2 (by have := e1.size; omega) (fun _ _ h => h)
    rcases hC2.2 with h0 | ⟨b', o', rfl, hb', hc⟩
    · omega
    obtain ⟨n, hn1, hn2, hn3⟩ := hc p g'
    refine ⟨_, l, c, hB2.cell 0, p, hB2.cell 1, b', o', ⟨rfl, by omega, by omega⟩, n, ?_, p, hB2.cell 1, ?_⟩
    · rw [show (Int.toNat (p : Int)) * 1 = p from by omega]; exact hn3
    refine stW_in hB2 (by show 0 + 1 + 1 ≤ 3; decide) fun w3 s3 k3 e3 => ?_
    refine ⟨sd, k3.cell 2, ?_⟩
    refine stW_in k3 (by show 0 + 2 + 1 ≤ 3; decide) fun w4 s4 k4 e4 => ?_
    have hE : Ext (fun k => k = b) w w4 := (((Ext.mono e1 fun _ _ h => h.elim).trans (Ext.mono e2 fun _ _ h => h.elim)).trans e3).trans e4
    have hw : IntKind.wrap .i64 ((p : Int) + 1) = ((p + 1 : Nat) : Int) := by rw [w64 (by omega)]; omega
    obtain ⟨sd', hsd', hlt'⟩ : ∃ sd' : Nat, (IntKind.wrap .u64 ((IntKind.wrap .u64 ((IntKind.wrap .u64 ((sd : Int) * 6364136223846793005)) + (IntKind.wrap .u64 n))) + 1442695040888963407)) = (sd' : Int) ∧ sd' < 18446744073709551616 := by
      rw [u64w]
      generalize (IntKind.wrap .u64 ((IntKind.wrap .u64 ((sd : Int) * 6364136223846793005)) + (IntKind.wrap .u64 n))) + 1442695040888963407 = x
      exact ⟨(x % 18446744073709551616).toNat, by omega, by omega⟩
    obtain ⟨m', hm1, hm2, hm3⟩ := bd_code hbd hm hl g' (sd' := sd')
    refine ⟨_, m', rfl, ⟨hm1, hm2, n.toNat, by rw [w64 (by omega), Int.toNat_of_nonneg hn1], by omega, fun h1 h2 => ?_⟩, ⟨⟨p + 1, sd', ?_, hlt', hm3⟩, hC.ext hE (by omega) (fun k hk => by omega), hb, hl⟩, hE⟩
    · have := (bd_good hbd h1 h2 (sd' := lg sd) rfl).1; omega
    · rw [← hw, ← hsd']; exact k4
  · have g' : l ≤ p := by have := of_decide_eq_false g; omega
    refine ⟨sd, hB1.cell 2, ?_⟩
    refine stW_in hB1 (by show 0 + 2 + 1 ≤ 3; decide) fun w3 s3 k3 e3 => ?_
    refine ⟨p, k3.cell 1, ?_⟩
    refine stW_in k3 (by show 0 + 1 + 1 ≤ 3; decide) fun w4 s4 k4 e4 => ?_
    have hE : Ext (fun k => k = b) w w4 := ((Ext.mono e1 fun _ _ h => h.elim).trans e3).trans e4
    have hw : IntKind.wrap .i64 ((p : Int) + 1) = ((p + 1 : Nat) : Int) := by rw [w64 (by omega)]; omega
    have k4' : Blk w4.heap b 76 [.slice a l c, .int .i64 ((p + 1 : Nat) : Int), .int .u64 ((lg sd % 18446744073709551616 : Nat) : Int)] := by rw [← hw, ← lg_u64]; exact k4
    have hlt : lg sd % 18446744073709551616 < 18446744073709551616 := Nat.mod_lt _ (by decide)
    have hcg : lg sd % 18446744073709551616 % 281474976710656 = lg sd % 281474976710656 := by omega
    generalize lg sd % 18446744073709551616 = sd' at *
    refine ⟨_, k4'.cell 2, by decide, _, m - 1, rfl, ⟨by omega, by omega, sd' / 1099511627776 % 256, by rw [top_byte hlt], by omega, fun h1 h2 => (bd_good hbd h1 h2 hcg).2⟩, ⟨⟨p + 1, sd', k4', hlt, bd_seq hbd hm g' hcg⟩, hC.ext hE (by omega) (fun k hk => by omega), hb, hl⟩, hE⟩
/-- A draw of at most 200 things. -/
theorem pick_ok {w : World} {b B : Nat} {a : Option Addr} {l c m : Nat} (h : Cur w b B a l c m) (hm : 0 < m) (n : Nat) (h1 : 2 ≤ n) (h2 : n ≤ 200) :
    Cl Try.prog 82 [.pointer (some ⟨b, 0, none⟩), .int .i64 (n : Int)] w (Drew w b B a l c fun v m' => m' < m ∧ min (m - 1) 5059 ≤ m' ∧ ∃ r : Nat, v = .int .i64 (r : Int) ∧ r < n ∧ (5000 < m → m ≤ 5059 → (n = 12 → r ≠ 4 ∧ r ≠ 5 ∧ r ≠ 6) ∧ (n = 6 → r ≠ 0))) := by
  apply vc82
  unfold V82
  refine ⟨fun g => by have := of_decide_eq_true g; omega, fun _ => ?_⟩
  refine (next_ok h hm).use fun e w1 he => ?_
  obtain ⟨_, m', rfl, ⟨h3, h4, x, rfl, hx, hg⟩, hC1, e1⟩ := he
  refine ⟨x, rfl, fun g1 => by have := of_decide_eq_true g1; omega, fun _ => ?_⟩
  refine ⟨by omega, _, m', rfl, ⟨h3, h4, x % n, ?_, Nat.mod_lt _ (by omega), fun h5 h6 => ?_⟩, hC1, e1⟩
  · rw [Int.tmod_eq_emod_of_nonneg (by omega), Int.natCast_emod]
  · have := hg h5 h6
    unfold good at this
    exact ⟨fun h => by subst h; omega, fun h => by subst h; omega⟩
theorem pick0_ok {w : World} {b B : Nat} {a : Option Addr} {l c m : Nat} (h : Cur w b B a l c m) {n : Int} (hn : n ≤ 1) :
    Cl Try.prog 82 [.pointer (some ⟨b, 0, none⟩), .int .i64 n] w (Drew w b B a l c fun v m' => m' = m ∧ v = .int .i64 0) := by
  apply vc82
  unfold V82
  exact ⟨fun _ => ⟨_, m, rfl, ⟨rfl, rfl⟩, h, Ext.refl _ _⟩, fun g => by have := of_decide_eq_false g; omega⟩
/-- Any draw. -/
theorem pickN_ok {w : World} {b B : Nat} {a : Option Addr} {l c m : Nat} (h : Cur w b B a l c m) (hm : 0 < m) (n : Nat) (h0 : 1 ≤ n) (h2 : n ≤ 200) :
    Cl Try.prog 82 [.pointer (some ⟨b, 0, none⟩), .int .i64 (n : Int)] w (Drew w b B a l c fun v m' => m' ≤ m ∧ min (m - 1) 5059 ≤ m' ∧ ∃ r : Nat, v = .int .i64 (r : Int) ∧ r < n) := by
  by_cases h1 : 2 ≤ n
  · refine (pick_ok h hm n h1 h2).use fun e w' he => ?_
    obtain ⟨v, m', h3, ⟨h4, h5, r, h6, h7, _⟩, h8, h9⟩ := he
    exact ⟨v, m', h3, ⟨by omega, h5, r, h6, h7⟩, h8, h9⟩
  · refine (pick0_ok h (by omega)).use fun e w' he => ?_
    obtain ⟨v, m', h3, ⟨h4, h5⟩, h8, h9⟩ := he
    exact ⟨v, m', h3, ⟨by omega, by omega, 0, h5, by omega⟩, h8, h9⟩
theorem elemU8 : Elem Try.prog 22 5 1 1 := ⟨Try.underlying22, by kernel_rfl, by kernel_rfl, ⟨[.int .u8 0], by kernel_rfl, rfl⟩⟩
theorem u8s_append (l m : Bytes) : u8s (l ++ m) = u8s l ++ u8s m := by simp [u8s]
/-- The bytes become a string. -/
theorem row_str {N : Nat} {w : World} {a : Option Addr} {l c : Nat} {xs : Bytes} (h : Row N w 5 1 a l c (u8s xs)) : (convert 22 9 (.slice a l c)).run Try.prog w = .ok (.string (Go.Vc.B xs)) w := by
  obtain ⟨⟨v1, v2, v3⟩, v4, v5⟩ := h
  have hx : xs.length = l := by have := v1; simp [u8s] at this; omega
  rcases v3 with ⟨rfl, rfl⟩ | ⟨bb, cs, rfl, hB, h4, h5⟩
  · have : l = 0 := by omega
    have : xs = [] := List.length_eq_zero_iff.1 (by omega)
    subst this
    exact conv_nil Try.underlying22 Try.underlying9 Try.underlying5
  · exact conv_run Try.underlying22 Try.underlying9 Try.underlying5 (by omega) (hB.cellsAt (n := l * 1) (by simpa using h5) v1.symm)
theorem bytes_ok {w : World} {b B : Nat} {a : Option Addr} {l c m : Nat} (h : Cur w b B a l c m) (n : Nat) (hn : n ≤ 1000000) (hm : n ≤ m) (ht : m ≤ 5059 ∨ n ≤ 5059) :
    Cl Try.prog 81 [.pointer (some ⟨b, 0, none⟩), .int .i64 (n : Int)] w (Drew w b B a l c fun v m' => m' ≤ m ∧ min m 5059 ≤ m' + n ∧ ∃ s : Bytes, v = .string (Go.Vc.B s) ∧ s.length = n) := by
  apply vc81
  unfold V81
  have hbl := h.lt
  refine ⟨fun k j ax lx cx w' => ∃ (i : Nat) (xs : Bytes) (m' : Nat), j = ((n - i : Nat) : Int) ∧ i ≤ n ∧ k = n - i ∧ i = lx ∧ xs.length = i ∧ m' ≤ m ∧ min m 5059 ≤ m' + i ∧ Row w.heap.size w' 5 1 ax lx cx (u8s xs) ∧ Cur w' b B a l c m' ∧ Ext (fun k => k = b) w w', ⟨_, 0, [], m, rfl, by omega, rfl, rfl, rfl, by omega, by omega, Row.nil _ _ (Nat.le_refl _), h, Ext.refl _ _⟩, ?_⟩
  rintro k d j ax lx cx w1 ⟨i, xs, m1, rfl, hi, rfl, hil, hx, hm1, hm2, hR, hC, hE⟩
  refine ⟨fun g => ?_, fun g => ?_⟩
  · have g' : i < n := by have := of_decide_eq_true g; omega
    refine (next_ok hC (by omega)).use fun e w2 he => ?_
    obtain ⟨_, m2, rfl, ⟨h3, h4, y, rfl, hy, _⟩, hC2, e2⟩ := he
    refine ⟨y, rfl, ?_⟩
    have hy : IntKind.wrap .u8 (y : Int) = ((UInt8.ofNat y).toNat : Int) := by rw [w8, UInt8.toNat_ofNat']; omega
    dsimp only
    rw [hy]
    obtain ⟨a3, c3, w3, r1, r2, r3⟩ := (hR.keep e2 fun k hk h => by omega).app1 elemU8 (ys := u8s [UInt8.ofNat y]) (n := 1) rfl rfl (by omega) (by omega)
    refine ⟨a3, _, c3, w3, r1, n - (i + 1), by omega, i + 1, xs ++ [UInt8.ofNat y], m2, ?_, by omega, rfl, by omega, by simp; omega, by omega, by omega, ?_, ?_, ?_⟩
    · rw [w64 (by omega)]; omega
    · rw [u8s_append]; exact r2
    · exact (hC2.ext r3 fun k hk (h : _ ≤ k) => by omega)
    · exact (hE.trans e2).step r3 fun i hi (h : _ ≤ i) => by omega
  · have : i = n := by have := of_decide_eq_false g; omega
    subst this
    exact ⟨Go.Vc.B xs, row_str hR, _, m1, rfl, ⟨hm1, hm2, xs, rfl, hx⟩, hC, hE⟩
/-- A cursor is made. -/
theorem cur_in {w : World} {a : Option Addr} {l c : Nat} (h : GBytes w w.heap.size a l) (hl : l ≤ 1048576) {K : Nat → World → Prop} (hK : ∀ w1 m, 5059 ≤ m → Cur w1 w.heap.size w.heap.size a l c m → Below w.heap.size w w1 → K w.heap.size w1) :
    newC [.slice a l c, .int .i64 0, .int .u64 0] 76 K w := by
  refine newC_in fun w1 s1 k1 e1 => ?_
  obtain ⟨m, hm, hb⟩ := bd_start (l := l) (sd := 0) hl
  exact hK w1 m hm ⟨⟨0, 0, k1, by decide, hb⟩, h.ext e1 (Nat.le_refl _) (fun _ _ h => h), Nat.le_refl _, hl⟩ (Ext.to (Below.refl _ _) e1 fun _ h => h.elim)
theorem texts_ok {w : World} {a : Option Addr} {l c : Nat} (h : GBytes w w.heap.size a l) (hl : l ≤ 1048576) :
    Cl Try.prog 32 [.slice a l c] w (fun e w' => ∃ s : Bytes, e = .returned (.string (Go.Vc.B s)) ∧ s.length ≤ 27 ∧ Below w.heap.size w w') := by
  apply vc32
  unfold V32
  refine cur_in h hl fun w1 m hm hC B1 => ?_
  refine (pick_ok hC (by omega) 28 (by omega) (by omega)).use fun e w2 he => ?_
  obtain ⟨_, m2, rfl, ⟨h3, h4, r, rfl, hr, _⟩, hC2, e2⟩ := he
  refine ⟨r, rfl, ?_⟩
  refine (bytes_ok hC2 r (by omega) (by omega) (by omega)).use fun e w3 he => ?_
  obtain ⟨_, m3, rfl, ⟨_, _, s, rfl, hs⟩, hC3, e3⟩ := he
  exact ⟨_, rfl, s, rfl, by omega, Ext.to (Ext.to B1 e2 fun i h => by omega) e3 fun i h => by omega⟩
end Go.Proofs.Ytngbiaeliphdjaa.V
/- Drawn patterns are read: their parts. No statement of the seat is proved here. -/
namespace Go.Vc
set_option linter.unusedVariables false
set_option linter.unusedSimpArgs false
/-- Nothing holds it to the text's end. -/
def NE (ps : List Pc) : Prop := ∀ x ∈ ps, x.kind ≠ 7
theorem NE.app {ps : List Pc} (h : NE ps) {x : Pc} (hx : x.kind ≠ 7) : NE (ps ++ [x]) := by
  intro y hy
  rcases List.mem_append.1 hy with hy | hy
  · exact h y hy
  · rw [List.mem_singleton.1 hy]; exact hx
theorem NE.nil : NE [] := by intro x hx; cases hx
theorem NE.alt {ps : List Pc} (h : NE ps) (kids : List Int) : NE (altO ps kids).1 := by
  match kids with
  | [] => exact h.app (by simp [pAlt])
  | [k] => exact h
  | a :: b :: r => exact h.app (by simp [pAlt])
def SqS (pl : Bool) (d g : Nat) (s : Bytes) (g' : Nat) : Prop := ∃ F, SqX d g s g' F ∧ (pl = true → ∀ out kids, NE out → NE (F out kids).1)
def PtS (pl : Bool) (d g : Nat) (s : Bytes) (g' : Nat) : Prop := ∃ F, PtX d g s g' F ∧ (pl = true → ∀ out kids, NE out → NE (F out kids).1)
def AtS (pl : Bool) (d g : Nat) (s : Bytes) (g' : Nat) : Prop := ∃ A, AtX d g s g' A ∧ (pl = true → ∀ out, NE out → NE (A out).1)
def CnS (s : Bytes) : Prop := ∃ a b z, CnX s a b z
theorem SqS.nil (pl : Bool) (d g : Nat) : SqS pl d g [] g := ⟨_, SqX.nil d g, fun _ out kids h => h⟩
theorem SqS.app {pl : Bool} {d g g1 g2 : Nat} {s t : Bytes} (h : SqS pl d g s g1) (k : SqS pl d g1 t g2) : SqS pl d g (s ++ t) g2 := by
  obtain ⟨F, hF, nF⟩ := h
  obtain ⟨G, hG, nG⟩ := k
  exact ⟨_, hF.app hG, fun hp out kids hn => nG hp _ _ (nF hp _ _ hn)⟩
theorem AtS.one {pl : Bool} {d g g' : Nat} {s : Bytes} (h : AtS pl d g s g') : SqS pl d g s g' := by
  obtain ⟨A, hA, nA⟩ := h
  exact ⟨_, hA.one, fun hp out kids hn => nA hp out hn⟩
theorem AtS.cnt {pl : Bool} {d g g' : Nat} {s c : Bytes} (h : AtS pl d g s g') (k : CnS c) : SqS pl d g (s ++ c) g' := by
  obtain ⟨A, hA, nA⟩ := h
  obtain ⟨a, b, z, hk⟩ := k
  exact ⟨_, hA.cnt hk, fun hp out kids hn => (nA hp out hn).app (by simp [pRep])⟩
theorem SqS.pat {pl : Bool} {d g g' : Nat} {s : Bytes} (h : SqS pl d g s g') : PtS pl d g s g' := by
  obtain ⟨F, hF, nF⟩ := h
  exact ⟨_, hF.pat, fun hp out kids hn => (nF hp out [] hn).app (by simp [pSeq])⟩
theorem PtS.alt {pl : Bool} {d g g1 g2 : Nat} {s y : Bytes} (h : SqS pl d g s g1) (k : PtS pl d g1 y g2) : PtS pl d g (s ++ 124 :: y) g2 := by
  obtain ⟨F, hF, nF⟩ := h
  obtain ⟨G, hG, nG⟩ := k
  exact ⟨_, PtX.alt hF hG, fun hp out kids hn => nG hp _ _ ((nF hp out [] hn).app (by simp [pSeq]))⟩
theorem PtS.grp {pl : Bool} {d g g' : Nat} {y : Bytes} (h : PtS pl d (g + 1) y g') (hg : g < 9) : AtS pl (d + 1) g (40 :: (y ++ [41])) g' := by
  obtain ⟨F, hF, nF⟩ := h
  exact ⟨_, hF.grp hg, fun hp out hn => ((nF hp out [] hn).alt _).app (by simp [pGrp])⟩
theorem PtS.read {pl : Bool} {s : Bytes} {g' : Nat} (h : PtS pl 6 0 s g') (hl : s.length ≤ 120) : (readP s).ok = true ∧ (pl = true → NE (readP s).pieces) := by
  obtain ⟨F, hF, nF⟩ := h
  rw [hF.read hl]
  exact ⟨rfl, fun hp => (nF hp [] [] NE.nil).alt _⟩
/-! ### Sets in brackets -/
theorem cls_lit {l : Bytes} {i c : Nat} {first : Bool} {rs : Rs} (h : i + 1 < l.length) (e : at_ l i = c) (h1 : ¬ (first = false ∧ c = 93)) (h2 : c ≠ 92) (h3 : at_ l (i + 1) ≠ 45) : clsP l i first rs = clsP l (i + 1) false (rs ++ [(c, c)]) := by
  have hp : partP l i = .ok (i + 1, [(c, c)], some c) := by unfold partP; rw [if_neg (by omega), e]
  rw [clsP_one (by omega) (by rw [e]; exact h1) hp, if_neg (by omega), if_pos h3]
theorem cls_dash {l : Bytes} {i c : Nat} {first : Bool} {rs : Rs} (h : i + 2 < l.length) (e : at_ l i = c) (h1 : ¬ (first = false ∧ c = 93)) (h2 : c ≠ 92) (h3 : at_ l (i + 1) = 45) (h4 : at_ l (i + 2) = 93) : clsP l i first rs = clsP l (i + 1) false (rs ++ [(c, c)]) := by
  have hp : partP l i = .ok (i + 1, [(c, c)], some c) := by unfold partP; rw [if_neg (by omega), e]
  rw [clsP_one (by omega) (by rw [e]; exact h1) hp, if_neg (by omega), if_neg (by omega), if_neg (by omega), if_pos h4]
theorem cls_rng {l : Bytes} {i c d : Nat} {first : Bool} {rs : Rs} (h : i + 2 < l.length) (e : at_ l i = c) (h1 : ¬ (first = false ∧ c = 93)) (h2 : c ≠ 92) (h3 : at_ l (i + 1) = 45) (h4 : at_ l (i + 2) = d) (h5 : d ≠ 93) (h6 : d ≠ 92) (h7 : c ≤ d) : clsP l i first rs = clsP l (i + 3) false (rs ++ [(c, c)] ++ [(c, d)]) := by
  have hp : partP l i = .ok (i + 1, [(c, c)], some c) := by unfold partP; rw [if_neg (by omega), e]
  have hq : partP l (i + 1 + 1) = .ok (i + 3, [(d, d)], some d) := by unfold partP; rw [if_neg (by rw [show i + 1 + 1 = i + 2 from rfl, h4]; exact h6), show i + 1 + 1 = i + 2 from rfl, h4]
  rw [clsP_one (by omega) (by rw [e]; exact h1) hp, if_neg (by omega), if_neg (by omega), if_neg (by omega), if_neg (by rw [show i + 1 + 1 = i + 2 from rfl, h4]; exact h5), hq]
  simp only []
  rw [if_neg (by omega)]
theorem cls_many {l : Bytes} {i j : Nat} {r : Rs} {first : Bool} {rs : Rs} (h : i < l.length) (e : at_ l i = 92) (hp : escP l (i + 1) = .ok (j, r, none)) : clsP l i first rs = clsP l j false (rs ++ r) :=
  clsP_many h (by omega) (by unfold partP; rw [if_pos e]; exact hp)
theorem cls_hex {l : Bytes} {i j k v u : Nat} {r r' : Rs} {first : Bool} {rs : Rs} (h : i < l.length) (e : at_ l i = 92) (hp : escP l (i + 1) = .ok (j, r, some v)) (hj : j + 1 < l.length) (h3 : at_ l j = 45) (h4 : at_ l (j + 1) = 92) (hq : escP l (j + 1 + 1) = .ok (k, r', some u)) (hv : v ≤ u) : clsP l i first rs = clsP l k false (rs ++ r ++ [(v, u)]) := by
  have hp' : partP l i = .ok (j, r, some v) := by unfold partP; rw [if_pos e]; exact hp
  have hq' : partP l (j + 1) = .ok (k, r', some u) := by unfold partP; rw [if_pos h4]; exact hq
  rw [clsP_one h (by omega) hp', if_neg (by omega), if_neg (by omega), if_neg (by omega), if_neg (by omega), hq']
  simp only []
  rw [if_neg (by omega)]
theorem set_in {l : Bytes} {i : Nat} (h : i + 1 < l.length) (h1 : at_ l (i + 1) ≠ 94) : setP l i = clsFin false (clsP l (i + 1) true []) := by
  unfold setP; rw [if_neg (by omega), if_neg h1, decide_eq_false h1]
theorem set_not {l : Bytes} {i : Nat} (h : i + 1 < l.length) (h1 : at_ l (i + 1) = 94) : setP l i = clsFin true (clsP l (i + 2) true []) := by
  unfold setP; rw [if_neg (by omega), if_pos h1, decide_eq_true h1]
theorem set0 : ∃ rs, ∀ (l : Bytes) (i : Nat), Fit l i [91, 97, 98, 93] → setP l i = .ok (i + [91, 97, 98, 93].length, rs) := by
  refine ⟨?_, fun l i hf => ?_⟩
  rotate_left
  · have hl := hf.le
    simp only [List.length_cons, List.length_nil] at hl
    have e0 : at_ l (i + 0) = 91 := hf.2 0 (by decide)
    have e1 : at_ l (i + 1) = 97 := hf.2 1 (by decide)
    have e2 : at_ l (i + 2) = 98 := hf.2 2 (by decide)
    have e3 : at_ l (i + 3) = 93 := hf.2 3 (by decide)
    rw [set_in (by omega) (by omega), cls_lit (by omega) e1 (by simp) (by omega) (show at_ l (i + 2) ≠ 45 by omega), cls_lit (by omega) e2 (by omega) (by omega) (show at_ l (i + 3) ≠ 45 by omega), clsP_end (by omega) rfl e3]
    rfl
theorem set1 : ∃ rs, ∀ (l : Bytes) (i : Nat), Fit l i [91, 94, 97, 93] → setP l i = .ok (i + [91, 94, 97, 93].length, rs) := by
  refine ⟨?_, fun l i hf => ?_⟩
  rotate_left
  · have hl := hf.le
    simp only [List.length_cons, List.length_nil] at hl
    have e0 : at_ l (i + 0) = 91 := hf.2 0 (by decide)
    have e1 : at_ l (i + 1) = 94 := hf.2 1 (by decide)
    have e2 : at_ l (i + 2) = 97 := hf.2 2 (by decide)
    have e3 : at_ l (i + 3) = 93 := hf.2 3 (by decide)
    rw [set_not (by omega) e1, cls_lit (by omega) e2 (by simp) (by omega) (show at_ l (i + 3) ≠ 45 by omega), clsP_end (by omega) rfl e3]
    rfl
theorem set2 : ∃ rs, ∀ (l : Bytes) (i : Nat), Fit l i [91, 97, 45, 99, 93] → setP l i = .ok (i + [91, 97, 45, 99, 93].length, rs) := by
  refine ⟨?_, fun l i hf => ?_⟩
  rotate_left
  · have hl := hf.le
    simp only [List.length_cons, List.length_nil] at hl
    have e0 : at_ l (i + 0) = 91 := hf.2 0 (by decide)
    have e1 : at_ l (i + 1) = 97 := hf.2 1 (by decide)
    have e2 : at_ l (i + 2) = 45 := hf.2 2 (by decide)
    have e3 : at_ l (i + 3) = 99 := hf.2 3 (by decide)
    have e4 : at_ l (i + 4) = 93 := hf.2 4 (by decide)
    rw [set_in (by omega) (by omega), cls_rng (by omega) e1 (by omega) (by omega) e2 e3 (by omega) (by omega) (by omega), clsP_end (by omega) rfl e4]
    rfl
theorem set3 : ∃ rs, ∀ (l : Bytes) (i : Nat), Fit l i [91, 93, 97, 93] → setP l i = .ok (i + [91, 93, 97, 93].length, rs) := by
  refine ⟨?_, fun l i hf => ?_⟩
  rotate_left
  · have hl := hf.le
    simp only [List.length_cons, List.length_nil] at hl
    have e0 : at_ l (i + 0) = 91 := hf.2 0 (by decide)
    have e1 : at_ l (i + 1) = 93 := hf.2 1 (by decide)
    have e2 : at_ l (i + 2) = 97 := hf.2 2 (by decide)
    have e3 : at_ l (i + 3) = 93 := hf.2 3 (by decide)
    rw [set_in (by omega) (by omega), cls_lit (by omega) e1 (by simp) (by omega) (show at_ l (i + 2) ≠ 45 by omega), cls_lit (by omega) e2 (by omega) (by omega) (show at_ l (i + 3) ≠ 45 by omega), clsP_end (by omega) rfl e3]
    rfl
theorem set4 : ∃ rs, ∀ (l : Bytes) (i : Nat), Fit l i [91, 94, 93, 93] → setP l i = .ok (i + [91, 94, 93, 93].length, rs) := by
  refine ⟨?_, fun l i hf => ?_⟩
  rotate_left
  · have hl := hf.le
    simp only [List.length_cons, List.length_nil] at hl
    have e0 : at_ l (i + 0) = 91 := hf.2 0 (by decide)
    have e1 : at_ l (i + 1) = 94 := hf.2 1 (by decide)
    have e2 : at_ l (i + 2) = 93 := hf.2 2 (by decide)
    have e3 : at_ l (i + 3) = 93 := hf.2 3 (by decide)
    rw [set_not (by omega) e1, cls_lit (by omega) e2 (by simp) (by omega) (show at_ l (i + 3) ≠ 45 by omega), clsP_end (by omega) rfl e3]
    rfl
theorem set5 : ∃ rs, ∀ (l : Bytes) (i : Nat), Fit l i [91, 97, 45, 93] → setP l i = .ok (i + [91, 97, 45, 93].length, rs) := by
  refine ⟨?_, fun l i hf => ?_⟩
  rotate_left
  · have hl := hf.le
    simp only [List.length_cons, List.length_nil] at hl
    have e0 : at_ l (i + 0) = 91 := hf.2 0 (by decide)
    have e1 : at_ l (i + 1) = 97 := hf.2 1 (by decide)
    have e2 : at_ l (i + 2) = 45 := hf.2 2 (by decide)
    have e3 : at_ l (i + 3) = 93 := hf.2 3 (by decide)
    rw [set_in (by omega) (by omega), cls_dash (by omega) e1 (by omega) (by omega) e2 e3, cls_lit (by omega) e2 (by omega) (by omega) (show at_ l (i + 3) ≠ 45 by omega), clsP_end (by omega) rfl e3]
    rfl
theorem set6 : ∃ rs, ∀ (l : Bytes) (i : Nat), Fit l i [91, 92, 119, 45, 93] → setP l i = .ok (i + [91, 92, 119, 45, 93].length, rs) := by
  refine ⟨?_, fun l i hf => ?_⟩
  rotate_left
  · have hl := hf.le
    simp only [List.length_cons, List.length_nil] at hl
    have e0 : at_ l (i + 0) = 91 := hf.2 0 (by decide)
    have e1 : at_ l (i + 1) = 92 := hf.2 1 (by decide)
    have e2 : at_ l (i + 2) = 119 := hf.2 2 (by decide)
    have e3 : at_ l (i + 3) = 45 := hf.2 3 (by decide)
    have e4 : at_ l (i + 4) = 93 := hf.2 4 (by decide)
    rw [set_in (by omega) (by omega), cls_many (j := i + 3) (by omega) e1 (esc_one (c := 119) (r := _) (o := none) rfl (by decide) l (i + 1 + 1) ⟨by simp; omega, fun k hk => by match k, hk with | 0, _ => exact e2⟩), cls_lit (by omega) e3 (by omega) (by omega) (show at_ l (i + 4) ≠ 45 by omega), clsP_end (by omega) rfl e4]
    rfl
theorem set7 : ∃ rs, ∀ (l : Bytes) (i : Nat), Fit l i [91, 92, 120, 48, 48, 45, 92, 120, 55, 102, 93] → setP l i = .ok (i + [91, 92, 120, 48, 48, 45, 92, 120, 55, 102, 93].length, rs) := by
  refine ⟨?_, fun l i hf => ?_⟩
  rotate_left
  · have hl := hf.le
    simp only [List.length_cons, List.length_nil] at hl
    have e0 : at_ l (i + 0) = 91 := hf.2 0 (by decide)
    have e1 : at_ l (i + 1) = 92 := hf.2 1 (by decide)
    have e2 : at_ l (i + 2) = 120 := hf.2 2 (by decide)
    have e3 : at_ l (i + 3) = 48 := hf.2 3 (by decide)
    have e4 : at_ l (i + 4) = 48 := hf.2 4 (by decide)
    have e5 : at_ l (i + 5) = 45 := hf.2 5 (by decide)
    have e6 : at_ l (i + 6) = 92 := hf.2 6 (by decide)
    have e7 : at_ l (i + 7) = 120 := hf.2 7 (by decide)
    have e8 : at_ l (i + 8) = 55 := hf.2 8 (by decide)
    have e9 : at_ l (i + 9) = 102 := hf.2 9 (by decide)
    have e10 : at_ l (i + 10) = 93 := hf.2 10 (by decide)
    rw [set_in (by omega) (by omega), cls_hex (j := i + 5) (k := i + 10) (v := 0) (u := 127) (r := [(0, 0)]) (r' := [(127, 127)]) (by omega) e1 (esc_hex (a := 48) (b := 48) (x := 0) (y := 0) (by decide) (by decide) l (i + 1 + 1) ⟨by simp; omega, fun k hk => by match k, hk with | 0, _ => exact e2 | 1, _ => exact e3 | 2, _ => exact e4⟩) (by omega) e5 e6 (esc_hex (a := 55) (b := 102) (x := 7) (y := 15) (by decide) (by decide) l (i + 6 + 1) ⟨by simp; omega, fun k hk => by match k, hk with | 0, _ => exact e7 | 1, _ => exact e8 | 2, _ => exact e9⟩) (by decide), clsP_end (by omega) rfl e10]
    rfl
theorem set8 : ∃ rs, ∀ (l : Bytes) (i : Nat), Fit l i [91, 94, 92, 115, 92, 100, 93] → setP l i = .ok (i + [91, 94, 92, 115, 92, 100, 93].length, rs) := by
  refine ⟨?_, fun l i hf => ?_⟩
  rotate_left
  · have hl := hf.le
    simp only [List.length_cons, List.length_nil] at hl
    have e0 : at_ l (i + 0) = 91 := hf.2 0 (by decide)
    have e1 : at_ l (i + 1) = 94 := hf.2 1 (by decide)
    have e2 : at_ l (i + 2) = 92 := hf.2 2 (by decide)
    have e3 : at_ l (i + 3) = 115 := hf.2 3 (by decide)
    have e4 : at_ l (i + 4) = 92 := hf.2 4 (by decide)
    have e5 : at_ l (i + 5) = 100 := hf.2 5 (by decide)
    have e6 : at_ l (i + 6) = 93 := hf.2 6 (by decide)
    rw [set_not (by omega) e1, cls_many (j := i + 4) (by omega) e2 (esc_one (c := 115) (r := _) (o := none) rfl (by decide) l (i + 2 + 1) ⟨by simp; omega, fun k hk => by match k, hk with | 0, _ => exact e3⟩), cls_many (j := i + 6) (by omega) e4 (esc_one (c := 100) (r := _) (o := none) rfl (by decide) l (i + 4 + 1) ⟨by simp; omega, fun k hk => by match k, hk with | 0, _ => exact e5⟩), clsP_end (by omega) rfl e6]
    rfl
theorem set9 : ∃ rs, ∀ (l : Bytes) (i : Nat), Fit l i [91, 98, 45, 98, 93] → setP l i = .ok (i + [91, 98, 45, 98, 93].length, rs) := by
  refine ⟨?_, fun l i hf => ?_⟩
  rotate_left
  · have hl := hf.le
    simp only [List.length_cons, List.length_nil] at hl
    have e0 : at_ l (i + 0) = 91 := hf.2 0 (by decide)
    have e1 : at_ l (i + 1) = 98 := hf.2 1 (by decide)
    have e2 : at_ l (i + 2) = 45 := hf.2 2 (by decide)
    have e3 : at_ l (i + 3) = 98 := hf.2 3 (by decide)
    have e4 : at_ l (i + 4) = 93 := hf.2 4 (by decide)
    rw [set_in (by omega) (by omega), cls_rng (by omega) e1 (by omega) (by omega) e2 e3 (by omega) (by omega) (by omega), clsP_end (by omega) rfl e4]
    rfl
end Go.Vc
/- The parts that a drawn pattern is made of. No statement of the seat is proved here. -/
namespace Go.Vc
set_option linter.unusedVariables false
set_option linter.unusedSimpArgs false
/-- It ends in no count. -/
def LastOk (s : Bytes) : Prop := s ≠ [] ∧ at_ s (s.length - 1) ≠ 42 ∧ at_ s (s.length - 1) ≠ 43 ∧ at_ s (s.length - 1) ≠ 63 ∧ at_ s (s.length - 1) ≠ 125
instance (s : Bytes) : Decidable (LastOk s) := by unfold LastOk; infer_instance
theorem aS_set (pl : Bool) (d g : Nat) {s : Bytes} (h : ∃ rs, ∀ (l : Bytes) (i : Nat), Fit l i (91 :: s) → setP l i = .ok (i + (91 :: s).length, rs)) : AtS pl d g (91 :: s) g := by
  obtain ⟨rs, h⟩ := h
  exact ⟨_, at_cls d g h, fun _ out hn => hn.app (by simp [pSet])⟩
theorem aS_esc (pl : Bool) (d g : Nat) {s : Bytes} {r : Rs} {o : Option Nat} (h : ∀ (l : Bytes) (i : Nat), Fit l i s → escP l i = .ok (i + s.length, r, o)) : AtS pl d g (92 :: s) g := ⟨_, at_esc d g h, fun _ out hn => hn.app (by simp [pSet])⟩
theorem aS_chr (pl : Bool) (d g : Nat) {c : UInt8} (h : 97 ≤ c.toNat ∧ c.toNat ≤ 122) : AtS pl d g [c] g := ⟨_, at_set1 d g (by omega), fun _ out hn => hn.app (by simp [pSet])⟩
theorem aS_dot (pl : Bool) (d g : Nat) : AtS pl d g [46] g := ⟨_, at_dot d g, fun _ out hn => hn.app (by simp [pSet])⟩
theorem aS_sta (pl : Bool) (d g : Nat) : AtS pl d g [94] g := ⟨_, at_sta d g, fun _ out hn => hn.app (by simp [pSta])⟩
theorem aS_end (d g : Nat) : AtS false d g [36] g := ⟨_, at_end d g, fun h => by cases h⟩
def setsD : List Bytes := [[91, 97, 98, 93], [91, 94, 97, 93], [91, 97, 45, 99, 93], [91, 93, 97, 93], [91, 94, 93, 93], [91, 97, 45, 93], [91, 92, 119, 45, 93], [91, 92, 120, 48, 48, 45, 92, 120, 55, 102, 93], [91, 94, 92, 115, 92, 100, 93], [91, 98, 45, 98, 93]]
def escsD : List Bytes := [[92, 100], [92, 119], [92, 115], [92, 110], [92, 92], [92, 46], [92, 120, 54, 49], [92, 40], [92, 45]]
def cntsD : List Bytes := [[123, 50, 125], [123, 48, 125], [123, 49, 44, 125], [123, 48, 44, 50, 125], [123, 49, 44, 51, 125], [123, 48, 44, 48, 125], [123, 50, 44, 50, 125]]
/-- An atom that is drawn. -/
def AtD (pl : Bool) (d g : Nat) (s : Bytes) (g' : Nat) : Prop := AtS pl d g s g' ∧ LastOk s
theorem setsD_ok (pl : Bool) (d g : Nat) : ∀ s ∈ setsD, AtD pl d g s g ∧ s.length ≤ 11 := by
  intro s hs
  simp only [setsD, List.mem_cons, List.not_mem_nil, or_false] at hs
  rcases hs with rfl | rfl | rfl | rfl | rfl | rfl | rfl | rfl | rfl | rfl
  · exact ⟨⟨aS_set pl d g set0, by decide⟩, by decide⟩
  · exact ⟨⟨aS_set pl d g set1, by decide⟩, by decide⟩
  · exact ⟨⟨aS_set pl d g set2, by decide⟩, by decide⟩
  · exact ⟨⟨aS_set pl d g set3, by decide⟩, by decide⟩
  · exact ⟨⟨aS_set pl d g set4, by decide⟩, by decide⟩
  · exact ⟨⟨aS_set pl d g set5, by decide⟩, by decide⟩
  · exact ⟨⟨aS_set pl d g set6, by decide⟩, by decide⟩
  · exact ⟨⟨aS_set pl d g set7, by decide⟩, by decide⟩
  · exact ⟨⟨aS_set pl d g set8, by decide⟩, by decide⟩
  · exact ⟨⟨aS_set pl d g set9, by decide⟩, by decide⟩
theorem escsD_ok (pl : Bool) (d g : Nat) : ∀ s ∈ escsD, AtD pl d g s g ∧ s.length ≤ 11 := by
  intro s hs
  simp only [escsD, List.mem_cons, List.not_mem_nil, or_false] at hs
  rcases hs with rfl | rfl | rfl | rfl | rfl | rfl | rfl | rfl | rfl
  · exact ⟨⟨aS_esc pl d g (esc_one (c := 100) rfl (by decide)), by decide⟩, by decide⟩
  · exact ⟨⟨aS_esc pl d g (esc_one (c := 119) rfl (by decide)), by decide⟩, by decide⟩
  · exact ⟨⟨aS_esc pl d g (esc_one (c := 115) rfl (by decide)), by decide⟩, by decide⟩
  · exact ⟨⟨aS_esc pl d g (esc_one (c := 110) rfl (by decide)), by decide⟩, by decide⟩
  · exact ⟨⟨aS_esc pl d g (esc_one (c := 92) rfl (by decide)), by decide⟩, by decide⟩
  · exact ⟨⟨aS_esc pl d g (esc_one (c := 46) rfl (by decide)), by decide⟩, by decide⟩
  · exact ⟨⟨aS_esc pl d g (esc_hex (a := 54) (b := 49) (x := 6) (y := 1) (by decide) (by decide)), by decide⟩, by decide⟩
  · exact ⟨⟨aS_esc pl d g (esc_one (c := 40) rfl (by decide)), by decide⟩, by decide⟩
  · exact ⟨⟨aS_esc pl d g (esc_one (c := 45) rfl (by decide)), by decide⟩, by decide⟩
/-- A count, lazy or not. -/
def CnD (c : Bytes) : Prop := CnS c ∧ CnS (c ++ [63])
theorem cnD_of {c : Bytes} {a b : Int} (h : ∀ z, CnX (c ++ lzT z) a b z) : CnD c := ⟨⟨a, b, false, by have := h false; rwa [show c ++ lzT false = c from by simp [lzT]] at this⟩, ⟨a, b, true, h true⟩⟩
theorem cntsD_ok : ∀ s ∈ cntsD, CnD s ∧ s.length ≤ 5 := by
  intro s hs
  simp only [cntsD, List.mem_cons, List.not_mem_nil, or_false] at hs
  rcases hs with rfl | rfl | rfl | rfl | rfl | rfl | rfl
  · exact ⟨cnD_of fun z => cn_bra (bra_one (m := 2) (by decide)) z, by decide⟩
  · exact ⟨cnD_of fun z => cn_bra (bra_one (m := 0) (by decide)) z, by decide⟩
  · exact ⟨cnD_of fun z => cn_bra (bra_from (m := 1) (by decide)) z, by decide⟩
  · exact ⟨cnD_of fun z => cn_bra (bra_two (m := 0) (n := 2) (by decide) (by decide) (by decide)) z, by decide⟩
  · exact ⟨cnD_of fun z => cn_bra (bra_two (m := 1) (n := 3) (by decide) (by decide) (by decide)) z, by decide⟩
  · exact ⟨cnD_of fun z => cn_bra (bra_two (m := 0) (n := 0) (by decide) (by decide) (by decide)) z, by decide⟩
  · exact ⟨cnD_of fun z => cn_bra (bra_two (m := 2) (n := 2) (by decide) (by decide) (by decide)) z, by decide⟩
theorem cnD_star : CnD [42] := cnD_of cn_star
theorem cnD_plus : CnD [43] := cnD_of cn_plus
theorem cnD_opt : CnD [63] := cnD_of cn_opt
/-- An atom with its count, if any. -/
def ElD (pl : Bool) (d g : Nat) (s : Bytes) (g' : Nat) : Prop := s ≠ [] ∧ SqS pl d g s g' ∧ (at_ s (s.length - 1) = 42 ∨ at_ s (s.length - 1) = 43 ∨ at_ s (s.length - 1) = 63 ∨ at_ s (s.length - 1) = 125 → SqS pl d g (s ++ [63]) g')
theorem AtD.el {pl : Bool} {d g g' : Nat} {s : Bytes} (h : AtD pl d g s g') : ElD pl d g s g' := ⟨h.2.1, h.1.one, fun hl => by have := h.2.2; omega⟩
theorem AtD.elc {pl : Bool} {d g g' : Nat} {s c : Bytes} (h : AtD pl d g s g') (k : CnD c) : ElD pl d g (s ++ c) g' := ⟨by simp [h.2.1], h.1.cnt k.1, fun _ => by rw [List.append_assoc]; exact h.1.cnt k.2⟩
theorem lastOk_grp (y : Bytes) : LastOk (40 :: (y ++ [41])) := by
  have e : at_ (40 :: (y ++ [41])) ((40 :: (y ++ [41])).length - 1) = 41 := by
    have := at_app_r (s := 40 :: y) (t := [41]) (k := 0)
    rw [show (40 :: (y ++ [41])).length - 1 = (40 :: y).length + 0 from by simp]
    exact this
  unfold LastOk
  rw [e]
  exact ⟨by simp, by decide, by decide, by decide, by decide⟩
theorem PtS.grpD {pl : Bool} {d g g' : Nat} {y : Bytes} (h : PtS pl d (g + 1) y g') (hg : g < 9) : AtD pl (d + 1) g (40 :: (y ++ [41])) g' := ⟨h.grp hg, lastOk_grp y⟩
end Go.Vc
/- The drawing of a pattern: it ends, and what it draws is read. No statement of the seat is proved here. -/
namespace Go.Proofs.Ytngbiaeliphdjaa.V
open Go.Vc Go.Proofs Go.RowKit
set_option linter.unusedVariables false
set_option linter.unusedSimpArgs false
theorem Cur.le {w : World} {b B : Nat} {a : Option Addr} {l c m : Nat} (h : Cur w b B a l c m) : m ≤ 1125899906842624 := by
  obtain ⟨⟨p, sd, _, _, h⟩, _⟩ := h
  have := h.1; omega
theorem cell_pick {h : Array Obj} {b : Nat} {ss : List Bytes} (k : Blk h b 9 (ss.map fun s => .string (B s))) {q : Nat} (hq : q < ss.length) : cellH h b (0 + Int.toNat (q : Int) * 1) = some (.string (B ss[q])) := by
  rw [show 0 + Int.toNat (q : Int) * 1 = q from by omega, k.cell]
  simp [hq]
theorem byteAt_B (s : Bytes) (i : Nat) : byteAt (B s) i = (at_ s i : Int) := by rw [byteAt_at, L_B]
/-- The contract of pattern, in so much depth yet. -/
def PatD (n : Nat) : Prop := ∀ (m : Nat) (w : World) (b M : Nat) (a : Option Addr) (l c : Nat) (g : Nat) (pl : Bool), 5059 ≤ m → g ≤ 9 → Cur w b M a l c m →
  Cl Try.prog 107 [.pointer (some ⟨b, 0, none⟩), .int .i64 (n : Int), .int .i64 (g : Int), .bool pl] w (Drew w b M a l c fun v m' => m' < m ∧ 5059 ≤ m' + 14 * n + 17 ∧ ∃ (s : Bytes) (g' : Nat), v = .tuple #[.string (B s), .int .i64 (g' : Int)] ∧ g' ≤ g ∧ PtS pl (n + 3) (9 - g) s (9 - g') ∧ s.length ≤ 32 * (m - m'))
set_option maxHeartbeats 4000000 in
theorem pat_ok : ∀ n, n ≤ 3 → PatD n := by
  intro n
  induction n using Nat.strongRecOn with
  | _ n ihd =>
  intro hn m
  induction m using Nat.strongRecOn with
  | _ m ihm =>
  intro w b M a l c g pl hm hg hC
  have hm50 := hC.le
  apply vc107
  unfold V107
  refine (pick_ok hC (by omega) 4 (by omega) (by omega)).use fun e w7 he => ?_
  obtain ⟨_, m7, rfl, ⟨q1, q2, r, rfl, hr, _⟩, hC7, e7⟩ := he
  refine ⟨r, rfl, fun k n14 s15 n16 w' => ∃ (gi : Nat) (xs : Bytes) (mi : Nat), n14 = gi ∧ s15 = B xs ∧ n16 = k ∧ k ≤ 3 ∧ gi ≤ g ∧ SqS pl (n + 3) (9 - g) xs (9 - gi) ∧ xs.length ≤ 32 * (m - mi) ∧ mi < m ∧ 5059 + 5 * k ≤ mi + (14 * n + 3) + 13 ∧ Cur w' b M a l c mi ∧ Ext (fun k => k = b) w w', ⟨r, g, [], m7, rfl, rfl, rfl, by omega, by omega, SqS.nil _ _ _, by simp, by omega, by omega, hC7, e7⟩, ?_⟩
  rintro k d _ _ _ w12 ⟨gi, xs, mi, rfl, rfl, rfl, hk, hgi, hsq, hxs, hmi, hbd, hCi, hEi⟩
  refine ⟨fun g1 => ?_, fun g1 => ?_⟩
  · have hk0 : 0 < k := by have := of_decide_eq_true g1; omega
    refine (pick_ok hCi (by omega) 12 (by omega) (by omega)).use fun e w18 he => ?_
    obtain ⟨_, m1, rfl, ⟨p1, p2, r12, rfl, hr12, hwin⟩, hC1, e1⟩ := he
    have hE1 := hEi.trans e1
    refine ⟨r12, rfl, fun z s w' => ∃ (g' : Nat) (x : Bytes) (mA : Nat), z = g' ∧ s = B x ∧ g' ≤ gi ∧ AtD pl (n + 3) (9 - gi) x (9 - g') ∧ x.length + 32 * mA ≤ 11 + 32 * m1 ∧ mA ≤ m1 ∧ 5059 + 5 * k ≤ mA + (14 * n + 3) + 15 ∧ Cur w' b M a l c mA ∧ Ext (fun k => k = b) w w', ?_, ?_⟩
    · have J : ∀ {x : Bytes} {w' : World} {mA : Nat}, AtD pl (n + 3) (9 - gi) x (9 - gi) ∧ x.length ≤ 11 → mA ≤ m1 → min (m1 - 1) 5059 ≤ mA → Cur w' b M a l c mA → Ext (fun k => k = b) w w' → ∃ (g' : Nat) (x' : Bytes) (mA : Nat), (gi : Int) = g' ∧ B x = B x' ∧ g' ≤ gi ∧ AtD pl (n + 3) (9 - gi) x' (9 - g') ∧ x'.length + 32 * mA ≤ 11 + 32 * m1 ∧ mA ≤ m1 ∧ 5059 + 5 * k ≤ mA + (14 * n + 3) + 15 ∧ Cur w' b M a l c mA ∧ Ext (fun k => k = b) w w' :=
        fun h1 h2 h3 h4 h5 => ⟨gi, _, _, rfl, rfl, Nat.le_refl _, h1.1, by have := h1.2; omega, h2, by omega, h4, h5⟩
      have chr : ∀ {y : UInt8}, 97 ≤ y.toNat ∧ y.toNat ≤ 122 → AtD pl (n + 3) (9 - gi) [y] (9 - gi) ∧ [y].length ≤ 11 := fun {y} h => ⟨⟨aS_chr _ _ _ h, by
        have e : at_ [y] ([y].length - 1) = y.toNat := rfl
        unfold LastOk; rw [e]; exact ⟨by simp, by omega, by omega, by omega, by omega⟩⟩, by simp⟩
      -- one of some texts
      have lst : ∀ {ss : List Bytes} {K : ByteArray → World → Prop}, 2 ≤ ss.length → ss.length ≤ 100 → (∀ s ∈ ss, AtD pl (n + 3) (9 - gi) s (9 - gi) ∧ s.length ≤ 11) → (∀ {x : Bytes} {w' : World}, (∃ (g' : Nat) (x' : Bytes) (mA : Nat), (gi : Int) = g' ∧ B x = B x' ∧ g' ≤ gi ∧ AtD pl (n + 3) (9 - gi) x' (9 - g') ∧ x'.length + 32 * mA ≤ 11 + 32 * m1 ∧ mA ≤ m1 ∧ 5059 + 5 * k ≤ mA + (14 * n + 3) + 15 ∧ Cur w' b M a l c mA ∧ Ext (fun k => k = b) w w') → K (B x) w') → ∀ {R : Rt}, newC (ss.map fun s => .string (B s)) 9 (fun b21 w22 => clI 82 ([.pointer (some ⟨b, 0, none⟩), .int .i64 ((ss.length : Nat) : Int)]) w22 R fun n23 w24 => ixS (some ⟨b21, 0, none⟩) ss.length n23 fun b26 o27 => lS w24 b26 (o27 + (Int.toNat n23) * 1) fun s28 => K s28 w24) w18 := by
        intro ss K h2 h100 hss hK R
        refine newC_in fun w22 s22 k22 e22 => ?_
        refine (pick_ok (hC1.ext e22 fun _ _ h => h) (by omega) ss.length h2 (by omega)).use fun e w24 he => ?_
        obtain ⟨_, m2, rfl, ⟨h3, h4, q, rfl, hq, _⟩, hC2, e2⟩ := he
        have k24 := k22.keep e2 (by have := hC1.lt; omega)
        exact ⟨q, rfl, _, 0, ⟨rfl, by omega, by omega⟩, _, cell_pick k24 hq, hK (J (hss _ (List.getElem_mem hq)) (by omega) h4 hC2 ((hE1.trans (Ext.mono e22 fun _ _ h => h.elim)).trans e2))⟩
      have hgrp : ∀ {KK : Int → ByteArray → World → Prop} {R : Rt}, (∀ {z : Nat} {x : Bytes} {w' : World}, (∃ (g' : Nat) (x' : Bytes) (mA : Nat), (z : Int) = g' ∧ B x = B x' ∧ g' ≤ gi ∧ AtD pl (n + 3) (9 - gi) x' (9 - g') ∧ x'.length + 32 * mA ≤ 11 + 32 * m1 ∧ mA ≤ m1 ∧ 5059 + 5 * k ≤ mA + (14 * n + 3) + 15 ∧ Cur w' b M a l c mA ∧ Ext (fun k => k = b) w w') → KK z (B x) w') → (r12 = 4 ∨ r12 = 5 ∨ r12 = 6) →
          (cB (decide ((gi : Int) > 0)) ((cB (decide ((n : Int) > 0)) (clV 107 ([.pointer (some ⟨b, 0, none⟩), .int .i64 (IntKind.wrap .i64 ((n : Int) - 1)), .int .i64 (IntKind.wrap .i64 ((gi : Int) - 1)), .bool pl]) w18 R fun r48 w47 => ∃ (s45 : ByteArray), ∃ (n46 : Int), r48 = .tuple #[.string s45, .int .i64 n46] ∧ ((⟨#[40]⟩ : ByteArray).size + s45.size ≤ 9223372036854775807) ∧ (((⟨#[40]⟩ : ByteArray) ++ s45).size + (⟨#[41]⟩ : ByteArray).size ≤ 9223372036854775807) ∧ KK n46 (((⟨#[40]⟩ : ByteArray) ++ s45) ++ (⟨#[41]⟩ : ByteArray)) w47) (KK gi (⟨#[98]⟩ : ByteArray) w18))) (KK gi (⟨#[98]⟩ : ByteArray) w18)) := by
        intro KK R hK h456
        have hb : KK gi (⟨#[98]⟩ : ByteArray) w18 := hK (z := gi) (x := [98]) (J (chr (y := 98) (by decide)) (Nat.le_refl _) (by omega) hC1 hE1)
        have hmi2 : 5059 < mi := by
          by_cases h : 5059 < mi
          · exact h
          · have := (hwin (by omega) (by omega)).1 rfl; omega
        refine ⟨fun h1 => ⟨fun h2 => ?_, fun _ => hb⟩, fun _ => hb⟩
        have h1' : 0 < gi := by have := of_decide_eq_true h1; omega
        have h2' : 0 < n := by have := of_decide_eq_true h2; omega
        have t1 : IntKind.wrap .i64 ((n : Int) - 1) = ((n - 1 : Nat) : Int) := by rw [w64 (by omega)]; omega
        have t2 : IntKind.wrap .i64 ((gi : Int) - 1) = ((gi - 1 : Nat) : Int) := by rw [w64 (by omega)]; omega
        rw [t1, t2]
        refine (ihd (n - 1) (by omega) (by omega) m1 w18 b M a l c (gi - 1) pl (by omega) (by omega) hC1).use fun e w47 he => ?_
        obtain ⟨_, m2, rfl, ⟨z1, z2, y, g2, rfl, hg2, hpt, hyl⟩, hC2, e2⟩ := he
        refine ⟨B y, g2, rfl, ?_, ?_, ?_⟩
        · rw [size_B]; show 1 + _ ≤ _; omega
        · rw [show (⟨#[40]⟩ : ByteArray) = B [40] from rfl, B_append, size_B]; show _ + 1 ≤ _; simp; omega
        · rw [show (⟨#[40]⟩ : ByteArray) = B [40] from rfl, show (⟨#[41]⟩ : ByteArray) = B [41] from rfl, B_append, B_append]
          rw [show n - 1 + 3 = n + 2 from by omega, show 9 - (gi - 1) = 9 - gi + 1 from by omega] at hpt
          have hat := hpt.grpD (by omega)
          refine hK (z := g2) ⟨g2, _, m2, rfl, rfl, by omega, hat, ?_, by omega, by omega, hC2, hE1.trans e2⟩
          simp; omega
      refine ⟨fun _ => ?_, fun _ => ⟨fun _ => ?_, fun _ => ⟨fun _ => ?_, fun _ => ⟨fun _ => ⟨fun hp => ?_, fun hp => ?_⟩, fun _ => ⟨fun h4 => ?_, fun _ => ⟨fun h5 => ?_, fun _ => ⟨fun h6 => ?_, fun _ => ?_⟩⟩⟩⟩⟩⟩⟩
      · exact J (x := [46]) ⟨⟨aS_dot _ _ _, by decide⟩, by decide⟩ (Nat.le_refl _) (by omega) hC1 hE1
      · exact lst (ss := setsD) (by decide) (by decide) (setsD_ok pl (n + 3) (9 - gi)) fun h => h
      · exact lst (ss := escsD) (by decide) (by decide) (escsD_ok pl (n + 3) (9 - gi)) fun h => h
      · exact J (x := [97]) (chr (by decide)) (Nat.le_refl _) (by omega) hC1 hE1
      · subst hp
        refine lst (ss := [[94], [36]]) (by decide) (by decide) (fun s hs => ?_) fun h => h
        simp only [List.mem_cons, List.not_mem_nil, or_false] at hs
        rcases hs with rfl | rfl
        · exact ⟨⟨aS_sta _ _ _, by decide⟩, by decide⟩
        · exact ⟨⟨aS_end _ _, by decide⟩, by decide⟩
      · exact hgrp (KK := fun z s w' => ∃ (g' : Nat) (x : Bytes) (mA : Nat), z = g' ∧ s = B x ∧ g' ≤ gi ∧ AtD pl (n + 3) (9 - gi) x (9 - g') ∧ x.length + 32 * mA ≤ 11 + 32 * m1 ∧ mA ≤ m1 ∧ 5059 + 5 * k ≤ mA + (14 * n + 3) + 15 ∧ Cur w' b M a l c mA ∧ Ext (fun k => k = b) w w') (fun h => h) (.inl (by have : (r12 : Int) = 4 := (by simpa using h4); omega))
      · exact hgrp (KK := fun z s w' => ∃ (g' : Nat) (x : Bytes) (mA : Nat), z = g' ∧ s = B x ∧ g' ≤ gi ∧ AtD pl (n + 3) (9 - gi) x (9 - g') ∧ x.length + 32 * mA ≤ 11 + 32 * m1 ∧ mA ≤ m1 ∧ 5059 + 5 * k ≤ mA + (14 * n + 3) + 15 ∧ Cur w' b M a l c mA ∧ Ext (fun k => k = b) w w') (fun h => h) (.inr (.inl (by have : (r12 : Int) = 5 := (by simpa using h5); omega)))
      · exact hgrp (KK := fun z s w' => ∃ (g' : Nat) (x : Bytes) (mA : Nat), z = g' ∧ s = B x ∧ g' ≤ gi ∧ AtD pl (n + 3) (9 - gi) x (9 - g') ∧ x.length + 32 * mA ≤ 11 + 32 * m1 ∧ mA ≤ m1 ∧ 5059 + 5 * k ≤ mA + (14 * n + 3) + 15 ∧ Cur w' b M a l c mA ∧ Ext (fun k => k = b) w w') (fun h => h) (.inr (.inr (by have : (r12 : Int) = 6 := (by simpa using h6); omega)))
      · refine (pick_ok hC1 (by omega) 3 (by omega) (by omega)).use fun e w58 he => ?_
        obtain ⟨_, m2, rfl, ⟨h3, h4, q, rfl, hq, _⟩, hC2, e2⟩ := he
        refine ⟨q, rfl, ?_⟩
        have hy : IntKind.wrap .u8 (IntKind.wrap .i64 (97 + (q : Int))) = ((UInt8.ofNat (97 + q)).toNat : Int) := by
          rw [w64 (by omega), w8, u8N (by omega)]; omega
        refine strOf (w0 := w58) hy (Below.refl _ _) fun w' hb' => ?_
        exact J (chr (by rw [u8N (by omega)]; omega)) (by omega) h4 (hC2.below hb') ((hE1.trans e2).trans (Ext.of_below hb'))
    · rintro d63 _ _ w66 ⟨g', x, mA, rfl, rfl, hg', hat, hxl, hmA, hbA, hCA, hEA⟩
      refine (pick_ok hCA (by omega) 9 (by omega) (by omega)).use fun e w68 he => ?_
      obtain ⟨_, mB, rfl, ⟨p3, p4, q9, rfl, hq9, _⟩, hCB, eB⟩ := he
      have hEB := hEA.trans eB
      refine ⟨q9, rfl, fun s w' => ∃ (y : Bytes) (mC : Nat), s = B y ∧ ElD pl (n + 3) (9 - gi) y (9 - g') ∧ y.length ≤ x.length + 5 ∧ mC ≤ mB ∧ 5059 + 5 * k ≤ mC + (14 * n + 3) + 17 ∧ Cur w' b M a l c mC ∧ Ext (fun k => k = b) w w', ?_, ?_⟩
      · have hsz : ∀ {cc : Bytes}, cc.length ≤ 5 → (B x).size + (B cc).size ≤ 9223372036854775807 := fun h => by rw [size_B, size_B]; omega
        have J : ∀ {cc : Bytes} {w' : World} {mC : Nat}, CnD cc ∧ cc.length ≤ 5 → mC ≤ mB → min (mB - 1) 5059 ≤ mC → Cur w' b M a l c mC → Ext (fun k => k = b) w w' → ∃ (y : Bytes) (mC : Nat), B x ++ B cc = B y ∧ ElD pl (n + 3) (9 - gi) y (9 - g') ∧ y.length ≤ x.length + 5 ∧ mC ≤ mB ∧ 5059 + 5 * k ≤ mC + (14 * n + 3) + 17 ∧ Cur w' b M a l c mC ∧ Ext (fun k => k = b) w w' :=
          fun h1 h2 h3 h4 h5 => ⟨_, _, B_append _ _, hat.elc h1.1, by rw [List.length_append]; have := h1.2; omega, h2, by omega, h4, h5⟩
        refine ⟨fun _ => ?_, fun _ => ⟨fun _ => ?_, fun _ => ⟨fun _ => ?_, fun _ => ⟨fun _ => ?_, fun _ => ⟨fun _ => ?_, fun _ => ?_⟩⟩⟩⟩⟩
        · exact ⟨hsz (cc := [42]) (by decide), J (cc := [42]) ⟨cnD_star, by decide⟩ (Nat.le_refl _) (by omega) hCB hEB⟩
        · exact ⟨hsz (cc := [42]) (by decide), J (cc := [42]) ⟨cnD_star, by decide⟩ (Nat.le_refl _) (by omega) hCB hEB⟩
        · exact ⟨hsz (cc := [43]) (by decide), J (cc := [43]) ⟨cnD_plus, by decide⟩ (Nat.le_refl _) (by omega) hCB hEB⟩
        · exact ⟨hsz (cc := [63]) (by decide), J (cc := [63]) ⟨cnD_opt, by decide⟩ (Nat.le_refl _) (by omega) hCB hEB⟩
        · refine newC_in fun w72 s72 k72 e72 => ?_
          refine (pick_ok (hCB.ext e72 fun _ _ h => h) (by omega) 7 (by omega) (by omega)).use fun e w74 he => ?_
          obtain ⟨_, m2, rfl, ⟨h3, h4, q, rfl, hq, _⟩, hC2, e2⟩ := he
          have k74 : Blk w74.heap w68.heap.size 9 (cntsD.map fun s => .string (B s)) := k72.keep e2 (by have := hCB.lt; omega)
          have hq' : q < cntsD.length := hq
          have hcc := cntsD_ok _ (List.getElem_mem hq')
          exact ⟨q, rfl, _, 0, ⟨rfl, by omega, by omega⟩, _, cell_pick k74 hq', hsz hcc.2, J hcc (by omega) h4 hC2 ((hEB.trans (Ext.mono e72 fun _ _ h => h.elim)).trans e2)⟩
        · exact ⟨x, mB, rfl, hat.el, by omega, Nat.le_refl _, by omega, hCB, hEB⟩
      · rintro d79 _ w81 ⟨y, mC, rfl, hel, hyl, hmC, hbC, hCC, hEC⟩
        have hy0 := List.length_pos_iff.2 hel.1
        have t1 : IntKind.wrap .i64 (((ByteArray.size (B y) : Nat) : Int) - 1) = ((y.length - 1 : Nat) : Int) := by rw [size_B, w64 (by omega)]; omega
        have t3 : IntKind.wrap .i64 ((k : Int) - 1) = ((k - 1 : Nat) : Int) := by rw [w64 (by omega)]; omega
        have t4 : IntKind.wrap .i64 (((ByteArray.size (B y) : Nat) : Int) - 2) = (y.length : Int) - 2 := by rw [size_B, w64 (by omega)]
        rw [t1, t3, t4]
        rw [show Int.toNat ((y.length - 1 : Nat) : Int) = y.length - 1 from by omega, byteAt_B]
        have fin : ∀ {yy : Bytes} {w' : World} {mD : Nat}, SqS pl (n + 3) (9 - gi) yy (9 - g') → yy.length ≤ y.length + 1 → mD ≤ mC → 5059 + 5 * k ≤ mD + (14 * n + 3) + 18 → Cur w' b M a l c mD → Ext (fun k => k = b) w w' →
            ((B xs).size + (B yy).size ≤ 9223372036854775807) ∧ ∃ m85, m85 < k ∧ ∃ (gi : Nat) (xs' : Bytes) (mi : Nat), (g' : Int) = gi ∧ B xs ++ B yy = B xs' ∧ ((k - 1 : Nat) : Int) = m85 ∧ m85 ≤ 3 ∧ gi ≤ g ∧ SqS pl (n + 3) (9 - g) xs' (9 - gi) ∧ xs'.length ≤ 32 * (m - mi) ∧ mi < m ∧ 5059 + 5 * m85 ≤ mi + (14 * n + 3) + 13 ∧ Cur w' b M a l c mi ∧ Ext (fun k => k = b) w w' :=
          fun h1 h2 h3 h4 h5 h6 => ⟨by rw [size_B, size_B]; omega, k - 1, by omega, g', _, _, rfl, B_append _ _, rfl, by omega, by omega, hsq.app h1, by rw [List.length_append]; omega, by omega, by omega, h5, h6⟩
        have plain := fun {w' : World} {mD : Nat} => fin (yy := y) (w' := w') (mD := mD) hel.2.1 (by omega)
        have hsz1 : (B y).size + (⟨#[63]⟩ : ByteArray).size ≤ 9223372036854775807 := by rw [size_B]; show _ + 1 ≤ _; omega
        have hB1 : B y ++ (⟨#[63]⟩ : ByteArray) = B (y ++ [63]) := B_append y [63]
        have lazy : (at_ y (y.length - 1) = 42 ∨ at_ y (y.length - 1) = 43 ∨ at_ y (y.length - 1) = 63 ∨ at_ y (y.length - 1) = 125) → ∀ {w' : World} {mD : Nat}, mD ≤ mC → 5059 + 5 * k ≤ mD + (14 * n + 3) + 18 → Cur w' b M a l c mD → Ext (fun k => k = b) w w' → _ := fun hl {w'} {mD} => fin (yy := y ++ [63]) (w' := w') (mD := mD) (hel.2.2 hl) (by simp)
        -- where a count may be made lazy
        have br : ∀ {KK KL : World → Prop} {R : Rt}, (∀ {w' : World} {mD : Nat}, mD ≤ mC → 5059 + 5 * k ≤ mD + (14 * n + 3) + 18 → Cur w' b M a l c mD → Ext (fun k => k = b) w w' → KK w') → (∀ {w' : World} {mD : Nat}, mD ≤ mC → 5059 + 5 * k ≤ mD + (14 * n + 3) + 18 → Cur w' b M a l c mD → Ext (fun k => k = b) w w' → KL w') →
            clI 82 ([.pointer (some ⟨b, 0, none⟩), .int .i64 3]) w81 R fun n82 w83 => (cB (n82 == 0) ((cB (decide (((ByteArray.size (B y) : Nat) : Int) > 1)) ((ixT (B y) ((y.length : Int) - 2)) ∧ (cB ((byteAt (B y) (Int.toNat ((y.length : Int) - 2))) != 92) (KL w83) (KK w83))) (KK w83))) (KK w83)) := by
          intro KK KL R hK hL
          refine (pick_ok hCC (by omega) 3 (by omega) (by omega)).use fun e w83 he => ?_
          obtain ⟨_, mD, rfl, ⟨h3, h4, q, rfl, hq, _⟩, hC2, e2⟩ := he
          have hpK := hK (by omega) (by omega) hC2 (hEC.trans e2)
          refine ⟨q, rfl, ⟨fun _ => ⟨fun h1 => ⟨⟨?_, ?_⟩, fun _ => hL (by omega) (by omega) hC2 (hEC.trans e2), fun _ => hpK⟩, fun _ => hpK⟩, fun _ => hpK⟩⟩
          · have := of_decide_eq_true h1; rw [size_B] at this; omega
          · rw [size_B]; omega
        refine ⟨⟨by omega, by rw [size_B]; omega⟩, fun h42 => ?_, fun _ => ⟨fun h43 => ?_, fun _ => ⟨fun h125 => ?_, fun _ => ⟨fun h63 => ⟨fun _ => ?_, fun _ => plain (Nat.le_refl _) (by omega) hCC hEC⟩, fun _ => plain (Nat.le_refl _) (by omega) hCC hEC⟩⟩⟩⟩
        · have hl : at_ y (y.length - 1) = 42 := by have : ((at_ y (y.length - 1) : Nat) : Int) = 42 := by simpa using h42
                                                    omega
          exact br plain fun h1 h2 h3 h4 => ⟨hsz1, by rw [hB1]; exact lazy (.inl hl) h1 h2 h3 h4⟩
        · have hl : at_ y (y.length - 1) = 43 := by have : ((at_ y (y.length - 1) : Nat) : Int) = 43 := by simpa using h43
                                                    omega
          exact br plain fun h1 h2 h3 h4 => ⟨hsz1, by rw [hB1]; exact lazy (.inr (.inl hl)) h1 h2 h3 h4⟩
        · have hl : at_ y (y.length - 1) = 125 := by have : ((at_ y (y.length - 1) : Nat) : Int) = 125 := by simpa using h125
                                                     omega
          exact br plain fun h1 h2 h3 h4 => ⟨hsz1, by rw [hB1]; exact lazy (.inr (.inr (.inr hl))) h1 h2 h3 h4⟩
        · have hl : at_ y (y.length - 1) = 63 := by have : ((at_ y (y.length - 1) : Nat) : Int) = 63 := by simpa using h63
                                                    omega
          exact br plain fun h1 h2 h3 h4 => ⟨hsz1, by rw [hB1]; exact lazy (.inr (.inr (.inl hl))) h1 h2 h3 h4⟩
  · have hk0 : k = 0 := by have := of_decide_eq_false g1; omega
    subst hk0
    refine (pick_ok hCi (by omega) 6 (by omega) (by omega)).use fun e w113 he => ?_
    obtain ⟨_, m1, rfl, ⟨p1, p2, r6, rfl, hr6, hwin⟩, hC1, e1⟩ := he
    have hE1 := hEi.trans e1
    refine ⟨r6, rfl, fun h0 => ?_, fun h0 => ⟨_, m1, rfl, ⟨by omega, by omega, xs, gi, rfl, hgi, hsq.pat, by omega⟩, hC1, hE1⟩⟩
    have hr0 : r6 = 0 := by have : (r6 : Int) = 0 := by simpa using h0
                            omega
    have hmi2 : 5059 < mi := by
      by_cases h : 5059 < mi
      · exact h
      · exact absurd hr0 ((hwin (by omega) (by omega)).2 rfl)
    refine (ihm m1 (by omega) w113 b M a l c gi pl (by omega) (by omega) hC1).use fun e w117 he => ?_
    obtain ⟨_, m2, rfl, ⟨z1, z2, y, g2, rfl, hg2, hpt, hyl⟩, hC2, e2⟩ := he
    refine ⟨B y, g2, rfl, ?_, ?_, _, m2, rfl, ⟨by omega, by omega, xs ++ 124 :: y, g2, ?_, by omega, PtS.alt hsq hpt, ?_⟩, hC2, hE1.trans e2⟩
    · rw [size_B]; show 1 + _ ≤ _; omega
    · rw [show (⟨#[124]⟩ : ByteArray) = B [124] from rfl, B_append, size_B, size_B]; simp; omega
    · rw [show (⟨#[124]⟩ : ByteArray) = B [124] from rfl, B_append, B_append]; rfl
    · simp; omega
end Go.Proofs.Ytngbiaeliphdjaa.V
/- Drawn patterns and texts. No statement of the seat is proved here. -/
namespace Go.Proofs.Ytngbiaeliphdjaa.V
open Go.Vc Go.Proofs Go.RowKit
set_option linter.unusedVariables false
set_option linter.unusedSimpArgs false
theorem text_ok {w : World} {b M : Nat} {a : Option Addr} {l c m : Nat} (h : Cur w b M a l c m) (hm : 100 ≤ m) (n : Nat) (h1 : 1 ≤ n) (hn : n ≤ 20) :
    Cl Try.prog 67 [.pointer (some ⟨b, 0, none⟩), .int .i64 (n : Int)] w (Drew w b M a l c fun v m' => min m 5059 ≤ m' + 2 * n + 2 ∧ ∃ s : Bytes, v = .string (B s) ∧ s.length ≤ n) := by
  apply vc67
  unfold V67
  have tn : IntKind.wrap .i64 ((n : Int) + 1) = ((n + 1 : Nat) : Int) := by rw [w64 (by omega)]; omega
  rw [tn]
  have hbl := h.lt
  refine (pick_ok h (by omega) (n + 1) (by omega) (by omega)).use fun e w5 he => ?_
  obtain ⟨_, m5, rfl, ⟨q1, q2, r, rfl, hr, _⟩, hC5, e5⟩ := he
  refine ⟨r, rfl, fun k ax lx cx j w' => ∃ (xs : Bytes) (mi : Nat), j = k ∧ k ≤ r ∧ xs.length + k = r ∧ xs.length = lx ∧ min m 5059 ≤ mi + 1 + 2 * xs.length ∧ Row w.heap.size w' 5 1 ax lx cx (u8s xs) ∧ Cur w' b M a l c mi ∧ Ext (fun k => k = b) w w', ⟨r, [], m5, rfl, Nat.le_refl _, by simp, rfl, by simp; omega, Row.nil _ _ e5.size, hC5, e5⟩, ?_⟩
  rintro k d ax lx cx _ w10 ⟨xs, mi, rfl, hk, hxr, hxl, hbd, hR, hCi, hEi⟩
  -- a byte more
  have app : ∀ {w' : World} {mj : Nat} {y : UInt8} {x : Int} {K : Option Addr → Nat → Nat → World → Prop}, x = (y.toNat : Int) → Cur w' b M a l c mj → Ext (fun k => k = b) w10 w' → (∀ a2 c2 w2, Row w.heap.size w2 5 1 a2 (lx + 1) c2 (u8s (xs ++ [y])) → Cur w2 b M a l c mj → Ext (fun k => k = b) w w2 → K a2 (lx + 1) c2 w2) →
      newC [.int .u8 x] 5 (fun b20 w21 => ∃ (a22 : Option Addr), ∃ (l22 : Nat), ∃ (c22 : Nat), ∃ (w23 : World), (Builtin.append_ #[22, 22] 22 #[.slice ax lx cx, .slice (some ⟨b20, 0, none⟩) 1 1]).run Try.prog w21 = .ok (.slice a22 l22 c22) w23 ∧ K a22 l22 c22 w23) w' := by
    intro w' mj y x K hx hC hE hK
    subst hx
    obtain ⟨a3, c3, w3, r1, r2, r3⟩ := (hR.keep hE fun k hk h => by omega).app1 elemU8 (ys := u8s [y]) (n := 1) rfl rfl (by omega) (by omega)
    exact ⟨a3, _, c3, w3, r1, hK _ _ _ (by rw [u8s_append]; exact r2) (hC.ext r3 fun k hk (h : _ ≤ k) => by omega) ((hEi.trans hE).step r3 fun i hi (h : _ ≤ i) => by omega)⟩
  refine ⟨fun g => ?_, fun g => ?_⟩
  · have g' : 0 < k := by have := of_decide_eq_true g; omega
    have t3 : IntKind.wrap .i64 ((k : Int) - 1) = ((k - 1 : Nat) : Int) := by rw [w64 (by omega)]; omega
    rw [t3]
    refine (pick_ok hCi (by omega) 12 (by omega) (by omega)).use fun e w15 he => ?_
    obtain ⟨_, m1, rfl, ⟨p1, p2, q, rfl, hq, _⟩, hC1, e1⟩ := he
    refine ⟨q, rfl, fun _ => ?_, fun _ => ?_⟩
    · refine (pick_ok hC1 (by omega) 6 (by omega) (by omega)).use fun e w18 he => ?_
      obtain ⟨_, m2, rfl, ⟨p3, p4, q', rfl, hq', _⟩, hC2, e2⟩ := he
      refine ⟨q', rfl, ⟨by omega, by show (q' : Int) < 6; omega⟩, ?_⟩
      exact app rfl hC2 (e1.trans e2) fun a2 c2 w2 r2 hC hE => ⟨k - 1, by omega, _, m2, rfl, by omega, by simp; omega, by simp; omega, by simp; omega, r2, hC, hE⟩
    · refine (pick_ok hC1 (by omega) 3 (by omega) (by omega)).use fun e w18 he => ?_
      obtain ⟨_, m2, rfl, ⟨p3, p4, q', rfl, hq', _⟩, hC2, e2⟩ := he
      have hy : IntKind.wrap .u8 (IntKind.wrap .i64 (97 + (q' : Int))) = ((UInt8.ofNat (97 + q')).toNat : Int) := by
        rw [w64 (by omega), w8, UInt8.toNat_ofNat']; omega
      exact ⟨q', rfl, app hy hC2 (e1.trans e2) fun a2 c2 w2 r2 hC hE => ⟨k - 1, by omega, _, m2, rfl, by omega, by simp; omega, by simp; omega, by simp; omega, r2, hC, hE⟩⟩
  · have hk0 : k = 0 := by have := of_decide_eq_false g; omega
    subst hk0
    refine (pick_ok hCi (by omega) 9 (by omega) (by omega)).use fun e w34 he => ?_
    obtain ⟨_, m1, rfl, ⟨p1, p2, q, rfl, hq, _⟩, hC1, e1⟩ := he
    have fin : ∃ (s41 : ByteArray), (convert 22 9 (.slice ax lx cx)).run Try.prog w34 = .ok (.string s41) w34 ∧ Drew w b M a l c (fun v m' => min m 5059 ≤ m' + 2 * n + 2 ∧ ∃ s : Bytes, v = .string (B s) ∧ s.length ≤ n) (.returned (.string s41)) w34 :=
      ⟨_, row_str (hR.keep e1 fun k hk h => by omega), _, m1, rfl, ⟨by omega, xs, rfl, by omega⟩, hC1, hEi.trans e1⟩
    refine ⟨q, rfl, fun _ => ⟨fun h2 => ?_, fun _ => fin⟩, fun _ => fin⟩
    have h2' : lx < n := by have := of_decide_eq_true h2; omega
    exact app (y := 10) rfl hC1 e1 fun a2 c2 w2 r2 hC hE => ⟨_, row_str r2, _, m1, rfl, ⟨by omega, _, rfl, by simp; omega⟩, hC, hE⟩
/-- A pattern that is read. -/
def GoodP (pl : Bool) (s : Bytes) : Prop := (readP s).ok = true ∧ (pl = true → NE (readP s).pieces) ∧ s.length ≤ 120
theorem good_abc (pl : Bool) : GoodP pl [40, 97, 124, 97, 98, 41, 42, 99, 63] := by
  have a1 : ∀ d g, SqS pl d g [97] g := fun d g => (aS_chr pl d g (by decide)).one
  have b1 : ∀ d g, SqS pl d g [98] g := fun d g => (aS_chr pl d g (by decide)).one
  have p1 : PtS pl 5 1 [97, 124, 97, 98] 1 := PtS.alt (a1 5 1) (((a1 5 1).app (b1 5 1)).pat)
  have g1 : AtS pl 6 0 [40, 97, 124, 97, 98, 41] 1 := p1.grp (g := 0) (by decide)
  have s1 : SqS pl 6 0 [40, 97, 124, 97, 98, 41, 42, 99, 63] 1 := (g1.cnt cnD_star.1).app ((aS_chr pl 6 1 (c := 99) (by decide)).cnt cnD_opt.1)
  have := s1.pat.read (by decide)
  exact ⟨this.1, this.2, by decide⟩
theorem good_ok {w : World} {b M : Nat} {a : Option Addr} {l c m : Nat} (h : Cur w b M a l c m) (hm : 5059 ≤ m) (pl : Bool) :
    Cl Try.prog 66 [.pointer (some ⟨b, 0, none⟩), .bool pl] w (Drew w b M a l c fun v m' => 5000 ≤ m' ∧ ∃ s : Bytes, v = .string (B s) ∧ GoodP pl s) := by
  apply vc66
  unfold V66
  refine (pat_ok 3 (by omega) m w b M a l c 9 pl hm (by omega) h).use fun e w6 he => ?_
  obtain ⟨_, m6, rfl, ⟨z1, z2, y, g2, rfl, hg2, hpt, hyl⟩, hC2, e2⟩ := he
  refine ⟨B y, g2, rfl, fun g => ⟨_, m6, rfl, ⟨by omega, _, rfl, good_abc pl⟩, hC2, e2⟩, fun g => ?_⟩
  have g' : y.length ≤ 120 := by have := of_decide_eq_false g; rw [size_B] at this; omega
  have := hpt.read g'
  exact ⟨_, m6, rfl, ⟨by omega, y, rfl, this.1, this.2, g'⟩, hC2, e2⟩
def RetPT (pl : Bool) (n : Nat) (w : World) : Rt := fun e w' => ∃ p t : Bytes, e = .returned (.tuple #[.string (B p), .string (B t)]) ∧ GoodP pl p ∧ t.length ≤ n ∧ Below w.heap.size w w'
theorem drawn_ok {w : World} {a : Option Addr} {l c : Nat} (h : GBytes w w.heap.size a l) (hl : l ≤ 1048576) : Cl Try.prog 20 [.slice a l c] w (RetPT false 14 w) := by
  apply vc20
  unfold V20
  refine cur_in h hl fun w3 m hm hC B3 => ?_
  refine (good_ok hC hm false).use fun e w5 he => ?_
  obtain ⟨_, m5, rfl, ⟨q1, p, rfl, hp⟩, hC5, e5⟩ := he
  refine ⟨_, rfl, (text_ok hC5 (by omega) 14 (by omega) (by omega)).use fun e w8 he => ?_⟩
  obtain ⟨_, m8, rfl, ⟨_, t, rfl, ht⟩, hC8, e8⟩ := he
  exact ⟨_, rfl, p, t, rfl, hp, ht, Ext.to (Ext.to B3 e5 fun i h => by omega) e8 fun i h => by omega⟩
theorem plain_ok {w : World} {a : Option Addr} {l c : Nat} (h : GBytes w w.heap.size a l) (hl : l ≤ 1048576) : Cl Try.prog 55 [.slice a l c] w (RetPT true 10 w) := by
  apply vc55
  unfold V55
  refine cur_in h hl fun w3 m hm hC B3 => ?_
  refine (good_ok hC hm true).use fun e w5 he => ?_
  obtain ⟨_, m5, rfl, ⟨q1, p, rfl, hp⟩, hC5, e5⟩ := he
  refine ⟨_, rfl, (text_ok hC5 (by omega) 10 (by omega) (by omega)).use fun e w8 he => ?_⟩
  obtain ⟨_, m8, rfl, ⟨_, t, rfl, ht⟩, hC8, e8⟩ := he
  exact ⟨_, rfl, p, t, rfl, hp, ht, Ext.to (Ext.to B3 e5 fun i h => by omega) e8 fun i h => by omega⟩
end Go.Proofs.Ytngbiaeliphdjaa.V
/- Any drawn text of a pattern. No statement of the seat is proved here. -/
namespace Go.Proofs.Ytngbiaeliphdjaa.V
open Go.Vc Go.Proofs Go.RowKit
set_option linter.unusedVariables false
set_option linter.unusedSimpArgs false
def shortS : Value → Bool
  | .string s => decide (s.size ≤ 30)
  | _ => false
theorem cell_short {h : Array Obj} {b : Nat} {cs : List Value} (k : Blk h b 9 cs) (hs : cs.all shortS = true) {q : Nat} (hq : q < cs.length) : ∃ s : ByteArray, cellH h b (0 + Int.toNat (q : Int) * 1) = some (.string s) ∧ s.size ≤ 30 := by
  rw [show 0 + Int.toNat (q : Int) * 1 = q from by omega, k.cell, List.getElem?_eq_getElem hq]
  have := List.all_eq_true.1 hs _ (List.getElem_mem hq)
  generalize cs[q] = v at this
  cases v with
  | string s => exact ⟨s, rfl, of_decide_eq_true this⟩
  | _ => cases this
set_option maxHeartbeats 4000000 in
theorem any_ok {w : World} {b M : Nat} {a : Option Addr} {l c m : Nat} (h : Cur w b M a l c m) (hm : 5059 ≤ m) :
    Cl Try.prog 105 [.pointer (some ⟨b, 0, none⟩)] w (Drew w b M a l c fun v m' => 4000 ≤ m' ∧ ∃ s : ByteArray, v = .string s) := by
  apply vc105
  unfold V105
  refine (good_ok h hm false).use fun e w4 he => ?_
  obtain ⟨_, m4, rfl, ⟨q1, p, rfl, hp⟩, hC4, e4⟩ := he
  refine ⟨_, rfl, ?_⟩
  refine (pick_ok hC4 (by omega) 3 (by omega) (by omega)).use fun e w7 he => ?_
  obtain ⟨_, m7, rfl, ⟨q2, q3, r, rfl, hr, _⟩, hC7, e7⟩ := he
  have e7' := e4.trans e7
  have hp120 := hp.2.2
  refine ⟨r, rfl, fun s w' => ∃ mi : Nat, s.size ≤ 190 ∧ 4900 ≤ mi ∧ Cur w' b M a l c mi ∧ Ext (fun k => k = b) w w', ?_, ?_⟩
  · refine ⟨fun k s n w' => ∃ mi : Nat, n = k ∧ k ≤ 2 ∧ s.size + 30 * k ≤ 180 ∧ 4950 + 3 * k ≤ mi ∧ Cur w' b M a l c mi ∧ Ext (fun k => k = b) w w', ⟨r, m7, rfl, by omega, by rw [size_B]; omega, by omega, hC7, e7'⟩, ?_⟩
    rintro k d s _ w13 ⟨mi, rfl, hk, hsz, hmi, hCi, hEi⟩
    refine ⟨fun g => ?_, fun g => ⟨mi, by omega, by omega, hCi, hEi⟩⟩
    have g' : 0 < k := by have := of_decide_eq_true g; omega
    refine (pick_ok hCi (by omega) 2 (by omega) (by omega)).use fun e w18 he => ?_
    obtain ⟨_, m18, rfl, ⟨p1, p2, r2, rfl, hr2, _⟩, hC18, e18⟩ := he
    refine ⟨r2, rfl, fun _ => ?_, fun _ => ⟨m18, by omega, by omega, hC18, hEi.trans e18⟩⟩
    have t1 : IntKind.wrap .i64 (((ByteArray.size s : Nat) : Int) + 1) = ((ByteArray.size s + 1 : Nat) : Int) := by rw [w64 (by omega)]; omega
    have t2 : IntKind.wrap .i64 ((k : Int) - 1) = ((k - 1 : Nat) : Int) := by rw [w64 (by omega)]; omega
    rw [t1, t2]
    refine (pickN_ok hC18 (by omega) (s.size + 1) (by omega) (by omega)).use fun e w21 he => ?_
    obtain ⟨_, m21, rfl, ⟨p3, p4, i, rfl, hi⟩, hC21, e21⟩ := he
    refine ⟨i, rfl, ?_⟩
    refine newC_in fun w24 s24 k24 e24 => ?_
    refine drw_in fun w25 z25 x25 => ?_
    have k25 := k24.keep x25 fun h => h
    have hC25 := (hC21.ext e24 fun _ _ h => h).ext x25 fun _ _ h => h
    have E25 : Ext (fun k => k = b) w w25 := (((hEi.trans e18).trans e21).trans (Ext.mono e24 fun _ _ h => h.elim)).trans (Ext.mono x25 fun _ _ h => h.elim)
    refine ⟨⟨by omega, by omega⟩, ⟨by omega, by omega⟩, ?_⟩
    refine (pick_ok hC25 (by omega) 23 (by omega) (by omega)).use fun e w27 he => ?_
    obtain ⟨_, m27, rfl, ⟨p5, p6, q, rfl, hq, _⟩, hC27, e27⟩ := he
    have k27 := k25.keep e27 (by have := hC21.lt; omega)
    obtain ⟨s31, hs31, hz31⟩ := cell_short k27 rfl (q := q) (by show q < 23; exact hq)
    refine ⟨q, rfl, _, 0, ⟨rfl, by omega, by omega⟩, s31, hs31, ?_⟩
    rw [show Int.toNat (i : Int) = i from by omega]
    have x1 : (ByteArray.extract s 0 i).size = i := by rw [ByteArray.size_extract]; omega
    have x2 : (ByteArray.extract s i (ByteArray.size s)).size = s.size - i := by rw [ByteArray.size_extract]; omega
    refine ⟨by rw [x1]; omega, by rw [ByteArray.size_append, x1, x2]; omega, k - 1, by omega, m27, rfl, by omega, ?_, by omega, hC27, E25.trans e27⟩
    rw [ByteArray.size_append, ByteArray.size_append, x1, x2]; omega
  rintro d s w35 ⟨mi, hs, hmi, hC35, E35⟩
  have long : ∀ {w0 : World} {m0 : Nat}, 4880 ≤ m0 → Cur w0 b M a l c m0 → Ext (fun k => k = b) w w0 → ∃ (I50 : Nat → ByteArray → World → Prop), (∃ k52, I50 k52 (⟨#[]⟩ : ByteArray) w0) ∧ ∀ k51 (d54 : Nat → Value) s55 w53, I50 k51 s55 w53 → clI 82 ([.pointer (some ⟨b, 0, none⟩), .int .i64 3]) w53 (Drew w b M a l c fun v m' => 4000 ≤ m' ∧ ∃ s : ByteArray, v = .string s) fun n56 w57 => (cB (decide (((ByteArray.size s55 : Nat) : Int) < (IntKind.wrap .i64 (119 + n56)))) ((s55.size + (⟨#[97]⟩ : ByteArray).size ≤ 9223372036854775807) ∧ (∃ m59, m59 < k51 ∧ I50 m59 (s55 ++ (⟨#[97]⟩ : ByteArray)) w57)) ((Drew w b M a l c fun v m' => 4000 ≤ m' ∧ ∃ s : ByteArray, v = .string s) (.returned (.string s55)) w57)) := by
    intro w0 m0 hm0 hC0 hE0
    refine ⟨fun k s w' => ∃ mi : Nat, k + s.size = 121 ∧ 4880 ≤ mi + s.size ∧ Cur w' b M a l c mi ∧ Ext (fun k => k = b) w w', ⟨121, m0, rfl, by show 4880 ≤ m0 + 0; omega, hC0, hE0⟩, ?_⟩
    rintro k d s w53 ⟨mi, hk, hmi, hCi, hEi⟩
    refine (pick_ok hCi (by omega) 3 (by omega) (by omega)).use fun e w57 he => ?_
    obtain ⟨_, m57, rfl, ⟨p1, p2, r2, rfl, hr2, _⟩, hC57, e57⟩ := he
    have t1 : IntKind.wrap .i64 (119 + (r2 : Int)) = ((119 + r2 : Nat) : Int) := by rw [w64 (by omega)]; omega
    refine ⟨r2, rfl, ?_⟩
    dsimp only
    rw [t1]
    have h1 : (⟨#[97]⟩ : ByteArray).size = 1 := rfl
    refine ⟨fun g => ?_, fun g => ⟨_, m57, rfl, ⟨by omega, _, rfl⟩, hC57, hEi.trans e57⟩⟩
    have g' : s.size < 119 + r2 := by have := of_decide_eq_true g; omega
    exact ⟨by omega, k - 1, by omega, m57, by rw [ByteArray.size_append, h1]; omega, by rw [ByteArray.size_append, h1]; omega, hC57, hEi.trans e57⟩
  refine (pick_ok hC35 (by omega) 60 (by omega) (by omega)).use fun e w37 he => ?_
  obtain ⟨_, m37, rfl, ⟨p1, p2, r2, rfl, hr2, _⟩, hC37, e37⟩ := he
  have E37 := E35.trans e37
  refine ⟨r2, rfl, fun _ => ?_, fun _ => ?_⟩
  · refine newC_in fun w40 s40 k40 e40 => ?_
    refine (pick_ok (hC37.ext e40 fun _ _ h => h) (by omega) 4 (by omega) (by omega)).use fun e w42 he => ?_
    obtain ⟨_, m42, rfl, ⟨p3, p4, q, rfl, hq, _⟩, hC42, e42⟩ := he
    have k42 := k40.keep e42 (by have := hC37.lt; omega)
    have E42 : Ext (fun k => k = b) w w42 := (E37.trans (Ext.mono e40 fun _ _ h => h.elim)).trans e42
    obtain ⟨s46, hs46, hz46⟩ := cell_short k42 rfl (q := q) (by show q < 4; exact hq)
    refine ⟨q, rfl, _, 0, ⟨rfl, by omega, by omega⟩, s46, hs46, ?_⟩
    refine (pick_ok hC42 (by omega) 60 (by omega) (by omega)).use fun e w48 he => ?_
    obtain ⟨_, m48, rfl, ⟨p5, p6, r3, rfl, hr3, _⟩, hC48, e48⟩ := he
    exact ⟨r3, rfl, fun _ => long (by omega) hC48 (E42.trans e48), fun _ => ⟨_, m48, rfl, ⟨by omega, _, rfl⟩, hC48, E42.trans e48⟩⟩
  · refine (pick_ok hC37 (by omega) 60 (by omega) (by omega)).use fun e w48 he => ?_
    obtain ⟨_, m48, rfl, ⟨p5, p6, r3, rfl, hr3, _⟩, hC48, e48⟩ := he
    exact ⟨r3, rfl, fun _ => long (by omega) hC48 (E37.trans e48), fun _ => ⟨_, m48, rfl, ⟨by omega, _, rfl⟩, hC48, E37.trans e48⟩⟩
theorem drawRead_ok {w : World} {a : Option Addr} {l c : Nat} (h : GBytes w w.heap.size a l) (hl : l ≤ 1048576) : Cl Try.prog 64 [.slice a l c] w (fun e w' => ∃ s : ByteArray, e = .returned (.string s) ∧ Below w.heap.size w w') := by
  apply vc64
  unfold V64
  refine cur_in h hl fun w3 m hm hC B3 => ?_
  refine (any_ok hC hm).use fun e w5 he => ?_
  obtain ⟨_, m5, rfl, ⟨_, s, rfl⟩, hC5, e5⟩ := he
  exact ⟨_, rfl, s, rfl, Ext.to B3 e5 fun i h => by omega⟩
end Go.Proofs.Ytngbiaeliphdjaa.V
/- The law on a pattern's written text. No statement of the seat is proved here. -/
namespace Go.Proofs.Ytngbiaeliphdjaa.V
open Go.Vc Go.Proofs Go.RowKit
set_option linter.unusedVariables false
set_option linter.unusedSimpArgs false
theorem WI.no {l : Bytes} (h : (readP l).ok = false) {a g : Int} {s : Bytes} (hw : WI (readP l).ok a g (readP l).pieces s) : s = [] := by
  have hp := (readP_bad h).2
  rcases hw with ⟨k, hm, _⟩ | ⟨rfl, _⟩
  · rw [hp] at hm; simp [mach] at hm
  · rfl
theorem lawWritten_ok (a1 : Option Addr) (l1 c1 : Nat) (w : World) (h1 : l1 ≤ 1048576 → GBytes w w.heap.size a1 l1) : Cl Try.prog 18 [.slice a1 l1 c1] w (RetB (.bool true) w) := by
  apply vc18
  unfold V18
  refine ⟨fun _ => ⟨rfl, Below.refl _ _⟩, fun g1 => ?_⟩
  have g1' : l1 ≤ 1048576 := by have := of_decide_eq_false g1; omega
  refine (drawRead_ok (h1 g1') g1').use fun e w3 he => ?_
  obtain ⟨s, rfl, B3⟩ := he
  refine ⟨_, rfl, (readPattern_ok s w3).use fun e w9 he => ?_⟩
  obtain ⟨a8, l8, c8, rs, rfl, P9, B9⟩ := he
  refine ⟨_, _, _, _, _, _, rfl, ?_⟩
  have B9' := B3.vstep B9
  refine newC_in fun w12 s12 k12 e12 => ?_
  refine stW_in k12 (by show 0 + 4 ≤ 4; decide) fun w13 s13 k13 e13 => ?_
  have B913 : Below w9.heap.size w9 w13 := Ext.to (Ext.to (Below.refl _ _) e12 fun _ h => h.elim) e13 fun i hi => by omega
  refine drw_in fun w14 z14 x14 => ?_
  have B914 : Below w9.heap.size w9 w14 := Ext.to B913 x14 fun _ h => h.elim
  have k14 := k13.keep x14 fun h => h
  have B14 := B9'.vstep B914
  have P14 := P9.below B914
  have hfit := fits_read (L s)
  refine ⟨_, k14.cell 0, _, k14.cell 1, _, k14.cell 2, _, _, _, k14.cell 3, (sreadPattern_ok s w14).use fun e w23 he => ?_⟩
  obtain ⟨a22, l22, c22, rs2, rfl, P23, B23⟩ := he
  have k23 := k14.below B23
  have B23' := B14.vstep B23
  have O23 := P14.below B23
  refine ⟨_, _, _, _, _, _, rfl, k23.cellsAt (n := 4) rfl rfl, (wPattern_ok O23 P23 hfit).ret fun w26 B26 => ⟨true, rfl, fun g => by simp at g, fun _ => ?_⟩⟩
  have k26 := k23.below B26
  have B26' := B23'.vstep B26
  have O26 := O23.below B26
  refine ⟨_, k26.cell 0, _, k26.cell 1, _, k26.cell 2, _, _, _, k26.cell 3, (implWrite_ok O26 hfit _ _ _).use fun e w33 he => ?_⟩
  obtain ⟨t, rfl, hwi, B33⟩ := he
  have k33 := k26.below B33
  have B33' := B26'.vstep B33
  have O33 := O26.below B33
  refine ⟨_, rfl, _, k33.cell 0, _, k33.cell 1, _, k33.cell 2, _, _, _, k33.cell 3, (specWrite_ok O33 hfit _ _ _).use fun e w40 he => ?_⟩
  obtain ⟨t', rfl, hws, B40⟩ := he
  have hti := WI.spec hwi hws
  subst hti
  have k40 := k33.below B40
  have B40' := B33'.vstep B40
  have O40 := O33.below B40
  refine ⟨_, rfl, fun g => by simp at g, fun _ => ⟨_, k40.cell 0, fun g2 => ?_, fun g2 => ?_⟩⟩
  · -- no pattern
    have hno : (readP (L s)).ok = false := by simpa using g2
    have ht := WI.no hno hwi
    subst ht
    refine ⟨fun _ => ?_, fun g => ?_⟩
    · refine (ways_no hno _ _ w40).ret fun w44 B44 => ⟨_, _, _, rfl, fun _ => ?_, fun g => by simp at g⟩
      refine (find_no hno _ _ w44).ret fun w50 B50 => ⟨_, _, _, _, _, _, rfl, fun _ => ?_, fun g => by simp at g⟩
      refine (split_no hno _ w50).ret fun w53 B53 => ⟨_, _, _, rfl, ?_⟩
      exact ⟨rfl, ((B40'.vstep B44).vstep B50).vstep B53⟩
    · rw [show ((B []).toList == (⟨#[]⟩ : ByteArray).toList) = true from beq_self_eq_true _] at g; cases g
  · -- a pattern
    have hyes : (readP (L s)).ok = true := by simpa using g2
    refine drw_in fun w55 z55 x55 => ?_
    have B4055 : Below w40.heap.size w40 w55 := Ext.to (Below.refl _ _) x55 fun _ h => h.elim
    have k55 := k40.below B4055
    have B55 := B40'.vstep B4055
    have O55 := O40.below B4055
    refine ⟨fun _ => ⟨rfl, B55⟩, fun g3 => ?_⟩
    have hne : t ≠ [] := by
      rintro rfl
      rw [show ((B []).toList == (⟨#[]⟩ : ByteArray).toList) = true from beq_self_eq_true _] at g3; cases g3
    obtain ⟨k, hm, hE⟩ : ∃ k, mach (readP (L s)).pieces 0 [] = some [(k, t)] ∧ EqP (readP t) (readP (L s)).ok ((readP (L s)).at_ : Int) ((readP (L s)).groups : Int) (readP (L s)).pieces := by
      rcases hwi with h | ⟨h, _⟩
      · exact h
      · exact absurd h hne
    refine ⟨_, k55.cell 0, _, k55.cell 1, _, k55.cell 2, _, _, _, k55.cell 3, (readPattern_ok (B t) w55).use fun e w64 he => ?_⟩
    rw [L_B] at he
    obtain ⟨a63, l63, c63, rs3, rfl, P64, B64⟩ := he
    have k64 := k55.below B64
    have B64' := B55.vstep B64
    have O64 := O55.below B64
    refine ⟨_, _, _, _, _, _, rfl, k64.cellsAt (n := 4) rfl rfl, ?_⟩
    rw [hE.1, hE.2.1, hE.2.2.1]
    rw [hE.2.2.2] at P64
    refine (wPattern_ok (P := readP (L s)) P64 O64 hfit).ret fun w67 B67 => ⟨true, rfl, fun _ => ?_, fun g => by simp at g⟩
    refine (readPattern_ok (B t) w67).use fun e w73 he => ?_
    rw [L_B] at he
    obtain ⟨a72, l72, c72, rs4, rfl, P73, B73⟩ := he
    refine ⟨_, _, _, _, _, _, rfl, (implWrite_ok P73 (fits_read t) _ _ _).use fun e w76 he => ?_⟩
    obtain ⟨t2, rfl, hw2, B76⟩ := he
    rw [hE.1, hE.2.1, hE.2.2.1, hE.2.2.2] at hw2
    have hu := WI.uniq hw2 hwi
    subst hu
    refine ⟨_, rfl, ?_, ((B64'.vstep B67).vstep B73).vstep B76⟩
    simp
end Go.Proofs.Ytngbiaeliphdjaa.V

/- Parts of a proof, put together: definitions, formulas of Go functions and lemmas. No statement of the seat is proved here. -/
import Derived.Test.YtngbiaeliphdjaaRkD
set_option maxHeartbeats 4000000
/- The reference writes a piece: the walk. No statement of the seat is proved here. -/
namespace Go.Proofs.Ytngbiaeliphdjaa.V
open Go.Vc Go.Proofs Go.RowKit
set_option linter.unusedVariables false
set_option linter.unusedSimpArgs false
/-- The ranges of a set are written. -/
theorem setLoop {w22 : World} {s : List (Int × Int)} {a40 : Option Addr} {l40 c40 : Nat} (hv : Vec w22.heap 134 2 a40 l40 c40 (rngC s)) (hs : SetF s) {R : Rt} (hR : ∀ w', Below w22.heap.size w22 w' → R (.returned (.string (B (91 :: (s.flatMap rngT ++ [93]))))) w') :
    ∃ (I41 : Nat → ByteArray → Int → World → Prop), (∃ k43, I41 k43 (⟨#[91]⟩ : ByteArray) 0 w22) ∧ ∀ k42 (d45 : Nat → Value) s46 n47 w44, I41 k42 s46 n47 w44 → (cB (decide (n47 < ((l40 : Nat) : Int))) (ixS a40 l40 n47 fun b48 o49 => lI w44 b48 (o49 + (Int.toNat n47) * 2) fun n50 => lI w44 b48 (o49 + (Int.toNat n47) * 2 + 1) fun n51 => newC [.int .i64 0, .int .i64 0] 134 (fun b52 w53 => stW b52 0 [.int .i64 n50, .int .i64 n51] (fun w54 => lI w54 b52 0 fun n55 => clS 84 ([.int .i64 n55]) w54 R fun s56 w57 => (s46.size + s56.size ≤ 9223372036854775807) ∧ lI w57 b52 1 fun n59 => lI w57 b52 0 fun n60 => (cB (decide (n59 > n60)) (lI w57 b52 1 fun n61 => clS 84 ([.int .i64 n61]) w57 R fun s62 w63 => ((⟨#[45]⟩ : ByteArray).size + s62.size ≤ 9223372036854775807) ∧ ((s46 ++ s56).size + ((⟨#[45]⟩ : ByteArray) ++ s62).size ≤ 9223372036854775807) ∧ (∃ m65, m65 < k42 ∧ I41 m65 ((s46 ++ s56) ++ ((⟨#[45]⟩ : ByteArray) ++ s62)) (IntKind.wrap .i64 (n47 + 1)) w63)) ((∃ m66, m66 < k42 ∧ I41 m66 (s46 ++ s56) (IntKind.wrap .i64 (n47 + 1)) w57)))) w53) w44) ((s46.size + (⟨#[93]⟩ : ByteArray).size ≤ 9223372036854775807) ∧ R (.returned (.string (s46 ++ (⟨#[93]⟩ : ByteArray)))) w44)) := by
  have hl : l40 = s.length := by have := hv.1; rw [rngC_length] at this; omega
  subst hl
  have h128 := hs.1
  refine ⟨fun k t n w' => ∃ j : Nat, n = j ∧ j ≤ s.length ∧ k = s.length - j ∧ t = B (91 :: (s.take j).flatMap rngT) ∧ Below w22.heap.size w22 w', ⟨_, 0, rfl, by omega, rfl, rfl, Below.refl _ _⟩, ?_⟩
  rintro k d _ _ w44 ⟨j, rfl, hj, rfl, rfl, B44⟩
  have hpl := flat_rng (s.take j)
  rw [List.length_take] at hpl
  refine ⟨fun g => ?_, fun g => ?_⟩
  · have gj : j < s.length := by have := of_decide_eq_true g; omega
    have f0 : Int.toNat (j : Int) = j := by omega
    have f1 : IntKind.wrap .i64 ((j : Int) + 1) = ((j + 1 : Nat) : Int) := by rw [w64 (by omega)]; omega
    rw [f0, f1]
    obtain ⟨d1, hd1, hg1⟩ := (hv.keep (S := fun _ => False) (Ext.of_below B44) fun _ _ h => h).open (by omega)
    have m1 := rngC_at s j gj
    have hmem := hs.2 _ (List.getElem_mem gj)
    have htk := take_one gj
    generalize s[j] = y at *
    refine ⟨d1, 0, ⟨hd1, by omega, by omega⟩, _, by rw [Nat.zero_add, hg1 _ (by omega)]; exact m1.1, _, by rw [Nat.zero_add, hg1 _ (by omega)]; exact m1.2, ?_⟩
    refine newC_in fun w53 s53 k53 e53 => ?_
    refine stW_in k53 (by show 0 + 2 ≤ 2; decide) fun w54 s54 k54 e54 => ?_
    have B54 : Below w22.heap.size w22 w54 := Ext.to (Ext.to B44 e53 fun _ h => h.elim) e54 fun i hi => by have := B44.size; omega
    have hl1 := (escB_len y.1.toNat).2
    have hl2 := (escB_len y.2.toNat).2
    refine ⟨_, k54.cell 0, (l1byte_ok y.1 ⟨by omega, by omega⟩ w54).ret fun w57 B57 => ⟨_, rfl, ?_⟩⟩
    dsimp only
    have k57 := k54.below B57
    have B57' := B54.vstep B57
    refine ⟨by rw [size_B, size_B, List.length_cons]; omega, _, k57.cell 1, _, k57.cell 0, fun g2 => ?_, fun g2 => ?_⟩
    · have g2' : y.1 < y.2 := by have := of_decide_eq_true g2; omega
      refine ⟨_, k57.cell 1, (l1byte_ok y.2 ⟨by omega, by omega⟩ w57).ret fun w63 B63 => ⟨_, rfl, ?_⟩⟩
      dsimp only
      rw [show (⟨#[45]⟩ : ByteArray) = B [45] from rfl, B_append, B_append, B_append]
      refine ⟨by rw [size_B, size_B]; simp; omega, by rw [size_B, size_B]; simp only [List.length_cons, List.length_append, List.length_nil]; omega, _, by omega, j + 1, rfl, by omega, rfl, ?_, B57'.vstep B63⟩
      rw [htk, List.flatMap_append]
      simp only [List.flatMap_cons, List.flatMap_nil, List.append_nil]
      unfold rngT
      rw [if_neg (by omega)]
      simp
    · have g2' : y.1 = y.2 := by have := of_decide_eq_false g2; omega
      rw [B_append]
      refine ⟨_, by omega, j + 1, rfl, by omega, rfl, ?_, B57'⟩
      rw [htk, List.flatMap_append]
      simp only [List.flatMap_cons, List.flatMap_nil, List.append_nil]
      unfold rngT
      rw [if_pos g2']
      simp
  · have hjl : j = s.length := by have := of_decide_eq_false g; omega
    subst hjl
    rw [List.take_length]
    refine ⟨by rw [size_B, List.length_cons]; show _ + 1 ≤ _; rw [List.take_length] at hpl; omega, ?_⟩
    rw [show (⟨#[93]⟩ : ByteArray) = B [93] from rfl, B_append]
    exact hR _ B44
theorem l1write_ok {ok : Bool} {at_ g : Int} {ps : List Pc} (hS : Sane ok ps) (hf : Fits ps) : ∀ (k : Nat), k < ps.length → ∀ {N : Nat} {w : World} {a : Option Addr} {l c : Nat} {rs : List Raw}, Pcs N w a l c rs ps →
    Cl Try.prog 96 [.agg #[.bool ok, .int .i64 at_, .int .i64 g, .slice a l c], .int .i64 (k : Int)] w (RetB (.string (B (wT ps k))) w) := by
  intro k
  induction k using Nat.strongRecOn with
  | _ k ih =>
  intro hk N w a l c rs hP
  apply vc96
  unfold V96
  have hl := hP.len
  have hl' := hP.len'
  have hw := wT_at hS.ord hS.one (List.getElem?_eq_getElem hk)
  rw [hw]
  have hxf := hS.fine _ (List.getElem_mem hk)
  have hord := hS.ord k _ (List.getElem?_eq_getElem hk)
  have sx := hf.2 _ (List.getElem_mem hk)
  have hnd := (sane_at hS hk).2.2
  have hkl : ps[k].kids.length ≤ k := by
    have := nodup_sum (fun _ => 1) k ps[k].kids (List.nodup_append.1 hnd).2.1 hord
    rw [sum_ones] at this
    have e : ∀ n : Nat, ((List.range n).map fun _ => 1).sum = n := by
      intro n
      induction n with
      | zero => rfl
      | succ n ihn => rw [List.range_succ, List.map_append, List.sum_append, ihn]; rfl
    rw [e] at this; exact this
  have hlen480 := hS.len
  -- the kids' texts
  have kid : ∀ {c' : Int} (hc : c' ∈ ps[k].kids) {w' : World}, Below w.heap.size w w' → Cl Try.prog 96 [.agg #[.bool ok, .int .i64 at_, .int .i64 g, .slice a l c], .int .i64 c'] w' (RetB (.string (B (wT ps c'.toNat))) w') ∧ (wT ps c'.toNat).length ≤ 2000000 := by
    intro c' hc w' hb
    have h1 := hord c' hc
    have h2 := ih c'.toNat (by omega) (by omega) (hP.below hb)
    rw [show ((c'.toNat : Nat) : Int) = c' from by omega] at h2
    exact ⟨h2, wT_len hS (by omega)⟩
  refine newC_in fun w7 s7 k7 e7 => ?_
  have B7 : Below w.heap.size w w7 := Ext.to (Below.refl _ _) e7 fun _ h => h.elim
  have P7 := hP.below B7
  obtain ⟨b1, ha1, hc1⟩ := P7.row.open (by omega)
  have gir : k < rs.length := by omega
  have k1 := fun o ho => raw_at hc1 hl gir o ho
  have o1 := P7.all k _ _ (List.getElem?_eq_getElem gir) (List.getElem?_eq_getElem hk)
  generalize rs[k] = r at *
  generalize ps[k] = x at *
  have f0 : Int.toNat (k : Int) = k := by omega
  rw [f0]
  refine ⟨_, _, _, k7.cell 3, b1, 0, ⟨ha1, by omega, by omega⟩, _, k1 0 (by decide), _, _, _, k1 1 (by decide), _, k1 2 (by decide), _, k1 3 (by decide), _, k1 4 (by decide), _, k1 5 (by decide), _, _, _, k1 6 (by decide), ?_⟩
  refine newC_in fun w19 s19 k19 e19 => ?_
  refine stW_in k19 (by show 0 + 7 ≤ 7; decide) fun w20 s20 k20 e20 => ?_
  have B720 : Below w7.heap.size w7 w20 := Ext.to (Ext.to (Below.refl _ _) e19 fun _ h => h.elim) e20 fun i hi => by omega
  have q20 : Blk w20.heap w7.heap.size 111 r.cells := k20
  have q6 := k7.below B720
  have B20 := B7.vstep B720
  have S20 := o1.keep (S := fun _ => False) (Ext.of_below B720) fun _ _ h => h
  have sl1 : r.sl = x.set.length := by have := S20.set.1; rw [rngC_length] at this; omega
  have kl1 : r.kl = x.kids.length := by have := S20.kids.1; rw [intC_length] at this; omega
  have ek := o1.kind
  have hkind := hxf.kind
  -- a kid's number, in any world behind
  have kidAt : ∀ {w' : World} {j : Nat}, Below w20.heap.size w20 w' → (hj : j < x.kids.length) → ∃ b, r.ka = some ⟨b, 0, none⟩ ∧ cellH w'.heap b (0 + j * 1) = some (.int .i64 x.kids[j]) := by
    intro w' j hb hj
    obtain ⟨d1, hd1, hg1⟩ := (S20.keep (S := fun _ => False) (Ext.of_below hb) fun _ _ h => h).kids.open (by omega)
    exact ⟨d1, hd1, by rw [show 0 + j * 1 = j from by omega, hg1 _ (by omega)]; exact intC_at _ j hj⟩
  refine ⟨_, q20.cell 0, fun h1 => ?_, fun h1 => ⟨fun h2 => ?_, fun h2 => ⟨fun h3 => ?_, fun h3 => ⟨fun h4 => ?_, fun h4 => ⟨fun h5 => ?_, fun h5 => ⟨fun h6 => ?_, fun h6 => ?_⟩⟩⟩⟩⟩⟩
  · -- a set
    have h1' : x.kind = 1 := by have : r.kind = 1 := by simpa using h1
                                omega
    have hww : wWork (wT ps) x = setT x.set := by unfold wWork; rw [if_pos h1']
    rw [hww]
    refine drw_in fun w22 z22 e22 => ?_
    have q22 := q20.keep e22 fun h => h
    have B22 : Below w.heap.size w w22 := Ext.to B20 e22 fun _ h => h.elim
    have S22 := (S20.keep e22 fun _ _ h => h).set
    have allc : x.set = [] → RetB (.string (B (setT x.set))) w (.returned (.string (⟨#[91, 94, 92, 120, 48, 48, 45, 92, 120, 102, 102, 93]⟩ : ByteArray))) w22 := fun he => ⟨by unfold setT; rw [if_pos he]; rfl, B22⟩
    have rest : oneS x.set = false → x.set ≠ [] → _ := fun h1 h2 => setLoop S22 hxf.set (R := RetB (.string (B (setT x.set))) w) fun w' hb => ⟨by unfold setT; rw [if_neg h2, h1, if_neg (by decide)], B22.vstep hb⟩
    refine ⟨_, _, _, q22.cell 1, fun g1 => ?_, fun g1 => ?_⟩
    · have g1' : x.set.length = 1 := by have : ((r.sl : Nat) : Int) = 1 := by simpa using g1
                                        omega
      obtain ⟨y, hy⟩ : ∃ y, x.set = [y] := by
        match hs : x.set, g1' with
        | [y], _ => exact ⟨y, rfl⟩
      obtain ⟨d1, hd1, hg1⟩ := S22.open (by omega)
      have hy2 := hxf.set.2 y (by rw [hy]; exact List.mem_singleton.2 rfl)
      have c0 : cellH w22.heap d1 0 = some (.int .i64 y.1) := by rw [hg1 0 (by omega), hy]; rfl
      have c1 : cellH w22.heap d1 (0 + 1) = some (.int .i64 y.2) := by rw [hg1 1 (by omega), hy]; rfl
      refine ⟨_, _, _, q22.cell 1, d1, 0, ⟨hd1, by omega, by omega⟩, _, c0, _, _, _, q22.cell 1, d1, 0, ⟨hd1, by omega, by omega⟩, _, c1, fun g2 => ?_, fun g2 => ?_⟩
      · have g2' : y.1 = y.2 := by simpa using g2
        refine ⟨_, _, _, q22.cell 1, d1, 0, ⟨hd1, by omega, by omega⟩, _, c0, (l1byte_ok y.1 ⟨by omega, by omega⟩ w22).ret fun w37 B37 => ⟨_, rfl, ?_, B22.vstep B37⟩⟩
        unfold setT
        rw [hy, if_neg (by simp), if_pos (by simp [oneS, g2'])]
        rfl
      · have g2' : ¬ y.1 = y.2 := by simpa using g2
        refine ⟨_, _, _, q22.cell 1, fun g3 => ?_, fun _ => ⟨_, _, _, q22.cell 1, rest (by rw [hy]; simp [oneS, g2']) (by rw [hy]; simp)⟩⟩
        have : ((r.sl : Nat) : Int) = 0 := by simpa using g3
        omega
    · have g1' : ¬ x.set.length = 1 := by have : ¬ ((r.sl : Nat) : Int) = 1 := by simpa using g1
                                          omega
      refine ⟨_, _, _, q22.cell 1, fun g3 => allc ?_, fun g3 => ⟨_, _, _, q22.cell 1, rest ?_ ?_⟩⟩
      · have : ((r.sl : Nat) : Int) = 0 := by simpa using g3
        exact List.length_eq_zero_iff.1 (by omega)
      · match hs : x.set with
        | [] => rfl
        | [y] => rw [hs] at g1'; simp at g1'
        | y :: z :: t => rfl
      · intro he
        rw [he] at sl1
        rw [sl1] at g3; simp at g3
  · -- a sequence
    have h2' : x.kind = 2 := by have : r.kind = 2 := by simpa using h2
                                omega
    have hww : wWork (wT ps) x = x.kids.flatMap fun c => wT ps c.toNat := by unfold wWork; rw [if_neg (by omega), if_pos h2']
    rw [hww]
    refine ⟨_, _, _, q20.cell 6, fun m s n w' => ∃ j : Nat, n = j ∧ j ≤ x.kids.length ∧ m = x.kids.length - j ∧ s = B ((x.kids.take j).flatMap fun c => wT ps c.toNat) ∧ s.size ≤ 2000001 * j ∧ Below w20.heap.size w20 w', ⟨_, 0, rfl, by omega, rfl, rfl, by show 0 ≤ _; omega, Below.refl _ _⟩, ?_⟩
    rintro m d _ _ w99 ⟨j, rfl, hj, rfl, rfl, hsz, B99⟩
    refine ⟨fun g => ?_, fun g => ?_⟩
    · have gj : j < x.kids.length := by have := of_decide_eq_true g; omega
      have f0 : Int.toNat (j : Int) = j := by omega
      have f1 : IntKind.wrap .i64 ((j : Int) + 1) = ((j + 1 : Nat) : Int) := by rw [w64 (by omega)]; omega
      rw [f0, f1]
      obtain ⟨b, hb, hcb⟩ := kidAt B99 gj
      have q99 := q6.below B99
      have hkd := kid (List.getElem_mem gj) (B20.vstep B99)
      have htk := take_one gj
      generalize x.kids[j] = y at *
      refine ⟨b, 0, ⟨hb, by omega, by omega⟩, _, hcb, _, q99.cell 0, _, q99.cell 1, _, q99.cell 2, _, _, _, q99.cell 3, hkd.1.ret fun w111 B111 => ⟨_, rfl, by rw [size_B (wT ps y.toNat)]; omega, ?_⟩⟩
      rw [B_append]
      refine ⟨_, by omega, j + 1, rfl, by omega, rfl, ?_, ?_, B99.vstep B111⟩
      · rw [htk, List.flatMap_append]; simp
      · rw [size_B, List.length_append]; rw [size_B] at hsz; omega
    · have hjl : j = x.kids.length := by have := of_decide_eq_false g; omega
      subst hjl
      rw [List.take_length]
      exact ⟨rfl, B20.vstep B99⟩
  · -- alternatives
    have h3' : x.kind = 3 := by have : r.kind = 3 := by simpa using h3
                                omega
    have hww : wWork (wT ps) x = altJ (x.kids.map fun c => wT ps c.toNat) := by unfold wWork; rw [if_neg (by omega), if_neg (by omega), if_pos h3']
    rw [hww]
    refine ⟨_, _, _, q20.cell 6, fun m s n w' => ∃ j : Nat, n = j ∧ j ≤ x.kids.length ∧ m = x.kids.length - j ∧ s = B (altJ ((x.kids.take j).map fun c => wT ps c.toNat)) ∧ s.size ≤ 2000001 * j ∧ Below w20.heap.size w20 w', ⟨_, 0, rfl, by omega, rfl, rfl, by show 0 ≤ _; omega, Below.refl _ _⟩, ?_⟩
    rintro m d _ _ w118 ⟨j, rfl, hj, rfl, rfl, hsz, B118⟩
    refine ⟨fun g => ?_, fun g => ?_⟩
    · have gj : j < x.kids.length := by have := of_decide_eq_true g; omega
      have f0 : Int.toNat (j : Int) = j := by omega
      have f1 : IntKind.wrap .i64 ((j : Int) + 1) = ((j + 1 : Nat) : Int) := by rw [w64 (by omega)]; omega
      rw [f0, f1]
      obtain ⟨b, hb, hcb⟩ := kidAt B118 gj
      have q99 := q6.below B118
      have hkd := kid (List.getElem_mem gj) (B20.vstep B118)
      have htk := take_one gj
      generalize x.kids[j] = y at *
      refine ⟨b, 0, ⟨hb, by omega, by omega⟩, _, hcb, fun g2 => ?_, fun g2 => ?_⟩
      · have g2' : 0 < j := by have := of_decide_eq_true g2; omega
        rw [show (⟨#[124]⟩ : ByteArray) = B [124] from rfl]
        refine ⟨by rw [size_B [124]]; show _ + 1 ≤ _; omega, _, q99.cell 0, _, q99.cell 1, _, q99.cell 2, _, _, _, q99.cell 3, hkd.1.ret fun w130 B130 => ⟨_, rfl, ?_⟩⟩
        dsimp only
        rw [B_append, B_append]
        rw [size_B] at hsz
        refine ⟨by rw [size_B, size_B]; simp only [List.length_cons, List.length_append, List.length_nil]; omega, _, by omega, j + 1, rfl, by omega, rfl, ?_, ?_, B118.vstep B130⟩
        · rw [htk, List.map_append]
          simp only [List.map_cons, List.map_nil]
          rw [altJ_snoc _ _ (by intro h; have := congrArg List.length h; rw [List.length_map, List.length_take, List.length_nil] at this; omega)]
          simp
        · rw [size_B]; simp only [List.length_append, List.length_singleton]; omega
      · have g2' : j = 0 := by have := of_decide_eq_false g2; omega
        subst g2'
        refine ⟨_, q99.cell 0, _, q99.cell 1, _, q99.cell 2, _, _, _, q99.cell 3, hkd.1.ret fun w138 B138 => ⟨_, rfl, by rw [size_B (wT ps y.toNat)]; omega, ?_⟩⟩
        rw [B_append]
        refine ⟨_, by omega, 1, rfl, by omega, rfl, ?_, ?_, B118.vstep B138⟩
        · rw [htk]; rfl
        · rw [size_B]; show (wT ps y.toNat).length ≤ _; omega
    · have hjl : j = x.kids.length := by have := of_decide_eq_false g; omega
      subst hjl
      rw [List.take_length]
      exact ⟨rfl, B20.vstep B118⟩
  · -- a repetition
    have h4' : x.kind = 4 := by have : r.kind = 4 := by simpa using h4
                                omega
    have h1l := hxf.one (.inl h4')
    have hww : wWork (wT ps) x = repS x (wT ps (x.kids.getD 0 0).toNat) := by unfold wWork; rw [if_neg (by omega), if_neg (by omega), if_neg (by omega), if_pos h4']
    rw [hww]
    refine drw_in fun w141 z141 e141 => ?_
    have B141 : Below w20.heap.size w20 w141 := Ext.to (Below.refl _ _) e141 fun _ h => h.elim
    have p6 := q6.below B141
    have p18 := q20.below B141
    obtain ⟨b, hb, hcb⟩ := kidAt B141 (show 0 < x.kids.length by omega)
    have hg0 : x.kids.getD 0 0 = x.kids[0]'(by omega) := by rw [List.getD_eq_getElem?_getD, List.getElem?_eq_getElem (by omega)]; rfl
    have hkd := kid (List.getElem_mem (show 0 < x.kids.length by omega)) (B20.vstep B141)
    rw [hg0]
    generalize x.kids[0]'(by omega) = y at *
    refine ⟨_, p6.cell 0, _, p6.cell 1, _, p6.cell 2, _, _, _, p6.cell 3, _, _, _, p18.cell 6, b, 0, ⟨hb, by omega, by omega⟩, _, hcb, _, p18.cell 2, hkd.1.ret fun w152 B152 => ⟨_, rfl, ?_⟩⟩
    dsimp only
    have p18' := p18.below B152
    have htl := hkd.2
    generalize wT ps y.toNat = t at *
    have hmin := hxf.min
    have hmax := hxf.max
    have emin : r.min = ((x.min.toNat : Nat) : Int) := by rw [o1.min]; omega
    rw [show (⟨#[123]⟩ : ByteArray) = B [123] from rfl, show (⟨#[44]⟩ : ByteArray) = B [44] from rfl, show (⟨#[125]⟩ : ByteArray) = B [125] from rfl, show (⟨#[63]⟩ : ByteArray) = B [63] from rfl]
    have hd1 := decN_le x.min.toNat
    have hd2 := decN_le x.max.toNat
    refine ⟨p18'.cell 2, by rw [size_B, size_B]; simp; omega, ?_⟩
    rw [emin]
    refine (decimal_ok x.min.toNat (by omega) w152).ret fun w155 B155 => ⟨_, rfl, ?_⟩
    dsimp only
    have p18'' := p18'.below B155
    have B155' := ((B20.vstep B141).vstep B152).vstep B155
    rw [B_append]
    refine ⟨by rw [size_B, size_B]; simp; omega, _, p18''.cell 3, fun g => ?_, fun g => ?_⟩
    · have g' : x.max < 0 := by rw [← o1.max]; exact of_decide_eq_true g
      simp only [B_append]
      refine ⟨by rw [size_B, size_B]; simp; omega, by rw [size_B, size_B]; simp; omega, _, p18''.cell 4, fun gz => ⟨by rw [size_B, size_B]; simp; omega, ?_, B155'⟩, fun gz => ⟨?_, B155'⟩⟩
      · unfold repS
        rw [if_pos g', ← o1.lazy, gz]
        simp [lzT]
      · unfold repS
        rw [if_pos g', ← o1.lazy, gz]
        simp [lzT]
    · have g' : ¬ x.max < 0 := by rw [← o1.max]; exact of_decide_eq_false g
      refine ⟨_, p18''.cell 3, _, p18''.cell 2, fun g2 => ?_, fun g2 => ?_⟩
      · have g2' : x.min < x.max := by have := of_decide_eq_true g2; rw [o1.max] at this; omega
        have emax : r.max = ((x.max.toNat : Nat) : Int) := by rw [o1.max]; omega
        have c3 := p18''.cell 3
        refine ⟨_, p18''.cell 3, ?_⟩
        show clS 106 [.int .i64 r.max] w155 _ _
        rw [emax]
        refine (decimal_ok x.max.toNat (by omega) w155).ret fun w163 B163 => ⟨_, rfl, ?_⟩
        dsimp only
        have p4 := p18''.below B163
        have B163' := B155'.vstep B163
        simp only [B_append]
        refine ⟨by rw [size_B, size_B]; simp; omega, by rw [size_B, size_B]; simp; omega, by rw [size_B, size_B]; simp; omega, _, p4.cell 4, fun gz => ⟨by rw [size_B, size_B]; simp; omega, ?_, B163'⟩, fun gz => ⟨?_, B163'⟩⟩
        · unfold repS
          rw [if_neg g', if_pos g2', ← o1.lazy, gz]
          simp [lzT]
        · unfold repS
          rw [if_neg g', if_pos g2', ← o1.lazy, gz]
          simp [lzT]
      · have g2' : ¬ x.min < x.max := by have := of_decide_eq_false g2; rw [o1.max] at this; omega
        simp only [B_append]
        refine ⟨by rw [size_B, size_B]; simp; omega, _, p18''.cell 4, fun gz => ⟨by rw [size_B, size_B]; simp; omega, ?_, B155'⟩, fun gz => ⟨?_, B155'⟩⟩
        · unfold repS
          rw [if_neg g', if_neg g2', ← o1.lazy, gz]
          simp [lzT]
        · unfold repS
          rw [if_neg g', if_neg g2', ← o1.lazy, gz]
          simp [lzT]
  · -- a group
    have h5' : x.kind = 5 := by have : r.kind = 5 := by simpa using h5
                                omega
    have h1l := hxf.one (.inr h5')
    have hww : wWork (wT ps) x = 40 :: (wT ps (x.kids.getD 0 0).toNat ++ [41]) := by unfold wWork; rw [if_neg (by omega), if_neg (by omega), if_neg (by omega), if_neg (by omega), if_pos h5']
    rw [hww]
    refine drw_in fun w167 z167 e167 => ?_
    have B167 : Below w20.heap.size w20 w167 := Ext.to (Below.refl _ _) e167 fun _ h => h.elim
    have p6 := q6.below B167
    have p18 := q20.below B167
    obtain ⟨b, hb, hcb⟩ := kidAt B167 (show 0 < x.kids.length by omega)
    have hg0 : x.kids.getD 0 0 = x.kids[0]'(by omega) := by rw [List.getD_eq_getElem?_getD, List.getElem?_eq_getElem (by omega)]; rfl
    have hkd := kid (List.getElem_mem (show 0 < x.kids.length by omega)) (B20.vstep B167)
    rw [hg0]
    generalize x.kids[0]'(by omega) = y at *
    refine ⟨_, p6.cell 0, _, p6.cell 1, _, p6.cell 2, _, _, _, p6.cell 3, _, _, _, p18.cell 6, b, 0, ⟨hb, by omega, by omega⟩, _, hcb, hkd.1.ret fun w177 B177 => ⟨_, rfl, ?_⟩⟩
    dsimp only
    rw [show (⟨#[40]⟩ : ByteArray) = B [40] from rfl, show (⟨#[41]⟩ : ByteArray) = B [41] from rfl]
    have htl := hkd.2
    refine ⟨by rw [size_B, size_B]; simp; omega, by rw [B_append, size_B, size_B]; simp; omega, ?_, (B20.vstep B167).vstep B177⟩
    rw [B_append, B_append]
    simp
  · have h6' : x.kind = 6 := by have : r.kind = 6 := by simpa using h6
                                omega
    refine ⟨?_, B20⟩
    unfold wWork
    rw [if_neg (by omega), if_neg (by omega), if_neg (by omega), if_neg (by omega), if_neg (by omega), if_pos h6']
    rfl
  · have e1 : r.kind ≠ 1 := by simpa using h1
    have e2 : r.kind ≠ 2 := by simpa using h2
    have e3 : r.kind ≠ 3 := by simpa using h3
    have e4 : r.kind ≠ 4 := by simpa using h4
    have e5 : r.kind ≠ 5 := by simpa using h5
    have e6 : r.kind ≠ 6 := by simpa using h6
    refine ⟨?_, B20⟩
    unfold wWork
    rw [if_neg (by omega), if_neg (by omega), if_neg (by omega), if_neg (by omega), if_neg (by omega), if_neg (by omega)]
    rfl
end Go.Proofs.Ytngbiaeliphdjaa.V
/- Views of a slice, an append to a full one, and the machine's steps. No statement of the seat is proved here. -/
namespace Go.Vc
open Go.RowKit
set_option linter.unusedVariables false
set_option linter.unusedSimpArgs false
theorem slice_from {P : Program} {T e : TypeId} {sz : Nat} (hT : P.underlying T = some (.slice e)) (hsz : sizeP P e = some sz) {a : Option Addr} {l c k : Nat} {kd : IntKind} (hk : k ≤ l) (hc : l ≤ c) (w : World) :
    (Instr.sliceAt T (.slice a l c) (some (.int kd (k : Int))) none none).run P w = .ok (.slice (if c = k then a else a.map (·.add (k * sz))) (l - k) (c - k)) w := by
  unfold Instr.sliceAt
  rw [bind_run (underlying_run hT w)]
  simp only []
  unfold Instr.slice
  rw [bind_run (underlying_run hT w)]
  simp only []
  have hb : (Instr.sliceBounds true l c (some (.int kd (k : Int))) none none).run P w = .ok (k, l, c) w := by
    unfold Instr.sliceBounds
    rw [bind_run (show (pure c : Sem Nat).run P w = .ok c w from rfl)]
    simp only []
    rw [bind_run (show (pure l : Sem Nat).run P w = .ok l w from rfl)]
    rw [bind_run (bound_run (by omega) (by omega) w)]
    rw [show ((k : Int)).toNat = k from by omega]
    rfl
  rw [bind_run hb]
  simp only []
  rw [bind_run (sizeOf_run hsz w)]
  rfl
theorem slice_full {P : Program} {T e : TypeId} {sz : Nat} (hT : P.underlying T = some (.slice e)) (hsz : sizeP P e = some sz) {b : Nat} {a : Option Addr} {l c k : Nat} {kd kd' : IntKind} (ha : a = none ∨ a = some ⟨b, 0, none⟩) (hk : k ≤ c) (w : World) :
    (Instr.sliceAt T (.slice a l c) none (some (.int kd (k : Int))) (some (.int kd' (k : Int)))).run P w = .ok (.slice a k k) w := by
  unfold Instr.sliceAt
  rw [bind_run (underlying_run hT w)]
  simp only []
  unfold Instr.slice
  rw [bind_run (underlying_run hT w)]
  simp only []
  have hb : (Instr.sliceBounds true l c none (some (.int kd (k : Int))) (some (.int kd' (k : Int)))).run P w = .ok (0, k, k) w := by
    unfold Instr.sliceBounds
    simp only []
    rw [bind_run (bound_run (by omega) (by omega) w)]
    rw [show ((k : Int)).toNat = k from by omega]
    rw [bind_run (bound_run (by omega) (by omega) w)]
    rw [show ((k : Int)).toNat = k from by omega]
    rfl
  rw [bind_run hb]
  simp only []
  rw [bind_run (sizeOf_run hsz w)]
  have : (if k = 0 then a else a.map (·.add (0 * sz))) = a := by
    split
    · rfl
    · rcases ha with rfl | rfl
      · rfl
      · simp only [Option.map_some, add_spot, Nat.zero_mul, Nat.add_zero]
  rw [this]
  rfl
theorem append_full {P : Program} {T T' T'' e : TypeId} {sz by_ : Nat} (hT : P.underlying T = some (.slice e)) (hT' : P.underlying T' = some (.slice e)) (hsz : sizeP P e = some sz)
    (hby : bytesP P e = some by_) (hz : ∃ z, zeroL P e = some z ∧ z.length = sz) {w : World} {a : Option Addr} {l : Nat} {xs ys : List Value} (hxl : xs.length = l * sz) (hrow : a = none ∧ l = 0 ∨ ∃ b, a = some ⟨b, 0, none⟩ ∧ cellsAt w.heap b 0 xs)
    {b' n c' : Nat} (hn : 0 < n) (hy : ys.length = n * sz) (hsrc : cellsAt w.heap b' 0 ys)
    (hbd : (l + n) * by_ ≤ 70368744177664) (hln : l + n ≤ 70368744177664) :
    ∃ a2 c2 w', (Builtin.append_ #[T, T'] T'' #[.slice a l l, .slice (some ⟨b', 0, none⟩) n c']).run P w = .ok (.slice a2 (l + n) c2) w' ∧ Vec w'.heap e sz a2 (l + n) c2 (xs ++ ys) ∧ Ext (fun _ => False) w w' := by
  obtain ⟨i, hi, hib⟩ : ∃ i, P.info? e = some i ∧ i.bytes = by_ := by
    unfold bytesP at hby
    cases hp : P.info? e with
    | none => simp [hp] at hby
    | some i => exact ⟨i, rfl, by simpa [hp] using hby⟩
  obtain ⟨z, hz', hzl'⟩ := hz
  obtain ⟨v, hv1, hv2⟩ := zero_run hz'
  have hnew : ∀ w' : World, (cellsAt w.heap b' 0 ys → cellsAt w'.heap b' 0 ys) → (Builtin.firstCells sz n (.slice (some ⟨b', 0, none⟩) n c')).run P w' = .ok ⟨ys⟩ w' := by
    intro w' hk
    have := loadCells_run (P := P) (hk hsrc)
    rw [hy] at this
    exact this
  unfold Builtin.append_
  simp only [List.getElem?_toArray, List.getElem?_cons_zero, List.getElem?_cons_succ]
  rw [bind_run (underlying_run hT w)]
  simp only []
  rw [bind_run (sizeOf_run hsz w)]
  rw [bind_run (underlying_run hT' w)]
  simp only []
  rw [bind_run (run_pure P false w)]
  simp only [Bool.false_eq_true, if_false]
  rw [bind_run (show (Builtin.lenOf (.slice (some ⟨b', 0, none⟩) n c')).run P w = .ok n w from rfl)]
  simp only [Bool.not_false, if_true]
  have hfit : ¬ l + n ≤ l := by omega
  rw [if_neg hfit]
  have h1 : ¬ (((l + n : Nat) : Int) > IntKind.i64.max ∧ (False ∨ i.bytes = 0)) := by
    rw [i64_max]; omega
  rw [bind_run (bytes_le hi w)]
  simp only [h1, if_false]
  have h2 : ¬ (Builtin.nextslicecap (l + n) l * i.bytes > 2 ^ 48) := by
    have := nextslicecap_le (show l < l + n by omega)
    have h3 : Builtin.nextslicecap (l + n) l * i.bytes ≤ 2 * (l + n) * i.bytes := Nat.mul_le_mul_right _ this
    have h4 : 2 * (l + n) * i.bytes = 2 * ((l + n) * by_) := by rw [hib, Nat.mul_assoc]
    omega
  rw [bind_run (bytes_le hi w)]
  simp only [h2, if_false]
  obtain ⟨nc, hnc⟩ : ∃ nc, nc = (Question.appendCap (l + n) l e).cut (w.tape w.drawn (.appendCap (l + n) l e)) := ⟨_, rfl⟩
  have hch : (choose (.appendCap (l + n) l e)).run P w = .ok nc (drewW w) := by
    rw [hnc]; rfl
  have hge : l + n ≤ nc := by rw [hnc]; simp only [Question.cut]; omega
  rw [bind_run hch, bind_run (bytes_le hi (drewW w))]
  rw [bind_run (run_askRoom (w := drewW w) (P := P) (nc * i.bytes))]
  have hold : (Builtin.firstCells sz l (.slice a l l)).run P (drewW w) = .ok ⟨xs⟩ (drewW w) := by
    rcases hrow with ⟨rfl, rfl⟩ | ⟨b, rfl, hb⟩
    · have : xs = [] := by have := hxl; simp at this; exact this
      subst this; rfl
    · have := loadCells_run (P := P) (w := drewW w) (b := b) (o := 0) (vs := xs) hb
      rw [hxl] at this
      exact this
  rw [bind_run hold, bind_run (hnew (drewW w) fun h => h), bind_run (hv2 (drewW w))]
  have hrl : (Builtin.zeroCells v.cells (nc - (l + n))).toList.length = (nc - (l + n)) * sz := by
    simp [Builtin.zeroCells, hv1, hzl']
  generalize hr : (Builtin.zeroCells v.cells (nc - (l + n))).toList = rest at *
  have happ : (⟨xs⟩ ++ ⟨ys⟩ ++ Builtin.zeroCells v.cells (nc - (l + n)) : Array Value) = ⟨xs ++ ys ++ rest⟩ := by
    apply Array.toList_inj.1; simp [hr]
  rw [happ]
  refine ⟨some ⟨w.heap.size, 0, none⟩, nc, newW (drewW w) (.cells ⟨xs ++ ys ++ rest⟩ e), rfl, ?_, (Ext.refl _ w).vdrew.vnew _⟩
  refine ⟨by rw [List.length_append, hxl, hy, Nat.add_mul], hge, .inr ⟨_, xs ++ ys ++ rest, rfl, Blk.new (drewW w) e _, ?_, ?_⟩⟩
  · rw [List.length_append, List.length_append, hxl, hy, hrl, ← Nat.add_mul, ← Nat.add_mul]; congr 1; omega
  · rw [Nat.add_mul, ← hxl, ← hy, ← List.length_append, List.take_left']; rfl
/-! ### The stack's cells -/
def dnC : Sk → List Value
  | [] => []
  | d :: r => .int .i64 (d.1 : Int) :: .string (B d.2) :: dnC r
theorem dnC_length : ∀ st : Sk, (dnC st).length = st.length * 2
  | [] => rfl
  | d :: r => by simp only [dnC, List.length_cons, dnC_length r]; omega
theorem dnC_at : ∀ (st : Sk) (j : Nat) (h : j < st.length), (dnC st)[j * 2]? = some (.int .i64 (st[j].1 : Int)) ∧ (dnC st)[j * 2 + 1]? = some (.string (B st[j].2))
  | [], j, h => by simp at h
  | d :: r, 0, h => ⟨rfl, rfl⟩
  | d :: r, j + 1, h => by
    have := dnC_at r j (by simpa using h)
    rw [show (j + 1) * 2 = j * 2 + 2 from by omega]
    exact this
theorem dnC_app : ∀ (s t : Sk), dnC (s ++ t) = dnC s ++ dnC t
  | [], t => rfl
  | d :: r, t => by simp only [List.cons_append, dnC, dnC_app r t]
theorem dnC_take : ∀ (st : Sk) (k : Nat), dnC (st.take k) = (dnC st).take (k * 2)
  | [], k => by simp [dnC]
  | d :: r, 0 => by simp [dnC]
  | d :: r, k + 1 => by
    rw [show (k + 1) * 2 = k * 2 + 2 from by omega]
    simp only [List.take_succ_cons, dnC, dnC_take r k]
/-! ### Steps -/
theorem mach_split : ∀ (p1 p2 : List Pc) (i : Nat) (st : Sk), mach (p1 ++ p2) i st = match mach p1 i st with
    | none => none
    | some st' => mach p2 (i + p1.length) st'
  | [], p2, i, st => rfl
  | y :: r, p2, i, st => by
    show (match mst i st y with | none => none | some st' => mach (r ++ p2) (i + 1) st') = match (match mst i st y with | none => none | some st' => mach r (i + 1) st') with
      | none => none
      | some st' => mach p2 (i + (y :: r).length) st'
    cases mst i st y with
    | none => rfl
    | some st' =>
      show mach (r ++ p2) (i + 1) st' = _
      rw [mach_split r p2 (i + 1) st']
      simp only [List.length_cons]
      rw [show i + 1 + r.length = i + (r.length + 1) from by omega]
theorem mach_step {ps : List Pc} {i : Nat} (hi : i < ps.length) {st : Sk} (h : mach (ps.take i) 0 [] = some st) : mach (ps.take (i + 1)) 0 [] = mst i st ps[i] := by
  rw [List.take_succ_eq_append_getElem hi, mach_app, h]
  simp only [List.length_take, Nat.zero_add]
  rw [Nat.min_eq_left (by omega)]
theorem mach_fail {ps : List Pc} {i : Nat} (h : mach (ps.take i) 0 [] = none) : mach ps 0 [] = none := by
  have := mach_split (ps.take i) (ps.drop i) 0 []
  rw [List.take_append_drop, h] at this
  exact this
theorem mst_ok {i : Nat} {st : Sk} {x : Pc} (h1 : x.kids.length ≤ st.length) (h2 : (st.drop (st.length - x.kids.length)).map (fun d => (d.1 : Int)) = x.kids) (h3 : ((st.drop (st.length - x.kids.length)).map fun d => d.2.length).sum ≤ 120) :
    mst i st x = match pcT x ((st.drop (st.length - x.kids.length)).map (·.2)) with
      | none => none
      | some t => if 120 < t.length then none else some (st.take (st.length - x.kids.length) ++ [(i, t)]) := by
  unfold mst
  rw [if_neg (by omega), if_neg (by rw [h2]; simp), if_neg (by omega)]
  generalize pcT x _ = o
  cases o <;> rfl
end Go.Vc
/- The reference's reader: escapes. No statement of the seat is proved here. -/
namespace Go.Vc
theorem escC_sym {c : Nat} (h1 : 33 ≤ c) (h2 : c ≤ 126) (h3 : ¬ (48 ≤ c ∧ c ≤ 57 ∨ 97 ≤ c ∧ c ≤ 122 ∨ 65 ≤ c ∧ c ≤ 90)) : escC c = some ([(c, c)], some c) := by
  unfold escC
  rw [if_neg (by omega), if_neg (by omega), if_neg (by omega), if_neg (by omega), if_neg (by omega), if_neg (by omega), if_pos ⟨h1, h2, h3⟩]
theorem escC_no {c : Nat} (h : ¬ (33 ≤ c ∧ c ≤ 126 ∧ ¬ (48 ≤ c ∧ c ≤ 57 ∨ 97 ≤ c ∧ c ≤ 122 ∨ 65 ≤ c ∧ c ≤ 90))) (h1 : c ≠ 100) (h2 : c ≠ 119) (h3 : c ≠ 115) (h4 : c ≠ 110) (h5 : c ≠ 116) (h6 : c ≠ 114) : escC c = none := by
  unfold escC
  rw [if_neg h1, if_neg h2, if_neg h3, if_neg h4, if_neg h5, if_neg h6, if_neg h]
end Go.Vc
namespace Go.Proofs.Ytngbiaeliphdjaa.V
open Go.Vc Go.Proofs Go.RowKit
set_option linter.unusedVariables false
set_option linter.unusedSimpArgs false
/-- What an escape leaves: its bytes are in the set, its byte is handed back. -/
def EscS (w : World) (b : Nat) (s : ByteArray) (g : Nat) (a : Option Addr) (ln c k : Nat) (f : Nat → Bool) (r : Pr (Nat × Rs × Option Nat)) : Ending → World → Prop := fun e w' => Ext (fun x => x = b ∨ x = k) w w' ∧ match r with
  | .bad n => e = .returned (.tuple #[.int .i64 0, .bool false]) ∧ (∃ i, Sd w' b s i (n : Int) g a ln c) ∧ ∃ f', Blk w'.heap k 4 (b256 f')
  | .ok (j, rs, none) => e = .returned (.tuple #[.int .i64 0, .bool false]) ∧ Sd w' b s j (-1) g a ln c ∧ Blk w'.heap k 4 (b256 fun n => f n || inR rs n)
  | .ok (j, rs, some v) => e = .returned (.tuple #[.int .i64 (v : Int), .bool true]) ∧ Sd w' b s j (-1) g a ln c ∧ Blk w'.heap k 4 (b256 fun n => f n || inR rs n)
theorem sescape_ok {w : World} {b : Nat} {s : ByteArray} {i g : Nat} {a : Option Addr} {ln c k : Nat} {f : Nat → Bool} (h : Sd w b s i (-1) g a ln c) (hs : s.size ≤ 120) (hi : i ≤ s.size) (hk : Blk w.heap k 4 (b256 f)) (hne : k ≠ b) :
    Cl Try.prog 166 [.pointer (some ⟨b, 0, none⟩), .slice (some ⟨k, 0, none⟩) 256 256] w (EscS w b s g a ln c k f (escP (L s) i)) := by
  apply vc166
  unfold V166
  have hsz := size_L s
  generalize hP : escP (L s) i = P
  refine (more_ok h).ret fun w1 b1 => ⟨_, rfl, fun g1 => ?_, fun g1 => ?_⟩
  · have g1' : ¬ i < s.size := by simpa using g1
    refine (sfail_ok (h.below b1)).use fun e w2 he => ?_
    obtain ⟨rfl, h2, e2⟩ := he
    refine ⟨rfl, Ext.trans (Ext.of_below b1) (Ext.mono e2 fun _ _ h => .inl h), ?_⟩
    have : P = .bad i := by rw [← hP]; unfold escP; rw [if_pos (by omega)]; congr 1; omega
    subst this
    exact ⟨rfl, ⟨i, h2⟩, f, (hk.below b1).keep e2 hne⟩
  have g1' : i < s.size := by simpa using g1
  refine drw_in fun w2 q2 e2 => ?_
  have h2 : Sd w2 b s i (-1) g a ln c := Blk.keep (h.below b1) e2 fun h => h
  have k2 : Blk w2.heap k 4 (b256 f) := (hk.below b1).keep e2 fun h => h
  have E2 : Ext (fun x => x = b ∨ x = k) w w2 := Ext.trans (Ext.of_below b1) (Ext.mono e2 fun _ _ h => h.elim)
  refine ⟨s, h2.cell 0, i, h2.cell 1, ⟨by omega, by omega⟩, ?_⟩
  rw [byteI s (j := i) rfl]
  have hc := at_lt (L s) i
  have hP1 : at_ (L s) i ≠ 120 → P = match escC (at_ (L s) i) with | some (r, o) => .ok (i + 1, r, o) | none => .bad i := by
    intro hx; rw [← hP]; unfold escP; rw [if_neg (by omega), if_neg hx]; rfl
  have hP2 : at_ (L s) i = 120 → P = escX (L s) i := by
    intro hx; rw [← hP]; unfold escP; rw [if_neg (by omega), if_pos hx]
  generalize hch : at_ (L s) i = ch at *
  -- what goes wrong at once
  have hbad : ∀ {w' : World}, Sd w' b s i (-1) g a ln c → Blk w'.heap k 4 (b256 f) → Ext (fun x => x = b ∨ x = k) w w' → P = .bad i → Cl Try.prog 79 [.pointer (some ⟨b, 0, none⟩)] w' (retG (fun (r8 : Value) (w7 : World) => r8 = .tuple #[] ∧ EscS w b s g a ln c k f P (.returned (.tuple #[.int .i64 0, .bool false])) w7) (fun c1 w' => EscS w b s g a ln c k f P (.panicked c1) w')) := by
    intro w' h' k' E' hp
    refine (sfail_ok h').use fun e w3 he => ?_
    obtain ⟨rfl, h3, e3⟩ := he
    refine ⟨rfl, E'.trans (Ext.mono e3 fun _ _ h => .inl h), ?_⟩
    subst hp
    exact ⟨rfl, ⟨i, h3⟩, f, k'.keep e3 hne⟩
  -- several bytes, the place moved at the end
  have hmany : ∀ {w' : World} {rs : Rs}, Sd w' b s i (-1) g a ln c → Blk w'.heap k 4 (b256 fun n => f n || inR rs n) → Ext (fun x => x = b ∨ x = k) w w' → P = .ok (i + 1, rs, none) → ∃ (n14 : Int), cellH w'.heap b (0 + 1) = some (.int .i64 n14) ∧ stW b (0 + 1) [.int .i64 (IntKind.wrap .i64 (n14 + 1))] (fun (w15 : World) => EscS w b s g a ln c k f P (.returned (.tuple #[.int .i64 0, .bool false])) w15) w' := by
    intro w' rs h' k' E' hp
    refine ⟨i, h'.cell 1, h'.mv (j := i + 1) (by rw [w64 (by omega)]; omega) fun w3 s3 h3 e3 => ⟨E'.trans (Ext.mono e3 fun _ _ h => .inl h), ?_⟩⟩
    subst hp
    exact ⟨rfl, h3, k'.keep e3 hne⟩
  -- one byte, the place moved first
  have hone : ∀ {w' : World} {v : Nat} {v' : Int} {o : Nat} {o' : Nat → Nat}, Sd w' b s i (-1) g a ln c → Blk w'.heap k 4 (b256 f) → Ext (fun x => x = b ∨ x = k) w w' → P = .ok (i + 1, [(v, v)], some v) → v' = v → v < 256 → (∀ z, o' z = z + v) → ∃ (n34 : Int), cellH w'.heap b (0 + 1) = some (.int .i64 n34) ∧ stW b (0 + 1) [.int .i64 (IntKind.wrap .i64 (n34 + 1))] (fun (w35 : World) => ∃ (b36 : Nat) (o37 : Nat), (((some ⟨k, 0, none⟩) : Option Addr) = some ⟨b36, o37, none⟩ ∧ 0 ≤ v' ∧ v' < ((256 : Nat) : Int)) ∧ stW b36 (o' o37) [.bool true] (fun (w38 : World) => EscS w b s g a ln c k f P (.returned (.tuple #[.int .i64 v', .bool true])) w38) w35) w' := by
    intro w' v v' o o' h' k' E' hp hv hv256 ho
    subst hv
    refine ⟨i, h'.cell 1, h'.mv (j := i + 1) (by rw [w64 (by omega)]; omega) fun w3 s3 h3 e3 => ⟨k, 0, ⟨rfl, by omega, by omega⟩, ?_⟩⟩
    refine st_one (k'.keep e3 hne) hv256 (by rw [ho]; omega) fun w4 s4 k4 e4 => ⟨(E'.trans (Ext.mono e3 fun _ _ h => .inl h)).trans (Ext.mono e4 fun _ _ h => .inr h), ?_⟩
    subst hp
    exact ⟨rfl, Blk.keep h3 e4 (Ne.symm hne), k4⟩
  refine ⟨fun g2 => ?_, fun g2 => ⟨fun g3 => ?_, fun g3 => ⟨fun g4 => ?_, fun g4 => ⟨fun g5 => ?_, fun g5 => ⟨fun g6 => ?_, fun g6 => ⟨fun g7 => ?_, fun g7 => ⟨fun g8 => ?_, fun g8 => ?_⟩⟩⟩⟩⟩⟩⟩
  all_goals try simp only [beq_iff_eq, beq_eq_false_iff_ne, ne_eq] at g2
  all_goals try simp only [beq_iff_eq, beq_eq_false_iff_ne, ne_eq] at g3
  all_goals try simp only [beq_iff_eq, beq_eq_false_iff_ne, ne_eq] at g4
  all_goals try simp only [beq_iff_eq, beq_eq_false_iff_ne, ne_eq] at g5
  all_goals try simp only [beq_iff_eq, beq_eq_false_iff_ne, ne_eq] at g6
  all_goals try simp only [beq_iff_eq, beq_eq_false_iff_ne, ne_eq] at g7
  all_goals try simp only [beq_iff_eq, beq_eq_false_iff_ne, ne_eq] at g8
  · obtain rfl : ch = 100 := by omega
    refine (srange_ok k2 48 57 (by decide) rfl rfl).use fun e w3 he => ?_
    obtain ⟨rfl, k3, e3⟩ := he
    exact ⟨rfl, hmany (Blk.keep h2 e3 (Ne.symm hne)) k3 (E2.trans (Ext.mono e3 fun _ _ h => .inr h)) (hP1 (by decide))⟩
  · obtain rfl : ch = 119 := by omega
    refine (srange_ok k2 48 57 (by decide) rfl rfl).use fun e w3 he => ?_
    obtain ⟨rfl, k3, e3⟩ := he
    refine ⟨rfl, (srange_ok k3 65 90 (by decide) rfl rfl).use fun e w4 he => ?_⟩
    obtain ⟨rfl, k4, e4⟩ := he
    refine ⟨rfl, (srange_ok k4 97 122 (by decide) rfl rfl).use fun e w5 he => ?_⟩
    obtain ⟨rfl, k5, e5⟩ := he
    refine ⟨rfl, (srange_ok k5 95 95 (by decide) rfl rfl).use fun e w6 he => ?_⟩
    obtain ⟨rfl, k6, e6⟩ := he
    have e7 := ((e3.trans e4).trans e5).trans e6
    refine ⟨rfl, hmany (rs := [(48, 57), (65, 90), (97, 122), (95, 95)]) (Blk.keep h2 e7 (Ne.symm hne)) ?_ (E2.trans (Ext.mono e7 fun _ _ h => .inr h)) (hP1 (by decide))⟩
    rw [b256_ext (g := fun n => f n || inR [(48, 57), (65, 90), (97, 122), (95, 95)] n) fun n _ => by simp only [inR, List.any_cons, List.any_nil, Bool.or_false, Bool.or_assoc]] at k6
    exact k6
  · obtain rfl : ch = 115 := by omega
    refine (srange_ok k2 9 10 (by decide) rfl rfl).use fun e w3 he => ?_
    obtain ⟨rfl, k3, e3⟩ := he
    refine ⟨rfl, (srange_ok k3 13 13 (by decide) rfl rfl).use fun e w4 he => ?_⟩
    obtain ⟨rfl, k4, e4⟩ := he
    refine ⟨rfl, (srange_ok k4 32 32 (by decide) rfl rfl).use fun e w5 he => ?_⟩
    obtain ⟨rfl, k5, e5⟩ := he
    have e7 := (e3.trans e4).trans e5
    refine ⟨rfl, hmany (rs := [(9, 10), (13, 13), (32, 32)]) (Blk.keep h2 e7 (Ne.symm hne)) ?_ (E2.trans (Ext.mono e7 fun _ _ h => .inr h)) (hP1 (by decide))⟩
    rw [b256_ext (g := fun n => f n || inR [(9, 10), (13, 13), (32, 32)] n) fun n _ => by simp only [inR, List.any_cons, List.any_nil, Bool.or_false, Bool.or_assoc]] at k5
    exact k5
  · obtain rfl : ch = 110 := by omega
    refine ⟨fun g9 => by simp at g9, fun g9 => ⟨fun g10 => by simp at g10, fun g10 => ?_⟩⟩
    exact hone (v := 10) (o := 0) (o' := fun z => z + 10) h2 k2 E2 (hP1 (by decide)) rfl (by decide) (fun _ => rfl)
  · obtain rfl : ch = 116 := by omega
    refine ⟨fun g9 => ?_, fun g9 => by simp at g9⟩
    exact hone (v := 9) (o := 0) (o' := fun z => z + 9) h2 k2 E2 (hP1 (by decide)) rfl (by decide) (fun _ => rfl)
  · obtain rfl : ch = 114 := by omega
    refine ⟨fun g9 => by simp at g9, fun g9 => ⟨fun g10 => ?_, fun g10 => by simp at g10⟩⟩
    exact hone (v := 13) (o := 0) (o' := fun z => z + 13) h2 k2 E2 (hP1 (by decide)) rfl (by decide) (fun _ => rfl)
  · obtain rfl : ch = 120 := by omega
    have hP3 := hP2 rfl
    clear hbad hmany hone hP1 hP2
    refine ⟨i, h2.cell 1, h2.mv (j := i + 1) (by rw [w64 (by omega)]; omega) fun w3 s3 h3 e3 => ?_⟩
    have k3 := k2.keep e3 hne
    have E3 := E2.trans (Ext.mono e3 fun _ _ h => .inl h)
    refine ⟨fun m n q w' => ∃ j : Nat, q = (j : Int) ∧ m = 2 - j ∧ Sd w' b s (i + 1 + j) (-1) g a ln c ∧ Blk w'.heap k 4 (b256 f) ∧ Ext (fun x => x = b ∨ x = k) w w' ∧
      ((j = 0 ∧ n = 0) ∨ (∃ v, j = 1 ∧ i + 1 < s.size ∧ hexv (at_ (L s) (i + 1)) = some v ∧ n = (v : Int)) ∨ (∃ v u, j = 2 ∧ i + 2 < s.size ∧ hexv (at_ (L s) (i + 1)) = some v ∧ hexv (at_ (L s) (i + 2)) = some u ∧ n = ((16 * v + u : Nat) : Int))), ⟨2, 0, rfl, rfl, h3, k3, E3, .inl ⟨rfl, rfl⟩⟩, ?_⟩
    rintro m d n q w4 ⟨j, rfl, rfl, h4, k4, E4, hj⟩
    refine ⟨fun g9 => ?_, fun g9 => ?_⟩
    · have g9' : j < 2 := by have := of_decide_eq_true g9; omega
      refine drw_in fun w5 q5 e5 => ?_
      have h5 : Sd w5 b s (i + 1 + j) (-1) g a ln c := Blk.keep h4 e5 fun h => h
      have k5 := k4.keep e5 fun h => h
      have E5 := E4.trans (Ext.mono e5 fun _ _ h => h.elim)
      refine (more_ok h5).ret fun w6 b6 => ⟨_, rfl, fun g10 => ?_, fun g10 => ?_⟩
      · have g10' : ¬ i + 1 + j < s.size := by simpa using g10
        refine (sfail_ok (h5.below b6)).use fun e w7 he => ?_
        obtain ⟨rfl, h7, e7⟩ := he
        refine ⟨rfl, (E5.trans (Ext.of_below b6)).trans (Ext.mono e7 fun _ _ h => .inl h), ?_⟩
        have : P = .bad (i + 1 + j) := by
          rw [hP3]; unfold escX
          rcases hj with ⟨rfl, _⟩ | ⟨v, rfl, hv1, hv2, _⟩ | ⟨v, u, rfl, _⟩
          · rw [if_pos (by omega)]; congr 1; omega
          · rw [if_neg (by omega), hv2]; simp only []; rw [if_pos (by omega)]; congr 1; omega
          · omega
        subst this
        exact ⟨rfl, ⟨_, h7⟩, f, (k5.below b6).keep e7 hne⟩
      · have g10' : i + 1 + j < s.size := by simpa using g10
        have h6 := h5.below b6
        have k6 := k5.below b6
        have E6 := E5.trans (Ext.of_below b6)
        refine ⟨s, h6.cell 0, _, h6.cell 1, ⟨by omega, by omega⟩, ?_⟩
        have hat : byteAt s (Int.toNat ((i + 1 + j : Nat) : Int)) = (at_ (L s) (i + 1 + j) : Int) := byteI s rfl
        rw [hat]
        refine (shex_ok (at_ (L s) (i + 1 + j)) (at_lt _ _) rfl w6).ret fun w7 b7 => ⟨_, rfl, fun g11 => ?_, fun g11 => ?_⟩
        · have hx : hexv (at_ (L s) (i + 1 + j)) = none := by
            cases hh : hexv (at_ (L s) (i + 1 + j)) with
            | none => rfl
            | some v => rw [hh] at g11; have := of_decide_eq_true g11; simp only [] at this; omega
          refine (sfail_ok (h6.below b7)).use fun e w8 he => ?_
          obtain ⟨rfl, h8, e8⟩ := he
          refine ⟨rfl, (E6.trans (Ext.of_below b7)).trans (Ext.mono e8 fun _ _ h => .inl h), ?_⟩
          have : P = .bad (i + 1 + j) := by
            rw [hP3]; unfold escX
            rcases hj with ⟨rfl, _⟩ | ⟨v, rfl, hv1, hv2, _⟩ | ⟨v, u, rfl, _⟩
            · rw [if_neg (by omega)]
              rw [show i + 1 + 0 = i + 1 from rfl] at hx
              rw [hx]
            · rw [if_neg (by omega), hv2]; simp only []; rw [if_neg (by omega)]
              rw [show i + 1 + 1 = i + 2 from rfl] at hx
              rw [hx]
            · omega
          subst this
          exact ⟨rfl, ⟨_, h8⟩, f, (k6.below b7).keep e8 hne⟩
        · obtain ⟨v, hx⟩ : ∃ v, hexv (at_ (L s) (i + 1 + j)) = some v := by
            cases hh : hexv (at_ (L s) (i + 1 + j)) with
            | some v => exact ⟨v, rfl⟩
            | none => rw [hh] at g11; exact absurd (of_decide_eq_false g11) (by decide)
          have hv16 := hexv_lt hx
          refine drw_in fun w8 q8 e8 => ?_
          have h8 : Sd w8 b s (i + 1 + j) (-1) g a ln c := Blk.keep (h6.below b7) e8 fun h => h
          have k8 := (k6.below b7).keep e8 fun h => h
          have E8 := (E6.trans (Ext.of_below b7)).trans (Ext.mono e8 fun _ _ h => h.elim)
          refine ⟨s, h8.cell 0, _, h8.cell 1, ⟨by omega, by omega⟩, ?_⟩
          rw [hat]
          refine (shex_ok (at_ (L s) (i + 1 + j)) (at_lt _ _) rfl w8).ret fun w9 b9 => ⟨_, rfl, ?_⟩
          have h9 := h8.below b9
          rw [hx]
          simp only []
          refine ⟨_, h9.cell 1, h9.mv (j := i + 1 + (j + 1)) (by rw [w64 (by omega)]; omega) fun w10 s10 h10 e10 => ?_⟩
          refine ⟨2 - (j + 1), by omega, j + 1, by rw [w64 (by omega)]; omega, rfl, h10, (k8.below b9).keep e10 hne, (E8.trans (Ext.of_below b9)).trans (Ext.mono e10 fun _ _ h => .inl h), ?_⟩
          rcases hj with ⟨rfl, rfl⟩ | ⟨v0, rfl, hv1, hv2, rfl⟩ | ⟨v, u, rfl, _⟩
          · refine .inr (.inl ⟨v, rfl, by omega, hx, ?_⟩)
            rw [w64 (n := 0 * 16) (by omega), w64 (by omega)]; omega
          · refine .inr (.inr ⟨v0, v, rfl, by omega, hv2, hx, ?_⟩)
            have := hexv_lt hv2
            rw [w64 (n := (v0 : Int) * 16) (by omega), w64 (by omega)]; omega
          · omega
    · have g9' : ¬ j < 2 := by have := of_decide_eq_false g9; omega
      rcases hj with ⟨rfl, rfl⟩ | ⟨v0, rfl, hv1, hv2, rfl⟩ | ⟨v, u, rfl, hj1, hj2, hj3, rfl⟩
      · omega
      · omega
      · have := hexv_lt hj2
        have := hexv_lt hj3
        refine ⟨k, 0, ⟨rfl, by omega, by omega⟩, ?_⟩
        refine st_one k4 (v := 16 * v + u) (by omega) (by omega) fun w5 s5 k5 e5 => ⟨E4.trans (Ext.mono e5 fun _ _ h => .inr h), ?_⟩
        have : P = .ok (i + 3, [(16 * v + u, 16 * v + u)], some (16 * v + u)) := by
          rw [hP3]; unfold escX
          rw [if_neg (by omega), hj2]; simp only []; rw [if_neg (by omega), hj3]
        subst this
        exact ⟨rfl, Blk.keep h4 e5 (Ne.symm hne), k5⟩
  · have hP3 := hP1 (by omega)
    refine ⟨fun t w' => w' = w2 ∧ (t = true ↔ (48 ≤ ch ∧ ch ≤ 57 ∨ 97 ≤ ch ∧ ch ≤ 122 ∨ 65 ≤ ch ∧ ch ≤ 90)), ?_, ?_⟩
    · have T : (48 ≤ ch ∧ ch ≤ 57 ∨ 97 ≤ ch ∧ ch ≤ 122 ∨ 65 ≤ ch ∧ ch ≤ 90) → w2 = w2 ∧ (true = true ↔ (48 ≤ ch ∧ ch ≤ 57 ∨ 97 ≤ ch ∧ ch ≤ 122 ∨ 65 ≤ ch ∧ ch ≤ 90)) := fun h => ⟨rfl, by simp [h]⟩
      have F : ¬ (48 ≤ ch ∧ ch ≤ 57 ∨ 97 ≤ ch ∧ ch ≤ 122 ∨ 65 ≤ ch ∧ ch ≤ 90) → w2 = w2 ∧ (false = true ↔ (48 ≤ ch ∧ ch ≤ 57 ∨ 97 ≤ ch ∧ ch ≤ 122 ∨ 65 ≤ ch ∧ ch ≤ 90)) := fun h => ⟨rfl, by simp [h]⟩
      have M : 48 ≤ ch → ¬ (97 ≤ ch ∧ ch ≤ 122) → ¬ (65 ≤ ch ∧ ch ≤ 90) → w2 = w2 ∧ (decide ((ch : Int) ≤ 57) = true ↔ (48 ≤ ch ∧ ch ≤ 57 ∨ 97 ≤ ch ∧ ch ≤ 122 ∨ 65 ≤ ch ∧ ch ≤ 90)) := fun h1 h2 h3 => ⟨rfl, by rw [decide_eq_true_eq]; omega⟩
      repeat' (apply And.intro <;> intro gg)
      all_goals
        simp only [decide_eq_true_eq, decide_eq_false_iff_not] at *
        first
        | exact T (by omega)
        | exact F (by omega)
        | (simpa using M (by omega) (by omega) (by omega))
    · rintro d t w3 ⟨rfl, ht⟩
      refine ⟨fun g9 => hbad h2 k2 E2 (by rw [hP3, escC_no (by have := ht.1 g9; omega) (by omega) (by omega) (by omega) (by omega) (by omega) (by omega)]), fun g9 => ⟨fun g10 => hbad h2 k2 E2 ?_, fun g10 => ⟨fun g11 => hbad h2 k2 E2 ?_, fun g11 => ?_⟩⟩⟩
      · have := of_decide_eq_true g10
        rw [hP3, escC_no (by omega) (by omega) (by omega) (by omega) (by omega) (by omega) (by omega)]
      · have := of_decide_eq_true g11
        rw [hP3, escC_no (by omega) (by omega) (by omega) (by omega) (by omega) (by omega) (by omega)]
      · have h10 := of_decide_eq_false g10
        have h11 := of_decide_eq_false g11
        have hn : ¬ (48 ≤ ch ∧ ch ≤ 57 ∨ 97 ≤ ch ∧ ch ≤ 122 ∨ 65 ≤ ch ∧ ch ≤ 90) := fun h => by rw [ht.2 h] at g9; cases g9
        have hw : IntKind.wrap .i64 (ch : Int) = (ch : Int) := w64 (by omega)
        rw [hw]
        exact hone (v := ch) (o := 0) (o' := fun z => z + Int.toNat (ch : Int) * 1) h2 k2 E2 (by rw [hP3, escC_sym (by omega) (by omega) hn]) rfl hc (fun z => by omega)
end Go.Proofs.Ytngbiaeliphdjaa.V
/- Printed by vcgen.py, a program of this session: formulas of Go functions, each with the proof that it gives the function's contract. No statement of the seat is proved here. -/
namespace Go.Proofs.Ytngbiaeliphdjaa.V
open Go.Vc Go.Proofs
set_option linter.unusedVariables false
set_option maxRecDepth 100000
/-- (*spec.l1R).class -/
def V164 (b1 o2 : Nat) (R : Rt) : Pred := fun w =>
  ∃ a3 l3 c3, ∃ w4, (Instr.makeSlice 59 (.int .i64 256) (.int .i64 256)).run Try.prog w = .ok (.slice a3 l3 c3) w4 ∧ clB 112 ([.pointer (some ⟨b1, o2, none⟩), .int .u8 94]) w4 R fun t5 w6 => ∃ (I8 : Nat → Int → World → Prop), (∃ k10, I8 k10 0 w6) ∧ ∀ k9 (d12 : Nat → Value) n13 w11, I8 k9 n13 w11 → ∃ (J14 : World → Prop), (drw (fun w15 => clB 78 ([.pointer (some ⟨b1, o2, none⟩)]) w15 R fun t16 w17 => (cB t16 (lS w17 b1 o2 fun s19 => lI w17 b1 (o2 + 1) fun n20 => (ixT s19 n20) ∧ (cB ((byteAt s19 (Int.toNat n20)) != 93) (J14  w17) ((cB (n13 == 0) (J14  w17) (clB 112 ([.pointer (some ⟨b1, o2, none⟩), .int .u8 93]) w17 R fun t21 w22 => (cB (!t21) (clU 79 ([.pointer (some ⟨b1, o2, none⟩)]) w22 R fun w24 => R (.returned (.slice none 0 0)) w24) ((cB t5 (∃ (I26 : Nat → Int → World → Prop), (∃ k28, I26 k28 0 w22) ∧ ∀ k27 (d30 : Nat → Value) n31 w29, I26 k27 n31 w29 → (cB (decide (n31 < ((l3 : Nat) : Int))) (ixS a3 l3 n31 fun b32 o33 => lB w29 b32 (o33 + (Int.toNat n31) * 1) fun t34 => ixS a3 l3 n31 fun b35 o36 => stW b35 (o36 + (Int.toNat n31) * 1) [.bool (!t34)] (fun w37 => (∃ m38, m38 < k27 ∧ I26 m38 (IntKind.wrap .i64 (n31 + 1)) w37)) w29) (clL 167 ([.slice a3 l3 c3]) w29 R fun a39 l39 c39 w40 => R (.returned (.slice a39 l39 c39)) w40))) (clL 167 ([.slice a3 l3 c3]) w22 R fun a42 l42 c42 w43 => R (.returned (.slice a42 l42 c42)) w43))))))))) (clB 112 ([.pointer (some ⟨b1, o2, none⟩), .int .u8 93]) w17 R fun t45 w46 => (cB (!t45) (clU 79 ([.pointer (some ⟨b1, o2, none⟩)]) w46 R fun w48 => R (.returned (.slice none 0 0)) w48) ((cB t5 (∃ (I50 : Nat → Int → World → Prop), (∃ k52, I50 k52 0 w46) ∧ ∀ k51 (d54 : Nat → Value) n55 w53, I50 k51 n55 w53 → (cB (decide (n55 < ((l3 : Nat) : Int))) (ixS a3 l3 n55 fun b56 o57 => lB w53 b56 (o57 + (Int.toNat n55) * 1) fun t58 => ixS a3 l3 n55 fun b59 o60 => stW b59 (o60 + (Int.toNat n55) * 1) [.bool (!t58)] (fun w61 => (∃ m62, m62 < k51 ∧ I50 m62 (IntKind.wrap .i64 (n55 + 1)) w61)) w53) (clL 167 ([.slice a3 l3 c3]) w53 R fun a63 l63 c63 w64 => R (.returned (.slice a63 l63 c63)) w64))) (clL 167 ([.slice a3 l3 c3]) w46 R fun a66 l66 c66 w67 => R (.returned (.slice a66 l66 c66)) w67))))))) w11) ∧ ∀ (d69 : Nat → Value)  w70, J14  w70 → clB 112 ([.pointer (some ⟨b1, o2, none⟩), .int .u8 92]) w70 R fun t71 w72 => ∃ (J74 : Int → Bool → World → Prop), ((cB t71 (clV 166 ([.pointer (some ⟨b1, o2, none⟩), .slice a3 l3 c3]) w72 R fun r78 w77 => ∃ n75, ∃ t76, r78 = .tuple #[.int .i64 n75, .bool t76] ∧ J74 n75 t76 w77) (drw (fun w79 => lS w79 b1 o2 fun s80 => lI w79 b1 (o2 + 1) fun n81 => (ixT s80 n81) ∧ ixS a3 l3 (IntKind.wrap .i64 (byteAt s80 (Int.toNat n81))) fun b82 o83 => stW b82 (o83 + (Int.toNat (IntKind.wrap .i64 (byteAt s80 (Int.toNat n81)))) * 1) [.bool true] (fun w84 => lI w84 b1 (o2 + 1) fun n85 => stW b1 (o2 + 1) [.int .i64 (IntKind.wrap .i64 (n85 + 1))] (fun w86 => J74 (IntKind.wrap .i64 (byteAt s80 (Int.toNat n81))) true w86) w84) w79) w72))) ∧ ∀ (d87 : Nat → Value) n88 t89 w90, J74 n88 t89 w90 → drw (fun w91 => (cB (!t89) ((∃ m92, m92 < k9 ∧ I8 m92 (IntKind.wrap .i64 (n13 + 1)) w91)) (lI w91 b1 (o2 + 1) fun n93 => lS w91 b1 o2 fun s94 => (cB (decide ((IntKind.wrap .i64 (n93 + 1)) ≥ ((ByteArray.size s94 : Nat) : Int))) ((∃ m95, m95 < k9 ∧ I8 m95 (IntKind.wrap .i64 (n13 + 1)) w91)) (lI w91 b1 (o2 + 2) fun n96 => (cB (decide (n96 ≥ 0)) ((∃ m97, m97 < k9 ∧ I8 m97 (IntKind.wrap .i64 (n13 + 1)) w91)) (lS w91 b1 o2 fun s98 => lI w91 b1 (o2 + 1) fun n99 => (ixT s98 n99) ∧ (cB ((byteAt s98 (Int.toNat n99)) != 45) ((∃ m100, m100 < k9 ∧ I8 m100 (IntKind.wrap .i64 (n13 + 1)) w91)) (lS w91 b1 o2 fun s101 => lI w91 b1 (o2 + 1) fun n102 => (ixT s101 (IntKind.wrap .i64 (n102 + 1))) ∧ (cB ((byteAt s101 (Int.toNat (IntKind.wrap .i64 (n102 + 1)))) == 93) ((∃ m103, m103 < k9 ∧ I8 m103 (IntKind.wrap .i64 (n13 + 1)) w91)) (lI w91 b1 (o2 + 1) fun n104 => stW b1 (o2 + 1) [.int .i64 (IntKind.wrap .i64 (n104 + 1))] (fun w105 => lI w105 b1 (o2 + 1) fun n106 => drw (fun w107 => lS w107 b1 o2 fun s108 => lI w107 b1 (o2 + 1) fun n109 => (ixT s108 n109) ∧ clB 112 ([.pointer (some ⟨b1, o2, none⟩), .int .u8 92]) w107 R fun t110 w111 => (cB t110 (∃ a113 l113 c113, ∃ w114, (Instr.makeSlice 59 (.int .i64 256) (.int .i64 256)).run Try.prog w111 = .ok (.slice a113 l113 c113) w114 ∧ clV 166 ([.pointer (some ⟨b1, o2, none⟩), .slice a113 l113 c113]) w114 R fun r118 w117 => ∃ n115, ∃ t116, r118 = .tuple #[.int .i64 n115, .bool t116] ∧ lI w117 b1 (o2 + 2) fun n119 => (cB (decide (n119 < 0)) ((cB (!t116) (stW b1 (o2 + 1) [.int .i64 n106] (fun w120 => clU 79 ([.pointer (some ⟨b1, o2, none⟩)]) w120 R fun w121 => R (.returned (.slice none 0 0)) w121) w117) ((cB (decide (n115 < n88)) (stW b1 (o2 + 1) [.int .i64 n106] (fun w123 => clU 79 ([.pointer (some ⟨b1, o2, none⟩)]) w123 R fun w124 => R (.returned (.slice none 0 0)) w124) w117) (lI w117 b1 (o2 + 2) fun n126 => (cB (decide (n126 < 0)) (clU 165 ([.slice a3 l3 c3, .int .i64 n88, .int .i64 n115]) w117 R fun w127 => (∃ m129, m129 < k9 ∧ I8 m129 (IntKind.wrap .i64 (n13 + 1)) w127)) ((∃ m130, m130 < k9 ∧ I8 m130 (IntKind.wrap .i64 (n13 + 1)) w117)))))))) (lI w117 b1 (o2 + 2) fun n131 => (cB (decide (n131 < 0)) (clU 165 ([.slice a3 l3 c3, .int .i64 n88, .int .i64 n115]) w117 R fun w132 => (∃ m134, m134 < k9 ∧ I8 m134 (IntKind.wrap .i64 (n13 + 1)) w132)) ((∃ m135, m135 < k9 ∧ I8 m135 (IntKind.wrap .i64 (n13 + 1)) w117)))))) (lI w111 b1 (o2 + 1) fun n136 => stW b1 (o2 + 1) [.int .i64 (IntKind.wrap .i64 (n136 + 1))] (fun w137 => lI w137 b1 (o2 + 2) fun n138 => (cB (decide (n138 < 0)) ((cB (!t89) (stW b1 (o2 + 1) [.int .i64 n106] (fun w139 => clU 79 ([.pointer (some ⟨b1, o2, none⟩)]) w139 R fun w140 => R (.returned (.slice none 0 0)) w140) w137) ((cB (decide ((IntKind.wrap .i64 (byteAt s108 (Int.toNat n109))) < n88)) (stW b1 (o2 + 1) [.int .i64 n106] (fun w142 => clU 79 ([.pointer (some ⟨b1, o2, none⟩)]) w142 R fun w143 => R (.returned (.slice none 0 0)) w143) w137) (lI w137 b1 (o2 + 2) fun n145 => (cB (decide (n145 < 0)) (clU 165 ([.slice a3 l3 c3, .int .i64 n88, .int .i64 (IntKind.wrap .i64 (byteAt s108 (Int.toNat n109)))]) w137 R fun w146 => (∃ m148, m148 < k9 ∧ I8 m148 (IntKind.wrap .i64 (n13 + 1)) w146)) ((∃ m149, m149 < k9 ∧ I8 m149 (IntKind.wrap .i64 (n13 + 1)) w137)))))))) (lI w137 b1 (o2 + 2) fun n150 => (cB (decide (n150 < 0)) (clU 165 ([.slice a3 l3 c3, .int .i64 n88, .int .i64 (IntKind.wrap .i64 (byteAt s108 (Int.toNat n109)))]) w137 R fun w151 => (∃ m153, m153 < k9 ∧ I8 m153 (IntKind.wrap .i64 (n13 + 1)) w151)) ((∃ m154, m154 < k9 ∧ I8 m154 (IntKind.wrap .i64 (n13 + 1)) w137)))))) w111))) w105) w91))))))))))) w90
def scr164 : Scr := (.q 1 (.q 2 (.q 3 (.q 1 (.loop (dr [(5, some (.int .i64))] [(2,1),(6,4),(14,160)]) (.cutS (dr [] [(14,18)]) (.run [0,1,2] (.split 16 (.run [3,4,5,6,7,8,9,10,11,12,13] (.split 27 (.r [14,15,16,17] (.lit .nil)) (.r [14,15,16,17] (.cond .nil (.q 3 (.cond (.q 2 (.q 1 .nil)) (.q 1 (.cond (.q 3 (.loop (dr [(182, some (.int .i64))] [(10,1),(183,11)]) (.q 1 (.cond (.q 2 (.q 9 (.q 2 .nil))) (.q 3 .nil))))) (.q 3 .nil))))))))) (.r [3,4,5,6,7,8,9,10,11,12,13,14,15,16,17] (.lit (.q 3 (.cond (.q 2 (.q 1 .nil)) (.q 1 (.cond (.q 3 (.loop (dr [(182, some (.int .i64))] [(10,1),(183,11)]) (.q 1 (.cond (.q 2 (.q 9 (.q 2 .nil))) (.q 3 .nil))))) (.q 3 .nil))))))))) (.q 3 (.q 1 (.q 1 (.q 2 (.cut (dr [(6, some (.int .i64)), (7, some .bool)] [(36,26)]) (.cond (.q 8 .nil) (.q 11 (.q 4 (.q 8 .nil)))) (.run [0,1,2] (.split 64 (.r [3,4,5,6,7,8,9,10,11,12,13,14,15,16,17,18,19,20,21,22,23,24,25,26,27,28,29,30,31,32,33,34,35,36,37,38,39,40,41,42,43,44,45,46] (.lit .nil)) (.run [3,4,5,6,7,8,9,10,11,12,13,14,15] (.split 77 (.r [16,17,18,19,20,21,22,23,24,25,26,27,28,29,30,31,32,33,34,35,36,37,38,39,40,41,42,43,44,45,46] (.lit .nil)) (.run [16,17,18,19,20,21,22] (.split 84 (.r [23,24,25,26,27,28,29,30,31,32,33,34,35,36,37,38,39,40,41,42,43,44,45,46] (.lit .nil)) (.run [23,24,25,26,27,28,29,30,31,32,33,34] (.split 96 (.r [35,36,37,38,39,40,41,42,43,44,45,46] (.lit .nil)) (.r [35,36,37,38,39,40,41,42,43,44,45,46] (.cond .nil (.q 8 (.q 5 (.q 11 (.q 2 (.cond (.q 8 (.run [0,1,2,3,4,5] (.split 150 (.run [6,7,8] (.split 153 (.r [9,10,11,12,13] (.lit (.q 5 (.q 2 (.q 1 .nil))))) (.r [9,10,11,12,13] (.cond (.q 5 (.q 2 (.q 1 .nil))) (.q 5 (.cond (.q 4 .nil) .nil)))))) (.r [6,7,8,9,10,11,12,13] (.lit (.q 5 (.cond (.q 4 .nil) .nil))))))) (.q 8 (.run [0,1,2,3,4,5] (.split 150 (.run [6,7,8] (.split 153 (.r [9,10,11,12,13] (.lit (.q 5 (.q 2 (.q 1 .nil))))) (.r [9,10,11,12,13] (.cond (.q 5 (.q 2 (.q 1 .nil))) (.q 5 (.cond (.q 4 .nil) .nil)))))) (.r [6,7,8,9,10,11,12,13] (.lit (.q 5 (.cond (.q 4 .nil) .nil)))))))))))))))))))))))))))))))))
theorem vc164 {b1 o2} {R w} (h : V164 b1 o2 R w) : Cl Try.prog 164 [.pointer (some ⟨b1, o2, none⟩)] w R :=
  cl_of scr164 Try.func164 (by kernel_rfl) _ _ (by kernel_rfl) h
/-- (*spec.l1R).piece -/
def V128 (b1 o2 : Nat) (n3 : Int) (R : Rt) : Pred := fun w =>
  clI 149 ([.pointer (some ⟨b1, o2, none⟩), .int .i64 n3]) w R fun n4 w5 => newC [.int .i64 0, .slice none 0 0, .int .i64 0, .int .i64 0, .bool false, .int .i64 0, .slice none 0 0] 111 (fun b7 w8 => stW b7 0 [.int .i64 4, .slice none 0 0, .int .i64 0, .int .i64 (-1), .bool false, .int .i64 0, .slice none 0 0] (fun w9 => clB 112 ([.pointer (some ⟨b1, o2, none⟩), .int .u8 42]) w9 R fun t10 w11 => ∃ (J13 : World → Prop), ((cB t10 (J13  w11) (clB 112 ([.pointer (some ⟨b1, o2, none⟩), .int .u8 43]) w11 R fun t14 w15 => (cB t14 (stW b7 2 [.int .i64 1] (fun w17 => J13  w17) w15) (clB 112 ([.pointer (some ⟨b1, o2, none⟩), .int .u8 63]) w15 R fun t18 w19 => (cB t18 (stW b7 3 [.int .i64 1] (fun w21 => J13  w21) w19) (clB 112 ([.pointer (some ⟨b1, o2, none⟩), .int .u8 123]) w19 R fun t22 w23 => (cB t22 (clV 150 ([.pointer (some ⟨b1, o2, none⟩)]) w23 R fun r28 w27 => ∃ n25, ∃ n26, r28 = .tuple #[.int .i64 n25, .int .i64 n26] ∧ stW b7 2 [.int .i64 n25] (fun w29 => stW b7 3 [.int .i64 n26] (fun w30 => J13  w30) w29) w27) (R (.returned (.int .i64 n4)) w23))))))))) ∧ ∀ (d31 : Nat → Value)  w32, J13  w32 → clB 112 ([.pointer (some ⟨b1, o2, none⟩), .int .u8 63]) w32 R fun t33 w34 => stW b7 4 [.bool t33] (fun w36 => newC [.int .i64 n4] 3 (fun b37 w38 => stW b7 6 [.slice (some ⟨b37, 0, none⟩) 1 1] (fun w39 => lI w39 b7 0 fun n40 => lL w39 b7 1 fun a41 l41 c41 => lI w39 b7 2 fun n42 => lI w39 b7 3 fun n43 => lB w39 b7 4 fun t44 => lI w39 b7 5 fun n45 => lL w39 b7 6 fun a46 l46 c46 => clI 113 ([.pointer (some ⟨b1, o2, none⟩), .agg #[.int .i64 n40, .slice a41 l41 c41, .int .i64 n42, .int .i64 n43, .bool t44, .int .i64 n45, .slice a46 l46 c46]]) w39 R fun n47 w48 => R (.returned (.int .i64 n47)) w48) w38) w36) w34) w8) w5
def scr128 : Scr := (.q 1 (.q 4 (.q 3 (.q 3 (.cut (dr [] [(4,1),(11,1),(15,18)]) (.cond .nil (.q 3 (.cond (.q 2 .nil) (.q 3 (.cond (.q 2 .nil) (.q 3 (.cond (.q 9 .nil) (.q 2 .nil)))))))) (.q 4 (.q 4 (.q 4 .nil))))))))
theorem vc128 {b1 o2 n3} {R w} (h : V128 b1 o2 n3 R w) : Cl Try.prog 128 [.pointer (some ⟨b1, o2, none⟩), .int .i64 n3] w R :=
  cl_of scr128 Try.func128 (by kernel_rfl) _ _ (by kernel_rfl) h
/-- (*spec.l1R).atom -/
def V149 (b1 o2 : Nat) (n3 : Int) (R : Rt) : Pred := fun w =>
  drw (fun w4 => lS w4 b1 o2 fun s5 => lI w4 b1 (o2 + 1) fun n6 => (ixT s5 n6) ∧ ∃ a7 l7 c7, ∃ w8, (Instr.makeSlice 59 (.int .i64 256) (.int .i64 256)).run Try.prog w4 = .ok (.slice a7 l7 c7) w8 ∧ (cB ((byteAt s5 (Int.toNat n6)) == 40) (lI w8 b1 (o2 + 3) fun n9 => (cB (n9 == 9) (clU 79 ([.pointer (some ⟨b1, o2, none⟩)]) w8 R fun w10 => R (.returned (.int .i64 0)) w10) ((cB (n3 == 6) (clU 79 ([.pointer (some ⟨b1, o2, none⟩)]) w8 R fun w12 => R (.returned (.int .i64 0)) w12) (lI w8 b1 (o2 + 1) fun n14 => stW b1 (o2 + 1) [.int .i64 (IntKind.wrap .i64 (n14 + 1))] (fun w15 => lI w15 b1 (o2 + 3) fun n16 => stW b1 (o2 + 3) [.int .i64 (IntKind.wrap .i64 (n16 + 1))] (fun w17 => lI w17 b1 (o2 + 3) fun n18 => clI 77 ([.pointer (some ⟨b1, o2, none⟩), .int .i64 (IntKind.wrap .i64 (n3 + 1))]) w17 R fun n19 w20 => clB 112 ([.pointer (some ⟨b1, o2, none⟩), .int .u8 41]) w20 R fun t22 w23 => (cB (!t22) (clU 79 ([.pointer (some ⟨b1, o2, none⟩)]) w23 R fun w25 => newC [.int .i64 n19] 3 (fun b27 w28 => clI 113 ([.pointer (some ⟨b1, o2, none⟩), .agg #[.int .i64 5, .slice none 0 0, .int .i64 0, .int .i64 0, .bool false, .int .i64 n18, .slice (some ⟨b27, 0, none⟩) 1 1]]) w28 R fun n29 w30 => R (.returned (.int .i64 n29)) w30) w25) (newC [.int .i64 n19] 3 (fun b32 w33 => clI 113 ([.pointer (some ⟨b1, o2, none⟩), .agg #[.int .i64 5, .slice none 0 0, .int .i64 0, .int .i64 0, .bool false, .int .i64 n18, .slice (some ⟨b32, 0, none⟩) 1 1]]) w33 R fun n34 w35 => R (.returned (.int .i64 n34)) w35) w23))) w15) w8))))) ((cB ((byteAt s5 (Int.toNat n6)) == 91) (lI w8 b1 (o2 + 1) fun n37 => stW b1 (o2 + 1) [.int .i64 (IntKind.wrap .i64 (n37 + 1))] (fun w38 => clL 164 ([.pointer (some ⟨b1, o2, none⟩)]) w38 R fun a39 l39 c39 w40 => clI 113 ([.pointer (some ⟨b1, o2, none⟩), .agg #[.int .i64 1, .slice a39 l39 c39, .int .i64 0, .int .i64 0, .bool false, .int .i64 0, .slice none 0 0]]) w40 R fun n42 w43 => R (.returned (.int .i64 n42)) w43) w8) ((cB ((byteAt s5 (Int.toNat n6)) == 94) (lI w8 b1 (o2 + 1) fun n45 => stW b1 (o2 + 1) [.int .i64 (IntKind.wrap .i64 (n45 + 1))] (fun w46 => clI 113 ([.pointer (some ⟨b1, o2, none⟩), .agg #[.int .i64 6, .slice none 0 0, .int .i64 0, .int .i64 0, .bool false, .int .i64 0, .slice none 0 0]]) w46 R fun n47 w48 => R (.returned (.int .i64 n47)) w48) w8) ((cB ((byteAt s5 (Int.toNat n6)) == 36) (lI w8 b1 (o2 + 1) fun n50 => stW b1 (o2 + 1) [.int .i64 (IntKind.wrap .i64 (n50 + 1))] (fun w51 => clI 113 ([.pointer (some ⟨b1, o2, none⟩), .agg #[.int .i64 7, .slice none 0 0, .int .i64 0, .int .i64 0, .bool false, .int .i64 0, .slice none 0 0]]) w51 R fun n52 w53 => R (.returned (.int .i64 n52)) w53) w8) ((cB ((byteAt s5 (Int.toNat n6)) == 46) (clU 165 ([.slice a7 l7 c7, .int .i64 0, .int .i64 255]) w8 R fun w55 => ixS a7 l7 10 fun b57 o58 => stW b57 (o58 + 10) [.bool false] (fun w59 => lI w59 b1 (o2 + 1) fun n60 => stW b1 (o2 + 1) [.int .i64 (IntKind.wrap .i64 (n60 + 1))] (fun w61 => clL 167 ([.slice a7 l7 c7]) w61 R fun a62 l62 c62 w63 => clI 113 ([.pointer (some ⟨b1, o2, none⟩), .agg #[.int .i64 1, .slice a62 l62 c62, .int .i64 0, .int .i64 0, .bool false, .int .i64 0, .slice none 0 0]]) w63 R fun n65 w66 => R (.returned (.int .i64 n65)) w66) w59) w55) ((cB ((byteAt s5 (Int.toNat n6)) == 92) (lI w8 b1 (o2 + 1) fun n68 => stW b1 (o2 + 1) [.int .i64 (IntKind.wrap .i64 (n68 + 1))] (fun w69 => clV 166 ([.pointer (some ⟨b1, o2, none⟩), .slice a7 l7 c7]) w69 R fun r73 w72 => ∃ n70, ∃ t71, r73 = .tuple #[.int .i64 n70, .bool t71] ∧ clL 167 ([.slice a7 l7 c7]) w72 R fun a74 l74 c74 w75 => clI 113 ([.pointer (some ⟨b1, o2, none⟩), .agg #[.int .i64 1, .slice a74 l74 c74, .int .i64 0, .int .i64 0, .bool false, .int .i64 0, .slice none 0 0]]) w75 R fun n77 w78 => R (.returned (.int .i64 n77)) w78) w8) ((cB ((byteAt s5 (Int.toNat n6)) == 42) (clU 79 ([.pointer (some ⟨b1, o2, none⟩)]) w8 R fun w80 => R (.returned (.int .i64 0)) w80) ((cB ((byteAt s5 (Int.toNat n6)) == 43) (clU 79 ([.pointer (some ⟨b1, o2, none⟩)]) w8 R fun w82 => R (.returned (.int .i64 0)) w82) ((cB ((byteAt s5 (Int.toNat n6)) == 63) (clU 79 ([.pointer (some ⟨b1, o2, none⟩)]) w8 R fun w84 => R (.returned (.int .i64 0)) w84) ((cB ((byteAt s5 (Int.toNat n6)) == 123) (clU 79 ([.pointer (some ⟨b1, o2, none⟩)]) w8 R fun w86 => R (.returned (.int .i64 0)) w86) ((cB ((byteAt s5 (Int.toNat n6)) == 125) (clU 79 ([.pointer (some ⟨b1, o2, none⟩)]) w8 R fun w88 => R (.returned (.int .i64 0)) w88) ((cB ((byteAt s5 (Int.toNat n6)) == 93) (clU 79 ([.pointer (some ⟨b1, o2, none⟩)]) w8 R fun w90 => R (.returned (.int .i64 0)) w90) (ixS a7 l7 (IntKind.wrap .i64 (byteAt s5 (Int.toNat n6))) fun b92 o93 => stW b92 (o93 + (Int.toNat (IntKind.wrap .i64 (byteAt s5 (Int.toNat n6)))) * 1) [.bool true] (fun w94 => lI w94 b1 (o2 + 1) fun n95 => stW b1 (o2 + 1) [.int .i64 (IntKind.wrap .i64 (n95 + 1))] (fun w96 => clL 167 ([.slice a7 l7 c7]) w96 R fun a97 l97 c97 w98 => clI 113 ([.pointer (some ⟨b1, o2, none⟩), .agg #[.int .i64 1, .slice a97 l97 c97, .int .i64 0, .int .i64 0, .bool false, .int .i64 0, .slice none 0 0]]) w98 R fun n100 w101 => R (.returned (.int .i64 n100)) w101) w94) w8))))))))))))))))))))))))) w
def scr149 : Scr := (.q 1 (.q 10 (.q 2 (.q 1 (.q 2 (.cond (.run [0,1,2,3,4,5] (.split 32 (.r [6,7,8] (.lit (.q 2 (.q 1 .nil)))) (.r [6,7,8] (.cond (.q 2 (.q 1 .nil)) (.q 8 (.q 8 (.q 5 (.q 5 (.q 3 (.cond (.q 2 (.q 7 .nil)) (.q 7 .nil))))))))))) (.q 2 (.cond (.q 8 (.q 3 (.q 5 .nil))) (.q 2 (.cond (.q 8 (.q 4 .nil)) (.q 2 (.cond (.q 8 (.q 4 .nil)) (.q 2 (.cond (.q 2 (.q 3 (.q 8 (.q 6 .nil)))) (.q 2 (.cond (.q 8 (.q 3 (.q 6 .nil))) (.q 2 (.cond (.lit (.q 2 (.q 1 .nil))) (.q 2 (.cond (.lit (.q 2 (.q 1 .nil))) (.q 2 (.cond (.lit (.q 2 (.q 1 .nil))) (.q 2 (.cond (.lit (.q 2 (.q 1 .nil))) (.q 2 (.cond (.lit (.q 2 (.q 1 .nil))) (.q 2 (.cond (.q 2 (.q 1 .nil)) (.q 5 (.q 8 (.q 6 .nil)))))))))))))))))))))))))))))))
theorem vc149 {b1 o2 n3} {R w} (h : V149 b1 o2 n3 R w) : Cl Try.prog 149 [.pointer (some ⟨b1, o2, none⟩), .int .i64 n3] w R :=
  cl_of scr149 Try.func149 (by kernel_rfl) _ _ (by kernel_rfl) h
/-- (*spec.l1R).seq -/
def V111 (b1 o2 : Nat) (n3 : Int) (R : Rt) : Pred := fun w =>
  newC [.int .i64 0, .slice none 0 0, .int .i64 0, .int .i64 0, .bool false, .int .i64 0, .slice none 0 0] 111 (fun b4 w5 => stW b4 0 [.int .i64 2, .slice none 0 0, .int .i64 0, .int .i64 0, .bool false, .int .i64 0, .slice none 0 0] (fun w6 => ∃ (I7 : Nat → World → Prop), (∃ k9, I7 k9  w6) ∧ ∀ k8 (d11 : Nat → Value)  w10, I7 k8  w10 → drw (fun w12 => clB 78 ([.pointer (some ⟨b1, o2, none⟩)]) w12 R fun t13 w14 => (cB t13 (lS w14 b1 o2 fun s16 => lI w14 b1 (o2 + 1) fun n17 => (ixT s16 n17) ∧ (cB ((byteAt s16 (Int.toNat n17)) != 124) (lS w14 b1 o2 fun s18 => lI w14 b1 (o2 + 1) fun n19 => (ixT s18 n19) ∧ (cB ((byteAt s18 (Int.toNat n19)) != 41) (clI 128 ([.pointer (some ⟨b1, o2, none⟩), .int .i64 n3]) w14 R fun n20 w21 => lL w21 b4 6 fun a23 l23 c23 => newC [.int .i64 n20] 3 (fun b24 w25 => ∃ a26 l26 c26, ∃ w27, (Builtin.append_ #[109, 109] 109 #[.slice a23 l23 c23, .slice (some ⟨b24, 0, none⟩) 1 1]).run Try.prog w25 = .ok (.slice a26 l26 c26) w27 ∧ stW b4 6 [.slice a26 l26 c26] (fun w28 => (∃ m29, m29 < k8 ∧ I7 m29  w28)) w27) w21) (lI w14 b4 0 fun n30 => lL w14 b4 1 fun a31 l31 c31 => lI w14 b4 2 fun n32 => lI w14 b4 3 fun n33 => lB w14 b4 4 fun t34 => lI w14 b4 5 fun n35 => lL w14 b4 6 fun a36 l36 c36 => clI 113 ([.pointer (some ⟨b1, o2, none⟩), .agg #[.int .i64 n30, .slice a31 l31 c31, .int .i64 n32, .int .i64 n33, .bool t34, .int .i64 n35, .slice a36 l36 c36]]) w14 R fun n37 w38 => R (.returned (.int .i64 n37)) w38))) (lI w14 b4 0 fun n40 => lL w14 b4 1 fun a41 l41 c41 => lI w14 b4 2 fun n42 => lI w14 b4 3 fun n43 => lB w14 b4 4 fun t44 => lI w14 b4 5 fun n45 => lL w14 b4 6 fun a46 l46 c46 => clI 113 ([.pointer (some ⟨b1, o2, none⟩), .agg #[.int .i64 n40, .slice a41 l41 c41, .int .i64 n42, .int .i64 n43, .bool t44, .int .i64 n45, .slice a46 l46 c46]]) w14 R fun n47 w48 => R (.returned (.int .i64 n47)) w48))) (lI w14 b4 0 fun n50 => lL w14 b4 1 fun a51 l51 c51 => lI w14 b4 2 fun n52 => lI w14 b4 3 fun n53 => lB w14 b4 4 fun t54 => lI w14 b4 5 fun n55 => lL w14 b4 6 fun a56 l56 c56 => clI 113 ([.pointer (some ⟨b1, o2, none⟩), .agg #[.int .i64 n50, .slice a51 l51 c51, .int .i64 n52, .int .i64 n53, .bool t54, .int .i64 n55, .slice a56 l56 c56]]) w14 R fun n57 w58 => R (.returned (.int .i64 n57)) w58))) w10) w5) w
def scr111 : Scr := (.q 1 (.q 3 (.loop (dr [] [(6,1),(8,35)]) (.run [0,1,2] (.split 10 (.run [3,4,5,6,7,8,9,10,11,12,13,14] (.split 22 (.r [15,16,17,18,19,20,21,22,23,24,25] (.cond (.q 4 (.q 7 .nil)) (.q 4 .nil))) (.r [15,16,17,18,19,20,21,22,23,24,25] (.lit (.q 4 .nil))))) (.r [3,4,5,6,7,8,9,10,11,12,13,14,15,16,17,18,19,20,21,22,23,24,25] (.lit (.q 4 .nil))))))))
theorem vc111 {b1 o2 n3} {R w} (h : V111 b1 o2 n3 R w) : Cl Try.prog 111 [.pointer (some ⟨b1, o2, none⟩), .int .i64 n3] w R :=
  cl_of scr111 Try.func111 (by kernel_rfl) _ _ (by kernel_rfl) h
/-- (*spec.l1R).alt -/
def V77 (b1 o2 : Nat) (n3 : Int) (R : Rt) : Pred := fun w =>
  clI 111 ([.pointer (some ⟨b1, o2, none⟩), .int .i64 n3]) w R fun n4 w5 => drw (fun w7 => clB 78 ([.pointer (some ⟨b1, o2, none⟩)]) w7 R fun t8 w9 => (cB (!t8) (R (.returned (.int .i64 n4)) w9) (lS w9 b1 o2 fun s11 => lI w9 b1 (o2 + 1) fun n12 => (ixT s11 n12) ∧ (cB ((byteAt s11 (Int.toNat n12)) != 124) (R (.returned (.int .i64 n4)) w9) (newC [.int .i64 n4] 3 (fun b13 w14 => newC [.int .i64 0, .slice none 0 0, .int .i64 0, .int .i64 0, .bool false, .int .i64 0, .slice none 0 0] 111 (fun b15 w16 => stW b15 0 [.int .i64 3, .slice none 0 0, .int .i64 0, .int .i64 0, .bool false, .int .i64 0, .slice (some ⟨b13, 0, none⟩) 1 1] (fun w17 => ∃ (I18 : Nat → World → Prop), (∃ k20, I18 k20  w17) ∧ ∀ k19 (d22 : Nat → Value)  w21, I18 k19  w21 → clB 112 ([.pointer (some ⟨b1, o2, none⟩), .int .u8 124]) w21 R fun t23 w24 => (cB t23 (clI 111 ([.pointer (some ⟨b1, o2, none⟩), .int .i64 n3]) w24 R fun n26 w27 => lL w27 b15 6 fun a29 l29 c29 => newC [.int .i64 n26] 3 (fun b30 w31 => ∃ a32 l32 c32, ∃ w33, (Builtin.append_ #[109, 109] 109 #[.slice a29 l29 c29, .slice (some ⟨b30, 0, none⟩) 1 1]).run Try.prog w31 = .ok (.slice a32 l32 c32) w33 ∧ stW b15 6 [.slice a32 l32 c32] (fun w34 => (∃ m35, m35 < k19 ∧ I18 m35  w34)) w33) w27) (lI w24 b15 0 fun n36 => lL w24 b15 1 fun a37 l37 c37 => lI w24 b15 2 fun n38 => lI w24 b15 3 fun n39 => lB w24 b15 4 fun t40 => lI w24 b15 5 fun n41 => lL w24 b15 6 fun a42 l42 c42 => clI 113 ([.pointer (some ⟨b1, o2, none⟩), .agg #[.int .i64 n36, .slice a37 l37 c37, .int .i64 n38, .int .i64 n39, .bool t40, .int .i64 n41, .slice a42 l42 c42]]) w24 R fun n43 w44 => R (.returned (.int .i64 n43)) w44))) w16) w14) w9))))) w5
def scr77 : Scr := (.q 1 (.q 4 (.run [0,1,2,3] (.split 13 (.r [4,5,6,7,8,9,10,11,12,13,14] (.lit (.q 2 .nil))) (.r [4,5,6,7,8,9,10,11,12,13,14] (.cond (.q 2 .nil) (.q 5 (.loop (dr [] [(5,1),(29,11)]) (.q 2 (.cond (.q 4 (.q 7 .nil)) (.q 4 .nil)))))))))))
theorem vc77 {b1 o2 n3} {R w} (h : V77 b1 o2 n3 R w) : Cl Try.prog 77 [.pointer (some ⟨b1, o2, none⟩), .int .i64 n3] w R :=
  cl_of scr77 Try.func77 (by kernel_rfl) _ _ (by kernel_rfl) h
/-- spec.ReadPattern -/
def V27 (s1 : ByteArray) (R : Rt) : Pred := fun w =>
  newC [.bool false, .int .i64 0, .int .i64 0, .slice none 0 0] 37 (fun b2 w3 => (cB (decide (((ByteArray.size s1 : Nat) : Int) > 120)) (stW b2 0 [.bool false, .int .i64 120, .int .i64 0, .slice none 0 0] (fun w4 => lB w4 b2 0 fun t5 => lI w4 b2 1 fun n6 => lI w4 b2 2 fun n7 => lL w4 b2 3 fun a8 l8 c8 => R (.returned (.agg #[.bool t5, .int .i64 n6, .int .i64 n7, .slice a8 l8 c8])) w4) w3) (newC [.string s1, .int .i64 0, .int .i64 (-1), .int .i64 0, .slice none 0 0] 97 (fun b9 w10 => clI 77 ([.pointer (some ⟨b9, 0, none⟩), .int .i64 0]) w10 R fun n11 w12 => clB 78 ([.pointer (some ⟨b9, 0, none⟩)]) w12 R fun t14 w15 => ∃ (J17 : World → Prop), ((cB t14 (clU 79 ([.pointer (some ⟨b9, 0, none⟩)]) w15 R fun w18 => J17  w18) (J17  w15))) ∧ ∀ (d20 : Nat → Value)  w21, J17  w21 → lI w21 b9 2 fun n22 => (cB (decide (n22 ≥ 0)) (lI w21 b9 2 fun n23 => stW b2 0 [.bool false, .int .i64 n23, .int .i64 0, .slice none 0 0] (fun w24 => lB w24 b2 0 fun t25 => lI w24 b2 1 fun n26 => lI w24 b2 2 fun n27 => lL w24 b2 3 fun a28 l28 c28 => R (.returned (.agg #[.bool t25, .int .i64 n26, .int .i64 n27, .slice a28 l28 c28])) w24) w21) (drw (fun w29 => lI w29 b9 3 fun n30 => lL w29 b9 4 fun a31 l31 c31 => stW b2 0 [.bool true, .int .i64 0, .int .i64 n30, .slice a31 l31 c31] (fun w32 => lB w32 b2 0 fun t33 => lI w32 b2 1 fun n34 => lI w32 b2 2 fun n35 => lL w32 b2 3 fun a36 l36 c36 => R (.returned (.agg #[.bool t33, .int .i64 n34, .int .i64 n35, .slice a36 l36 c36])) w32) w29) w21))) w3))) w
def scr27 : Scr := (.q 1 (.q 3 (.cond (.q 2 .nil) (.q 4 (.q 2 (.q 2 (.cut [(15, none), (16, none)] (.cond (.q 2 .nil) .nil) (.q 5 (.cond (.q 6 .nil) (.q 10 .nil))))))))))
theorem vc27 {s1} {R w} (h : V27 s1 R w) : Cl Try.prog 27 [.string s1] w R :=
  cl_of scr27 Try.func27 (by kernel_rfl) _ _ (by kernel_rfl) h
end Go.Proofs.Ytngbiaeliphdjaa.V
/- The reference's reader: sets in brackets. No statement of the seat is proved here. -/
namespace Go.Vc
set_option linter.unusedVariables false
theorem clsP_go {l : Bytes} {i j v : Nat} {first : Bool} {rs r : Rs} (h : i < l.length) (hn : ¬ (first = false ∧ at_ l i = 93)) (hp : partP l i = .ok (j, r, some v)) (hx : l.length ≤ j + 1 ∨ at_ l j ≠ 45 ∨ at_ l (j + 1) = 93) : clsP l i first rs = clsP l j false (rs ++ r) := by
  rw [clsP_one h hn hp]
  split
  · rw [clsP_out (by omega)]
  split
  · rfl
  split
  · rename_i h1 h2 h3
    have h4 : at_ l j = 45 := by omega
    have hq : partP l j = .ok (j + 1, [(45, 45)], some 45) := by unfold partP; rw [if_neg (by omega), h4]
    rw [clsP_one (by omega) (by omega) hq, if_pos (by omega)]
  split
  · rfl
  · omega
theorem setP_eq {l : Bytes} {i : Nat} (hi : i < l.length) : setP l i = clsFin (decide (at_ l (i + 1) = 94)) (clsP l (if at_ l (i + 1) = 94 then i + 2 else i + 1) true []) := by
  unfold setP
  split
  · rename_i h
    have h0 : at_ l (i + 1) = 0 := by unfold at_; rw [List.getD_eq_getElem?_getD, List.getElem?_eq_none (by omega)]; rfl
    rw [h0, if_neg (by decide), clsP_out (by omega)]
    rfl
  · rfl
end Go.Vc
namespace Go.Proofs.Ytngbiaeliphdjaa.V
open Go.Vc Go.Proofs Go.RowKit
set_option linter.unusedVariables false
set_option linter.unusedSimpArgs false
/-- What a set in brackets leaves. -/
def ClsS (w : World) (b : Nat) (s : ByteArray) (g : Nat) (a : Option Addr) (ln c : Nat) (r : Pr (Nat × List (Int × Int))) : Ending → World → Prop := fun e w' => Ext (fun x => x = b) w w' ∧ match r with
  | .bad n => e = .returned (.slice none 0 0) ∧ ∃ i, Sd w' b s i (n : Int) g a ln c
  | .ok (j, rs) => ∃ sa sc, e = .returned (.slice sa rs.length sc) ∧ Row w.heap.size w' 134 2 sa rs.length sc (rngC rs) ∧ Sd w' b s j (-1) g a ln c
/-- The state at the loop's head. -/
def ClsI (w : World) (b : Nat) (s : ByteArray) (g : Nat) (a : Option Addr) (ln c kb : Nat) (C : Pr (Nat × Rs)) (m : Nat) (n : Int) (w' : World) : Prop := Ext (fun x => x = b) w w' ∧
  ((∃ j rs, m = s.size - j + 1 ∧ 0 ≤ n ∧ n ≤ j ∧ j ≤ s.size ∧ Sd w' b s j (-1) g a ln c ∧ Blk w'.heap kb 4 (b256 (inR rs)) ∧ clsP (L s) j (decide (n = 0)) rs = C) ∨
   (∃ i e, m = 0 ∧ Sd w' b s i ((e : Nat) : Int) g a ln c ∧ C = .bad e))
theorem sclass_end {w w' : World} {b : Nat} {s : ByteArray} {g : Nat} {a : Option Addr} {ln c kb : Nat} {C : Pr (Nat × Rs)} {neg : Bool} (hb : b < w.heap.size) (hkb : w.heap.size ≤ kb) (hs : s.size ≤ 120)
    (hE : Ext (fun x => x = b) w w')
    (hst : (∃ j rs, j ≤ s.size ∧ Sd w' b s j (-1) g a ln c ∧ Blk w'.heap kb 4 (b256 (inR rs)) ∧ ((¬ j < s.size ∧ C = .bad j) ∨ (j < s.size ∧ at_ (L s) j = 93 ∧ C = .ok (j + 1, rs)))) ∨ (∃ i e, Sd w' b s i ((e : Nat) : Int) g a ln c ∧ C = .bad e))
    {R : Ending → World → Prop} (hR : R = ClsS w b s g a ln c (clsFin neg C)) :
    Cl Try.prog 112 ([.pointer (some ⟨b, 0, none⟩), .int .u8 93]) w' (retG (fun (r23 : Value) (w22 : World) => ∃ (t21 : Bool), r23 = .bool t21 ∧ (((!t21) = true → Cl Try.prog 79 ([.pointer (some ⟨b, 0, none⟩)]) w22 (retG (fun (r25 : Value) (w24 : World) => r25 = .tuple #[] ∧ R (.returned (.slice none 0 0)) w24) (fun c w => R (.panicked c) w))) ∧ ((!t21) = false → ((neg = true → ∃ (I26 : Nat → Int → World → Prop), (∃ (k28 : Nat), I26 k28 0 w22) ∧ ∀ (k27 : Nat) (d30 : Nat → Value) (n31 : Int) (w29 : World), I26 k27 n31 w29 → (((decide ((n31 : Int) < ((256 : Nat) : Int))) = true → ∃ (b32 : Nat) (o33 : Nat), (((some ⟨kb, 0, none⟩) : Option Addr) = some ⟨b32, o33, none⟩ ∧ 0 ≤ (n31 : Int) ∧ (n31 : Int) < ((256 : Nat) : Int)) ∧ ∃ (t34 : Bool), cellH w29.heap b32 (o33 + (Int.toNat n31) * 1) = some (.bool t34) ∧ ∃ (b35 : Nat) (o36 : Nat), (((some ⟨kb, 0, none⟩) : Option Addr) = some ⟨b35, o36, none⟩ ∧ 0 ≤ (n31 : Int) ∧ (n31 : Int) < ((256 : Nat) : Int)) ∧ stW b35 (o36 + (Int.toNat n31) * 1) [.bool (!t34)] (fun (w37 : World) => (∃ (m38 : Nat), m38 < k27 ∧ I26 m38 (IntKind.wrap .i64 (n31 + 1)) w37)) w29) ∧ ((decide ((n31 : Int) < ((256 : Nat) : Int))) = false → Cl Try.prog 167 ([.slice (some ⟨kb, 0, none⟩) 256 256]) w29 (retG (fun (r41 : Value) (w40 : World) => ∃ (a39 : Option Addr), ∃ (l39 : Nat), ∃ (c39 : Nat), r41 = .slice a39 l39 c39 ∧ R (.returned (.slice a39 l39 c39)) w40) (fun c w => R (.panicked c) w))))) ∧ (neg = false → Cl Try.prog 167 ([.slice (some ⟨kb, 0, none⟩) 256 256]) w22 (retG (fun (r44 : Value) (w43 : World) => ∃ (a42 : Option Addr), ∃ (l42 : Nat), ∃ (c42 : Nat), r44 = .slice a42 l42 c42 ∧ R (.returned (.slice a42 l42 c42)) w43) (fun c w => R (.panicked c) w))))))) (fun c w => R (.panicked c) w)) := by
  rcases hst with ⟨j, rs, hj, h, hk, hst⟩ | ⟨i, e, h, rfl⟩
  · rcases hst with ⟨hj2, rfl⟩ | ⟨hj2, h93, rfl⟩
    · refine (is_no h (ch := 93) (by omega) rfl).ret fun w1 b1 => ⟨_, rfl, fun _ => ?_, fun g => by cases g⟩
      refine (sfail_ok (h.below b1)).use fun e w2 he => ?_
      obtain ⟨rfl, h2, e2⟩ := he
      refine ⟨rfl, ?_⟩
      subst hR
      exact ⟨(hE.trans (Ext.of_below b1)).trans e2, rfl, _, h2⟩
    · refine (is_yes h hj2 (by omega) h93 rfl).use fun e w1 he => ?_
      obtain ⟨rfl, h1, e1⟩ := he
      have k1 := hk.keep e1 (by omega)
      refine ⟨_, rfl, fun g => by simp at g, fun _ => ⟨fun hn => ?_, fun hn => ?_⟩⟩
      · subst hn
        refine ⟨fun m n w2 => ∃ q : Nat, n = (q : Int) ∧ m = 256 - q ∧ q ≤ 256 ∧ Sd w2 b s (j + 1) (-1) g a ln c ∧ Blk w2.heap kb 4 (b256 fun x => if x < q then inR rs x != true else inR rs x) ∧ Ext (fun x => x = b) w w2,
          ⟨256, 0, rfl, rfl, by omega, h1, (by rw [b256_ext (g := inR rs) fun x _ => by rw [if_neg (by omega)]]; exact k1), hE.trans e1⟩, ?_⟩
        rintro m d n w2 ⟨q, rfl, rfl, hq, h2, k2, E2⟩
        refine ⟨fun g2 => ?_, fun g2 => ?_⟩
        · have g2' : q < 256 := by have := of_decide_eq_true g2; omega
          refine ⟨kb, 0, ⟨rfl, by omega, by omega⟩, inR rs q, ?_, kb, 0, ⟨rfl, by omega, by omega⟩, ?_⟩
          · rw [k2.cell, show 0 + Int.toNat (q : Int) * 1 = q from by omega, b256_get _ q g2', if_neg (by omega)]
          · rw [show 0 + Int.toNat (q : Int) * 1 = q from by omega]
            refine stW_in k2 (by rw [b256_length]; show q + 1 ≤ 256; omega) fun w3 s3 k3 e3 => ?_
            refine ⟨256 - (q + 1), by omega, q + 1, by rw [w64 (by omega)]; omega, rfl, by omega, Blk.keep h2 e3 (by omega), ?_, E2.step e3 fun i hi h => by omega⟩
            have : segSet (b256 fun x => if x < q then inR rs x != true else inR rs x) q [.bool (!inR rs q)] = b256 fun x => if x < q + 1 then inR rs x != true else inR rs x := by
              show (b256 _).set q _ = _
              rw [b256_set]
              apply b256_ext
              intro x hx
              by_cases hxq : x = q
              · subst hxq; simp
              · rw [if_neg hxq]
                by_cases hlt : x < q
                · rw [if_pos hlt, if_pos (by omega)]
                · rw [if_neg hlt, if_neg (by omega)]
            rw [this] at k3; exact k3
        · have g2' : q = 256 := by have := of_decide_eq_false g2; omega
          subst g2'
          rw [b256_ext (g := fun x => inR rs x != true) fun x hx => by rw [if_pos hx]] at k2
          refine (sset_ok k2).use fun e w3 he => ?_
          obtain ⟨sa, sc, rfl, hr, b3⟩ := he
          refine ⟨sa, _, sc, rfl, ?_⟩
          subst hR
          exact ⟨E2.trans (Ext.of_below b3), sa, sc, rfl, hr.mono E2.size, h2.below b3⟩
      · subst hn
        rw [b256_ext (g := fun x => inR rs x != false) fun x hx => by simp] at k1
        refine (sset_ok k1).use fun e w3 he => ?_
        obtain ⟨sa, sc, rfl, hr, b3⟩ := he
        refine ⟨sa, _, sc, rfl, ?_⟩
        subst hR
        have E1 := hE.trans e1
        exact ⟨E1.trans (Ext.of_below b3), sa, sc, rfl, hr.mono E1.size, h1.below b3⟩
  · refine (is_bad h 93).ret fun w1 b1 => ⟨_, rfl, fun _ => ?_, fun g => by cases g⟩
    refine (sfail_bad (h.below b1)).ret fun w2 b2 => ⟨rfl, ?_⟩
    subst hR
    exact ⟨(hE.trans (Ext.of_below b1)).trans (Ext.of_below b2), rfl, i, (h.below b1).below b2⟩
end Go.Proofs.Ytngbiaeliphdjaa.V
/- The reference's reader: sets in brackets. No statement of the seat is proved here. -/
namespace Go.Proofs.Ytngbiaeliphdjaa.V
open Go.Vc Go.Proofs Go.RowKit
set_option linter.unusedVariables false
set_option linter.unusedSimpArgs false
theorem sclass_loop {w w6 : World} {b : Nat} {s : ByteArray} {j0 g : Nat} {a : Option Addr} {ln c kb : Nat} {C : Pr (Nat × Rs)} {neg : Bool} (hb : b < w.heap.size) (hkb : w.heap.size ≤ kb) (hs : s.size ≤ 120)
    (hE : Ext (fun x => x = b) w w6) (h6 : Sd w6 b s j0 (-1) g a ln c) (hj0 : j0 ≤ s.size) (hk6 : Blk w6.heap kb 4 (b256 fun _ => false)) (hC : clsP (L s) j0 true [] = C)
    {R : Ending → World → Prop} (hR : R = ClsS w b s g a ln c (clsFin neg C)) :
    ∃ (I8 : Nat → Int → World → Prop), (∃ (k10 : Nat), I8 k10 0 w6) ∧ ∀ (k9 : Nat) (d12 : Nat → Value) (n13 : Int) (w11 : World), I8 k9 n13 w11 → ∃ (J14 : World → Prop), (drw (fun (w15 : World) => Cl Try.prog 78 ([.pointer (some ⟨b, 0, none⟩)]) w15 (retG (fun (r18 : Value) (w17 : World) => ∃ (t16 : Bool), r18 = .bool t16 ∧ ((t16 = true → ∃ (s19 : ByteArray), cellH w17.heap b 0 = some (.string s19) ∧ ∃ (n20 : Int), cellH w17.heap b (0 + 1) = some (.int .i64 n20) ∧ (0 ≤ (n20 : Int) ∧ (n20 : Int) < ((ByteArray.size s19 : Nat) : Int)) ∧ ((((byteAt s19 (Int.toNat n20) : Int) != 93) = true → J14  w17) ∧ (((byteAt s19 (Int.toNat n20) : Int) != 93) = false → ((((n13 : Int) == 0) = true → J14  w17) ∧ (((n13 : Int) == 0) = false → Cl Try.prog 112 ([.pointer (some ⟨b, 0, none⟩), .int .u8 93]) w17 (retG (fun (r23 : Value) (w22 : World) => ∃ (t21 : Bool), r23 = .bool t21 ∧ (((!t21) = true → Cl Try.prog 79 ([.pointer (some ⟨b, 0, none⟩)]) w22 (retG (fun (r25 : Value) (w24 : World) => r25 = .tuple #[] ∧ R (.returned (.slice none 0 0)) w24) (fun c w => R (.panicked c) w))) ∧ ((!t21) = false → ((neg = true → ∃ (I26 : Nat → Int → World → Prop), (∃ (k28 : Nat), I26 k28 0 w22) ∧ ∀ (k27 : Nat) (d30 : Nat → Value) (n31 : Int) (w29 : World), I26 k27 n31 w29 → (((decide ((n31 : Int) < ((256 : Nat) : Int))) = true → ∃ (b32 : Nat) (o33 : Nat), (((some ⟨kb, 0, none⟩) : Option Addr) = some ⟨b32, o33, none⟩ ∧ 0 ≤ (n31 : Int) ∧ (n31 : Int) < ((256 : Nat) : Int)) ∧ ∃ (t34 : Bool), cellH w29.heap b32 (o33 + (Int.toNat n31) * 1) = some (.bool t34) ∧ ∃ (b35 : Nat) (o36 : Nat), (((some ⟨kb, 0, none⟩) : Option Addr) = some ⟨b35, o36, none⟩ ∧ 0 ≤ (n31 : Int) ∧ (n31 : Int) < ((256 : Nat) : Int)) ∧ stW b35 (o36 + (Int.toNat n31) * 1) [.bool (!t34)] (fun (w37 : World) => (∃ (m38 : Nat), m38 < k27 ∧ I26 m38 (IntKind.wrap .i64 (n31 + 1)) w37)) w29) ∧ ((decide ((n31 : Int) < ((256 : Nat) : Int))) = false → Cl Try.prog 167 ([.slice (some ⟨kb, 0, none⟩) 256 256]) w29 (retG (fun (r41 : Value) (w40 : World) => ∃ (a39 : Option Addr), ∃ (l39 : Nat), ∃ (c39 : Nat), r41 = .slice a39 l39 c39 ∧ R (.returned (.slice a39 l39 c39)) w40) (fun c w => R (.panicked c) w))))) ∧ (neg = false → Cl Try.prog 167 ([.slice (some ⟨kb, 0, none⟩) 256 256]) w22 (retG (fun (r44 : Value) (w43 : World) => ∃ (a42 : Option Addr), ∃ (l42 : Nat), ∃ (c42 : Nat), r44 = .slice a42 l42 c42 ∧ R (.returned (.slice a42 l42 c42)) w43) (fun c w => R (.panicked c) w))))))) (fun c w => R (.panicked c) w))))))) ∧ (t16 = false → Cl Try.prog 112 ([.pointer (some ⟨b, 0, none⟩), .int .u8 93]) w17 (retG (fun (r47 : Value) (w46 : World) => ∃ (t45 : Bool), r47 = .bool t45 ∧ (((!t45) = true → Cl Try.prog 79 ([.pointer (some ⟨b, 0, none⟩)]) w46 (retG (fun (r49 : Value) (w48 : World) => r49 = .tuple #[] ∧ R (.returned (.slice none 0 0)) w48) (fun c w => R (.panicked c) w))) ∧ ((!t45) = false → ((neg = true → ∃ (I50 : Nat → Int → World → Prop), (∃ (k52 : Nat), I50 k52 0 w46) ∧ ∀ (k51 : Nat) (d54 : Nat → Value) (n55 : Int) (w53 : World), I50 k51 n55 w53 → (((decide ((n55 : Int) < ((256 : Nat) : Int))) = true → ∃ (b56 : Nat) (o57 : Nat), (((some ⟨kb, 0, none⟩) : Option Addr) = some ⟨b56, o57, none⟩ ∧ 0 ≤ (n55 : Int) ∧ (n55 : Int) < ((256 : Nat) : Int)) ∧ ∃ (t58 : Bool), cellH w53.heap b56 (o57 + (Int.toNat n55) * 1) = some (.bool t58) ∧ ∃ (b59 : Nat) (o60 : Nat), (((some ⟨kb, 0, none⟩) : Option Addr) = some ⟨b59, o60, none⟩ ∧ 0 ≤ (n55 : Int) ∧ (n55 : Int) < ((256 : Nat) : Int)) ∧ stW b59 (o60 + (Int.toNat n55) * 1) [.bool (!t58)] (fun (w61 : World) => (∃ (m62 : Nat), m62 < k51 ∧ I50 m62 (IntKind.wrap .i64 (n55 + 1)) w61)) w53) ∧ ((decide ((n55 : Int) < ((256 : Nat) : Int))) = false → Cl Try.prog 167 ([.slice (some ⟨kb, 0, none⟩) 256 256]) w53 (retG (fun (r65 : Value) (w64 : World) => ∃ (a63 : Option Addr), ∃ (l63 : Nat), ∃ (c63 : Nat), r65 = .slice a63 l63 c63 ∧ R (.returned (.slice a63 l63 c63)) w64) (fun c w => R (.panicked c) w))))) ∧ (neg = false → Cl Try.prog 167 ([.slice (some ⟨kb, 0, none⟩) 256 256]) w46 (retG (fun (r68 : Value) (w67 : World) => ∃ (a66 : Option Addr), ∃ (l66 : Nat), ∃ (c66 : Nat), r68 = .slice a66 l66 c66 ∧ R (.returned (.slice a66 l66 c66)) w67) (fun c w => R (.panicked c) w))))))) (fun c w => R (.panicked c) w))))) (fun c w => R (.panicked c) w))) w11) ∧ ∀ (d69 : Nat → Value) (w70 : World), J14  w70 → Cl Try.prog 112 ([.pointer (some ⟨b, 0, none⟩), .int .u8 92]) w70 (retG (fun (r73 : Value) (w72 : World) => ∃ (t71 : Bool), r73 = .bool t71 ∧ ∃ (J74 : Int → Bool → World → Prop), (((t71 = true → Cl Try.prog 166 ([.pointer (some ⟨b, 0, none⟩), .slice (some ⟨kb, 0, none⟩) 256 256]) w72 (retG (fun (r78 : Value) (w77 : World) => ∃ (n75 : Int), ∃ (t76 : Bool), r78 = .tuple #[.int .i64 n75, .bool t76] ∧ J74 n75 t76 w77) (fun c w => R (.panicked c) w))) ∧ (t71 = false → drw (fun (w79 : World) => ∃ (s80 : ByteArray), cellH w79.heap b 0 = some (.string s80) ∧ ∃ (n81 : Int), cellH w79.heap b (0 + 1) = some (.int .i64 n81) ∧ (0 ≤ (n81 : Int) ∧ (n81 : Int) < ((ByteArray.size s80 : Nat) : Int)) ∧ ∃ (b82 : Nat) (o83 : Nat), (((some ⟨kb, 0, none⟩) : Option Addr) = some ⟨b82, o83, none⟩ ∧ 0 ≤ (IntKind.wrap .i64 (byteAt s80 (Int.toNat n81)) : Int) ∧ (IntKind.wrap .i64 (byteAt s80 (Int.toNat n81)) : Int) < ((256 : Nat) : Int)) ∧ stW b82 (o83 + (Int.toNat (IntKind.wrap .i64 (byteAt s80 (Int.toNat n81)))) * 1) [.bool true] (fun (w84 : World) => ∃ (n85 : Int), cellH w84.heap b (0 + 1) = some (.int .i64 n85) ∧ stW b (0 + 1) [.int .i64 (IntKind.wrap .i64 (n85 + 1))] (fun (w86 : World) => J74 (IntKind.wrap .i64 (byteAt s80 (Int.toNat n81))) true w86) w84) w79) w72))) ∧ ∀ (d87 : Nat → Value) (n88 : Int) (t89 : Bool) (w90 : World), J74 n88 t89 w90 → drw (fun (w91 : World) => (((!t89) = true → (∃ (m92 : Nat), m92 < k9 ∧ I8 m92 (IntKind.wrap .i64 (n13 + 1)) w91)) ∧ ((!t89) = false → ∃ (n93 : Int), cellH w91.heap b (0 + 1) = some (.int .i64 n93) ∧ ∃ (s94 : ByteArray), cellH w91.heap b 0 = some (.string s94) ∧ (((decide ((IntKind.wrap .i64 (n93 + 1) : Int) ≥ ((ByteArray.size s94 : Nat) : Int))) = true → (∃ (m95 : Nat), m95 < k9 ∧ I8 m95 (IntKind.wrap .i64 (n13 + 1)) w91)) ∧ ((decide ((IntKind.wrap .i64 (n93 + 1) : Int) ≥ ((ByteArray.size s94 : Nat) : Int))) = false → ∃ (n96 : Int), cellH w91.heap b (0 + 2) = some (.int .i64 n96) ∧ (((decide ((n96 : Int) ≥ 0)) = true → (∃ (m97 : Nat), m97 < k9 ∧ I8 m97 (IntKind.wrap .i64 (n13 + 1)) w91)) ∧ ((decide ((n96 : Int) ≥ 0)) = false → ∃ (s98 : ByteArray), cellH w91.heap b 0 = some (.string s98) ∧ ∃ (n99 : Int), cellH w91.heap b (0 + 1) = some (.int .i64 n99) ∧ (0 ≤ (n99 : Int) ∧ (n99 : Int) < ((ByteArray.size s98 : Nat) : Int)) ∧ ((((byteAt s98 (Int.toNat n99) : Int) != 45) = true → (∃ (m100 : Nat), m100 < k9 ∧ I8 m100 (IntKind.wrap .i64 (n13 + 1)) w91)) ∧ (((byteAt s98 (Int.toNat n99) : Int) != 45) = false → ∃ (s101 : ByteArray), cellH w91.heap b 0 = some (.string s101) ∧ ∃ (n102 : Int), cellH w91.heap b (0 + 1) = some (.int .i64 n102) ∧ (0 ≤ (IntKind.wrap .i64 (n102 + 1) : Int) ∧ (IntKind.wrap .i64 (n102 + 1) : Int) < ((ByteArray.size s101 : Nat) : Int)) ∧ ((((byteAt s101 (Int.toNat (IntKind.wrap .i64 (n102 + 1))) : Int) == 93) = true → (∃ (m103 : Nat), m103 < k9 ∧ I8 m103 (IntKind.wrap .i64 (n13 + 1)) w91)) ∧ (((byteAt s101 (Int.toNat (IntKind.wrap .i64 (n102 + 1))) : Int) == 93) = false → ∃ (n104 : Int), cellH w91.heap b (0 + 1) = some (.int .i64 n104) ∧ stW b (0 + 1) [.int .i64 (IntKind.wrap .i64 (n104 + 1))] (fun (w105 : World) => ∃ (n106 : Int), cellH w105.heap b (0 + 1) = some (.int .i64 n106) ∧ drw (fun (w107 : World) => ∃ (s108 : ByteArray), cellH w107.heap b 0 = some (.string s108) ∧ ∃ (n109 : Int), cellH w107.heap b (0 + 1) = some (.int .i64 n109) ∧ (0 ≤ (n109 : Int) ∧ (n109 : Int) < ((ByteArray.size s108 : Nat) : Int)) ∧ Cl Try.prog 112 ([.pointer (some ⟨b, 0, none⟩), .int .u8 92]) w107 (retG (fun (r112 : Value) (w111 : World) => ∃ (t110 : Bool), r112 = .bool t110 ∧ ((t110 = true → ∃ (a113 : Option Addr), ∃ (l113 : Nat), ∃ (c113 : Nat), ∃ (w114 : World), (Instr.makeSlice 59 (.int .i64 256) (.int .i64 256)).run Try.prog w111 = .ok (.slice a113 l113 c113) w114 ∧ Cl Try.prog 166 ([.pointer (some ⟨b, 0, none⟩), .slice a113 l113 c113]) w114 (retG (fun (r118 : Value) (w117 : World) => ∃ (n115 : Int), ∃ (t116 : Bool), r118 = .tuple #[.int .i64 n115, .bool t116] ∧ ∃ (n119 : Int), cellH w117.heap b (0 + 2) = some (.int .i64 n119) ∧ (((decide ((n119 : Int) < 0)) = true → (((!t116) = true → stW b (0 + 1) [.int .i64 n106] (fun (w120 : World) => Cl Try.prog 79 ([.pointer (some ⟨b, 0, none⟩)]) w120 (retG (fun (r122 : Value) (w121 : World) => r122 = .tuple #[] ∧ R (.returned (.slice none 0 0)) w121) (fun c w => R (.panicked c) w))) w117) ∧ ((!t116) = false → (((decide ((n115 : Int) < n88)) = true → stW b (0 + 1) [.int .i64 n106] (fun (w123 : World) => Cl Try.prog 79 ([.pointer (some ⟨b, 0, none⟩)]) w123 (retG (fun (r125 : Value) (w124 : World) => r125 = .tuple #[] ∧ R (.returned (.slice none 0 0)) w124) (fun c w => R (.panicked c) w))) w117) ∧ ((decide ((n115 : Int) < n88)) = false → ∃ (n126 : Int), cellH w117.heap b (0 + 2) = some (.int .i64 n126) ∧ (((decide ((n126 : Int) < 0)) = true → Cl Try.prog 165 ([.slice (some ⟨kb, 0, none⟩) 256 256, .int .i64 n88, .int .i64 n115]) w117 (retG (fun (r128 : Value) (w127 : World) => r128 = .tuple #[] ∧ (∃ (m129 : Nat), m129 < k9 ∧ I8 m129 (IntKind.wrap .i64 (n13 + 1)) w127)) (fun c w => R (.panicked c) w))) ∧ ((decide ((n126 : Int) < 0)) = false → (∃ (m130 : Nat), m130 < k9 ∧ I8 m130 (IntKind.wrap .i64 (n13 + 1)) w117)))))))) ∧ ((decide ((n119 : Int) < 0)) = false → ∃ (n131 : Int), cellH w117.heap b (0 + 2) = some (.int .i64 n131) ∧ (((decide ((n131 : Int) < 0)) = true → Cl Try.prog 165 ([.slice (some ⟨kb, 0, none⟩) 256 256, .int .i64 n88, .int .i64 n115]) w117 (retG (fun (r133 : Value) (w132 : World) => r133 = .tuple #[] ∧ (∃ (m134 : Nat), m134 < k9 ∧ I8 m134 (IntKind.wrap .i64 (n13 + 1)) w132)) (fun c w => R (.panicked c) w))) ∧ ((decide ((n131 : Int) < 0)) = false → (∃ (m135 : Nat), m135 < k9 ∧ I8 m135 (IntKind.wrap .i64 (n13 + 1)) w117)))))) (fun c w => R (.panicked c) w))) ∧ (t110 = false → ∃ (n136 : Int), cellH w111.heap b (0 + 1) = some (.int .i64 n136) ∧ stW b (0 + 1) [.int .i64 (IntKind.wrap .i64 (n136 + 1))] (fun (w137 : World) => ∃ (n138 : Int), cellH w137.heap b (0 + 2) = some (.int .i64 n138) ∧ (((decide ((n138 : Int) < 0)) = true → (((!t89) = true → stW b (0 + 1) [.int .i64 n106] (fun (w139 : World) => Cl Try.prog 79 ([.pointer (some ⟨b, 0, none⟩)]) w139 (retG (fun (r141 : Value) (w140 : World) => r141 = .tuple #[] ∧ R (.returned (.slice none 0 0)) w140) (fun c w => R (.panicked c) w))) w137) ∧ ((!t89) = false → (((decide ((IntKind.wrap .i64 (byteAt s108 (Int.toNat n109)) : Int) < n88)) = true → stW b (0 + 1) [.int .i64 n106] (fun (w142 : World) => Cl Try.prog 79 ([.pointer (some ⟨b, 0, none⟩)]) w142 (retG (fun (r144 : Value) (w143 : World) => r144 = .tuple #[] ∧ R (.returned (.slice none 0 0)) w143) (fun c w => R (.panicked c) w))) w137) ∧ ((decide ((IntKind.wrap .i64 (byteAt s108 (Int.toNat n109)) : Int) < n88)) = false → ∃ (n145 : Int), cellH w137.heap b (0 + 2) = some (.int .i64 n145) ∧ (((decide ((n145 : Int) < 0)) = true → Cl Try.prog 165 ([.slice (some ⟨kb, 0, none⟩) 256 256, .int .i64 n88, .int .i64 (IntKind.wrap .i64 (byteAt s108 (Int.toNat n109)))]) w137 (retG (fun (r147 : Value) (w146 : World) => r147 = .tuple #[] ∧ (∃ (m148 : Nat), m148 < k9 ∧ I8 m148 (IntKind.wrap .i64 (n13 + 1)) w146)) (fun c w => R (.panicked c) w))) ∧ ((decide ((n145 : Int) < 0)) = false → (∃ (m149 : Nat), m149 < k9 ∧ I8 m149 (IntKind.wrap .i64 (n13 + 1)) w137)))))))) ∧ ((decide ((n138 : Int) < 0)) = false → ∃ (n150 : Int), cellH w137.heap b (0 + 2) = some (.int .i64 n150) ∧ (((decide ((n150 : Int) < 0)) = true → Cl Try.prog 165 ([.slice (some ⟨kb, 0, none⟩) 256 256, .int .i64 n88, .int .i64 (IntKind.wrap .i64 (byteAt s108 (Int.toNat n109)))]) w137 (retG (fun (r152 : Value) (w151 : World) => r152 = .tuple #[] ∧ (∃ (m153 : Nat), m153 < k9 ∧ I8 m153 (IntKind.wrap .i64 (n13 + 1)) w151)) (fun c w => R (.panicked c) w))) ∧ ((decide ((n150 : Int) < 0)) = false → (∃ (m154 : Nat), m154 < k9 ∧ I8 m154 (IntKind.wrap .i64 (n13 + 1)) w137)))))) w111))) (fun c w => R (.panicked c) w))) w105) w91))))))))))) w90) (fun c w => R (.panicked c) w)) := by
  have hsz := size_L s
  refine ⟨ClsI w b s g a ln c kb C, ⟨_, hE, .inl ⟨j0, [], rfl, by omega, by omega, hj0, h6, by rw [inR_nil]; exact hk6, hC⟩⟩, ?_⟩
  clear hC hk6 hj0 h6 hE
  rintro m d n w1 ⟨hE, hI⟩
  refine ⟨fun w' => Ext (fun x => x = b) w w' ∧ ∃ j rs, m = s.size - j + 1 ∧ 0 ≤ n ∧ n ≤ j ∧ j < s.size ∧ Sd w' b s j (-1) g a ln c ∧ Blk w'.heap kb 4 (b256 (inR rs)) ∧ clsP (L s) j (decide (n = 0)) rs = C ∧ ¬ (decide (n = 0) = false ∧ at_ (L s) j = 93), ?_, ?_⟩
  · refine drw_in fun w2 q2 e2 => ?_
    have E2 := hE.trans (Ext.mono e2 fun _ _ h => h.elim)
    rcases hI with ⟨j, rs, hm, hn0, hnj, hj, h1, hk1, hC⟩ | ⟨i, e, hm, h1, hC⟩
    · have h2 : Sd w2 b s j (-1) g a ln c := Blk.keep h1 e2 fun h => h
      have k2 := hk1.keep e2 fun h => h
      refine (more_ok h2).ret fun w3 b3 => ⟨_, rfl, fun g1 => ?_, fun g1 => ?_⟩
      · have g1' := of_decide_eq_true g1
        have h3 := h2.below b3
        have E3 := E2.trans (Ext.of_below b3)
        refine ⟨s, h3.cell 0, j, h3.cell 1, ⟨by omega, by omega⟩, ?_⟩
        rw [byteI s (j := j) rfl]
        refine ⟨fun g2 => ?_, fun g2 => ⟨fun g3 => ?_, fun g3 => ?_⟩⟩
        · have g2' : ¬ at_ (L s) j = 93 := by simp only [bne_iff_ne, ne_eq] at g2; omega
          exact ⟨E3, j, rs, hm, hn0, hnj, g1', h3, k2.below b3, hC, fun h => g2' h.2⟩
        · have g3' : n = 0 := by simpa using g3
          exact ⟨E3, j, rs, hm, hn0, hnj, g1', h3, k2.below b3, hC, fun h => by simp [g3'] at h⟩
        · have g3' : n ≠ 0 := by simpa using g3
          have g2' : at_ (L s) j = 93 := by
            have : (at_ (L s) j : Int) = 93 := by simpa using g2
            omega
          rw [clsP_end (by omega) (decide_eq_false g3') g2'] at hC
          exact sclass_end hb hkb hs E3 (.inl ⟨j, rs, hj, h3, k2.below b3, .inr ⟨g1', g2', hC.symm⟩⟩) hR
      · have g1' := of_decide_eq_false g1
        rw [clsP_out (by omega)] at hC
        exact sclass_end hb hkb hs (E2.trans (Ext.of_below b3)) (.inl ⟨j, rs, hj, h2.below b3, k2.below b3, .inl ⟨g1', by rw [← hC]; congr 1; omega⟩⟩) hR
    · have h2 : Sd w2 b s i (e : Int) g a ln c := Blk.keep h1 e2 fun h => h
      refine (more_bad h2).ret fun w3 b3 => ⟨_, rfl, fun g1 => (by cases g1), fun g1 => ?_⟩
      exact sclass_end hb hkb hs (E2.trans (Ext.of_below b3)) (.inr ⟨i, e, h2.below b3, hC⟩) hR
  clear hI hE
  rintro d2 w2 ⟨E2, j, rs, rfl, hn0, hnj, hj, h2, k2, hC, hne⟩
  have ew : IntKind.wrap .i64 (n + 1) = n + 1 := w64 (by omega)
  have en : decide (n + 1 = 0) = false := decide_eq_false (by omega)
  rw [ew]
  -- the next round
  have hnext : ∀ {w' : World} {j' : Nat} {rs' : Rs}, j < j' → j' ≤ s.size → Sd w' b s j' (-1) g a ln c → Blk w'.heap kb 4 (b256 (inR rs')) → clsP (L s) j' false rs' = C → Ext (fun x => x = b) w w' → ∃ m, m < s.size - j + 1 ∧ ClsI w b s g a ln c kb C m (n + 1) w' :=
    fun h1 h2 h3 h4 h5 h6 => ⟨s.size - _ + 1, by omega, h6, .inl ⟨_, _, rfl, by omega, by omega, h2, h3, h4, by rw [en]; exact h5⟩⟩
  have hnbad : ∀ {w' : World} {i' e' : Nat}, Sd w' b s i' (e' : Int) g a ln c → C = .bad e' → Ext (fun x => x = b) w w' → ∃ m, m < s.size - j + 1 ∧ ClsI w b s g a ln c kb C m (n + 1) w' :=
    fun h1 h2 h3 => ⟨0, by omega, h3, .inr ⟨_, _, rfl, h1, h2⟩⟩
  have happ : ∀ (h : Array Obj) (rs r : Rs), Blk h kb 4 (b256 fun n => inR rs n || inR r n) → Blk h kb 4 (b256 (inR (rs ++ r))) := by
    intro h rs r hB
    rw [b256_ext (g := fun n => inR rs n || inR r n) fun n _ => inR_app rs r n]; exact hB
  -- what the part leaves
  suffices hJ : ∀ (w3 : World) (hE3 : Ext (fun x => x = b) w w3), (at_ (L s) j = 92 → Sd w3 b s (j + 1) (-1) g a ln c) → (at_ (L s) j ≠ 92 → Sd w3 b s j (-1) g a ln c) → Blk w3.heap kb 4 (b256 (inR rs)) → ∀ t, t = decide (at_ (L s) j = 92) → (∃ (J74 : Int → Bool → World → Prop), (((t = true → Cl Try.prog 166 ([.pointer (some ⟨b, 0, none⟩), .slice (some ⟨kb, 0, none⟩) 256 256]) w3 (retG (fun (r78 : Value) (w77 : World) => ∃ (n75 : Int), ∃ (t76 : Bool), r78 = .tuple #[.int .i64 n75, .bool t76] ∧ J74 n75 t76 w77) (fun c w => R (.panicked c) w))) ∧ (t = false → drw (fun (w79 : World) => ∃ (s80 : ByteArray), cellH w79.heap b 0 = some (.string s80) ∧ ∃ (n81 : Int), cellH w79.heap b (0 + 1) = some (.int .i64 n81) ∧ (0 ≤ (n81 : Int) ∧ (n81 : Int) < ((ByteArray.size s80 : Nat) : Int)) ∧ ∃ (b82 : Nat) (o83 : Nat), (((some ⟨kb, 0, none⟩) : Option Addr) = some ⟨b82, o83, none⟩ ∧ 0 ≤ (IntKind.wrap .i64 (byteAt s80 (Int.toNat n81)) : Int) ∧ (IntKind.wrap .i64 (byteAt s80 (Int.toNat n81)) : Int) < ((256 : Nat) : Int)) ∧ stW b82 (o83 + (Int.toNat (IntKind.wrap .i64 (byteAt s80 (Int.toNat n81)))) * 1) [.bool true] (fun (w84 : World) => ∃ (n85 : Int), cellH w84.heap b (0 + 1) = some (.int .i64 n85) ∧ stW b (0 + 1) [.int .i64 (IntKind.wrap .i64 (n85 + 1))] (fun (w86 : World) => J74 (IntKind.wrap .i64 (byteAt s80 (Int.toNat n81))) true w86) w84) w79) w3))) ∧ ∀ (d87 : Nat → Value) (n88 : Int) (t89 : Bool) (w90 : World), J74 n88 t89 w90 → drw (fun (w91 : World) => (((!t89) = true → (∃ (m92 : Nat), m92 < (s.size - j + 1) ∧ ClsI w b s g a ln c kb C m92 (n + 1) w91)) ∧ ((!t89) = false → ∃ (n93 : Int), cellH w91.heap b (0 + 1) = some (.int .i64 n93) ∧ ∃ (s94 : ByteArray), cellH w91.heap b 0 = some (.string s94) ∧ (((decide ((IntKind.wrap .i64 (n93 + 1) : Int) ≥ ((ByteArray.size s94 : Nat) : Int))) = true → (∃ (m95 : Nat), m95 < (s.size - j + 1) ∧ ClsI w b s g a ln c kb C m95 (n + 1) w91)) ∧ ((decide ((IntKind.wrap .i64 (n93 + 1) : Int) ≥ ((ByteArray.size s94 : Nat) : Int))) = false → ∃ (n96 : Int), cellH w91.heap b (0 + 2) = some (.int .i64 n96) ∧ (((decide ((n96 : Int) ≥ 0)) = true → (∃ (m97 : Nat), m97 < (s.size - j + 1) ∧ ClsI w b s g a ln c kb C m97 (n + 1) w91)) ∧ ((decide ((n96 : Int) ≥ 0)) = false → ∃ (s98 : ByteArray), cellH w91.heap b 0 = some (.string s98) ∧ ∃ (n99 : Int), cellH w91.heap b (0 + 1) = some (.int .i64 n99) ∧ (0 ≤ (n99 : Int) ∧ (n99 : Int) < ((ByteArray.size s98 : Nat) : Int)) ∧ ((((byteAt s98 (Int.toNat n99) : Int) != 45) = true → (∃ (m100 : Nat), m100 < (s.size - j + 1) ∧ ClsI w b s g a ln c kb C m100 (n + 1) w91)) ∧ (((byteAt s98 (Int.toNat n99) : Int) != 45) = false → ∃ (s101 : ByteArray), cellH w91.heap b 0 = some (.string s101) ∧ ∃ (n102 : Int), cellH w91.heap b (0 + 1) = some (.int .i64 n102) ∧ (0 ≤ (IntKind.wrap .i64 (n102 + 1) : Int) ∧ (IntKind.wrap .i64 (n102 + 1) : Int) < ((ByteArray.size s101 : Nat) : Int)) ∧ ((((byteAt s101 (Int.toNat (IntKind.wrap .i64 (n102 + 1))) : Int) == 93) = true → (∃ (m103 : Nat), m103 < (s.size - j + 1) ∧ ClsI w b s g a ln c kb C m103 (n + 1) w91)) ∧ (((byteAt s101 (Int.toNat (IntKind.wrap .i64 (n102 + 1))) : Int) == 93) = false → ∃ (n104 : Int), cellH w91.heap b (0 + 1) = some (.int .i64 n104) ∧ stW b (0 + 1) [.int .i64 (IntKind.wrap .i64 (n104 + 1))] (fun (w105 : World) => ∃ (n106 : Int), cellH w105.heap b (0 + 1) = some (.int .i64 n106) ∧ drw (fun (w107 : World) => ∃ (s108 : ByteArray), cellH w107.heap b 0 = some (.string s108) ∧ ∃ (n109 : Int), cellH w107.heap b (0 + 1) = some (.int .i64 n109) ∧ (0 ≤ (n109 : Int) ∧ (n109 : Int) < ((ByteArray.size s108 : Nat) : Int)) ∧ Cl Try.prog 112 ([.pointer (some ⟨b, 0, none⟩), .int .u8 92]) w107 (retG (fun (r112 : Value) (w111 : World) => ∃ (t110 : Bool), r112 = .bool t110 ∧ ((t110 = true → ∃ (a113 : Option Addr), ∃ (l113 : Nat), ∃ (c113 : Nat), ∃ (w114 : World), (Instr.makeSlice 59 (.int .i64 256) (.int .i64 256)).run Try.prog w111 = .ok (.slice a113 l113 c113) w114 ∧ Cl Try.prog 166 ([.pointer (some ⟨b, 0, none⟩), .slice a113 l113 c113]) w114 (retG (fun (r118 : Value) (w117 : World) => ∃ (n115 : Int), ∃ (t116 : Bool), r118 = .tuple #[.int .i64 n115, .bool t116] ∧ ∃ (n119 : Int), cellH w117.heap b (0 + 2) = some (.int .i64 n119) ∧ (((decide ((n119 : Int) < 0)) = true → (((!t116) = true → stW b (0 + 1) [.int .i64 n106] (fun (w120 : World) => Cl Try.prog 79 ([.pointer (some ⟨b, 0, none⟩)]) w120 (retG (fun (r122 : Value) (w121 : World) => r122 = .tuple #[] ∧ R (.returned (.slice none 0 0)) w121) (fun c w => R (.panicked c) w))) w117) ∧ ((!t116) = false → (((decide ((n115 : Int) < n88)) = true → stW b (0 + 1) [.int .i64 n106] (fun (w123 : World) => Cl Try.prog 79 ([.pointer (some ⟨b, 0, none⟩)]) w123 (retG (fun (r125 : Value) (w124 : World) => r125 = .tuple #[] ∧ R (.returned (.slice none 0 0)) w124) (fun c w => R (.panicked c) w))) w117) ∧ ((decide ((n115 : Int) < n88)) = false → ∃ (n126 : Int), cellH w117.heap b (0 + 2) = some (.int .i64 n126) ∧ (((decide ((n126 : Int) < 0)) = true → Cl Try.prog 165 ([.slice (some ⟨kb, 0, none⟩) 256 256, .int .i64 n88, .int .i64 n115]) w117 (retG (fun (r128 : Value) (w127 : World) => r128 = .tuple #[] ∧ (∃ (m129 : Nat), m129 < (s.size - j + 1) ∧ ClsI w b s g a ln c kb C m129 (n + 1) w127)) (fun c w => R (.panicked c) w))) ∧ ((decide ((n126 : Int) < 0)) = false → (∃ (m130 : Nat), m130 < (s.size - j + 1) ∧ ClsI w b s g a ln c kb C m130 (n + 1) w117)))))))) ∧ ((decide ((n119 : Int) < 0)) = false → ∃ (n131 : Int), cellH w117.heap b (0 + 2) = some (.int .i64 n131) ∧ (((decide ((n131 : Int) < 0)) = true → Cl Try.prog 165 ([.slice (some ⟨kb, 0, none⟩) 256 256, .int .i64 n88, .int .i64 n115]) w117 (retG (fun (r133 : Value) (w132 : World) => r133 = .tuple #[] ∧ (∃ (m134 : Nat), m134 < (s.size - j + 1) ∧ ClsI w b s g a ln c kb C m134 (n + 1) w132)) (fun c w => R (.panicked c) w))) ∧ ((decide ((n131 : Int) < 0)) = false → (∃ (m135 : Nat), m135 < (s.size - j + 1) ∧ ClsI w b s g a ln c kb C m135 (n + 1) w117)))))) (fun c w => R (.panicked c) w))) ∧ (t110 = false → ∃ (n136 : Int), cellH w111.heap b (0 + 1) = some (.int .i64 n136) ∧ stW b (0 + 1) [.int .i64 (IntKind.wrap .i64 (n136 + 1))] (fun (w137 : World) => ∃ (n138 : Int), cellH w137.heap b (0 + 2) = some (.int .i64 n138) ∧ (((decide ((n138 : Int) < 0)) = true → (((!t89) = true → stW b (0 + 1) [.int .i64 n106] (fun (w139 : World) => Cl Try.prog 79 ([.pointer (some ⟨b, 0, none⟩)]) w139 (retG (fun (r141 : Value) (w140 : World) => r141 = .tuple #[] ∧ R (.returned (.slice none 0 0)) w140) (fun c w => R (.panicked c) w))) w137) ∧ ((!t89) = false → (((decide ((IntKind.wrap .i64 (byteAt s108 (Int.toNat n109)) : Int) < n88)) = true → stW b (0 + 1) [.int .i64 n106] (fun (w142 : World) => Cl Try.prog 79 ([.pointer (some ⟨b, 0, none⟩)]) w142 (retG (fun (r144 : Value) (w143 : World) => r144 = .tuple #[] ∧ R (.returned (.slice none 0 0)) w143) (fun c w => R (.panicked c) w))) w137) ∧ ((decide ((IntKind.wrap .i64 (byteAt s108 (Int.toNat n109)) : Int) < n88)) = false → ∃ (n145 : Int), cellH w137.heap b (0 + 2) = some (.int .i64 n145) ∧ (((decide ((n145 : Int) < 0)) = true → Cl Try.prog 165 ([.slice (some ⟨kb, 0, none⟩) 256 256, .int .i64 n88, .int .i64 (IntKind.wrap .i64 (byteAt s108 (Int.toNat n109)))]) w137 (retG (fun (r147 : Value) (w146 : World) => r147 = .tuple #[] ∧ (∃ (m148 : Nat), m148 < (s.size - j + 1) ∧ ClsI w b s g a ln c kb C m148 (n + 1) w146)) (fun c w => R (.panicked c) w))) ∧ ((decide ((n145 : Int) < 0)) = false → (∃ (m149 : Nat), m149 < (s.size - j + 1) ∧ ClsI w b s g a ln c kb C m149 (n + 1) w137)))))))) ∧ ((decide ((n138 : Int) < 0)) = false → ∃ (n150 : Int), cellH w137.heap b (0 + 2) = some (.int .i64 n150) ∧ (((decide ((n150 : Int) < 0)) = true → Cl Try.prog 165 ([.slice (some ⟨kb, 0, none⟩) 256 256, .int .i64 n88, .int .i64 (IntKind.wrap .i64 (byteAt s108 (Int.toNat n109)))]) w137 (retG (fun (r152 : Value) (w151 : World) => r152 = .tuple #[] ∧ (∃ (m153 : Nat), m153 < (s.size - j + 1) ∧ ClsI w b s g a ln c kb C m153 (n + 1) w151)) (fun c w => R (.panicked c) w))) ∧ ((decide ((n150 : Int) < 0)) = false → (∃ (m154 : Nat), m154 < (s.size - j + 1) ∧ ClsI w b s g a ln c kb C m154 (n + 1) w137)))))) w111))) (fun c w => R (.panicked c) w))) w105) w91))))))))))) w90) by
    by_cases h92 : at_ (L s) j = 92
    · refine (is_yes h2 hj (by omega) h92 rfl).use fun e w3 he => ?_
      obtain ⟨rfl, h3, e3⟩ := he
      exact ⟨true, rfl, hJ w3 (E2.trans e3) (fun _ => h3) (fun h => absurd h92 h) (k2.keep e3 (by omega)) true (by simp [h92])⟩
    · refine (is_no h2 (ch := 92) (by omega) rfl).ret fun w3 b3 => ?_
      exact ⟨false, rfl, hJ w3 (E2.trans (Ext.of_below b3)) (fun h => absurd h h92) (fun _ => h2.below b3) (k2.below b3) false (by simp [h92])⟩
  intro w3 E3 h3y h3n k3 t ht
  refine ⟨fun v t w' => Ext (fun x => x = b) w w' ∧ ((∃ i e, t = false ∧ Sd w' b s i ((e : Nat) : Int) g a ln c ∧ C = .bad e) ∨
    (∃ j1 r, t = false ∧ j < j1 ∧ j1 ≤ s.size ∧ Sd w' b s j1 (-1) g a ln c ∧ Blk w'.heap kb 4 (b256 (inR (rs ++ r))) ∧ partP (L s) j = .ok (j1, r, none)) ∨
    (∃ j1 r u, t = true ∧ v = ((u : Nat) : Int) ∧ j < j1 ∧ j1 ≤ s.size ∧ Sd w' b s j1 (-1) g a ln c ∧ Blk w'.heap kb 4 (b256 (inR (rs ++ r))) ∧ partP (L s) j = .ok (j1, r, some u))), ⟨fun g1 => ?_, fun g1 => ?_⟩, ?_⟩
  · have h92 : at_ (L s) j = 92 := by rw [ht] at g1; exact of_decide_eq_true g1
    have hpp : partP (L s) j = escP (L s) (j + 1) := by unfold partP; rw [if_pos h92]
    refine (sescape_ok (h3y h92) hs (by omega) k3 (by omega)).use fun e w4 he => ?_
    obtain ⟨e4, he⟩ := he
    have E4 : Ext (fun x => x = b) w w4 := E3.step e4 fun i hi h => by omega
    cases hp : escP (L s) (j + 1) with
    | bad n4 =>
      rw [hp] at he
      obtain ⟨rfl, ⟨i, h4⟩, _⟩ := he
      exact ⟨_, _, rfl, E4, .inl ⟨i, n4, rfl, h4, by rw [← hC]; exact clsP_bad (by omega) hne (hpp.trans hp)⟩⟩
    | ok y =>
      obtain ⟨j1, r, o⟩ := y
      have hgt := partP_gt (by omega) (hpp.trans hp)
      rw [hp] at he
      cases o with
      | none =>
        obtain ⟨rfl, h4, k4⟩ := he
        exact ⟨_, _, rfl, E4, .inr (.inl ⟨j1, r, rfl, hgt.1, by omega, h4, happ _ _ _ k4, hpp.trans hp⟩)⟩
      | some u =>
        obtain ⟨rfl, h4, k4⟩ := he
        exact ⟨_, _, rfl, E4, .inr (.inr ⟨j1, r, u, rfl, rfl, hgt.1, by omega, h4, happ _ _ _ k4, hpp.trans hp⟩)⟩
  · have h92 : at_ (L s) j ≠ 92 := by rw [ht] at g1; exact of_decide_eq_false g1
    refine drw_in fun w4 q4 e4 => ?_
    have h4 : Sd w4 b s j (-1) g a ln c := Blk.keep (h3n h92) e4 fun h => h
    have k4 := k3.keep e4 fun h => h
    have E4 := E3.trans (Ext.mono e4 fun _ _ h => h.elim)
    refine ⟨s, h4.cell 0, j, h4.cell 1, ⟨by omega, by omega⟩, ?_⟩
    have hc := at_lt (L s) j
    rw [byteI s (j := j) rfl, w64 (n := (at_ (L s) j : Int)) (by omega)]
    refine ⟨kb, 0, ⟨rfl, by omega, by omega⟩, st_one k4 hc (by omega) fun w5 s5 k5 e5 => ?_⟩
    have h5 : Sd w5 b s j (-1) g a ln c := Blk.keep h4 e5 (by omega)
    have E5 : Ext (fun x => x = b) w w5 := E4.step e5 fun i hi h => by omega
    refine ⟨j, h5.cell 1, h5.mv (j := j + 1) (by rw [w64 (by omega)]; omega) fun w6 s6 h6 e6 => ?_⟩
    exact ⟨E5.trans e6, .inr (.inr ⟨j + 1, _, at_ (L s) j, rfl, rfl, by omega, by omega, h6, happ _ _ _ (k5.keep e6 (by omega)), by unfold partP; rw [if_neg h92]⟩)⟩
  clear h3y h3n k3 E3 ht t
  rintro d3 v t w4 ⟨E4, hst⟩
  refine drw_in fun w5 q5 e5 => ?_
  have E5 := E4.trans (Ext.mono e5 fun _ _ h => h.elim)
  have hS5 : ∀ {i : Nat} {bd : Int}, Sd w4 b s i bd g a ln c → Sd w5 b s i bd g a ln c := fun h => Blk.keep h e5 fun h => h
  have hK5 : ∀ {l : List Value}, Blk w4.heap kb 4 l → Blk w5.heap kb 4 l := fun h => h.keep e5 fun h => h
  rcases hst with ⟨i, e, rfl, h4, hb4⟩ | ⟨j1, r, rfl, hj1, hj1', h4, k4, hp⟩ | ⟨j1, r, u, rfl, rfl, hj1, hj1', h4, k4, hp⟩
  · exact ⟨fun _ => hnbad (hS5 h4) hb4 E5, fun g => (by cases g)⟩
  · exact ⟨fun _ => hnext hj1 hj1' (hS5 h4) (hK5 k4) (by rw [← hC]; exact (clsP_many (by omega) hne hp).symm) E5, fun g => (by cases g)⟩
  have h5 := hS5 h4
  have k5 := hK5 k4
  have hu := partP_one hp
  have hone := clsP_one (rs := rs) (by omega : j < (L s).length) hne hp
  rw [hC] at hone
  have hgo : (s.size ≤ j1 + 1 ∨ at_ (L s) j1 ≠ 45 ∨ at_ (L s) (j1 + 1) = 93) → clsP (L s) j1 false (rs ++ r) = C := fun hx => by
    rw [← hC]; exact (clsP_go (by omega) hne hp (by omega)).symm
  refine ⟨fun g => (by cases g), fun _ => ⟨j1, h5.cell 1, s, h5.cell 0, ?_⟩⟩
  rw [w64 (n := (j1 : Int) + 1) (by omega)]
  refine ⟨fun g1 => ?_, fun g1 => ?_⟩
  · exact hnext hj1 hj1' h5 k5 (hgo (.inl (by have := of_decide_eq_true g1; omega))) E5
  have g1' : j1 + 1 < s.size := by have := of_decide_eq_false g1; omega
  refine ⟨-1, h5.cell 2, fun g2 => absurd (of_decide_eq_true g2) (by decide), fun _ => ⟨s, h5.cell 0, j1, h5.cell 1, ⟨by omega, by omega⟩, ?_⟩⟩
  rw [byteI s (j := j1) rfl]
  refine ⟨fun g2 => ?_, fun g2 => ?_⟩
  · have g2' : at_ (L s) j1 ≠ 45 := by simp only [bne_iff_ne, ne_eq] at g2; omega
    exact hnext hj1 hj1' h5 k5 (hgo (.inr (.inl g2'))) E5
  have g2' : at_ (L s) j1 = 45 := by
    have : (at_ (L s) j1 : Int) = 45 := by simpa using g2
    omega
  refine ⟨s, h5.cell 0, j1, h5.cell 1, ⟨by rw [w64 (by omega)]; omega, by rw [w64 (by omega)]; omega⟩, ?_⟩
  rw [w64 (n := (j1 : Int) + 1) (by omega), byteI s (j := j1 + 1) (by omega)]
  refine ⟨fun g3 => ?_, fun g3 => ?_⟩
  · have g3' : at_ (L s) (j1 + 1) = 93 := by
      have : (at_ (L s) (j1 + 1) : Int) = 93 := by simpa using g3
      omega
    exact hnext hj1 hj1' h5 k5 (hgo (.inr (.inr g3'))) E5
  have g3' : at_ (L s) (j1 + 1) ≠ 93 := by
    have : ¬ (at_ (L s) (j1 + 1) : Int) = 93 := by simpa using g3
    omega
  rw [if_neg (by omega), if_neg (by omega), if_neg (by omega), if_neg g3'] at hone
  clear hgo
  refine ⟨j1, h5.cell 1, h5.mv (j := j1 + 1) (by rw [w64 (by omega)]; omega) fun w6 s6 h6 e6 => ⟨_, h6.cell 1, drw_in fun w7 q7 e7 => ?_⟩⟩
  have h7 : Sd w7 b s (j1 + 1) (-1) g a ln c := Blk.keep h6 e7 fun h => h
  have k7 := (k5.keep e6 (by omega)).keep e7 fun h => h
  have E7 := (E5.trans e6).trans (Ext.mono e7 fun _ _ h => h.elim)
  refine ⟨s, h7.cell 0, _, h7.cell 1, ⟨by omega, by omega⟩, ?_⟩
  rw [byteI s (j := j1 + 1) rfl]
  have hc2 := at_lt (L s) (j1 + 1)
  have hw2 : IntKind.wrap .i64 (at_ (L s) (j1 + 1) : Int) = (at_ (L s) (j1 + 1) : Int) := w64 (by omega)
  -- it goes wrong at the range's second part
  have hfail : ∀ {w' : World} {i' : Nat}, Sd w' b s i' (-1) g a ln c → Ext (fun x => x = b) w w' → C = .bad (j1 + 1) → stW b (0 + 1) [.int .i64 ((j1 + 1 : Nat) : Int)] (fun (w120 : World) => Cl Try.prog 79 ([.pointer (some ⟨b, 0, none⟩)]) w120 (retG (fun (r122 : Value) (w121 : World) => r122 = .tuple #[] ∧ R (.returned (.slice none 0 0)) w121) (fun c w => R (.panicked c) w))) w' := by
    intro w' i' h' E' hb'
    refine h'.mv (j := j1 + 1) rfl fun w8 s8 h8 e8 => ?_
    refine (sfail_ok h8).use fun e w9 he => ?_
    obtain ⟨rfl, h9, e9⟩ := he
    refine ⟨rfl, ?_⟩
    subst hR hb'
    exact ⟨(E'.trans e8).trans e9, rfl, _, h9⟩
  -- the range is put in
  have hput : ∀ {w' : World} {j2 hi : Nat}, Sd w' b s j2 (-1) g a ln c → j < j2 → j2 ≤ s.size → Blk w'.heap kb 4 (b256 (inR (rs ++ r))) → Ext (fun x => x = b) w w' → hi < 256 → clsP (L s) j2 false (rs ++ r ++ [(u, hi)]) = C → ∀ {hi' : Int}, hi' = hi → Cl Try.prog 165 ([.slice (some ⟨kb, 0, none⟩) 256 256, .int .i64 ((u : Nat) : Int), .int .i64 hi']) w' (retG (fun (r128 : Value) (w127 : World) => r128 = .tuple #[] ∧ (∃ (m129 : Nat), m129 < s.size - j + 1 ∧ ClsI w b s g a ln c kb C m129 (n + 1) w127)) (fun c w => R (.panicked c) w)) := by
    intro w' j2 hi h' hj2 hj2' k' E' hhi hC2 hi' hhi'
    refine (srange_ok k' u hi hhi rfl hhi').use fun e w8 he => ?_
    obtain ⟨rfl, k8, e8⟩ := he
    exact ⟨rfl, hnext hj2 hj2' (Blk.keep h' e8 (by omega)) (happ _ _ _ k8) hC2 (E'.step e8 fun i hi h => by omega)⟩
  by_cases h92 : at_ (L s) (j1 + 1) = 92
  · have hpp : partP (L s) (j1 + 1) = escP (L s) (j1 + 2) := by unfold partP; rw [if_pos h92]
    refine (is_yes h7 g1' (by omega) h92 rfl).use fun e w8 he => ?_
    obtain ⟨rfl, h8, e8⟩ := he
    refine ⟨true, rfl, fun _ => ?_, fun g => (by cases g)⟩
    obtain ⟨w9, hr9, s9, k9, e9⟩ := make256 w8
    refine ⟨_, _, _, w9, hr9, ?_⟩
    have h9 : Sd w9 b s (j1 + 2) (-1) g a ln c := Blk.keep h8 e9 fun h => h
    have k9' := (k7.keep e8 (by omega)).keep e9 fun h => h
    have E9 := (E7.trans e8).trans (Ext.mono e9 fun _ _ h => h.elim)
    have hz8 := (E7.trans e8).size
    have hkb8 := (k7.keep e8 (by omega)).lt
    refine (sescape_ok h9 hs (by omega) k9 (by omega)).use fun e w10 he => ?_
    obtain ⟨e10, he⟩ := he
    have E10 : Ext (fun x => x = b) w w10 := E9.step e10 fun i hi h => by omega
    have k10 := k9'.keep e10 (by omega)
    cases hp2 : escP (L s) (j1 + 2) with
    | bad n4 =>
      rw [hp2] at he
      rw [hpp, hp2] at hone
      obtain ⟨rfl, ⟨i, h10⟩, _⟩ := he
      refine ⟨_, _, rfl, n4, h10.cell 2, fun g => ?_, fun _ => ⟨n4, h10.cell 2, fun g => ?_, fun _ => hnbad h10 hone E10⟩⟩
      · have := of_decide_eq_true g; omega
      · have := of_decide_eq_true g; omega
    | ok y =>
      obtain ⟨j2, r2, o⟩ := y
      have hgt := partP_gt (by omega) (hpp.trans hp2)
      rw [hp2] at he
      rw [hpp, hp2] at hone
      cases o with
      | none =>
        obtain ⟨rfl, h10, _⟩ := he
        refine ⟨_, _, rfl, -1, h10.cell 2, fun _ => ⟨fun _ => hfail h10 E10 hone, fun g => by simp at g⟩, fun g => absurd (of_decide_eq_false g) (by decide)⟩
      | some hi =>
        have hhi := (partP_one (hpp.trans hp2)).2
        simp only [] at hone
        obtain ⟨rfl, h10, _⟩ := he
        refine ⟨_, _, rfl, -1, h10.cell 2, fun _ => ⟨fun g => by simp at g, fun _ => ⟨fun g4 => ?_, fun g4 => ⟨-1, h10.cell 2, fun _ => ?_, fun g => absurd (of_decide_eq_false g) (by decide)⟩⟩⟩, fun g => absurd (of_decide_eq_false g) (by decide)⟩
        · have := of_decide_eq_true g4
          rw [if_pos (by omega)] at hone
          exact hfail h10 E10 hone
        · have := of_decide_eq_false g4
          rw [if_neg (by omega)] at hone
          exact hput h10 (by omega) (by omega) k10 E10 hhi hone.symm rfl
  · have hpp : partP (L s) (j1 + 1) = .ok (j1 + 2, [(at_ (L s) (j1 + 1), at_ (L s) (j1 + 1))], some (at_ (L s) (j1 + 1))) := by unfold partP; rw [if_neg h92]
    rw [hpp] at hone
    simp only [] at hone
    refine (is_no h7 (ch := 92) (by omega) rfl).ret fun w8 b8 => ⟨false, rfl, fun g => (by cases g), fun _ => ?_⟩
    have h8 := h7.below b8
    refine ⟨_, h8.cell 1, h8.mv (j := j1 + 2) (by rw [w64 (by omega)]; omega) fun w9 s9 h9 e9 => ?_⟩
    have E9 := (E7.trans (Ext.of_below b8)).trans e9
    have k9 := (k7.below b8).keep e9 (by omega)
    rw [hw2]
    refine ⟨-1, h9.cell 2, fun _ => ⟨fun g => by simp at g, fun _ => ⟨fun g4 => ?_, fun g4 => ⟨-1, h9.cell 2, fun _ => ?_, fun g => absurd (of_decide_eq_false g) (by decide)⟩⟩⟩, fun g => absurd (of_decide_eq_false g) (by decide)⟩
    · have := of_decide_eq_true g4
      rw [if_pos (by omega)] at hone
      exact hfail h9 E9 hone
    · have := of_decide_eq_false g4
      rw [if_neg (by omega)] at hone
      exact hput h9 (by omega) (by omega) k9 E9 hc2 hone.symm rfl
theorem sclass_ok {w : World} {b : Nat} {s : ByteArray} {p g : Nat} {a : Option Addr} {ln c : Nat} (h : Sd w b s p (-1) g a ln c) (hs : s.size ≤ 120) (hp : p ≤ s.size) :
    Cl Try.prog 164 [.pointer (some ⟨b, 0, none⟩)] w (ClsS w b s g a ln c (clsFin (decide (at_ (L s) p = 94)) (clsP (L s) (if at_ (L s) p = 94 then p + 1 else p) true []))) := by
  apply vc164
  unfold V164
  have hsz := size_L s
  have hbl := h.lt
  obtain ⟨w4, hr4, s4, k4, e4⟩ := make256 w
  refine ⟨_, _, _, w4, hr4, ?_⟩
  have h4 : Sd w4 b s p (-1) g a ln c := Blk.keep h e4 fun h => h
  have E4 : Ext (fun x => x = b) w w4 := Ext.mono e4 fun _ _ h => h.elim
  by_cases h94 : at_ (L s) p = 94
  · have hlt : p < s.size := by
      by_cases hlt : p < s.size
      · exact hlt
      · unfold at_ at h94
        rw [List.getD_eq_getElem?_getD, List.getElem?_eq_none (by omega)] at h94
        exact absurd h94 (by decide)
    rw [if_pos h94]
    refine (is_yes h4 hlt (by omega) h94 rfl).use fun e w6 he => ?_
    obtain ⟨rfl, h6, e6⟩ := he
    exact ⟨true, rfl, sclass_loop hbl (Nat.le_refl _) hs (E4.trans e6) h6 (by omega) (k4.keep e6 (by omega)) rfl (by rw [decide_eq_true h94])⟩
  · rw [if_neg h94]
    refine (is_no h4 (ch := 94) (by omega) rfl).ret fun w6 b6 => ?_
    exact ⟨false, rfl, sclass_loop hbl (Nat.le_refl _) hs (E4.trans (Ext.of_below b6)) (h4.below b6) (by omega) (k4.below b6) rfl (by rw [decide_eq_false h94])⟩
end Go.Proofs.Ytngbiaeliphdjaa.V
/- The reference's reader: counts. No statement of the seat is proved here. -/
namespace Go.Vc
set_option linter.unusedVariables false
theorem digP_big (l : Bytes) : ∀ (k i n : Nat), k = l.length - i → 50 < n → 50 < (digP l i n).2 := by
  intro k
  induction k using Nat.strongRecOn with
  | _ k ih =>
    intro i n hk hn
    rw [digP]
    split
    · refine ih _ (by omega) _ _ rfl ?_
      show 50 < min _ _
      omega
    · exact hn
/-- Is there a digit? -/
def isDig (l : Bytes) (i : Nat) : Prop := i < l.length ∧ 48 ≤ at_ l i ∧ at_ l i ≤ 57
theorem numP_no {l : Bytes} {i : Nat} (hi : i ≤ l.length) (h : ¬ isDig l i) : numP l i = .bad i := by
  unfold isDig at h
  unfold numP
  split
  · congr 1; omega
  split
  · rfl
  · omega
end Go.Vc
namespace Go.Proofs.Ytngbiaeliphdjaa.V
open Go.Vc Go.Proofs Go.RowKit
set_option linter.unusedVariables false
set_option linter.unusedSimpArgs false
/-- What number leaves. -/
def NumS (w : World) (b : Nat) (s : ByteArray) (i g : Nat) (a : Option Addr) (ln c : Nat) : Ending → World → Prop := fun e w' => Ext (fun x => x = b) w w' ∧
  ((¬ isDig (L s) i ∧ e = .returned (.int .i64 (-1)) ∧ Sd w' b s i (-1) g a ln c) ∨
   (isDig (L s) i ∧ numP (L s) i = .bad i ∧ e = .returned (.int .i64 0) ∧ ∃ i', Sd w' b s i' (i : Int) g a ln c) ∨
   (∃ j n, isDig (L s) i ∧ numP (L s) i = .ok (j, n) ∧ n ≤ 50 ∧ i < j ∧ j ≤ s.size ∧ e = .returned (.int .i64 (n : Int)) ∧ Sd w' b s j (-1) g a ln c))
theorem snumber_ok {w : World} {b : Nat} {s : ByteArray} {i g : Nat} {a : Option Addr} {ln c : Nat} (h : Sd w b s i (-1) g a ln c) (hs : s.size ≤ 120) (hi : i ≤ s.size) :
    Cl Try.prog 168 [.pointer (some ⟨b, 0, none⟩)] w (NumS w b s i g a ln c) := by
  apply vc168
  unfold V168
  have hsz := size_L s
  refine ⟨i, h.cell 1, fun k n w' => ∃ j v : Nat, n = (v : Int) ∧ v ≤ 50 ∧ i ≤ j ∧ j ≤ s.size ∧ k = s.size - j ∧ digP (L s) j v = digP (L s) i 0 ∧ Sd w' b s j (-1) g a ln c ∧ Ext (fun x => x = b) w w' ∧ (i < j → isDig (L s) i), ⟨_, i, 0, rfl, by omega, Nat.le_refl _, hi, rfl, rfl, h, Ext.refl _ _, fun h => absurd h (Nat.lt_irrefl _)⟩, ?_⟩
  rintro k d n w1 ⟨j, v, rfl, hv, hij, hj, rfl, hd, h1, E1, hdg⟩
  refine drw_in fun w2 q2 e2 => ?_
  have h2 : Sd w2 b s j (-1) g a ln c := Blk.keep h1 e2 fun h => h
  have E2 := E1.trans (Ext.mono e2 fun _ _ h => h.elim)
  refine (more_ok h2).ret fun w3 b3 => ⟨_, rfl, ?_⟩
  have h3 := h2.below b3
  have E3 := E2.trans (Ext.of_below b3)
  have hout : ¬ isDig (L s) j → ∃ (n27 : Int), cellH w3.heap b (0 + 1) = some (.int .i64 n27) ∧ ((((n27 : Int) == (i : Int)) = true → NumS w b s i g a ln c (.returned (.int .i64 (-1))) w3) ∧ (((n27 : Int) == (i : Int)) = false → NumS w b s i g a ln c (.returned (.int .i64 (v : Int))) w3)) := by
    intro hnd
    have hdj : digP (L s) j v = (j, v) := by unfold isDig at hnd; rw [digP, dif_neg hnd]
    refine ⟨j, h3.cell 1, fun g1 => ?_, fun g1 => ?_⟩
    · have : j = i := by have : (j : Int) = i := by simpa using g1
                         omega
      subst this
      exact ⟨E3, .inl ⟨hnd, rfl, h3⟩⟩
    · have : j ≠ i := by have : ¬ (j : Int) = i := by simpa using g1
                         omega
      have hdi := hdg (by omega)
      refine ⟨E3, .inr (.inr ⟨j, v, hdi, ?_, hv, by omega, hj, rfl, h3⟩)⟩
      unfold numP
      unfold isDig at hdi
      rw [if_neg (by omega), if_neg (by omega), ← hd, hdj, if_neg (by show ¬ 50 < v; omega)]
  refine ⟨fun g1 => ?_, fun g1 => hout ?_⟩
  · have g1' := of_decide_eq_true g1
    refine ⟨s, h3.cell 0, j, h3.cell 1, ⟨by omega, by omega⟩, ?_⟩
    rw [byteI s (j := j) rfl]
    refine ⟨fun g2 => ⟨s, h3.cell 0, j, h3.cell 1, ⟨by omega, by omega⟩, ?_⟩, fun g2 => hout ?_⟩
    · have g2' := of_decide_eq_true g2
      rw [byteI s (j := j) rfl]
      refine ⟨fun g3 => drw_in fun w4 q4 e4 => ?_, fun g3 => hout ?_⟩
      · have g3' := of_decide_eq_true g3
        have h4 : Sd w4 b s j (-1) g a ln c := Blk.keep h3 e4 fun h => h
        have E4 := E3.trans (Ext.mono e4 fun _ _ h => h.elim)
        have hdj : isDig (L s) j := ⟨by omega, by omega, by omega⟩
        have hdi : isDig (L s) i := by
          rcases Nat.lt_or_ge i j with h | h
          · exact hdg h
          · have : j = i := by omega
            rw [← this]; exact hdj
        refine ⟨s, h4.cell 0, j, h4.cell 1, ⟨by omega, by omega⟩, ?_⟩
        rw [byteI s (j := j) rfl]
        have hw : IntKind.wrap .i64 (IntKind.wrap .i64 ((v : Int) * 10) + IntKind.wrap .i64 (IntKind.wrap .u8 ((at_ (L s) j : Int) - 48))) = ((10 * v + (at_ (L s) j - 48) : Nat) : Int) := by
          rw [w8, w64 (n := (v : Int) * 10) (by omega), w64 (n := ((at_ (L s) j : Int) - 48) % 256) (by omega), w64 (by omega)]; omega
        rw [hw]
        have hst : digP (L s) j v = digP (L s) (j + 1) (Nat.min 1000 (10 * v + (at_ (L s) j - 48))) := by
          conv => lhs; rw [digP]
          unfold isDig at hdj; rw [dif_pos hdj]
        have hmin : Nat.min 1000 (10 * v + (at_ (L s) j - 48)) = 10 * v + (at_ (L s) j - 48) := by
          show min _ _ = _
          omega
        rw [hmin] at hst
        refine ⟨fun g4 => ?_, fun g4 => ?_⟩
        · have g4' := of_decide_eq_true g4
          refine h4.mv (j := i) rfl fun w5 s5 h5 e5 => ?_
          refine (sfail_ok h5).use fun e w6 he => ?_
          obtain ⟨rfl, h6, e6⟩ := he
          refine ⟨rfl, (E4.trans e5).trans e6, .inr (.inl ⟨hdi, ?_, rfl, _, h6⟩)⟩
          unfold numP
          have hdi' := hdi
          unfold isDig at hdi'
          rw [if_neg (by omega), if_neg (by omega), ← hd, hst, if_pos (digP_big _ _ _ _ rfl (by omega))]
        · have g4' := of_decide_eq_false g4
          refine ⟨j, h4.cell 1, h4.mv (j := j + 1) (by rw [w64 (by omega)]; omega) fun w5 s5 h5 e5 => ?_⟩
          exact ⟨s.size - (j + 1), by omega, j + 1, 10 * v + (at_ (L s) j - 48), rfl, by omega, by omega, by omega, rfl, by rw [← hd, hst], h5, E4.trans e5, fun _ => hdi⟩
      · have g3' := of_decide_eq_false g3
        unfold isDig; omega
    · have g2' := of_decide_eq_false g2
      unfold isDig; omega
  · have g1' := of_decide_eq_false g1
    unfold isDig; omega
/-- What counts leaves. -/
def CntS (w : World) (b : Nat) (s : ByteArray) (g : Nat) (a : Option Addr) (ln c : Nat) (r : Pr (Nat × Int × Int)) : Ending → World → Prop := fun e w' => Ext (fun x => x = b) w w' ∧ match r with
  | .bad n => (∃ x y, e = .returned (.tuple #[.int .i64 x, .int .i64 y])) ∧ ∃ i, Sd w' b s i (n : Int) g a ln c
  | .ok (j, lo, hi) => e = .returned (.tuple #[.int .i64 lo, .int .i64 hi]) ∧ Sd w' b s j (-1) g a ln c
theorem scounts_ok {w : World} {b : Nat} {s : ByteArray} {i g : Nat} {a : Option Addr} {ln c : Nat} (h : Sd w b s i (-1) g a ln c) (hs : s.size ≤ 120) (hi : i ≤ s.size) :
    Cl Try.prog 150 [.pointer (some ⟨b, 0, none⟩)] w (CntS w b s g a ln c (braP (L s) i)) := by
  apply vc150
  unfold V150
  have hsz := size_L s
  generalize hC : braP (L s) i = C
  unfold braP at hC
  refine (snumber_ok h hs hi).use fun e w1 he => ?_
  obtain ⟨E1, he⟩ := he
  -- the end
  have hfin : ∀ {lo n : Int} {w' : World}, Ext (fun x => x = b) w w' → ((∃ j, j ≤ s.size ∧ Sd w' b s j (-1) g a ln c ∧ C = (if j < s.size ∧ at_ (L s) j = 125 then .ok (j + 1, lo, n) else .bad j)) ∨ (∃ i e, Sd w' b s i ((e : Nat) : Int) g a ln c ∧ C = .bad e)) →
      Cl Try.prog 112 ([.pointer (some ⟨b, 0, none⟩), .int .u8 125]) w' (retG (fun (r25 : Value) (w24 : World) => ∃ (t23 : Bool), r25 = .bool t23 ∧ (((!t23) = true → Cl Try.prog 79 ([.pointer (some ⟨b, 0, none⟩)]) w24 (retG (fun (r27 : Value) (w26 : World) => r27 = .tuple #[] ∧ CntS w b s g a ln c C (.returned (.tuple #[.int .i64 lo, .int .i64 n])) w26) (fun c1 w' => CntS w b s g a ln c C (.panicked c1) w'))) ∧ ((!t23) = false → CntS w b s g a ln c C (.returned (.tuple #[.int .i64 lo, .int .i64 n])) w24))) (fun c1 w' => CntS w b s g a ln c C (.panicked c1) w')) := by
    intro lo n w' E' hst
    rcases hst with ⟨j, hj, h', hC'⟩ | ⟨i', e', h', hC'⟩
    · by_cases hy : j < s.size ∧ at_ (L s) j = 125
      · rw [if_pos hy] at hC'
        refine (is_yes h' hy.1 (by omega) hy.2 rfl).use fun e w2 he => ?_
        obtain ⟨rfl, h2, e2⟩ := he
        refine ⟨true, rfl, fun g => by simp at g, fun _ => ?_⟩
        subst hC'
        exact ⟨E'.trans e2, rfl, h2⟩
      · rw [if_neg hy] at hC'
        refine (is_no h' (ch := 125) hy rfl).ret fun w2 b2 => ⟨false, rfl, fun _ => ?_, fun g => by simp at g⟩
        refine (sfail_ok (h'.below b2)).use fun e w3 he => ?_
        obtain ⟨rfl, h3, e3⟩ := he
        refine ⟨rfl, ?_⟩
        subst hC'
        exact ⟨(E'.trans (Ext.of_below b2)).trans e3, ⟨_, _, rfl⟩, _, h3⟩
    · refine (is_bad h' 125).ret fun w2 b2 => ⟨false, rfl, fun _ => ?_, fun g => by simp at g⟩
      refine (sfail_bad (h'.below b2)).ret fun w3 b3 => ⟨rfl, ?_⟩
      subst hC'
      exact ⟨(E'.trans (Ext.of_below b2)).trans (Ext.of_below b3), ⟨_, _, rfl⟩, _, (h'.below b2).below b3⟩
  rcases he with ⟨hnd, rfl, h1⟩ | ⟨hd, hnum, rfl, i1, h1⟩ | ⟨j, lo, hd, hnum, hlo, hij, hj, rfl, h1⟩
  · rw [numP_no (by omega) hnd] at hC
    refine ⟨-1, rfl, fun _ => ?_, fun g => absurd (of_decide_eq_false g) (by decide)⟩
    refine (sfail_ok h1).use fun e w2 he => ?_
    obtain ⟨rfl, h2, e2⟩ := he
    refine ⟨rfl, ?_⟩
    subst hC
    exact ⟨E1.trans e2, ⟨_, _, rfl⟩, _, h2⟩
  · rw [hnum] at hC
    refine ⟨0, rfl, fun g => absurd (of_decide_eq_true g) (by decide), fun _ => ?_⟩
    refine (is_bad h1 44).ret fun w2 b2 => ⟨false, rfl, ?_⟩
    refine ⟨fun n w' => Ext (fun x => x = b) w w' ∧ ∃ i1, Sd w' b s i1 (i : Int) g a ln c, ⟨fun g => (by cases g), fun _ => ⟨E1.trans (Ext.of_below b2), _, h1.below b2⟩⟩, ?_⟩
    rintro d n w3 ⟨E3, i3, h3⟩
    exact hfin E3 (.inr ⟨i3, i, h3, hC.symm⟩)
  · rw [hnum] at hC
    simp only [] at hC
    refine ⟨lo, rfl, fun g => ?_, fun _ => ?_⟩
    · have := of_decide_eq_true g; omega
    by_cases hcm : j < s.size ∧ at_ (L s) j = 44
    · rw [if_neg (by omega), if_pos hcm.2] at hC
      refine (is_yes h1 hcm.1 (by omega) hcm.2 rfl).use fun e w2 he => ?_
      obtain ⟨rfl, h2, e2⟩ := he
      have E2 := E1.trans e2
      refine ⟨true, rfl, fun n w' => Ext (fun x => x = b) w w' ∧ ((∃ j, j ≤ s.size ∧ Sd w' b s j (-1) g a ln c ∧ C = (if j < s.size ∧ at_ (L s) j = 125 then .ok (j + 1, (lo : Int), n) else .bad j)) ∨ (∃ i e, Sd w' b s i ((e : Nat) : Int) g a ln c ∧ C = .bad e)), ⟨fun _ => ⟨_, h2.cell 1, ?_⟩, fun g => (by cases g)⟩, fun d n w3 h3 => hfin h3.1 h3.2⟩
      refine (snumber_ok h2 hs (by omega)).use fun e w3 he => ?_
      obtain ⟨E3', he⟩ := he
      have E3 := E2.trans E3'
      rcases he with ⟨hnd, rfl, h3⟩ | ⟨hd2, hnum2, rfl, i3, h3⟩ | ⟨k, hi2, hd2, hnum2, hlo2, hij2, hj2, rfl, h3⟩
      · refine ⟨-1, rfl, -1, h3.cell 2, fun _ => ⟨fun g => absurd (of_decide_eq_true g) (by decide), fun _ => ⟨E3, .inl ⟨j + 1, by omega, h3, ?_⟩⟩⟩, fun g => absurd (of_decide_eq_false g) (by decide)⟩
        rw [← hC]
        by_cases hl : (L s).length ≤ j + 1
        · rw [if_pos hl, if_neg (by omega)]; congr 1; omega
        · rw [if_neg hl]
          by_cases h125 : at_ (L s) (j + 1) = 125
          · rw [if_pos h125, if_pos ⟨by omega, h125⟩]
          · rw [if_neg h125, if_neg (by omega), numP_no (by omega) hnd]
      · have h125 : at_ (L s) (j + 1) ≠ 125 := by unfold isDig at hd2; omega
        refine ⟨0, rfl, _, h3.cell 2, fun g => ?_, fun _ => ⟨E3, .inr ⟨i3, j + 1, h3, ?_⟩⟩⟩
        · have := of_decide_eq_true g; omega
        · unfold isDig at hd2
          rw [← hC, if_neg (by omega), if_neg h125, hnum2]
      · have h125 : at_ (L s) (j + 1) ≠ 125 := by unfold isDig at hd2; omega
        have hC2 := hC
        unfold isDig at hd2
        rw [if_neg (by omega), if_neg h125, hnum2] at hC2
        simp only [] at hC2
        refine ⟨hi2, rfl, -1, h3.cell 2, fun _ => ⟨fun _ => ⟨fun g => ?_, fun g => ?_⟩, fun g => ?_⟩, fun g => absurd (of_decide_eq_false g) (by decide)⟩
        · have g' := of_decide_eq_true g
          rw [if_pos (by omega)] at hC2
          refine h3.mv (j := j + 1) rfl fun w4 s4 h4 e4 => ?_
          refine (sfail_ok h4).use fun e w5 he => ?_
          obtain ⟨rfl, h5, e5⟩ := he
          exact ⟨rfl, (E3.trans e4).trans e5, .inr ⟨_, j + 1, h5, hC2.symm⟩⟩
        · have g' := of_decide_eq_false g
          rw [if_neg (by omega)] at hC2
          refine ⟨E3, .inl ⟨k, hj2, h3, ?_⟩⟩
          rw [← hC2]
          by_cases hl : (L s).length ≤ k
          · rw [if_pos hl, if_neg (by omega)]; congr 1; omega
          · rw [if_neg hl]
            by_cases h125' : at_ (L s) k = 125
            · rw [if_pos h125', if_pos ⟨by omega, h125'⟩]
            · rw [if_neg h125', if_neg (by omega)]
        · have := of_decide_eq_false g; omega
    · refine (is_no h1 (ch := 44) hcm rfl).ret fun w2 b2 => ?_
      refine ⟨false, rfl, fun n w' => Ext (fun x => x = b) w w' ∧ n = (lo : Int) ∧ Sd w' b s j (-1) g a ln c, ⟨fun g => (by cases g), fun _ => ⟨E1.trans (Ext.of_below b2), rfl, h1.below b2⟩⟩, ?_⟩
      rintro d n w3 ⟨E3, rfl, h3⟩
      refine hfin E3 (.inl ⟨j, hj, h3, ?_⟩)
      rw [← hC]
      by_cases hl : (L s).length ≤ j
      · rw [if_pos hl, if_neg (by omega)]; congr 1; omega
      · rw [if_neg hl, if_neg (by omega)]
        by_cases h125' : at_ (L s) j = 125
        · rw [if_pos h125', if_pos ⟨by omega, h125'⟩]
        · rw [if_neg h125', if_neg (by omega)]
end Go.Proofs.Ytngbiaeliphdjaa.V
/- The reference's reader: pieces are put. No statement of the seat is proved here. -/
namespace Go.Proofs.Ytngbiaeliphdjaa.V
open Go.Vc Go.Proofs Go.RowKit
set_option linter.unusedVariables false
set_option linter.unusedSimpArgs false
/-- The reference's reader, nothing being wrong yet. -/
structure SSt (N : Nat) (w : World) (b : Nat) (s : ByteArray) (i g : Nat) (a : Option Addr) (ln c : Nat) (rs : List Raw) (ps : List Pc) : Prop where
  rd : Sd w b s i (-1) g a ln c
  pcs : Pcs N w a ln c rs ps
  lt : b < N
  hN : N ≤ w.heap.size
theorem SSt.notb {N : Nat} {w : World} {b : Nat} {s : ByteArray} {i g : Nat} {a : Option Addr} {ln c : Nat} {rs : List Raw} {ps : List Pc} (h : SSt N w b s i g a ln c rs ps) : b ∉ blks a rs := fun hb => by have := h.pcs.low b hb; have := h.lt; omega
theorem SSt.below {N : Nat} {w w' : World} {b : Nat} {s : ByteArray} {i g : Nat} {a : Option Addr} {ln c : Nat} {rs : List Raw} {ps : List Pc} (h : SSt N w b s i g a ln c rs ps) (k : Below w.heap.size w w') : SSt N w' b s i g a ln c rs ps :=
  ⟨h.rd.below k, h.pcs.below k, h.lt, Nat.le_trans h.hN k.size⟩
/-- The reader's own block alone has changed. -/
theorem SSt.upd {N : Nat} {w w' : World} {b : Nat} {s : ByteArray} {i g i' g' : Nat} {a : Option Addr} {ln c : Nat} {rs : List Raw} {ps : List Pc} (h : SSt N w b s i g a ln c rs ps) (e : Ext (fun k => k = b) w w') (hr : Sd w' b s i' (-1) g' a ln c) : SSt N w' b s i' g' a ln c rs ps :=
  ⟨hr, h.pcs.keep e fun k hk hb => by subst hb; exact h.notb hk, h.lt, Nat.le_trans h.hN e.size⟩
theorem SSt.other {S : Nat → Prop} {N : Nat} {w w' : World} {b : Nat} {s : ByteArray} {i g : Nat} {a : Option Addr} {ln c : Nat} {rs : List Raw} {ps : List Pc} (h : SSt N w b s i g a ln c rs ps) (e : Ext S w w') (hb : ¬ S b) (hs : ∀ k ∈ blks a rs, ¬ S k) : SSt N w' b s i g a ln c rs ps :=
  ⟨Blk.keep h.rd e hb, h.pcs.keep e hs, h.lt, Nat.le_trans h.hN e.size⟩

/-- What put leaves. -/
def SPutR (N : Nat) (w : World) (b : Nat) (s : ByteArray) (i g : Nat) (a : Option Addr) (ln : Nat) (rs : List Raw) (ps : List Pc) (r : Raw) (p : Pc) : Ending → World → Prop := fun e w' =>
  e = .returned (.int .i64 ln) ∧ ∃ a2 c2, SSt N w' b s i g a2 (ln + 1) c2 (rs ++ [r]) (ps ++ [p]) ∧ Ext (fun k => k = b ∨ k ∈ blks a rs) w w' ∧ ∀ k ∈ blks a2 (rs ++ [r]), k ∈ blks a rs ∨ k ∈ r.blocks ∨ w.heap.size ≤ k
theorem sadd_ok {N : Nat} {w : World} {b : Nat} {s : ByteArray} {i g : Nat} {a : Option Addr} {ln c : Nat} {rs : List Raw} {ps : List Pc} (h : SSt N w b s i g a ln c rs ps) {r : Raw} {p : Pc} (hr : RawOk w r p) (hb : r.blocks.Nodup) (hd : ∀ k ∈ r.blocks, k ∉ blks a rs ∧ N ≤ k) (hl : ln ≤ 1000) :
    Cl Try.prog 113 [.pointer (some ⟨b, 0, none⟩), .agg ⟨r.cells⟩] w (SPutR N w b s i g a ln rs ps r p) := by
  have hbl := h.rd.lt
  refine vc113 (n3 := r.kind) (a4 := r.sa) (l4 := r.sl) (c4 := r.sc) (n5 := r.min) (n6 := r.max) (t7 := r.lazy) (n8 := r.num) (a9 := r.ka) (l9 := r.kl) (c9 := r.kc) ?_
  unfold V113
  refine newC_in fun w1 s1 k1 e1 => ?_
  refine drw_in fun w2 q2 e2 => ?_
  have E2 : Below w.heap.size w w2 := Ext.to (Ext.to (Below.refl _ _) e1 fun _ h => h.elim) e2 fun _ h => h.elim
  have h2 := h.below E2
  have k2 : Blk w2.heap w.heap.size 111 r.cells := k1.keep e2 fun h => h
  have r2 : RawOk w2 r p := hr.keep (S := fun _ => False) (Ext.of_below E2) fun _ _ h => h
  refine ⟨a, ln, c, h2.rd.cell 4, _, k2.cell 0, _, _, _, k2.cell 1, _, k2.cell 2, _, k2.cell 3, _, k2.cell 4, _, k2.cell 5, _, _, _, k2.cell 6, ?_⟩
  obtain ⟨a2, c2, w3, p1, p2, p3, p4⟩ := Pcs_app h2.pcs h2.hN r2 hb hd hl
  refine ⟨?_, a2, ln + 1, c2, w3, p1, ?_⟩
  · exact (Blk.vnew h2.rd _).cell 4
  have hob : ∀ k, k ∈ ob a → k ∈ blks a rs := fun k hk => List.mem_append_left _ hk
  have hR3 : Sd w3 b s i (-1) g a ln c := Blk.keep h2.rd p3 fun hk => h2.notb (hob _ hk)
  refine stW_in hR3 (by show 0 + 4 + 1 ≤ 5; decide) fun w4 s4 k4 e4 => ?_
  have hR4 : Sd w4 b s i (-1) g a2 (ln + 1) c2 := k4
  have hz := E2.size
  have hz3 := p3.size
  have hblk : ∀ k ∈ blks a2 (rs ++ [r]), k ∈ blks a rs ∨ k ∈ r.blocks ∨ w2.heap.size ≤ k := by
    intro k hk
    simp only [blks, List.flatMap_append, List.mem_append, List.flatMap_cons, List.flatMap_nil, List.append_nil] at hk ⊢
    rcases hk with hk | hk | hk
    · rcases p4 with rfl | rfl
      · exact .inl (.inl hk)
      · right; right; rw [mem_ob] at hk; simp [blkOf] at hk; omega
    · exact .inl (.inr hk)
    · exact .inr (.inl hk)
  refine ⟨_, _, _, hR4.cell 4, ?_, a2, c2, ⟨hR4, p2.keep e4 fun k hk hkb => ?_, h.lt, by have := h.hN; omega⟩, ?_, ?_⟩
  · rw [show IntKind.wrap .i64 ((((ln + 1 : Nat) : Int)) - 1) = (ln : Int) from by rw [w64 (by omega)]; omega]
  · subst hkb
    rcases hblk k hk with h1 | h1 | h1
    · exact h.notb h1
    · have := (hd k h1).2; have := h.lt; omega
    · omega
  · exact ((Ext.of_below E2).trans (Ext.mono p3 fun k _ hk => .inr (hob k hk))).trans (Ext.mono e4 fun k _ hk => .inl hk)
  · intro k hk
    rcases hblk k hk with h1 | h1 | h1
    · exact .inl h1
    · exact .inr (.inl h1)
    · exact .inr (.inr (by omega))


/-- The reader, something being wrong. -/
def SBd (N : Nat) (w : World) (b : Nat) (s : ByteArray) (e : Nat) (a : Option Addr) (ln c : Nat) : Prop := (∃ i g, Sd w b s i (e : Int) g a ln c) ∧ (∃ xs, Row N w 111 7 a ln c xs) ∧ b < N
theorem SBd.below {N : Nat} {w w' : World} {b : Nat} {s : ByteArray} {e : Nat} {a : Option Addr} {ln c : Nat} (h : SBd N w b s e a ln c) (k : Below w.heap.size w w') : SBd N w' b s e a ln c := by
  obtain ⟨⟨i, g, h1⟩, ⟨xs, h2⟩, h3⟩ := h
  exact ⟨⟨i, g, h1.below k⟩, ⟨xs, h2.below k⟩, h3⟩
theorem SBd.other {S : Nat → Prop} {N : Nat} {w w' : World} {b : Nat} {s : ByteArray} {e : Nat} {a : Option Addr} {ln c : Nat} (h : SBd N w b s e a ln c) (k : Ext S w w') (hb : ¬ S b) (ha : ∀ x ∈ ob a, ¬ S x) : SBd N w' b s e a ln c := by
  obtain ⟨⟨i, g, h1⟩, ⟨xs, h2⟩, h3⟩ := h
  exact ⟨⟨i, g, Blk.keep h1 k hb⟩, ⟨xs, h2.1.keep k (fun x hx => ha x (mem_ob.2 hx)), h2.2.1, Nat.le_trans h2.2.2 k.size⟩, h3⟩
/-- It goes wrong. -/
theorem SSt.bad {N : Nat} {w w' : World} {b : Nat} {s : ByteArray} {i i' g e : Nat} {a : Option Addr} {ln c : Nat} {rs : List Raw} {ps : List Pc} (h : SSt N w b s i g a ln c rs ps) (hE : Ext (fun x => x = b) w w') (hd : Sd w' b s i' (e : Int) g a ln c) : SBd N w' b s e a ln c := by
  have hv : Vec w'.heap 111 7 a ln c (rawC rs) := h.pcs.row.keep hE fun x hx hxb => h.notb (by rw [← hxb]; exact List.mem_append_left _ (mem_ob.2 hx))
  exact ⟨⟨_, _, hd⟩, ⟨_, hv, fun x hx => h.pcs.low x (List.mem_append_left _ (mem_ob.2 hx)), Nat.le_trans h.hN hE.size⟩, h.lt⟩
theorem sadd_bad {N : Nat} {w : World} {b : Nat} {s : ByteArray} {e : Nat} {a : Option Addr} {ln c : Nat} (h : SBd N w b s e a ln c) (hl : ln ≤ 1000) (n1 : Int) (a2 : Option Addr) (l2 c2 : Nat) (n3 n4 : Int) (t5 : Bool) (n6 : Int) (a7 : Option Addr) (l7 c7 : Nat) :
    Cl Try.prog 113 [.pointer (some ⟨b, 0, none⟩), .agg #[.int .i64 n1, .slice a2 l2 c2, .int .i64 n3, .int .i64 n4, .bool t5, .int .i64 n6, .slice a7 l7 c7]] w (fun en w' => (∃ x, en = .returned (.int .i64 x)) ∧ ∃ a' c', SBd N w' b s e a' (ln + 1) c' ∧ (∀ k ∈ ob a', k ∈ ob a ∨ w.heap.size ≤ k) ∧ Ext (fun k => k = b ∨ k ∈ ob a) w w') := by
  obtain ⟨⟨i, g, h⟩, ⟨xs, hr⟩, hb⟩ := h
  have hbl := h.lt
  refine vc113 ?_
  unfold V113
  refine newC_in fun w1 s1 k1 e1 => ?_
  refine drw_in fun w2 q2 e2 => ?_
  have E2 : Below w.heap.size w w2 := Ext.to (Ext.to (Below.refl _ _) e1 fun _ h => h.elim) e2 fun _ h => h.elim
  have h2 := h.below E2
  have r2 := hr.below E2
  have k2 := k1.keep e2 fun h => h
  refine ⟨a, ln, c, h2.cell 4, _, k2.cell 0, _, _, _, k2.cell 1, _, k2.cell 2, _, k2.cell 3, _, k2.cell 4, _, k2.cell 5, _, _, _, k2.cell 6, ?_⟩
  have E1 : Ext (fun _ => False) w2 (newW w2 (.cells ⟨[.int .i64 n1, .slice a2 l2 c2, .int .i64 n3, .int .i64 n4, .bool t5, .int .i64 n6, .slice a7 l7 c7]⟩ 111)) := (Ext.refl _ w2).vnew _
  obtain ⟨a3, c3, w3, p1, p2, p3, p4⟩ := append_run (P := Try.prog) (T := 35) (T' := 35) (T'' := 35) elemPc.und elemPc.und elemPc.size elemPc.bytes (by rw [show zeroL Try.prog 111 = some _ from elemPc.zero.choose_spec.1]; simp)
    (by rw [show zeroL Try.prog 111 = some _ from elemPc.zero.choose_spec.1]; intro y hy; cases hy; exact elemPc.zero.choose_spec.2) (r2.1.keep E1 fun _ _ h => h) (a' := some ⟨w2.heap.size, 0, none⟩) (n := 1) (c' := 1) (ys := [.int .i64 n1, .slice a2 l2 c2, .int .i64 n3, .int .i64 n4, .bool t5, .int .i64 n6, .slice a7 l7 c7]) rfl rfl (.inr ⟨_, _, rfl, cellsAt_newW w2 _ _⟩) (fun h => by cases h) (by omega) (by omega)
  rw [size_newW] at p4
  have E3 : Ext (fun k => k ∈ ob a) w2 w3 := (Ext.mono E1 fun _ _ h => h.elim).trans (Ext.mono p3 fun k _ hk => mem_ob.2 hk)
  refine ⟨(Blk.vnew h2 _).cell 4, a3, ln + 1, c3, w3, p1, ?_⟩
  have hna : b ∉ ob a := fun hm => by have := hr.2.1 b (mem_ob.1 hm); omega
  have h3 : Sd w3 b s i (e : Int) g a ln c := Blk.keep h2 E3 hna
  refine stW_in h3 (by show 0 + 4 + 1 ≤ 5; decide) fun w4 s4 k4 e4 => ?_
  have h4 : Sd w4 b s i (e : Int) g a3 (ln + 1) c3 := k4
  have hz := E2.size
  have hz3 := E3.size
  have hN := hr.2.2
  have hnew : ∀ k, blkOf a3 = some k → blkOf a = some k ∨ w2.heap.size ≤ k := by
    intro k hk
    rcases p4 with rfl | rfl
    · exact .inl hk
    · simp only [blkOf, Option.some.injEq] at hk; exact .inr (by omega)
  have hlow : ∀ k, blkOf a3 = some k → N ≤ k := fun k hk => by
    rcases hnew k hk with h1 | h1
    · exact hr.2.1 k h1
    · omega
  refine ⟨_, _, _, h4.cell 4, ⟨_, rfl⟩, a3, c3, ⟨⟨i, g, h4⟩, ⟨_, p2.keep e4 fun k hk hkb => ?_, hlow, by omega⟩, hb⟩, fun k hk => ?_, ?_⟩
  · have := hlow k hk; omega
  · rcases hnew k (mem_ob.1 hk) with h1 | h1
    · exact .inl (mem_ob.2 h1)
    · exact .inr (by omega)
  · exact ((Ext.of_below E2).trans (Ext.mono E3 fun k _ hk => .inr hk)).trans (Ext.mono e4 fun k _ hk => .inl hk)

/-- What a reading function leaves; K bounds the pieces when something is wrong. -/
def ResS (N : Nat) (w : World) (b : Nat) (s : ByteArray) (B : List Nat) (K : Nat) (r : Pr (St × Int)) : Ending → World → Prop := fun e w' => match r with
  | .bad n => (∃ x, e = .returned (.int .i64 x)) ∧ (∃ a ln c, SBd N w' b s n a ln c ∧ ln ≤ K ∧ ∀ k ∈ ob a, k ∈ B ∨ w.heap.size ≤ k) ∧ Ext (fun k => k = b ∨ k ∈ B) w w'
  | .ok ((j, g, out), x) => e = .returned (.int .i64 x) ∧ ∃ a ln c rs, SSt N w' b s j g a ln c rs out ∧ Step b B w w' (blks a rs)
/-- A state on the way: right, or wrong. -/
def Mid (N : Nat) (w0 w : World) (b : Nat) (s : ByteArray) (B : List Nat) (K e : Nat) : Prop := Ext (fun k => k = b ∨ k ∈ B) w0 w ∧ ∃ a ln c, SBd N w b s e a ln c ∧ ln ≤ K ∧ ∀ k ∈ ob a, k ∈ B ∨ w0.heap.size ≤ k
theorem Mid.below {N : Nat} {w0 w w' : World} {b : Nat} {s : ByteArray} {B : List Nat} {K e : Nat} (h : Mid N w0 w b s B K e) (k : Below w.heap.size w w') : Mid N w0 w' b s B K e := by
  obtain ⟨h1, a, ln, c, h2, h3, h4⟩ := h
  exact ⟨h1.trans (Ext.of_below k), a, ln, c, h2.below k, h3, h4⟩
theorem Mid.mono {N : Nat} {w0 w : World} {b : Nat} {s : ByteArray} {B : List Nat} {K K' e : Nat} (h : Mid N w0 w b s B K e) (hk : K ≤ K') : Mid N w0 w b s B K' e := by
  obtain ⟨h1, a, ln, c, h2, h3, h4⟩ := h
  exact ⟨h1, a, ln, c, h2, by omega, h4⟩
theorem Mid.res {N : Nat} {w0 w : World} {b : Nat} {s : ByteArray} {B : List Nat} {K e : Nat} (h : Mid N w0 w b s B K e) {r : Pr (St × Int)} (hr : r = .bad e) (x : Int) : ResS N w0 b s B K r (.returned (.int .i64 x)) w := by
  subst hr
  exact ⟨⟨x, rfl⟩, h.2, h.1⟩
theorem Mid.of {N : Nat} {w0 w : World} {b : Nat} {s : ByteArray} {B : List Nat} {K n : Nat} {e : Ending} (h : ResS N w0 b s B K (.bad n) e w) : (∃ x, e = .returned (.int .i64 x)) ∧ Mid N w0 w b s B K n := ⟨h.1, h.2.2, h.2.1⟩
/-- Behind a step that was right. -/
theorem Mid.step {N : Nat} {w0 w1 w : World} {b : Nat} {s : ByteArray} {B B1 : List Nat} {K e : Nat} (st : Step b B w0 w1 B1) (h : Mid N w1 w b s B1 K e) : Mid N w0 w b s B K e := by
  obtain ⟨h1, a, ln, c, h2, h3, h4⟩ := h
  refine ⟨stepBad st h1, a, ln, c, h2, h3, fun k hk => ?_⟩
  rcases h4 k hk with h5 | h5
  · exact st.2 k h5
  · exact .inr (Nat.le_trans st.1.size h5)
theorem Mid.start {N : Nat} {w0 w : World} {b : Nat} {s : ByteArray} {i i' g e : Nat} {a : Option Addr} {ln c : Nat} {rs : List Raw} {ps : List Pc} {w1 : World} {B : List Nat} {K : Nat} (st : Step b B w0 w1 (blks a rs)) (h : SSt N w1 b s i g a ln c rs ps) (hE : Ext (fun x => x = b) w1 w) (hd : Sd w b s i' (e : Int) g a ln c) (hl : ln ≤ K) : Mid N w0 w b s B K e :=
  Mid.step st ⟨Ext.mono hE fun _ _ hk => .inl hk, a, ln, c, h.bad hE hd, hl, fun k hk => .inl (List.mem_append_left _ hk)⟩
/-- Nothing but other blocks has changed. -/
theorem Mid.other {S : Nat → Prop} {N : Nat} {w0 w w' : World} {b : Nat} {s : ByteArray} {B : List Nat} {K e : Nat} (h : Mid N w0 w b s B K e) (k : Ext S w w') (hb : ¬ S b) (hB : ∀ x, S x → w0.heap.size ≤ x) (hS : ∀ a ln c, SBd N w b s e a ln c → ∀ x ∈ ob a, ¬ S x) : Mid N w0 w' b s B K e := by
  obtain ⟨h1, a, ln, c, h2, h3, h4⟩ := h
  exact ⟨h1.step k fun x hx h => by have := hB x h; omega, a, ln, c, h2.other k hb (hS a ln c h2), h3, h4⟩
/-- A piece is put, something being wrong. -/
theorem sput_bad {N : Nat} {w0 w : World} {b : Nat} {s : ByteArray} {B : List Nat} {K e : Nat} {K' : Nat} (h : Mid N w0 w b s B K e) (hK : K + 1 ≤ K') (hK' : K' ≤ 1001) {r : Pr (St × Int)} (hr : r = .bad e) {n1 : Int} {a2 : Option Addr} {l2 c2 : Nat} {n3 n4 : Int} {t5 : Bool} {n6 : Int} {a7 : Option Addr} {l7 c7 : Nat} :
    Cl Try.prog 113 [.pointer (some ⟨b, 0, none⟩), .agg #[.int .i64 n1, .slice a2 l2 c2, .int .i64 n3, .int .i64 n4, .bool t5, .int .i64 n6, .slice a7 l7 c7]] w
      (retG (fun (r112 : Value) (w111 : World) => ∃ (n110 : Int), r112 = .int .i64 n110 ∧ ResS N w0 b s B K' r (.returned (.int .i64 n110)) w111) fun c1 w1 => ResS N w0 b s B K' r (.panicked c1) w1) := by
  obtain ⟨h1, a, ln, c, h2, h3, h4⟩ := h
  refine (sadd_bad h2 (by omega) n1 a2 l2 c2 n3 n4 t5 n6 a7 l7 c7).use fun en w2 he => ?_
  obtain ⟨⟨x, rfl⟩, a', c', h5, h6, h7⟩ := he
  refine ⟨x, rfl, ?_⟩
  subst hr
  refine ⟨⟨x, rfl⟩, ⟨a', ln + 1, c', h5, by omega, fun k hk => ?_⟩, h1.step h7 fun k hk hk' => ?_⟩
  · rcases h6 k hk with h8 | h8
    · exact h4 k h8
    · exact .inr (Nat.le_trans h1.size h8)
  · rcases hk' with h8 | h8
    · exact .inl h8
    · rcases h4 k h8 with h9 | h9
      · exact .inr h9
      · omega
/-- A piece is put. -/
theorem sput_ok {N : Nat} {w0 w : World} {b : Nat} {s : ByteArray} {i g : Nat} {a : Option Addr} {ln c : Nat} {rs : List Raw} {ps : List Pc} {B0 : List Nat} {K : Nat} (h : SSt N w b s i g a ln c rs ps) (st : Step b B0 w0 w (blks a rs)) {q : Raw} {p : Pc} (hok : RawOk w q p) (hnd : q.blocks.Nodup) (hq : ∀ k ∈ q.blocks, w0.heap.size ≤ k ∧ k ∉ blks a rs) (hN0 : N ≤ w0.heap.size) (hl : ln ≤ 1000)
    {r : Pr (St × Int)} (hr : r = .ok ((i, g, ps ++ [p]), (ps.length : Int))) :
    Cl Try.prog 113 [.pointer (some ⟨b, 0, none⟩), .agg ⟨q.cells⟩] w
      (retG (fun (r112 : Value) (w111 : World) => ∃ (n110 : Int), r112 = .int .i64 n110 ∧ ResS N w0 b s B0 K r (.returned (.int .i64 n110)) w111) fun c1 w1 => ResS N w0 b s B0 K r (.panicked c1) w1) := by
  refine (sadd_ok h hok hnd (fun k hm => ⟨(hq k hm).2, by have := (hq k hm).1; omega⟩) hl).use fun e w8 he => ?_
  obtain ⟨rfl, a2, c2, p8, e8, hb8⟩ := he
  refine ⟨_, rfl, ?_⟩
  subst hr
  refine ⟨by rw [h.pcs.len'], a2, ln + 1, c2, _, p8, stepBad st e8, fun k hk' => ?_⟩
  rcases hb8 k hk' with h1 | h1 | h1
  · exact st.2 k h1
  · exact .inr (hq k h1).1
  · exact .inr (Nat.le_trans st.1.size h1)
/-- A piece of a set is put, its ranges being a new row. -/
theorem sputSet {N : Nat} {w0 w : World} {b : Nat} {s : ByteArray} {i g : Nat} {a : Option Addr} {ln c : Nat} {rs : List Raw} {ps : List Pc} {B0 : List Nat} {K : Nat} (h : SSt N w b s i g a ln c rs ps) (st : Step b B0 w0 w (blks a rs)) {sa : Option Addr} {sc sl : Nat} {set : List (Int × Int)} (hsl : sl = set.length) (hv : Vec w.heap 134 2 sa sl sc (rngC set)) (hf : ∀ k, blkOf sa = some k → w0.heap.size ≤ k ∧ k ∉ blks a rs) (hN0 : N ≤ w0.heap.size) (hl : ln ≤ 1000) {r : Pr (St × Int)}
    (hr : r = .ok ((i, g, ps ++ [pSet set]), (ps.length : Int))) : Cl Try.prog 113 [.pointer (some ⟨b, 0, none⟩), .agg #[.int .i64 1, .slice sa sl sc, .int .i64 0, .int .i64 0, .bool false, .int .i64 0, .slice none 0 0]] w
      (retG (fun (r112 : Value) (w111 : World) => ∃ (n110 : Int), r112 = .int .i64 n110 ∧ ResS N w0 b s B0 K r (.returned (.int .i64 n110)) w111) fun c1 w1 => ResS N w0 b s B0 K r (.panicked c1) w1) := by
  have hblk : (Raw.mk 1 sa sl sc 0 0 false 0 none 0 0).blocks = ob sa := by simp [Raw.blocks, ob, blkOf]
  exact sput_ok (q := ⟨1, sa, sl, sc, 0, 0, false, 0, none, 0, 0⟩) h st ⟨rfl, rfl, rfl, rfl, rfl, hv, Vec.nil _ _ _⟩ (by rw [hblk]; unfold ob; cases blkOf sa <;> simp) (fun k hk => by rw [hblk] at hk; exact hf k (mem_ob.1 hk)) hN0 hl hr
/-- A piece without rows is put. -/
theorem sputBare {N : Nat} {w0 w : World} {b : Nat} {s : ByteArray} {i g : Nat} {a : Option Addr} {ln c : Nat} {rs : List Raw} {ps : List Pc} {B0 : List Nat} {K : Nat} (h : SSt N w b s i g a ln c rs ps) (st : Step b B0 w0 w (blks a rs)) (kind : Int) {p : Pc} (hp : p = ⟨kind, [], 0, 0, false, 0, []⟩) (hN0 : N ≤ w0.heap.size) (hl : ln ≤ 1000) {r : Pr (St × Int)}
    (hr : r = .ok ((i, g, ps ++ [p]), (ps.length : Int))) : Cl Try.prog 113 [.pointer (some ⟨b, 0, none⟩), .agg #[.int .i64 kind, .slice none 0 0, .int .i64 0, .int .i64 0, .bool false, .int .i64 0, .slice none 0 0]] w
      (retG (fun (r112 : Value) (w111 : World) => ∃ (n110 : Int), r112 = .int .i64 n110 ∧ ResS N w0 b s B0 K r (.returned (.int .i64 n110)) w111) fun c1 w1 => ResS N w0 b s B0 K r (.panicked c1) w1) := by
  subst hp
  have hblk : (Raw.mk kind none 0 0 0 0 false 0 none 0 0).blocks = [] := by simp [Raw.blocks, ob, blkOf]
  exact sput_ok (q := ⟨kind, none, 0, 0, 0, 0, false, 0, none, 0, 0⟩) h st ⟨rfl, rfl, rfl, rfl, rfl, Vec.nil _ _ _, Vec.nil _ _ _⟩ (by rw [hblk]; simp) (fun k hk => by rw [hblk] at hk; cases hk) hN0 hl hr
/-- A piece with kids is put. -/
theorem sputKids {N : Nat} {w0 w : World} {b : Nat} {s : ByteArray} {i g : Nat} {a : Option Addr} {ln c : Nat} {rs : List Raw} {ps : List Pc} {B0 : List Nat} {K : Nat} (h : SSt N w b s i g a ln c rs ps) (st : Step b B0 w0 w (blks a rs)) {ka : Option Addr} {kl kc : Nat} {kids : List Int} (hk : Kids w0 w (blks a rs) ka kl kc kids) (hN0 : N ≤ w0.heap.size) (hl : ln ≤ 1000)
    {n m1 m2 m3 : Int} {z : Bool} {p : Pc} (hp : p = ⟨n, [], m1, m2, z, m3, kids⟩) {r : Pr (St × Int)} (hr : r = .ok ((i, g, ps ++ [p]), (ps.length : Int))) :
    Cl Try.prog 113 [.pointer (some ⟨b, 0, none⟩), .agg #[.int .i64 n, .slice none 0 0, .int .i64 m1, .int .i64 m2, .bool z, .int .i64 m3, .slice ka kl kc]] w
      (retG (fun (r112 : Value) (w111 : World) => ∃ (n110 : Int), r112 = .int .i64 n110 ∧ ResS N w0 b s B0 K r (.returned (.int .i64 n110)) w111) fun c1 w1 => ResS N w0 b s B0 K r (.panicked c1) w1) := by
  subst hp
  have hblk : (Raw.mk n none 0 0 m1 m2 z m3 ka kl kc).blocks = ob ka := by simp [Raw.blocks, ob, blkOf]
  exact sput_ok (q := ⟨n, none, 0, 0, m1, m2, z, m3, ka, kl, kc⟩) h st ⟨rfl, rfl, rfl, rfl, rfl, Vec.nil _ _ _, hk.1⟩ (by rw [hblk]; unfold ob; cases blkOf ka <;> simp) (fun k hm => by rw [hblk] at hm; exact hk.2.2 k (mem_ob.1 hm)) hN0 hl hr
end Go.Proofs.Ytngbiaeliphdjaa.V
/- The reference's reader: atoms. No statement of the seat is proved here. -/
namespace Go.Vc
set_option linter.unusedVariables false
theorem runsF_skip {f : Nat → Bool} : ∀ (k i j : Nat), k = j - i → i ≤ j → j ≤ 256 → (∀ n, i ≤ n → n < j → f n = false) → runsF f i = runsF f j
  | 0, i, j, hk, hij, _, _ => by rw [show i = j from by omega]
  | k + 1, i, j, hk, hij, hj, h => by
    rw [runsF_no (by omega) (h i (Nat.le_refl _) (by omega))]
    exact runsF_skip k (i + 1) j (by omega) (by omega) hj fun n h1 h2 => h n (by omega) h2
end Go.Vc
namespace Go.Proofs.Ytngbiaeliphdjaa.V
open Go.Vc Go.Proofs Go.RowKit
set_option linter.unusedVariables false
set_option linter.unusedSimpArgs false
theorem runs_one {c : Nat} (hc : c < 256) : runs (inR [(c, c)]) = [((c : Int), (c : Int))] := by
  have hf : ∀ n, inR [(c, c)] n = decide (n = c) := by
    intro n; rw [inR_one]; apply decide_eq_decide.2; omega
  have h1 : runs (inR [(c, c)]) = runsF (inR [(c, c)]) c := runsF_skip c 0 c rfl (by omega) (by omega) fun n _ h => by rw [hf]; exact decide_eq_false (by omega)
  have h2 : runEnd (inR [(c, c)]) c = c := runEnd_no (by rw [hf]; exact decide_eq_false (by omega))
  rw [h1, runsF_yes hc (by rw [hf]; exact decide_eq_true rfl), h2]
  rw [runsF_skip (256 - (c + 1)) (c + 1) 256 rfl (by omega) (Nat.le_refl _) fun n h _ => by rw [hf]; exact decide_eq_false (by omega)]
  rw [runsF_out (by omega)]
/-- The contract of alt, at most d groups deep. -/
def PatS (d : Nat) : Prop := ∀ (N : Nat) (w : World) (b : Nat) (s : ByteArray) (i g : Nat) (a : Option Addr) (ln c : Nat) (rs : List Raw) (ps : List Pc) (dp : Int), SSt N w b s i g a ln c rs ps → s.size ≤ 120 → i ≤ s.size → g ≤ 9 → dp = 6 - (d : Int) → d ≤ 6 → ln + 4 * (s.size - i) + 4 * d ≤ 900 →
  Cl Try.prog 77 [.pointer (some ⟨b, 0, none⟩), .int .i64 dp] w (ResS N w b s (blks a rs) (904 + 4 * d) (patP (L s) d (i, g, ps)))
section
variable {N : Nat} {w0 w : World} {b : Nat} {s : ByteArray} {B : List Nat} {K e : Nat}
theorem mid_is (h : Mid N w0 w b s B K e) (ch : Int) : Cl Try.prog 112 [.pointer (some ⟨b, 0, none⟩), .int .u8 ch] w (RetB (.bool false) w) := by
  obtain ⟨_, a, ln, c, ⟨⟨i, g, h⟩, _⟩, _⟩ := h
  exact is_bad h ch
theorem mid_fail (h : Mid N w0 w b s B K e) : Cl Try.prog 79 [.pointer (some ⟨b, 0, none⟩)] w (RetB (.tuple #[]) w) := by
  obtain ⟨_, a, ln, c, ⟨⟨i, g, h⟩, _⟩, _⟩ := h
  exact sfail_bad h
theorem mid_more (h : Mid N w0 w b s B K e) : Cl Try.prog 78 [.pointer (some ⟨b, 0, none⟩)] w (RetB (.bool false) w) := by
  obtain ⟨_, a, ln, c, ⟨⟨i, g, h⟩, _⟩, _⟩ := h
  exact more_bad h
theorem mid_cell (h : Mid N w0 w b s B K e) : cellH w.heap b 2 = some (.int .i64 (e : Int)) := by
  obtain ⟨_, a, ln, c, ⟨⟨i, g, h⟩, _⟩, _⟩ := h
  exact h.cell 2
end
theorem SSt.mv {N : Nat} {w : World} {b : Nat} {s : ByteArray} {i g : Nat} {a : Option Addr} {ln c : Nat} {rs : List Raw} {ps : List Pc} {K : World → Prop} {n : Int} (h : SSt N w b s i g a ln c rs ps) (hj : i ≤ 1000) (hn : n = i) (hK : ∀ w', SSt N w' b s (i + 1) g a ln c rs ps → Ext (fun k => k = b) w w' → K w') : stW b (0 + 1) [.int .i64 (IntKind.wrap .i64 (n + 1))] K w := by
  subst hn
  exact h.rd.mv (j := i + 1) (by rw [w64 (by omega)]; omega) fun w'' s'' k'' e'' => hK w'' (h.upd e'' k'') e''
/-- A kid alone, as a new row. -/
theorem kidOne {w0 w w' : World} {B : List Nat} (hw : w0.heap.size ≤ w.heap.size) (hB : ∀ k ∈ B, k < w.heap.size) {x : Int} (k : Blk w'.heap w.heap.size 3 [.int .i64 x]) : Kids w0 w' B (some ⟨w.heap.size, 0, none⟩) 1 1 [x] :=
  ⟨⟨rfl, Nat.le_refl _, .inr ⟨_, _, rfl, k, rfl, rfl⟩⟩, rfl, fun q hq => by
    simp only [blkOf, Option.some.injEq] at hq
    subst hq
    exact ⟨hw, fun hm => by have := hB _ hm; omega⟩⟩
theorem satom_ok {N : Nat} {w : World} {b : Nat} {s : ByteArray} {i g : Nat} {a : Option Addr} {ln c : Nat} {rs : List Raw} {ps : List Pc} {dp : Int} (d : Nat) (hsub : ∀ d', d = d' + 1 → PatS d') (h : SSt N w b s i g a ln c rs ps) (hs : s.size ≤ 120) (hi : i < s.size) (hg : g ≤ 9) (hdp : dp = 6 - (d : Int)) (hd6 : d ≤ 6) (hbd : ln + 4 * (s.size - i) + 4 * d ≤ 900) (h124 : at_ (L s) i ≠ 124) (h41 : at_ (L s) i ≠ 41) :
    Cl Try.prog 149 [.pointer (some ⟨b, 0, none⟩), .int .i64 dp] w (ResS N w b s (blks a rs) (901 + 4 * d) (atomP (subP (L s) d) (decide (d = 0)) (L s) i g ps)) := by
  apply vc149
  unfold V149
  have hsz := size_L s
  have hlen' := h.pcs.len'
  have hB := h.pcs.lt
  have hbl := h.rd.lt
  have hc := at_lt (L s) i
  generalize hR : atomP (subP (L s) d) (decide (d = 0)) (L s) i g ps = R
  unfold atomP at hR
  refine drw_in fun w4 q4 e4 => ?_
  have B4 : Below w.heap.size w w4 := Ext.to (Below.refl _ _) e4 fun _ h => h.elim
  have h4 := h.below B4
  refine ⟨s, h4.rd.cell 0, i, h4.rd.cell 1, ⟨by omega, by omega⟩, ?_⟩
  rw [byteI s (j := i) rfl]
  obtain ⟨w8, hr8, s8, k8, e8⟩ := make256 w4
  generalize hkb : w4.heap.size = kb at *
  have B8 : Below w.heap.size w w8 := Ext.to B4 e8 fun _ h => h.elim
  have h8 := h.below B8
  have hkb' : w.heap.size ≤ kb := by have := B4.size; omega
  have hbk : b ≠ kb := by omega
  refine ⟨_, _, _, w8, hr8, ?_⟩
  clear hr8
  have hst8 : Step b (blks a rs) w w8 (blks a rs) := Step.of_below B8
  -- what goes wrong at once
  have hfail : R = .bad i → Cl Try.prog 79 [.pointer (some ⟨b, 0, none⟩)] w8 (retG (fun (r81 : Value) (w80 : World) => r81 = .tuple #[] ∧ ResS N w b s (blks a rs) (901 + 4 * d) R (.returned (.int .i64 0)) w80) fun c1 w1 => ResS N w b s (blks a rs) (901 + 4 * d) R (.panicked c1) w1) := by
    intro hb
    refine (sfail_ok h8.rd).use fun e w9 he => ?_
    obtain ⟨rfl, h9, e9⟩ := he
    exact ⟨rfl, (Mid.start hst8 h8 e9 h9 (by omega)).res hb 0⟩
  -- a set's piece
  have hset : ∀ {w' : World} {j : Nat} {f : Nat → Bool}, SSt N w' b s j g a ln c rs ps → Step b (blks a rs) w w' (blks a rs) → Blk w'.heap kb 4 (b256 f) → R = .ok ((j, g, ps ++ [pSet (runs f)]), (ps.length : Int)) →
      Cl Try.prog 167 ([.slice (some ⟨kb, 0, none⟩) 256 256]) w' (retG (fun (r64 : Value) (w63 : World) => ∃ (a62 : Option Addr), ∃ (l62 : Nat), ∃ (c62 : Nat), r64 = .slice a62 l62 c62 ∧ Cl Try.prog 113 ([.pointer (some ⟨b, 0, none⟩), .agg #[.int .i64 1, .slice a62 l62 c62, .int .i64 0, .int .i64 0, .bool false, .int .i64 0, .slice none 0 0]]) w63 (retG (fun (r67 : Value) (w66 : World) => ∃ (n65 : Int), r67 = .int .i64 n65 ∧ ResS N w b s (blks a rs) (901 + 4 * d) R (.returned (.int .i64 n65)) w66) fun c1 w1 => ResS N w b s (blks a rs) (901 + 4 * d) R (.panicked c1) w1)) fun c1 w1 => ResS N w b s (blks a rs) (901 + 4 * d) R (.panicked c1) w1) := by
    intro w' j f h' st' k' hr
    refine (sset_ok k').use fun e w9 he => ?_
    obtain ⟨sa, sc, rfl, hrow, b9⟩ := he
    refine ⟨sa, _, sc, rfl, sputSet (h'.below b9) (Step.trans st' (Step.of_below b9)) rfl hrow.1 (fun k hk => ?_) h.hN (by omega) hr⟩
    have := hrow.2.1 k hk
    have := st'.1.size
    exact ⟨by omega, fun hm => by have := hB k hm; omega⟩
  refine ⟨fun g1 => ?_, fun g1 => ⟨fun g2 => ?_, fun g2 => ⟨fun g3 => ?_, fun g3 => ⟨fun g4 => ?_, fun g4 => ⟨fun g5 => ?_, fun g5 => ⟨fun g6 => ?_, fun g6 => ⟨fun g7 => ?_, fun g7 => ⟨fun g8 => ?_, fun g8 => ⟨fun g9 => ?_, fun g9 => ⟨fun g10 => ?_, fun g10 => ⟨fun g11 => ?_, fun g11 => ⟨fun g12 => ?_, fun g12 => ?_⟩⟩⟩⟩⟩⟩⟩⟩⟩⟩⟩⟩
  all_goals try simp only [beq_iff_eq, beq_eq_false_iff_ne, ne_eq] at g1
  all_goals try simp only [beq_iff_eq, beq_eq_false_iff_ne, ne_eq] at g2
  all_goals try simp only [beq_iff_eq, beq_eq_false_iff_ne, ne_eq] at g3
  all_goals try simp only [beq_iff_eq, beq_eq_false_iff_ne, ne_eq] at g4
  all_goals try simp only [beq_iff_eq, beq_eq_false_iff_ne, ne_eq] at g5
  all_goals try simp only [beq_iff_eq, beq_eq_false_iff_ne, ne_eq] at g6
  all_goals try simp only [beq_iff_eq, beq_eq_false_iff_ne, ne_eq] at g7
  all_goals try simp only [beq_iff_eq, beq_eq_false_iff_ne, ne_eq] at g8
  all_goals try simp only [beq_iff_eq, beq_eq_false_iff_ne, ne_eq] at g9
  all_goals try simp only [beq_iff_eq, beq_eq_false_iff_ne, ne_eq] at g10
  all_goals try simp only [beq_iff_eq, beq_eq_false_iff_ne, ne_eq] at g11
  all_goals try simp only [beq_iff_eq, beq_eq_false_iff_ne, ne_eq] at g12
  · rw [if_pos (by omega)] at hR
    refine ⟨g, h8.rd.cell 3, fun g2 => ?_, fun g2 => ⟨fun g3 => ?_, fun g3 => ?_⟩⟩
    · simp only [beq_iff_eq] at g2
      rw [if_pos (.inl (by omega))] at hR
      exact hfail hR.symm
    · simp only [beq_iff_eq] at g3
      rw [if_pos (.inr (decide_eq_true (by omega)))] at hR
      exact hfail hR.symm
    simp only [beq_eq_false_iff_ne, ne_eq] at g2 g3
    obtain ⟨d', rfl⟩ : ∃ d', d = d' + 1 := ⟨d - 1, by omega⟩
    rw [if_neg (by simp; omega)] at hR
    refine ⟨_, h8.rd.cell 1, h8.mv (by omega) rfl fun w9 p9 e9 => ⟨_, p9.rd.cell 3, ?_⟩⟩
    dsimp only
    rw [show IntKind.wrap .i64 ((g : Int) + 1) = ((g + 1 : Nat) : Int) from by rw [w64 (by omega)]; omega]
    refine stW_in p9.rd (by show 0 + 3 + 1 ≤ 5; decide) fun w10 s10 k10 e10 => ?_
    have p10 : SSt N w10 b s (i + 1) (g + 1) a ln c rs ps := p9.upd e10 k10
    refine ⟨_, p10.rd.cell 3, ?_⟩
    rw [show IntKind.wrap .i64 (dp + 1) = dp + 1 from w64 (by omega)]
    have st10 := Step.trans (Step.trans hst8 (Step.of_ext e9)) (Step.of_ext (B := blks a rs) e10)
    refine (hsub d' rfl N w10 b s (i + 1) (g + 1) a ln c rs ps (dp + 1) p10 hs (by omega) (by omega) (by omega) (by omega) (by omega)).use fun e w11 he => ?_
    have hsubP : subP (L s) (d' + 1) (i + 1, g + 1, ps) = patP (L s) d' (i + 1, g + 1, ps) := rfl
    rw [hsubP] at hR
    cases hq : patP (L s) d' (i + 1, g + 1, ps) with
    | bad n =>
      rw [hq] at he hR
      obtain ⟨⟨x, rfl⟩, hm⟩ := Mid.of he
      have hm := Mid.step st10 hm
      refine ⟨x, rfl, (mid_is hm 41).ret fun w12 b12 => ⟨false, rfl, fun _ => ?_, fun g => by simp at g⟩⟩
      have hm := hm.below b12
      refine (mid_fail hm).ret fun w13 b13 => ⟨rfl, newC_in fun w14 s14 k14 e14 => ?_⟩
      have hm := (hm.below b13).below (Ext.to (Below.refl _ _) e14 fun _ h => h.elim)
      exact sput_bad hm (by omega) (by omega) hR.symm
    | ok y =>
    obtain ⟨⟨j, g', out'⟩, x⟩ := y
    have hlen := patP_len (L s) d' _ _ _ _ _ _ _ (by omega) hq
    rw [hq] at he hR
    simp only [] at hR
    obtain ⟨rfl, a11, ln11, c11, rs11, p11, st11⟩ := he
    have hln11 := p11.pcs.len'
    have st11 := Step.trans st10 st11
    refine ⟨x, rfl, ?_⟩
    by_cases hy : j < s.size ∧ at_ (L s) j = 41
    · rw [if_neg (by omega), if_pos hy.2] at hR
      refine (is_yes p11.rd hy.1 (by omega) hy.2 rfl).use fun e w12 he => ?_
      obtain ⟨rfl, h12, e12⟩ := he
      have p12 := p11.upd e12 h12
      have st12 := Step.trans st11 (Step.of_ext e12)
      refine ⟨true, rfl, fun g => by simp at g, fun _ => newC_in fun w13 s13 k13 e13 => ?_⟩
      have b13 : Below w12.heap.size w12 w13 := Ext.to (Below.refl _ _) e13 fun _ h => h.elim
      exact sputKids (p12.below b13) (Step.trans st12 (Step.of_below b13)) (kidOne st12.1.size p12.pcs.lt k13) h.hN (by omega) rfl hR.symm
    · have hRb : R = .bad j := by
        rw [← hR]
        by_cases hl : (L s).length ≤ j
        · rw [if_pos hl]; congr 1; omega
        · rw [if_neg hl, if_neg (by omega)]
      refine (is_no p11.rd (ch := 41) hy rfl).ret fun w12 b12 => ⟨false, rfl, fun _ => ?_, fun g => by simp at g⟩
      have p12 := p11.below b12
      refine (sfail_ok p12.rd).use fun e w13 he => ?_
      obtain ⟨rfl, h13, e13⟩ := he
      have hm := Mid.start (Step.trans st11 (Step.of_below b12)) p12 e13 h13 (K := 900 + 4 * (d' + 1)) (by omega)
      refine ⟨rfl, newC_in fun w14 s14 k14 e14 => ?_⟩
      exact sput_bad (hm.below (Ext.to (Below.refl _ _) e14 fun _ h => h.elim)) (by omega) (by omega) hRb
  · rw [if_neg (by omega), if_pos (by omega), setP_eq (by omega)] at hR
    refine ⟨_, h8.rd.cell 1, h8.mv (by omega) rfl fun w9 p9 e9 => ?_⟩
    have st9 := Step.trans hst8 (Step.of_ext (B := blks a rs) e9)
    refine (sclass_ok p9.rd hs (by omega)).use fun e w10 he => ?_
    obtain ⟨e10, he⟩ := he
    cases hq : clsFin (decide (at_ (L s) (i + 1) = 94)) (clsP (L s) (if at_ (L s) (i + 1) = 94 then i + 1 + 1 else i + 1) true []) with
    | bad n =>
      rw [hq] at he
      rw [show i + 2 = i + 1 + 1 from rfl, hq] at hR
      obtain ⟨rfl, j, h10⟩ := he
      exact ⟨_, _, _, rfl, sput_bad (Mid.start st9 p9 e10 h10 (K := 900 + 4 * d) (by omega)) (by omega) (by omega) hR.symm⟩
    | ok y =>
      obtain ⟨j, set⟩ := y
      rw [hq] at he
      rw [show i + 2 = i + 1 + 1 from rfl, hq] at hR
      obtain ⟨sa, sc, rfl, hrow, h10⟩ := he
      have p10 := p9.upd e10 h10
      refine ⟨sa, _, sc, rfl, sputSet p10 (Step.trans st9 (Step.of_ext e10)) rfl hrow.1 (fun k hk => ?_) h.hN (by omega) hR.symm⟩
      have := hrow.2.1 k hk
      have := st9.1.size
      exact ⟨by omega, fun hm => by have := hB k hm; omega⟩
  · rw [if_neg (by omega), if_neg (by omega), if_neg (by omega), if_pos (by omega)] at hR
    refine ⟨_, h8.rd.cell 1, h8.mv (by omega) rfl fun w9 p9 e9 => ?_⟩
    exact sputBare p9 (Step.trans hst8 (Step.of_ext e9)) 6 rfl h.hN (by omega) hR.symm
  · rw [if_neg (by omega), if_neg (by omega), if_neg (by omega), if_neg (by omega), if_pos (by omega)] at hR
    refine ⟨_, h8.rd.cell 1, h8.mv (by omega) rfl fun w9 p9 e9 => ?_⟩
    exact sputBare p9 (Step.trans hst8 (Step.of_ext e9)) 7 rfl h.hN (by omega) hR.symm
  · rw [if_neg (by omega), if_neg (by omega), if_pos (by omega)] at hR
    refine (srange_ok k8 0 255 (by decide) rfl rfl).use fun e w9 he => ?_
    obtain ⟨rfl, k9, e9⟩ := he
    have p9 : SSt N w9 b s i g a ln c rs ps := h8.other e9 hbk fun k hk => by have := hB k hk; omega
    have E9 : Ext (fun x => x = b) w w9 := (Ext.of_below B8).step e9 fun x hx h => by omega
    refine ⟨rfl, kb, 0, ⟨rfl, by decide, by decide⟩, ?_⟩
    refine stW_in k9 (by rw [b256_length]; decide) fun w10 s10 k10 e10 => ?_
    have p10 : SSt N w10 b s i g a ln c rs ps := p9.other e10 hbk fun k hk => by have := hB k hk; omega
    have E10 : Ext (fun x => x = b) w w10 := E9.step e10 fun x hx h => by omega
    have k10' : Blk w10.heap kb 4 (b256 (inR [(0, 9), (11, 255)])) := by
      rw [show segSet (b256 fun n => false || inR [(0, 255)] n) (0 + 10) [.bool false] = (b256 fun n => false || inR [(0, 255)] n).set 10 (.bool false) from rfl, b256_set] at k10
      rw [b256_ext (g := inR [(0, 9), (11, 255)]) fun n hn => ?_] at k10
      · exact k10
      · by_cases h10 : n = 10
        · subst h10; rfl
        · rw [if_neg h10, Bool.false_or, inR_one, show ([(0, 9), (11, 255)] : Rs) = [(0, 9)] ++ [(11, 255)] from rfl, inR_app, inR_one, inR_one]
          rw [Bool.eq_iff_iff]
          simp only [decide_eq_true_eq, Bool.or_eq_true]
          omega
    refine ⟨_, p10.rd.cell 1, p10.mv (by omega) rfl fun w11 p11 e11 => ?_⟩
    exact hset p11 (Step.of_ext (E10.trans e11)) (k10'.keep e11 hbk.symm) hR.symm
  · rw [if_neg (by omega), if_neg (by omega), if_neg (by omega), if_neg (by omega), if_neg (by omega), if_pos (by omega)] at hR
    refine ⟨_, h8.rd.cell 1, h8.mv (by omega) rfl fun w9 p9 e9 => ?_⟩
    have k9 := k8.keep e9 hbk.symm
    have st9 := Step.trans hst8 (Step.of_ext (B := blks a rs) e9)
    refine (sescape_ok p9.rd hs (by omega) k9 hbk.symm).use fun e w10 he => ?_
    obtain ⟨e10, he⟩ := he
    have E9 : Ext (fun x => x = b) w w9 := (Ext.of_below B8).trans e9
    have E10 : Ext (fun x => x = b) w w10 := E9.step e10 fun x hx h => by omega
    cases hq : escP (L s) (i + 1) with
    | bad n =>
      rw [hq] at he hR
      obtain ⟨rfl, ⟨j, h10⟩, f', k10⟩ := he
      have hm : Mid N w w10 b s (blks a rs) (900 + 4 * d) n := Mid.start (Step.refl _ _ _) h E10 h10 (by omega)
      refine ⟨_, _, rfl, (sset_ok k10).use fun e w11 he => ?_⟩
      obtain ⟨sa, sc, rfl, hrow, b11⟩ := he
      exact ⟨sa, _, sc, rfl, sput_bad (hm.below b11) (by omega) (by omega) hR.symm⟩
    | ok y =>
      obtain ⟨j, rs2, o⟩ := y
      rw [hq] at he hR
      have key : ∀ {n70 : Int} {t71 : Bool}, Sd w10 b s j (-1) g a ln c → Blk w10.heap kb 4 (b256 fun n => false || inR rs2 n) → SSt N w10 b s j g a ln c rs ps ∧ Blk w10.heap kb 4 (b256 (inR rs2)) := by
        intro n70 t71 h10 k10
        have hpcs := h.pcs.keep (S := fun x => x = b) E10 fun k hk hkb => h.notb (hkb ▸ hk)
        refine ⟨⟨h10, hpcs, h.lt, Nat.le_trans h.hN E10.size⟩, ?_⟩
        rw [b256_ext (g := inR rs2) fun n _ => by rw [Bool.false_or]] at k10
        exact k10
      cases o with
      | none =>
        obtain ⟨rfl, h10, k10⟩ := he
        obtain ⟨p10, k10⟩ := key (n70 := 0) (t71 := false) h10 k10
        exact ⟨_, _, rfl, hset p10 (Step.of_ext E10) k10 hR.symm⟩
      | some v =>
        obtain ⟨rfl, h10, k10⟩ := he
        obtain ⟨p10, k10⟩ := key (n70 := 0) (t71 := false) h10 k10
        exact ⟨_, _, rfl, hset p10 (Step.of_ext E10) k10 hR.symm⟩
  all_goals rw [if_neg (by omega), if_neg (by omega), if_neg (by omega), if_neg (by omega), if_neg (by omega), if_neg (by omega)] at hR
  · exact hfail (by rw [← hR, if_pos (by omega)])
  · exact hfail (by rw [← hR, if_pos (by omega)])
  · exact hfail (by rw [← hR, if_pos (by omega)])
  · exact hfail (by rw [← hR, if_pos (by omega)])
  · exact hfail (by rw [← hR, if_pos (by omega)])
  · exact hfail (by rw [← hR, if_pos (by omega)])
  · rw [if_neg (by omega)] at hR
    rw [w64 (n := (at_ (L s) i : Int)) (by omega)]
    refine ⟨kb, 0, ⟨rfl, by omega, by omega⟩, st_one k8 hc (by omega) fun w9 s9 k9 e9 => ?_⟩
    have p9 : SSt N w9 b s i g a ln c rs ps := h8.other e9 hbk fun k hk => by have := hB k hk; omega
    have E9 : Ext (fun x => x = b) w w9 := (Ext.of_below B8).step e9 fun x hx h => by omega
    refine ⟨_, p9.rd.cell 1, p9.mv (by omega) rfl fun w10 p10 e10 => ?_⟩
    have k10 := k9.keep e10 hbk.symm
    rw [b256_ext (g := inR [(at_ (L s) i, at_ (L s) i)]) fun n _ => by rw [Bool.false_or]] at k10
    exact hset p10 (Step.of_ext (E9.trans e10)) k10 (by rw [runs_one hc]; exact hR.symm)
end Go.Proofs.Ytngbiaeliphdjaa.V
/- The reference's reader: an atom with its count. No statement of the seat is proved here. -/
namespace Go.Proofs.Ytngbiaeliphdjaa.V
open Go.Vc Go.Proofs Go.RowKit
set_option linter.unusedVariables false
set_option linter.unusedSimpArgs false
/-- A state on the way that is wrong; some blocks are not the pieces'. -/
def MidA (N : Nat) (w0 w : World) (b : Nat) (s : ByteArray) (B : List Nat) (K e : Nat) (X : Nat → Prop) : Prop := Ext (fun k => k = b ∨ k ∈ B) w0 w ∧ ∃ a ln c, SBd N w b s e a ln c ∧ ln ≤ K ∧ (∀ k ∈ ob a, k ∈ B ∨ w0.heap.size ≤ k) ∧ ∀ k ∈ ob a, ¬ X k
section
variable {N : Nat} {w0 w w' : World} {b : Nat} {s : ByteArray} {B : List Nat} {K e : Nat} {X S : Nat → Prop}
theorem MidA.mid (h : MidA N w0 w b s B K e X) : Mid N w0 w b s B K e := by
  obtain ⟨h1, a, ln, c, h2, h3, h4, h5⟩ := h
  exact ⟨h1, a, ln, c, h2, h3, h4⟩
theorem Mid.avoid (h : Mid N w0 w b s B K e) (hX : ∀ x, X x → x ∉ B ∧ x < w0.heap.size) : MidA N w0 w b s B K e X := by
  obtain ⟨h1, a, ln, c, h2, h3, h4⟩ := h
  refine ⟨h1, a, ln, c, h2, h3, h4, fun k hk hx => ?_⟩
  have := hX k hx
  rcases h4 k hk with h | h
  · exact this.1 h
  · omega
theorem Mid.fresh (h : Mid N w0 w b s B K e) (hX : ∀ x, X x → w.heap.size ≤ x) : MidA N w0 w b s B K e X := by
  obtain ⟨h1, a, ln, c, h2, h3, h4⟩ := h
  refine ⟨h1, a, ln, c, h2, h3, h4, fun k hk hx => ?_⟩
  obtain ⟨_, ⟨xs, hr⟩, _⟩ := h2
  have := hr.1.lt k (mem_ob.1 hk)
  have := hX k hx
  omega
theorem MidA.step {w1 : World} {B1 : List Nat} (st : Step b B w0 w1 B1) (h : MidA N w1 w b s B1 K e X) : MidA N w0 w b s B K e X := by
  obtain ⟨h1, a, ln, c, h2, h3, h4, h5⟩ := h
  refine ⟨stepBad st h1, a, ln, c, h2, h3, fun k hk => ?_, h5⟩
  rcases h4 k hk with h6 | h6
  · exact st.2 k h6
  · exact .inr (Nat.le_trans st.1.size h6)
theorem MidA.other (h : MidA N w0 w b s B K e X) (k : Ext S w w') (hS : ∀ x, S x → X x) (hb : ¬ X b) (h0 : ∀ x, X x → w0.heap.size ≤ x) : MidA N w0 w' b s B K e X := by
  obtain ⟨h1, a, ln, c, h2, h3, h4, h5⟩ := h
  exact ⟨h1.step k fun x hx h => by have := h0 x (hS x h); omega, a, ln, c, h2.other k (fun h => hb (hS b h)) fun x hx h => h5 x hx (hS x h), h3, h4, h5⟩
theorem MidA.below (h : MidA N w0 w b s B K e X) (k : Below w.heap.size w w') : MidA N w0 w' b s B K e X := by
  obtain ⟨h1, a, ln, c, h2, h3, h4, h5⟩ := h
  exact ⟨h1.trans (Ext.of_below k), a, ln, c, h2.below k, h3, h4, h5⟩
theorem MidA.start {i i' g : Nat} {a : Option Addr} {ln c : Nat} {rs : List Raw} {ps : List Pc} {w1 : World} (st : Step b B w0 w1 (blks a rs)) (h : SSt N w1 b s i g a ln c rs ps) (hE : Ext (fun x => x = b) w1 w) (hd : Sd w b s i' (e : Int) g a ln c) (hl : ln ≤ K) (hX : ∀ x, X x → x ∉ blks a rs) : MidA N w0 w b s B K e X :=
  MidA.step st ⟨Ext.mono hE fun _ _ hk => .inl hk, a, ln, c, h.bad hE hd, hl, fun k hk => .inl (List.mem_append_left _ hk), fun k hk hx => hX k hx (List.mem_append_left _ hk)⟩
end
theorem spiece_ok {N : Nat} {w : World} {b : Nat} {s : ByteArray} {i g : Nat} {a : Option Addr} {ln c : Nat} {rs : List Raw} {ps : List Pc} {dp : Int} (d : Nat) (hsub : ∀ d', d = d' + 1 → PatS d') (hsl : SubOk (L s) (subP (L s) d)) (h : SSt N w b s i g a ln c rs ps) (hs : s.size ≤ 120) (hi : i < s.size) (hg : g ≤ 9) (hdp : dp = 6 - (d : Int)) (hd6 : d ≤ 6) (hbd : ln + 4 * (s.size - i) + 4 * d ≤ 900) (h124 : at_ (L s) i ≠ 124) (h41 : at_ (L s) i ≠ 41) :
    Cl Try.prog 128 [.pointer (some ⟨b, 0, none⟩), .int .i64 dp] w (ResS N w b s (blks a rs) (902 + 4 * d) (pieceP (subP (L s) d) (decide (d = 0)) (L s) i g ps)) := by
  apply vc128
  unfold V128
  have hsz := size_L s
  have hlen' := h.pcs.len'
  have hB := h.pcs.lt
  have hbl := h.rd.lt
  generalize hR : pieceP (subP (L s) d) (decide (d = 0)) (L s) i g ps = R
  unfold pieceP at hR
  refine (satom_ok d hsub h hs hi hg hdp hd6 hbd h124 h41).use fun e w5 he => ?_
  cases hq : atomP (subP (L s) d) (decide (d = 0)) (L s) i g ps with
  | bad n =>
    rw [hq] at he hR
    simp only [] at hR
    obtain ⟨⟨x, rfl⟩, hm⟩ := Mid.of he
    refine ⟨x, rfl, newC_in fun w8 s8 k8 e8 => ?_⟩
    have hA : MidA N w w5 b s (blks a rs) (901 + 4 * d) n (fun k => k = w5.heap.size) := hm.fresh fun x hx => by omega
    have hz := hm.1.size
    have hA := hA.below (Ext.to (Below.refl _ _) e8 fun _ h => h.elim)
    refine stW_in k8 (by decide) fun w9 s9 k9 e9 => ?_
    have hA := hA.other e9 (fun _ h => h) (by omega) fun x hx => by omega
    have hm := hA.mid
    refine (mid_is hm 42).ret fun w11 b11 => ⟨false, rfl, fun _ => False, ⟨fun g => (by cases g), fun _ => ?_⟩, fun _ _ h => h.elim⟩
    have hm := hm.below b11
    refine (mid_is hm 43).ret fun w12 b12 => ⟨false, rfl, fun g => (by cases g), fun _ => ?_⟩
    have hm := hm.below b12
    refine (mid_is hm 63).ret fun w13 b13 => ⟨false, rfl, fun g => (by cases g), fun _ => ?_⟩
    have hm := hm.below b13
    refine (mid_is hm 123).ret fun w14 b14 => ⟨false, rfl, fun g => (by cases g), fun _ => ?_⟩
    exact ((hm.below b14).mono (by omega)).res hR.symm x
  | ok y =>
  obtain ⟨⟨j, g', out'⟩, x⟩ := y
  have hlen := atomP_len hsl (by omega) hq
  rw [hq] at he hR
  simp only [] at hR
  obtain ⟨rfl, a5, ln5, c5, rs5, p5, st5⟩ := he
  have hln5 := p5.pcs.len'
  have hB5 := p5.pcs.lt
  have hz5 := st5.1.size
  refine ⟨x, rfl, newC_in fun w8 s8 k8 e8 => ?_⟩
  generalize hb7 : w5.heap.size = b7 at *
  refine stW_in k8 (by decide) fun w9 s9 k9 e9 => ?_
  -- what is kept all along
  let cs (m1 m2 : Int) : List Value := [.int .i64 4, .slice none 0 0, .int .i64 m1, .int .i64 m2, .bool false, .int .i64 0, .slice none 0 0]
  have hbb : b ≠ b7 := by omega
  have p8 : SSt N w8 b s j g' a5 ln5 c5 rs5 out' := p5.other e8 (fun h => h) fun _ _ h => h
  have p9 : SSt N w9 b s j g' a5 ln5 c5 rs5 out' := p8.other e9 (by omega) fun k hk hk' => by have := hB5 k hk; omega
  have k9' : Blk w9.heap b7 111 (cs 0 (-1)) := k9
  have E9 : Step b (blks a rs) w w9 (blks a5 rs5) := ⟨(st5.1.trans (Ext.mono e8 fun _ _ h => h.elim)).step e9 fun x hx h => by omega, st5.2⟩
  have hst : ∀ {w' : World} {m1 m2 : Int} {o : Nat} {v : Value} {m1' m2' : Int} {K : World → Prop}, Blk w'.heap b7 111 (cs m1 m2) → o < 7 → segSet (cs m1 m2) o [v] = cs m1' m2' → (∀ w'', Blk w''.heap b7 111 (cs m1' m2') → Ext (fun k => k = b7) w' w'' → K w'') → stW b7 o [v] K w' := by
    intro w' m1 m2 o v m1' m2' K hk ho hv hK
    refine stW_in hk (by show o + 1 ≤ 7; omega) fun w'' s'' k'' e'' => ?_
    rw [hv] at k''
    exact hK w'' k'' e''
  unfold cntR at hR
  rw [cntP_eq] at hR
  -- the count's end
  let F (r : Pr (Nat × Option (Int × Int × Bool))) : Pr (St × Int) := match r with
    | .bad e => .bad e
    | .ok (k, none) => .ok ((k, g', out'), x)
    | .ok (k, some (a, b, z)) => .ok ((k, g', out' ++ [pRep a b z x]), out'.length)
  have hRF : R = F (if (L s).length ≤ j then .ok (j, none)
      else if at_ (L s) j = 42 then lazP (L s) (j + 1) 0 (-1)
      else if at_ (L s) j = 43 then lazP (L s) (j + 1) 1 (-1)
      else if at_ (L s) j = 63 then lazP (L s) (j + 1) 0 1
      else if at_ (L s) j = 123 then match braP (L s) (j + 1) with
        | .bad e => .bad e
        | .ok (j, a, b) => lazP (L s) j a b
      else .ok (j, none)) := hR.symm
  clear hR
  suffices hmain : ∀ w', ((∃ j1 m1 m2, j1 ≤ s.size ∧ SSt N w' b s j1 g' a5 ln5 c5 rs5 out' ∧ Step b (blks a rs) w w' (blks a5 rs5) ∧ Blk w'.heap b7 111 (cs m1 m2) ∧ R = F (lazP (L s) j1 m1 m2)) ∨ (∃ e m1 m2, MidA N w w' b s (blks a rs) (901 + 4 * d) e (fun k => k = b7) ∧ Blk w'.heap b7 111 (cs m1 m2) ∧ R = .bad e)) →
      Cl Try.prog 112 ([.pointer (some ⟨b, 0, none⟩), .int .u8 63]) w' (retG (fun (r35 : Value) (w34 : World) => ∃ (t33 : Bool), r35 = .bool t33 ∧ stW b7 4 [.bool t33] (fun (w36 : World) => newC [.int .i64 x] 3 (fun (b37 : Nat) (w38 : World) => stW b7 6 [.slice (some ⟨b37, 0, none⟩) 1 1] (fun (w39 : World) => ∃ (n40 : Int), cellH w39.heap b7 0 = some (.int .i64 n40) ∧ ∃ (a41 : Option Addr), ∃ (l41 : Nat), ∃ (c41 : Nat), cellH w39.heap b7 1 = some (.slice a41 l41 c41) ∧ ∃ (n42 : Int), cellH w39.heap b7 2 = some (.int .i64 n42) ∧ ∃ (n43 : Int), cellH w39.heap b7 3 = some (.int .i64 n43) ∧ ∃ (t44 : Bool), cellH w39.heap b7 4 = some (.bool t44) ∧ ∃ (n45 : Int), cellH w39.heap b7 5 = some (.int .i64 n45) ∧ ∃ (a46 : Option Addr), ∃ (l46 : Nat), ∃ (c46 : Nat), cellH w39.heap b7 6 = some (.slice a46 l46 c46) ∧ Cl Try.prog 113 ([.pointer (some ⟨b, 0, none⟩), .agg #[.int .i64 n40, .slice a41 l41 c41, .int .i64 n42, .int .i64 n43, .bool t44, .int .i64 n45, .slice a46 l46 c46]]) w39 (retG (fun (r49 : Value) (w48 : World) => ∃ (n47 : Int), r49 = .int .i64 n47 ∧ (ResS N w b s (blks a rs) (902 + 4 * d) R) (.returned (.int .i64 n47)) w48) (fun c1 w1' => (ResS N w b s (blks a rs) (902 + 4 * d) R) (.panicked c1) w1'))) w38) w36) w34) (fun c1 w1' => (ResS N w b s (blks a rs) (902 + 4 * d) R) (.panicked c1) w1')) by
    have hJ : ∀ {w' : World}, _ → _ := fun {w'} => hmain w'
    have hno : ∀ {w' : World}, SSt N w' b s j g' a5 ln5 c5 rs5 out' → Step b (blks a rs) w w' (blks a5 rs5) → ¬ (j < s.size ∧ at_ (L s) j = 42) → ¬ (j < s.size ∧ at_ (L s) j = 43) → ¬ (j < s.size ∧ at_ (L s) j = 63) → ¬ (j < s.size ∧ at_ (L s) j = 123) → ResS N w b s (blks a rs) (902 + 4 * d) R (.returned (.int .i64 x)) w' := by
      intro w' p' st' n1 n2 n3 n4
      have : R = .ok ((j, g', out'), x) := by
        rw [hRF]
        by_cases hl : (L s).length ≤ j
        · rw [if_pos hl]
        · rw [if_neg hl, if_neg (by omega), if_neg (by omega), if_neg (by omega), if_neg (by omega)]
      subst this
      exact ⟨rfl, a5, ln5, c5, rs5, p', st'⟩
    by_cases h42 : j < s.size ∧ at_ (L s) j = 42
    · rw [if_neg (by omega), if_pos h42.2] at hRF
      refine (is_yes p9.rd h42.1 (by omega) h42.2 rfl).use fun e w11 he => ?_
      obtain ⟨rfl, h11, e11⟩ := he
      exact ⟨true, rfl, _, ⟨fun _ => .inl ⟨j + 1, 0, -1, by omega, p9.upd e11 h11, Step.trans E9 (Step.of_ext e11), k9'.keep e11 hbb.symm, hRF⟩, fun g => (by cases g)⟩, fun _ w' hw => hmain w' hw⟩
    refine (is_no p9.rd (ch := 42) h42 rfl).ret fun w11 b11 => ⟨false, rfl, _, ⟨fun g => (by cases g), fun _ => ?_⟩, fun _ w' hw => hmain w' hw⟩
    have p11 := p9.below b11
    have E11 := Step.trans E9 (Step.of_below b11)
    have k11 := k9'.below b11
    by_cases h43 : j < s.size ∧ at_ (L s) j = 43
    · rw [if_neg (by omega), if_neg (by omega), if_pos h43.2] at hRF
      refine (is_yes p11.rd h43.1 (by omega) h43.2 rfl).use fun e w12 he => ?_
      obtain ⟨rfl, h12, e12⟩ := he
      refine ⟨true, rfl, fun _ => hst (k11.keep e12 hbb.symm) (by decide) rfl fun w13 k13 e13 => ?_, fun g => (by cases g)⟩
      exact .inl ⟨j + 1, 1, -1, by omega, (p11.upd e12 h12).other e13 hbb fun k hk hk' => (by have := hB5 k hk; omega), ⟨(Step.trans E11 (Step.of_ext e12)).1.step e13 fun x hx h => by omega, E11.2⟩, k13, hRF⟩
    refine (is_no p11.rd (ch := 43) h43 rfl).ret fun w12 b12 => ⟨false, rfl, fun g => (by cases g), fun _ => ?_⟩
    have p12 := p11.below b12
    have E12 := Step.trans E11 (Step.of_below b12)
    have k12 := k11.below b12
    by_cases h63 : j < s.size ∧ at_ (L s) j = 63
    · rw [if_neg (by omega), if_neg (by omega), if_neg (by omega), if_pos h63.2] at hRF
      refine (is_yes p12.rd h63.1 (by omega) h63.2 rfl).use fun e w13 he => ?_
      obtain ⟨rfl, h13, e13⟩ := he
      refine ⟨true, rfl, fun _ => hst (k12.keep e13 hbb.symm) (by decide) rfl fun w14 k14 e14 => ?_, fun g => (by cases g)⟩
      exact .inl ⟨j + 1, 0, 1, by omega, (p12.upd e13 h13).other e14 hbb fun k hk hk' => (by have := hB5 k hk; omega), ⟨(Step.trans E12 (Step.of_ext e13)).1.step e14 fun x hx h => by omega, E12.2⟩, k14, hRF⟩
    refine (is_no p12.rd (ch := 63) h63 rfl).ret fun w13 b13 => ⟨false, rfl, fun g => (by cases g), fun _ => ?_⟩
    have p13 := p12.below b13
    have E13 := Step.trans E12 (Step.of_below b13)
    have k13 := k12.below b13
    by_cases h123 : j < s.size ∧ at_ (L s) j = 123
    · rw [if_neg (by omega), if_neg (by omega), if_neg (by omega), if_neg (by omega), if_pos h123.2] at hRF
      refine (is_yes p13.rd h123.1 (by omega) h123.2 rfl).use fun e w14 he => ?_
      obtain ⟨rfl, h14, e14⟩ := he
      have p14 := p13.upd e14 h14
      have E14 := Step.trans E13 (Step.of_ext e14)
      have k14 := k13.keep e14 hbb.symm
      refine ⟨true, rfl, fun _ => ?_, fun g => (by cases g)⟩
      refine (scounts_ok p14.rd hs (by omega)).use fun e w15 he => ?_
      obtain ⟨e15, he⟩ := he
      have k15 := k14.keep e15 hbb.symm
      cases hbr : braP (L s) (j + 1) with
      | bad n =>
        rw [hbr] at he hRF
        obtain ⟨⟨m1, m2, rfl⟩, i', h15⟩ := he
        refine ⟨m1, m2, rfl, hst k15 (by decide) rfl fun w16 k16 e16 => hst k16 (by decide) rfl fun w17 k17 e17 => ?_⟩
        have hA : MidA N w w15 b s (blks a rs) (901 + 4 * d) n (fun k => k = b7) := MidA.start E14 p14 e15 h15 (by omega) fun x hx hm => by have := hB5 x hm; omega
        exact .inr ⟨n, m1, m2, hA.other (e16.trans e17) (fun _ h => h) hbb fun x hx => by omega, k17, hRF⟩
      | ok y =>
        obtain ⟨j1, m1, m2⟩ := y
        have hj1 := braP_le hbr
        rw [hbr] at he hRF
        obtain ⟨rfl, h15⟩ := he
        refine ⟨m1, m2, rfl, hst k15 (by decide) rfl fun w16 k16 e16 => hst k16 (by decide) rfl fun w17 k17 e17 => ?_⟩
        exact .inl ⟨j1, m1, m2, by omega, (p14.upd e15 h15).other (e16.trans e17) hbb fun k hk hk' => (by have := hB5 k hk; omega), ⟨(Step.trans E14 (Step.of_ext e15)).1.step (e16.trans e17) fun x hx h => by omega, E14.2⟩, k17, hRF⟩
    refine (is_no p13.rd (ch := 123) h123 rfl).ret fun w14 b14 => ⟨false, rfl, fun g => (by cases g), fun _ => ?_⟩
    exact hno (p13.below b14) (Step.trans E13 (Step.of_below b14)) h42 h43 h63 h123
  clear hRF E9 k9' p9 p8 k9 e9 s9 w9
  rintro w10 (⟨j1, m1, m2, hj1, p10, E10, k10, hR⟩ | ⟨e, m1, m2, hA, k10, hR⟩)
  · -- lazy or not
    have hfin : ∀ {w' : World} {t : Bool} {j2 : Nat}, SSt N w' b s j2 g' a5 ln5 c5 rs5 out' → Step b (blks a rs) w w' (blks a5 rs5) → Blk w'.heap b7 111 (cs m1 m2) → R = .ok ((j2, g', out' ++ [pRep m1 m2 t x]), out'.length) → stW b7 4 [.bool t] (fun (w36 : World) => newC [.int .i64 x] 3 (fun (b37 : Nat) (w38 : World) => stW b7 6 [.slice (some ⟨b37, 0, none⟩) 1 1] (fun (w39 : World) => ∃ (n40 : Int), cellH w39.heap b7 0 = some (.int .i64 n40) ∧ ∃ (a41 : Option Addr), ∃ (l41 : Nat), ∃ (c41 : Nat), cellH w39.heap b7 1 = some (.slice a41 l41 c41) ∧ ∃ (n42 : Int), cellH w39.heap b7 2 = some (.int .i64 n42) ∧ ∃ (n43 : Int), cellH w39.heap b7 3 = some (.int .i64 n43) ∧ ∃ (t44 : Bool), cellH w39.heap b7 4 = some (.bool t44) ∧ ∃ (n45 : Int), cellH w39.heap b7 5 = some (.int .i64 n45) ∧ ∃ (a46 : Option Addr), ∃ (l46 : Nat), ∃ (c46 : Nat), cellH w39.heap b7 6 = some (.slice a46 l46 c46) ∧ Cl Try.prog 113 ([.pointer (some ⟨b, 0, none⟩), .agg #[.int .i64 n40, .slice a41 l41 c41, .int .i64 n42, .int .i64 n43, .bool t44, .int .i64 n45, .slice a46 l46 c46]]) w39 (retG (fun (r49 : Value) (w48 : World) => ∃ (n47 : Int), r49 = .int .i64 n47 ∧ (ResS N w b s (blks a rs) (902 + 4 * d) R) (.returned (.int .i64 n47)) w48) (fun c1 w1' => (ResS N w b s (blks a rs) (902 + 4 * d) R) (.panicked c1) w1'))) w38) w36) w' := by
      intro w' t j2 p' E' k' hR'
      refine stW_in k' (by show 4 + 1 ≤ 7; decide) fun w11 s11 k11 e11 => newC_in fun w12 s12 k12 e12 => ?_
      have hlt := k'.lt
      have k12' := k11.keep e12 fun h => h
      refine stW_in k12' (by show 6 + 1 ≤ 7; decide) fun w13 s13 k13 e13 => ?_
      have e11' : Ext (fun k => k = b7) w' w13 := ((e11.trans (Ext.mono e12 fun _ _ h => h.elim)).trans e13)
      have p13 : SSt N w13 b s j2 g' a5 ln5 c5 rs5 out' := p'.other e11' hbb fun k hk hk' => (by have := hB5 k hk; omega)
      have E13 : Step b (blks a rs) w w13 (blks a5 rs5) := ⟨E'.1.step e11' fun x hx h => by omega, E'.2⟩
      have kk : Kids w w13 (blks a5 rs5) (some ⟨w11.heap.size, 0, none⟩) 1 1 [x] :=
        ⟨⟨rfl, Nat.le_refl _, .inr ⟨_, _, rfl, k12.keep e13 (by omega), rfl, rfl⟩⟩, rfl, fun q hq => by
          simp only [blkOf, Option.some.injEq] at hq
          subst hq
          have := E'.1.size
          exact ⟨by omega, fun hm => by have := hB5 _ hm; omega⟩⟩
      refine ⟨_, k13.cell 0, _, _, _, k13.cell 1, _, k13.cell 2, _, k13.cell 3, _, k13.cell 4, _, k13.cell 5, _, _, _, k13.cell 6, ?_⟩
      exact sputKids p13 E13 kk h.hN (by omega) rfl hR'
    by_cases h63 : j1 < s.size ∧ at_ (L s) j1 = 63
    · refine (is_yes p10.rd h63.1 (by omega) h63.2 rfl).use fun e w11 he => ?_
      obtain ⟨rfl, h11, e11⟩ := he
      refine ⟨true, rfl, hfin (p10.upd e11 h11) (Step.trans E10 (Step.of_ext e11)) (k10.keep e11 hbb.symm) ?_⟩
      rw [hR]; unfold lazP; rw [if_pos ⟨by omega, h63.2⟩]
    · refine (is_no p10.rd (ch := 63) h63 rfl).ret fun w11 b11 => ⟨false, rfl, hfin (p10.below b11) (Step.trans E10 (Step.of_below b11)) (k10.below b11) ?_⟩
      rw [hR]; unfold lazP; rw [if_neg (by omega)]
  · refine (mid_is hA.mid 63).ret fun w11 b11 => ⟨false, rfl, ?_⟩
    have hA := hA.below b11
    have k11 := k10.below b11
    refine stW_in k11 (by show 4 + 1 ≤ 7; decide) fun w12 s12 k12 e12 => newC_in fun w13 s13 k13 e13 => ?_
    have hA := (hA.other e12 (fun _ h => h) hbb fun x hx => by omega).below (Ext.to (Below.refl _ _) e13 fun _ h => h.elim)
    have k13' := k12.keep e13 fun h => h
    refine stW_in k13' (by show 6 + 1 ≤ 7; decide) fun w14 s14 k14 e14 => ?_
    have hA := hA.other e14 (fun _ h => h) hbb fun x hx => by omega
    refine ⟨_, k14.cell 0, _, _, _, k14.cell 1, _, k14.cell 2, _, k14.cell 3, _, k14.cell 4, _, k14.cell 5, _, _, _, k14.cell 6, ?_⟩
    exact sput_bad hA.mid (by omega) (by omega) hR
end Go.Proofs.Ytngbiaeliphdjaa.V
/- The reference's reader: sequences and alternatives. No statement of the seat is proved here. -/
namespace Go.Proofs.Ytngbiaeliphdjaa.V
open Go.Vc Go.Proofs Go.RowKit
set_option linter.unusedVariables false
set_option linter.unusedSimpArgs false
/-- A piece on the way: its kids may grow. -/
def pcC (kind : Int) (ka : Option Addr) (kl kc : Nat) : List Value := [.int .i64 kind, .slice none 0 0, .int .i64 0, .int .i64 0, .bool false, .int .i64 0, .slice ka kl kc]
theorem kid_ne {w0 w : World} {B : List Nat} {ka : Option Addr} {kl kc : Nat} {kids : List Int} {b4 : Nat} {cs : List Value} (h : Kids w0 w B ka kl kc kids) (k : Blk w.heap b4 111 cs) : ∀ x, blkOf ka = some x → x ≠ b4 := by
  intro x hx hxb
  subst hxb
  obtain ⟨_, _, h3⟩ := h.1
  rcases h3 with ⟨rfl, _⟩ | ⟨b', cs', rfl, hb, _⟩
  · simp [blkOf] at hx
  · simp only [blkOf, Option.some.injEq] at hx
    subst hx
    unfold Blk at hb k
    rw [hb] at k
    simp at k
/-- One kid more, something being wrong. -/
theorem kid_bad {N : Nat} {w w1 w2 : World} {b : Nat} {s : ByteArray} {B B1 : List Nat} {K e b4 : Nat} {ka : Option Addr} {kl kc : Nat} {kids : List Int} {kind : Int} (st : Step b B w w1 B1) (hK : Kids w w1 B1 ka kl kc kids) (k4 : Blk w1.heap b4 111 (pcC kind ka kl kc)) (hb : b < w.heap.size) (hb4 : w.heap.size ≤ b4) (hn4 : b4 ∉ B1) (hl : kl ≤ 1000) (hm : Mid N w1 w2 b s B1 K e) (x : Int) {Q : World → Prop}
    (hQ : ∀ w', Mid N w w' b s B K e → (∃ ka kl kc, Blk w'.heap b4 111 (pcC kind ka kl kc)) → Q w') :
    ∃ (a23 : Option Addr), ∃ (l23 : Nat), ∃ (c23 : Nat), cellH w2.heap b4 6 = some (.slice a23 l23 c23) ∧ newC [.int .i64 x] 3 (fun (b24 : Nat) (w25 : World) => ∃ (a26 : Option Addr), ∃ (l26 : Nat), ∃ (c26 : Nat), ∃ (w27 : World), (Builtin.append_ #[109, 109] 109 #[.slice a23 l23 c23, .slice (some ⟨b24, 0, none⟩) 1 1]).run Try.prog w25 = .ok (.slice a26 l26 c26) w27 ∧ stW b4 6 [.slice a26 l26 c26] (fun (w28 : World) => Q w28) w27) w2 := by
  have hne := kid_ne hK k4
  have hA : MidA N w1 w2 b s B1 K e (fun k => k = b4 ∨ blkOf ka = some k) := hm.avoid fun k hk => by
    rcases hk with rfl | hk
    · exact ⟨hn4, k4.lt⟩
    · exact ⟨(hK.2.2 k hk).2, hK.1.lt k hk⟩
  have hE := hm.1
  have k4' := k4.keep hE (fun h => by
    rcases h with h | h
    · omega
    · exact hn4 h)
  have hK' : Kids w w2 [] ka kl kc kids := ⟨hK.1.keep hE fun k hk h => by
      rcases h with h | h
      · have := (hK.2.2 k hk).1; omega
      · exact (hK.2.2 k hk).2 h, hK.2.1, fun k hk => ⟨(hK.2.2 k hk).1, by simp⟩⟩
  obtain ⟨ka2, kc2, w6, r1, r2, r3⟩ := hK'.app (by simp) (Nat.le_trans st.1.size hE.size) hl x
  refine ⟨ka, kl, kc, k4'.cell 6, ka2, kl + 1, kc2, w6, r1, ?_⟩
  have k6 := k4'.keep r3 (fun h => hne b4 h rfl)
  have hA := MidA.step st hA
  have hX : ∀ x, (x = b4 ∨ blkOf ka = some x) → w.heap.size ≤ x := fun x hx => by
    rcases hx with rfl | hx
    · exact hb4
    · exact (hK.2.2 x hx).1
  have hbX : ¬ (b = b4 ∨ blkOf ka = some b) := fun h => by have := hX b h; omega
  have hA := hA.other r3 (fun x hx => .inr hx) hbX hX
  refine stW_in k6 (by show 6 + 1 ≤ 7; decide) fun w7 s7 k7 e7 => hQ w7 (hA.other e7 (fun x hx => .inl hx) hbX hX).mid ⟨_, _, _, k7⟩
theorem sseq_ok {N : Nat} {w : World} {b : Nat} {s : ByteArray} {i g : Nat} {a : Option Addr} {ln c : Nat} {rs : List Raw} {ps : List Pc} {dp : Int} (d : Nat) (hsub : ∀ d', d = d' + 1 → PatS d') (hsl : SubOk (L s) (subP (L s) d)) (h : SSt N w b s i g a ln c rs ps) (hs : s.size ≤ 120) (hi : i ≤ s.size) (hg : g ≤ 9) (hdp : dp = 6 - (d : Int)) (hd6 : d ≤ 6) (hbd : ln + 4 * (s.size - i) + 4 * d ≤ 950) (hbd' : i < s.size → ln + 4 * (s.size - i) + 4 * d ≤ 900) :
    Cl Try.prog 111 [.pointer (some ⟨b, 0, none⟩), .int .i64 dp] w (ResS N w b s (blks a rs) (903 + 4 * d) (seqL (subP (L s) d) (decide (d = 0)) (L s) i g ps [])) := by
  apply vc111
  unfold V111
  have hsz := size_L s
  have hbl := h.rd.lt
  have hB := h.pcs.lt
  have hlen' := h.pcs.len'
  generalize hR : seqL (subP (L s) d) (decide (d = 0)) (L s) i g ps [] = R
  refine newC_in fun w5 s5 k5 e5 => ?_
  generalize hb4 : w.heap.size = b4 at *
  refine stW_in k5 (by decide) fun w6 s6 k6 e6 => ?_
  have k6' : Blk w6.heap b4 111 (pcC 2 none 0 0) := k6
  have E6 : Below w.heap.size w w6 := Ext.to (Ext.to (Below.refl _ _) e5 fun _ h => h.elim) e6 fun _ h => by omega
  refine ⟨fun k w' => (∃ (j g' : Nat) (a' : Option Addr) (ln' c' : Nat) (rs' : List Raw) (out : List Pc) (kids : List Int) (ka : Option Addr) (kl kc : Nat), SSt N w' b s j g' a' ln' c' rs' out ∧ seqL (subP (L s) d) (decide (d = 0)) (L s) j g' out kids = R ∧ Kids w w' (blks a' rs') ka kl kc kids ∧ Blk w'.heap b4 111 (pcC 2 ka kl kc) ∧ b4 ∉ blks a' rs' ∧ Step b (blks a rs) w w' (blks a' rs') ∧ k = s.size - j + 1 ∧ i ≤ j ∧ j ≤ s.size ∧ g' ≤ 9 ∧ ln' + 4 * (s.size - j) + 4 * d ≤ 950 ∧ (j < s.size → ln' + 4 * (s.size - j) + 4 * d ≤ 900) ∧ kids.length ≤ j) ∨
      (∃ e, k = 0 ∧ R = .bad e ∧ Mid N w w' b s (blks a rs) (902 + 4 * d) e ∧ ∃ ka kl kc, Blk w'.heap b4 111 (pcC 2 ka kl kc)),
    ⟨_, .inl ⟨i, g, a, ln, c, rs, ps, [], none, 0, 0, h.below E6, hR, ⟨Vec.nil _ _ _, rfl, by simp [blkOf]⟩, k6', fun hm => (by have := hB b4 hm; omega), Step.of_below E6, rfl, Nat.le_refl _, hi, hg, hbd, hbd', by simp⟩⟩, ?_⟩
  -- the end
  have hout : ∀ {w' : World}, ((∃ (j g' : Nat) (a' : Option Addr) (ln' c' : Nat) (rs' : List Raw) (out : List Pc) (kids : List Int) (ka : Option Addr) (kl kc : Nat), SSt N w' b s j g' a' ln' c' rs' out ∧ R = .ok ((j, g', out ++ [pSeq kids]), (out.length : Int)) ∧ Kids w w' (blks a' rs') ka kl kc kids ∧ Blk w'.heap b4 111 (pcC 2 ka kl kc) ∧ Step b (blks a rs) w w' (blks a' rs') ∧ ln' ≤ 1000) ∨
      (∃ e, R = .bad e ∧ Mid N w w' b s (blks a rs) (902 + 4 * d) e ∧ ∃ ka kl kc, Blk w'.heap b4 111 (pcC 2 ka kl kc))) → ∃ (n30 : Int), cellH w'.heap b4 0 = some (.int .i64 n30) ∧ ∃ (a31 : Option Addr), ∃ (l31 : Nat), ∃ (c31 : Nat), cellH w'.heap b4 1 = some (.slice a31 l31 c31) ∧ ∃ (n32 : Int), cellH w'.heap b4 2 = some (.int .i64 n32) ∧ ∃ (n33 : Int), cellH w'.heap b4 3 = some (.int .i64 n33) ∧ ∃ (t34 : Bool), cellH w'.heap b4 4 = some (.bool t34) ∧ ∃ (n35 : Int), cellH w'.heap b4 5 = some (.int .i64 n35) ∧ ∃ (a36 : Option Addr), ∃ (l36 : Nat), ∃ (c36 : Nat), cellH w'.heap b4 6 = some (.slice a36 l36 c36) ∧ Cl Try.prog 113 ([.pointer (some ⟨b, 0, none⟩), .agg #[.int .i64 n30, .slice a31 l31 c31, .int .i64 n32, .int .i64 n33, .bool t34, .int .i64 n35, .slice a36 l36 c36]]) w' (retG (fun (r39 : Value) (w38 : World) => ∃ (n37 : Int), r39 = .int .i64 n37 ∧ ResS N w b s (blks a rs) (903 + 4 * d) R (.returned (.int .i64 n37)) w38) (fun c1 w1' => ResS N w b s (blks a rs) (903 + 4 * d) R (.panicked c1) w1')) := by
    intro w' hst
    rcases hst with ⟨j, g', a', ln', c', rs', out, kids, ka, kl, kc, p', hr, hK, k', st', hl'⟩ | ⟨e, hr, hm, ka, kl, kc, k'⟩
    · refine ⟨_, k'.cell 0, _, _, _, k'.cell 1, _, k'.cell 2, _, k'.cell 3, _, k'.cell 4, _, k'.cell 5, _, _, _, k'.cell 6, ?_⟩
      exact sputKids p' st' hK h.hN hl' rfl hr
    · refine ⟨_, k'.cell 0, _, _, _, k'.cell 1, _, k'.cell 2, _, k'.cell 3, _, k'.cell 4, _, k'.cell 5, _, _, _, k'.cell 6, ?_⟩
      exact sput_bad hm (by omega) (by omega) hr
  rintro k dd w10 (⟨j, g', a', ln', c', rs', out, kids, ka, kl, kc, p10, hq, hK, k10, hn4, st10, rfl, hij, hj, hg', hb', hb'', hkl⟩ | ⟨e, rfl, hr, hm, ka, kl, kc, k10⟩)
  case inr =>
    refine drw_in fun w12 q12 e12 => ?_
    have b12 : Below w10.heap.size w10 w12 := Ext.to (Below.refl _ _) e12 fun _ h => h.elim
    refine (mid_more (hm.below b12)).ret fun w14 b14 => ⟨false, rfl, fun g => (by cases g), fun _ => ?_⟩
    exact hout (.inr ⟨e, hr, (hm.below b12).below b14, ka, kl, kc, (k10.below b12).below b14⟩)
  refine drw_in fun w12 q12 e12 => ?_
  have b12 : Below w10.heap.size w10 w12 := Ext.to (Below.refl _ _) e12 fun _ h => h.elim
  have hln10 := p10.pcs.len'
  have hstop : ∀ {w' : World}, Below w10.heap.size w10 w' → ¬ (j < s.size ∧ at_ (L s) j ≠ 124 ∧ at_ (L s) j ≠ 41) → ∃ (n30 : Int), cellH w'.heap b4 0 = some (.int .i64 n30) ∧ ∃ (a31 : Option Addr), ∃ (l31 : Nat), ∃ (c31 : Nat), cellH w'.heap b4 1 = some (.slice a31 l31 c31) ∧ ∃ (n32 : Int), cellH w'.heap b4 2 = some (.int .i64 n32) ∧ ∃ (n33 : Int), cellH w'.heap b4 3 = some (.int .i64 n33) ∧ ∃ (t34 : Bool), cellH w'.heap b4 4 = some (.bool t34) ∧ ∃ (n35 : Int), cellH w'.heap b4 5 = some (.int .i64 n35) ∧ ∃ (a36 : Option Addr), ∃ (l36 : Nat), ∃ (c36 : Nat), cellH w'.heap b4 6 = some (.slice a36 l36 c36) ∧ Cl Try.prog 113 ([.pointer (some ⟨b, 0, none⟩), .agg #[.int .i64 n30, .slice a31 l31 c31, .int .i64 n32, .int .i64 n33, .bool t34, .int .i64 n35, .slice a36 l36 c36]]) w' (retG (fun (r39 : Value) (w38 : World) => ∃ (n37 : Int), r39 = .int .i64 n37 ∧ ResS N w b s (blks a rs) (903 + 4 * d) R (.returned (.int .i64 n37)) w38) (fun c1 w1' => ResS N w b s (blks a rs) (903 + 4 * d) R (.panicked c1) w1')) := by
    intro w' hb hn
    refine hout (.inl ⟨j, g', a', ln', c', rs', out, kids, ka, kl, kc, p10.below hb, ?_, hK.below hb, k10.below hb, Step.trans st10 (Step.of_below hb), by omega⟩)
    rw [← hq, seqL_out (by rw [← hsz]; exact hn)]
  refine (more_ok (p10.below b12).rd).ret fun w14 b14 => ⟨_, rfl, fun g1 => ?_, fun g1 => ?_⟩
  rotate_left
  · have := of_decide_eq_false g1
    exact hstop (b12.vstep b14) (by omega)
  have g1' := of_decide_eq_true g1
  have b14' := b12.vstep b14
  have p14 := p10.below b14'
  have K14 := hK.below b14'
  have k14 := k10.below b14'
  have st14 : Step b (blks a rs) w w14 (blks a' rs') := Step.trans st10 (Step.of_below b14')
  refine ⟨s, p14.rd.cell 0, j, p14.rd.cell 1, ⟨by omega, by omega⟩, ?_⟩
  rw [byteI s (j := j) rfl]
  refine ⟨fun g2 => ⟨s, p14.rd.cell 0, j, p14.rd.cell 1, ⟨by omega, by omega⟩, ?_⟩, fun g2 => ?_⟩
  rotate_left
  · have g2' : at_ (L s) j = 124 := by have : ((at_ (L s) j : Nat) : Int) = 124 := by simpa using g2
                                       omega
    exact hstop b14' (by omega)
  have g2' : at_ (L s) j ≠ 124 := by simp only [bne_iff_ne, ne_eq] at g2; omega
  rw [byteI s (j := j) rfl]
  refine ⟨fun g3 => ?_, fun g3 => ?_⟩
  rotate_left
  · have g3' : at_ (L s) j = 41 := by have : ((at_ (L s) j : Nat) : Int) = 41 := by simpa using g3
                                      omega
    exact hstop b14' (by omega)
  have g3' : at_ (L s) j ≠ 41 := by simp only [bne_iff_ne, ne_eq] at g3; omega
  have hcnd : j < (L s).length ∧ at_ (L s) j ≠ 124 ∧ at_ (L s) j ≠ 41 := ⟨by omega, g2', g3'⟩
  refine (spiece_ok d hsub hsl p14 hs g1' hg' hdp hd6 (hb'' g1') g2' g3').use fun e w21 he => ?_
  cases hp : pieceP (subP (L s) d) (decide (d = 0)) (L s) j g' out with
  | bad n =>
    rw [hp] at he
    obtain ⟨⟨x, rfl⟩, hm⟩ := Mid.of he
    refine ⟨x, rfl, kid_bad st14 K14 k14 (by omega) (by omega) hn4 (by rw [K14.2.1]; omega) hm x fun w' hm' k' => ⟨0, by omega, .inr ⟨n, rfl, ?_, hm', k'⟩⟩⟩
    rw [← hq, seqL_bad hcnd hp]
  | ok y =>
  obtain ⟨⟨j2, g2', out2⟩, x2⟩ := y
  rw [hp] at he
  obtain ⟨rfl, a5, ln5, c5, rs5, p21, s21⟩ := he
  have hpl' := pieceP_len hsl (by omega) hp
  have hstep := seqL_go (kids := kids) hcnd hp hpl'.1
  have st21 := Step.trans st14 s21
  have K21 := K14.step (by omega) s21
  have hl5 := p21.pcs.len'
  have hlt14 := k14.lt
  have hn4' : b4 ∉ blks a5 rs5 := fun hm => by
    rcases s21.2 b4 hm with h1 | h1
    · exact hn4 h1
    · omega
  have k21 := k14.keep s21.1 (fun h => by
    rcases h with h | h
    · omega
    · exact hn4 h)
  refine ⟨x2, rfl, ka, kl, kc, k21.cell 6, ?_⟩
  obtain ⟨ka2, kc2, w27, r1, r2, r3⟩ := K21.app p21.pcs.lt st21.1.size (by rw [K21.2.1]; omega) x2
  refine ⟨ka2, kl + 1, kc2, w27, r1, ?_⟩
  have hkb : ∀ k, blkOf ka = some k → k ∉ blks a5 rs5 ∧ k ≠ b ∧ w.heap.size ≤ k := fun k hk => ⟨(K21.2.2 k hk).2, by have := (K21.2.2 k hk).1; omega, (K21.2.2 k hk).1⟩
  have hne := kid_ne K21 k21
  have p27 : SSt N w27 b s j2 g2' a5 ln5 c5 rs5 out2 := p21.other r3 (fun hk => (hkb b hk).2.1 rfl) fun k hk hk' => (hkb k hk').1 hk
  have k27 := k21.keep r3 (fun h => hne b4 h rfl)
  have st27 : Step b (blks a rs) w w27 (blks a5 rs5) := ⟨st21.1.step r3 fun k hk hk' => by have := (hkb k hk').2.2; omega, fun k hk => st21.2 k hk⟩
  have hne2 := kid_ne r2 k27
  refine stW_in k27 (by show 6 + 1 ≤ 7; decide) fun w28 s28 k28 e28 => ?_
  refine ⟨s.size - j2 + 1, by omega, .inl ⟨j2, g2', a5, ln5, c5, rs5, out2, kids ++ [x2], ka2, kl + 1, kc2, p27.other e28 (by omega) (fun k hk hk' => hn4' (hk' ▸ hk)), by rw [← hstep, hq], ⟨r2.1.keep e28 fun k hk hk' => hne2 k hk hk', r2.2⟩, k28, hn4', ⟨st27.1.step e28 fun k hk hk' => by omega, st27.2⟩, rfl, by omega, by omega, hpl'.2.2.2 hg', by omega, by omega, by simp; omega⟩⟩
theorem salt_ok : ∀ d, PatS d := by
  intro d
  induction d using Nat.strongRecOn with
  | _ d ih =>
  intro N w b s i g a ln c rs ps dp h hs hi hg hdp hd6 hbd
  have hsub : ∀ d', d = d' + 1 → PatS d' := fun d' hd => ih d' (by omega)
  have hsl := subP_ok (L s) d
  apply vc77
  unfold V77
  have hsz := size_L s
  have hbl := h.rd.lt
  have hB := h.pcs.lt
  have hl0 := h.pcs.len'
  rw [patP_eq]
  refine (sseq_ok d hsub hsl h hs hi hg hdp hd6 (by omega) (fun _ => by omega)).use fun e w1 he => ?_
  cases hq : seqL (subP (L s) d) (decide (d = 0)) (L s) i g ps [] with
  | bad n =>
    rw [hq] at he
    obtain ⟨⟨x, rfl⟩, hm⟩ := Mid.of he
    refine ⟨x, rfl, drw_in fun w2 q2 e2 => ?_⟩
    have hm := hm.below (Ext.to (Below.refl _ _) e2 fun _ h => h.elim)
    refine (mid_more hm).ret fun w3 b3 => ⟨false, rfl, fun _ => ((hm.below b3).mono (by omega)).res rfl x, fun g => by simp at g⟩
  | ok y =>
  obtain ⟨⟨j, g', out'⟩, x⟩ := y
  have hlen := seqL_len hsl _ rfl (by omega) hq
  rw [hq] at he
  obtain ⟨rfl, a1, ln1, c1, rs1, p1, st1⟩ := he
  have hl1 := p1.pcs.len'
  refine ⟨x, rfl, drw_in fun w2 q2 e2 => ?_⟩
  simp only []
  generalize hR : altL (subP (L s) d) (decide (d = 0)) (L s) j g' out' [x] = R
  have b2 : Below w1.heap.size w1 w2 := Ext.to (Below.refl _ _) e2 fun _ h => h.elim
  have hone : ∀ {w' : World}, Below w1.heap.size w1 w' → ¬ (j < s.size ∧ at_ (L s) j = 124) → ResS N w b s (blks a rs) (904 + 4 * d) R (.returned (.int .i64 x)) w' := by
    intro w' hb hn
    have : R = .ok ((j, g', out'), x) := by rw [← hR, altL_out (by rw [← hsz]; exact hn)]; rfl
    subst this
    exact ⟨rfl, a1, ln1, c1, rs1, p1.below hb, Step.trans st1 (Step.of_below hb)⟩
  refine (more_ok (p1.below b2).rd).ret fun w3 b3 => ⟨_, rfl, fun g1 => ?_, fun g1 => ?_⟩
  · have : ¬ j < s.size := by simpa using g1
    exact hone (b2.vstep b3) (by omega)
  have g1' : j < s.size := by simpa using g1
  have b3' := b2.vstep b3
  have p3 := p1.below b3'
  refine ⟨s, p3.rd.cell 0, j, p3.rd.cell 1, ⟨by omega, by omega⟩, ?_⟩
  rw [byteI s (j := j) rfl]
  refine ⟨fun g2 => ?_, fun g2 => ?_⟩
  · have g2' : at_ (L s) j ≠ 124 := by simp only [bne_iff_ne, ne_eq] at g2; omega
    exact hone b3' (by omega)
  have g2' : at_ (L s) j = 124 := by have : ((at_ (L s) j : Nat) : Int) = 124 := by simpa using g2
                                     omega
  clear hone
  have st3 := Step.trans st1 (Step.of_below b3')
  have z3 := st3.1.size
  refine newC_in fun w4 s4 k4 e4 => ?_
  generalize hkb : w3.heap.size = kb at *
  refine newC_in fun w5 s5 k5 e5 => ?_
  generalize hb4 : w4.heap.size = b4 at *
  refine stW_in k5 (by show 0 + 7 ≤ 7; decide) fun w6 s6 k6 e6 => ?_
  have B6 : Below w3.heap.size w3 w6 := Ext.to (Ext.to (Ext.to (Below.refl _ _) e4 fun _ h => h.elim) e5 fun _ h => h.elim) e6 fun _ h => by omega
  have k6' : Blk w6.heap b4 111 (pcC 3 (some ⟨kb, 0, none⟩) 1 1) := k6
  have hK6 : Kids w w6 (blks a1 rs1) (some ⟨kb, 0, none⟩) 1 1 [x] :=
    ⟨⟨rfl, Nat.le_refl _, .inr ⟨_, _, rfl, (k4.keep e5 fun h => h).keep e6 (by omega), rfl, rfl⟩⟩, rfl, fun q hq => by
      simp only [blkOf, Option.some.injEq] at hq
      subst hq
      exact ⟨by omega, fun hm => by have := p3.pcs.lt _ hm; omega⟩⟩
  refine ⟨fun k w' => (∃ (j g' : Nat) (a' : Option Addr) (ln' c' : Nat) (rs' : List Raw) (out : List Pc) (kids : List Int) (ka : Option Addr) (kl kc : Nat), SSt N w' b s j g' a' ln' c' rs' out ∧ altL (subP (L s) d) (decide (d = 0)) (L s) j g' out kids = R ∧ Kids w w' (blks a' rs') ka kl kc kids ∧ Blk w'.heap b4 111 (pcC 3 ka kl kc) ∧ b4 ∉ blks a' rs' ∧ Step b (blks a rs) w w' (blks a' rs') ∧ k = s.size - j + 1 ∧ i ≤ j ∧ j ≤ s.size ∧ g' ≤ 9 ∧ ln' + 4 * (s.size - j) + 4 * d ≤ 901 ∧ (2 ≤ kids.length ∨ j < s.size ∧ at_ (L s) j = 124) ∧ 1 ≤ kids.length ∧ kids.length ≤ j + 1) ∨
      (∃ e, k = 0 ∧ R = .bad e ∧ Mid N w w' b s (blks a rs) (903 + 4 * d) e ∧ ∃ ka kl kc, Blk w'.heap b4 111 (pcC 3 ka kl kc)),
    ⟨_, .inl ⟨j, g', a1, ln1, c1, rs1, out', [x], _, 1, 1, p3.below B6, hR, hK6, k6', fun hm => (by have := p3.pcs.lt b4 hm; omega), Step.trans st3 (Step.of_below B6), rfl, by omega, by omega, hlen.2.2.2 hg, by omega, .inr ⟨g1', g2'⟩, by simp, by simp⟩⟩, ?_⟩
  have hbw4 : w.heap.size ≤ b4 := by omega
  clear hR hq hlen p1 st1 hl1 p3 st3 k4 k5 k6 k6' hK6 B6 e6 e5 e4 s6 s5 s4 g2 g1 g1' g2' b3 b3' b2 e2 q2 z3 hkb hb4
  rintro k dd w7 (⟨j, g', a', ln', c', rs', out, kids, ka, kl, kc, p7, hq, hK, k7, hn4, st7, rfl, hij, hj, hg', hb', hk2, hk1, hkl⟩ | ⟨e, rfl, hr, hm, ka, kl, kc, k7⟩)
  case inr =>
    refine (mid_is hm 124).ret fun w8 b8 => ⟨false, rfl, fun g => (by cases g), fun _ => ?_⟩
    have k' := k7.below b8
    refine ⟨_, k'.cell 0, _, _, _, k'.cell 1, _, k'.cell 2, _, k'.cell 3, _, k'.cell 4, _, k'.cell 5, _, _, _, k'.cell 6, ?_⟩
    exact sput_bad (hm.below b8) (by omega) (by omega) hr
  have hl7 := p7.pcs.len'
  by_cases hy : j < s.size ∧ at_ (L s) j = 124
  case neg =>
    refine (is_no p7.rd (ch := 124) hy rfl).ret fun w8 b8 => ⟨false, rfl, fun g => (by cases g), fun _ => ?_⟩
    have k' := k7.below b8
    have hRe : R = altE j g' out kids := by rw [← hq, altL_out (by rw [← hsz]; exact hy)]
    refine ⟨_, k'.cell 0, _, _, _, k'.cell 1, _, k'.cell 2, _, k'.cell 3, _, k'.cell 4, _, k'.cell 5, _, _, _, k'.cell 6, ?_⟩
    refine sputKids (p7.below b8) (Step.trans st7 (Step.of_below b8)) (hK.below b8) h.hN (by omega) (p := pAlt kids) rfl ?_
    rw [hRe]
    have hk2' : 2 ≤ kids.length := by
      rcases hk2 with h | h
      · exact h
      · exact absurd h hy
    match kids, hk2' with
    | _ :: _ :: _, _ => rfl
  refine (is_yes p7.rd hy.1 (by omega) hy.2 rfl).use fun e w8 he => ?_
  obtain ⟨rfl, h8, e8⟩ := he
  have p8 := p7.upd e8 h8
  have st8 := Step.trans st7 (Step.of_ext e8)
  have K8 := hK.step hbl (Step.of_ext e8)
  have k8 := k7.keep e8 (by omega)
  have hcnd : j < (L s).length ∧ at_ (L s) j = 124 := ⟨by omega, hy.2⟩
  refine ⟨true, rfl, fun _ => ?_, fun g => (by cases g)⟩
  refine (sseq_ok d hsub hsl p8 hs (by omega) hg' hdp hd6 (by omega) (fun _ => by omega)).use fun e w9 he => ?_
  cases hq2 : seqL (subP (L s) d) (decide (d = 0)) (L s) (j + 1) g' out [] with
  | bad n =>
    rw [hq2] at he
    obtain ⟨⟨x, rfl⟩, hm⟩ := Mid.of he
    refine ⟨x, rfl, kid_bad st8 K8 k8 hbl hbw4 hn4 (by rw [K8.2.1]; omega) hm x fun w' hm' k' => ⟨0, by omega, .inr ⟨n, rfl, ?_, hm', k'⟩⟩⟩
    rw [← hq, altL_bad hcnd hq2]
  | ok y =>
  obtain ⟨⟨j2, g2', out2⟩, x2⟩ := y
  have hlen2 := seqL_len hsl _ rfl (by omega) hq2
  have hgo := altL_go (kids := kids) hcnd hq2 (by omega)
  rw [hq2] at he
  obtain ⟨rfl, a9, ln9, c9, rs9, p9, s9⟩ := he
  have hl9 := p9.pcs.len'
  have st9 := Step.trans st8 s9
  have K9 := K8.step hbl s9
  have hlt8 := k8.lt
  have hn4' : b4 ∉ blks a9 rs9 := fun hm => by
    rcases s9.2 b4 hm with h1 | h1
    · exact hn4 h1
    · omega
  have k9 := k8.keep s9.1 (fun h => by
    rcases h with h | h
    · omega
    · exact hn4 h)
  refine ⟨x2, rfl, ka, kl, kc, k9.cell 6, ?_⟩
  obtain ⟨ka2, kc2, w10, r1, r2, r3⟩ := K9.app p9.pcs.lt st9.1.size (by rw [K9.2.1]; omega) x2
  refine ⟨ka2, kl + 1, kc2, w10, r1, ?_⟩
  have hkb : ∀ k, blkOf ka = some k → k ∉ blks a9 rs9 ∧ k ≠ b ∧ w.heap.size ≤ k := fun k hk => ⟨(K9.2.2 k hk).2, by have := (K9.2.2 k hk).1; omega, (K9.2.2 k hk).1⟩
  have hne := kid_ne K9 k9
  have p10 : SSt N w10 b s j2 g2' a9 ln9 c9 rs9 out2 := p9.other r3 (fun hk => (hkb b hk).2.1 rfl) fun k hk hk' => (hkb k hk').1 hk
  have k10 := k9.keep r3 (fun h => hne b4 h rfl)
  have st10 : Step b (blks a rs) w w10 (blks a9 rs9) := ⟨st9.1.step r3 fun k hk hk' => by have := (hkb k hk').2.2; omega, fun k hk => st9.2 k hk⟩
  have hne2 := kid_ne r2 k10
  refine stW_in k10 (by show 6 + 1 ≤ 7; decide) fun w11 s11 k11 e11 => ?_
  refine ⟨s.size - j2 + 1, by omega, .inl ⟨j2, g2', a9, ln9, c9, rs9, out2, kids ++ [x2], ka2, kl + 1, kc2, p10.other e11 (by omega) (fun k hk hk' => hn4' (hk' ▸ hk)), by rw [← hgo, hq], ⟨r2.1.keep e11 fun k hk hk' => hne2 k hk hk', r2.2⟩, k11, hn4', ⟨st10.1.step e11 fun k hk hk' => by omega, st10.2⟩, rfl, by omega, by omega, hlen2.2.2.2 hg', by omega, .inl (by simp; omega), by simp, by simp; omega⟩⟩
end Go.Proofs.Ytngbiaeliphdjaa.V
/- The reference's ReadPattern. No statement of the seat is proved here. -/
namespace Go.Proofs.Ytngbiaeliphdjaa.V
open Go.Vc Go.Proofs Go.RowKit
set_option linter.unusedVariables false
set_option linter.unusedSimpArgs false
theorem sreadPattern_ok (s : ByteArray) (w : World) : Cl Try.prog 27 [.string s] w (RetP (readP (L s)) w) := by
  apply vc27
  unfold V27
  have hsz := size_L s
  refine newC_in fun w3 s3 k3 e3 => ?_
  generalize hb2 : w.heap.size = b2 at *
  have B3 : Below w.heap.size w w3 := Ext.to (Below.refl _ _) e3 fun _ h => h.elim
  refine ⟨fun g1 => ?_, fun g1 => ?_⟩
  · have g1' := of_decide_eq_true g1
    refine stW_in k3 (by decide) fun w4 s4 k4 e4 => ?_
    refine ⟨_, k4.cell 0, _, k4.cell 1, _, k4.cell 2, _, _, _, k4.cell 3, ?_⟩
    have hr : readP (L s) = ⟨false, 120, 0, []⟩ := by unfold readP; rw [if_pos (by omega)]
    rw [hr]
    exact ⟨none, 0, 0, [], rfl, Pcs.nil _ _, Ext.to B3 e4 fun i hi => by omega⟩
  have g1' := of_decide_eq_false g1
  refine newC_in fun w10 s10 k10 e10 => ?_
  generalize hb9 : w3.heap.size = b9 at *
  have k3' := k3.keep e10 fun h => h
  have B10 : Below w.heap.size w w10 := Ext.to B3 e10 fun _ h => h.elim
  refine (salt_ok 6 (b9 + 1) w10 b9 s 0 0 none 0 0 [] [] 0 ⟨k10, Pcs.nil _ _, Nat.lt_succ_self _, by omega⟩ (by omega) (by omega) (by omega) (by omega) (by omega) (by omega)).use fun e w12 he => ?_
  have hX : ∀ {w' : World}, Ext (fun k => k = b9 ∨ k ∈ blks none []) w10 w' → Ext (fun k => k = b9) w10 w' := fun h => Ext.mono h fun _ _ h => by simpa [blks, ob, blkOf] using h
  -- the answers
  have hbad : ∀ {w' : World} {n : Nat}, Ext (fun k => k = b9) w10 w' → cellH w'.heap b9 2 = some (.int .i64 (n : Int)) → readP (L s) = ⟨false, n, 0, []⟩ → ∃ (n22 : Int), cellH w'.heap b9 2 = some (.int .i64 n22) ∧ (((decide ((n22 : Int) ≥ 0)) = true → ∃ (n23 : Int), cellH w'.heap b9 2 = some (.int .i64 n23) ∧ stW b2 0 [.bool false, .int .i64 n23, .int .i64 0, .slice none 0 0] (fun (w24 : World) => ∃ (t25 : Bool), cellH w24.heap b2 0 = some (.bool t25) ∧ ∃ (n26 : Int), cellH w24.heap b2 1 = some (.int .i64 n26) ∧ ∃ (n27 : Int), cellH w24.heap b2 2 = some (.int .i64 n27) ∧ ∃ (a28 : Option Addr), ∃ (l28 : Nat), ∃ (c28 : Nat), cellH w24.heap b2 3 = some (.slice a28 l28 c28) ∧ RetP (readP (L s)) w (.returned (.agg #[.bool t25, .int .i64 n26, .int .i64 n27, .slice a28 l28 c28])) w24) w') ∧ ((decide ((n22 : Int) ≥ 0)) = false → drw (fun (w29 : World) => ∃ (n30 : Int), cellH w29.heap b9 3 = some (.int .i64 n30) ∧ ∃ (a31 : Option Addr), ∃ (l31 : Nat), ∃ (c31 : Nat), cellH w29.heap b9 4 = some (.slice a31 l31 c31) ∧ stW b2 0 [.bool true, .int .i64 0, .int .i64 n30, .slice a31 l31 c31] (fun (w32 : World) => ∃ (t33 : Bool), cellH w32.heap b2 0 = some (.bool t33) ∧ ∃ (n34 : Int), cellH w32.heap b2 1 = some (.int .i64 n34) ∧ ∃ (n35 : Int), cellH w32.heap b2 2 = some (.int .i64 n35) ∧ ∃ (a36 : Option Addr), ∃ (l36 : Nat), ∃ (c36 : Nat), cellH w32.heap b2 3 = some (.slice a36 l36 c36) ∧ RetP (readP (L s)) w (.returned (.agg #[.bool t33, .int .i64 n34, .int .i64 n35, .slice a36 l36 c36])) w32) w29) w')) := by
    intro w' n hE hc hr
    have kk := k3'.keep hE (by omega)
    refine ⟨n, hc, fun _ => ⟨n, hc, stW_in kk (by show 0 + 4 ≤ 4; decide) fun w24 s24 k24 e24 => ?_⟩, fun g => ?_⟩
    · refine ⟨_, k24.cell 0, _, k24.cell 1, _, k24.cell 2, _, _, _, k24.cell 3, ?_⟩
      rw [hr]
      exact ⟨none, 0, 0, [], rfl, Pcs.nil _ _, Ext.to (Ext.to B10 hE fun i hi => by omega) e24 fun i hi => by omega⟩
    · have := of_decide_eq_false g; omega
  cases hp : patP (L s) 6 (0, 0, []) with
  | bad n =>
    rw [hp] at he
    obtain ⟨⟨x, rfl⟩, hm⟩ := Mid.of he
    have hr : readP (L s) = ⟨false, n, 0, []⟩ := by unfold readP; rw [if_neg (by omega), hp]
    refine ⟨x, rfl, (mid_more hm).ret fun w15 b15 => ⟨false, rfl, fun w' => Ext (fun k => k = b9) w10 w' ∧ cellH w'.heap b9 2 = some (.int .i64 (n : Int)), ⟨fun g => (by cases g), fun _ => ⟨hX (hm.below b15).1, mid_cell (hm.below b15)⟩⟩, ?_⟩⟩
    rintro dd w21 ⟨h21, hc⟩
    exact hbad h21 hc hr
  | ok y =>
  obtain ⟨⟨j, g, out⟩, x⟩ := y
  rw [hp] at he
  obtain ⟨rfl, a5, ln5, c5, rs5, p5, st5⟩ := he
  have hlen := patP_len (L s) 6 0 0 [] j g out x (by omega) hp
  refine ⟨x, rfl, (more_ok p5.rd).ret fun w15 b15 => ⟨_, rfl, ?_⟩⟩
  have p15 := p5.below b15
  have E15 : Ext (fun k => k = b9) w10 w15 := (hX st5.1).trans (Ext.of_below b15)
  refine ⟨fun w' => Ext (fun k => k = b9) w10 w' ∧ ((∃ i, readP (L s) = ⟨false, j, 0, []⟩ ∧ Sd w' b9 s i (j : Int) g a5 ln5 c5) ∨ (readP (L s) = ⟨true, 0, g, out⟩ ∧ SSt (b9 + 1) w' b9 s j g a5 ln5 c5 rs5 out)), ⟨fun g1 => ?_, fun g1 => ?_⟩, ?_⟩
  · have g1' := of_decide_eq_true g1
    refine (sfail_ok p15.rd).use fun e w18 he => ?_
    obtain ⟨rfl, h18, e18⟩ := he
    exact ⟨rfl, E15.trans e18, .inl ⟨j, by unfold readP; rw [if_neg (by omega), hp]; simp only []; rw [if_pos (by omega)], h18⟩⟩
  · have g1' := of_decide_eq_false g1
    exact ⟨E15, .inr ⟨by unfold readP; rw [if_neg (by omega), hp]; simp only []; rw [if_neg (by omega)], p15⟩⟩
  rintro dd w21 ⟨E21, ⟨i, hr, h21⟩ | ⟨hr, p21⟩⟩
  · exact hbad E21 (h21.cell 2) hr
  · refine ⟨-1, p21.rd.cell 2, fun g => absurd (of_decide_eq_true g) (by decide), fun _ => drw_in fun w29 q29 e29 => ?_⟩
    have p29 : SSt (b9 + 1) w29 b9 s j g a5 ln5 c5 rs5 out := p21.other e29 (fun h => h) fun _ _ h => h
    have E29 := E21.trans (Ext.mono e29 fun _ _ h => h.elim)
    refine ⟨_, p29.rd.cell 3, _, _, _, p29.rd.cell 4, stW_in (k3'.keep E29 (by omega)) (by show 0 + 4 ≤ 4; decide) fun w32 s32 k32 e32 => ?_⟩
    refine ⟨_, k32.cell 0, _, k32.cell 1, _, k32.cell 2, _, _, _, k32.cell 3, ?_⟩
    rw [hr]
    have q : Pcs (b9 + 1) w32 a5 ln5 c5 rs5 out := p29.pcs.keep e32 fun k hk hkb => by have := p29.pcs.low k hk; omega
    exact ⟨a5, ln5, c5, rs5, rfl, ⟨q.row, q.len, q.len', q.all, q.nodup, fun k hk => by have := q.low k hk; omega⟩, Ext.to (Ext.to B10 E29 fun i hi => by omega) e32 fun i hi => by omega⟩
end Go.Proofs.Ytngbiaeliphdjaa.V
/- The reference writes a pattern: the walk. No statement of the seat is proved here. -/
namespace Go.Proofs.Ytngbiaeliphdjaa.V
open Go.Vc Go.Proofs Go.RowKit
set_option linter.unusedVariables false
set_option linter.unusedSimpArgs false
/-- A text with this law is given. -/
def RetW (P : Bytes → Prop) (w : World) : Rt := fun e w' => ∃ s, e = .returned (.string (B s)) ∧ P s ∧ Below w.heap.size w w'
theorem specWrite_ok {w : World} {N : Nat} {a : Option Addr} {l c : Nat} {rs : List Raw} {ps : List Pc} (hP : Pcs N w a l c rs ps) (hf : Fits ps) (ok : Bool) (at_ g : Int) :
    Cl Try.prog 57 [.agg #[.bool ok, .int .i64 at_, .int .i64 g, .slice a l c]] w (RetW (WS ok at_ g ps) w) := by
  apply vc57
  unfold V57
  have hl := hP.len
  have hl' := hP.len'
  refine newC_in fun w6 s6 k6 e6 => ?_
  have B6 : Below w.heap.size w w6 := Ext.to (Below.refl _ _) e6 fun _ h => h.elim
  have P6 := hP.below B6
  refine ⟨_, k6.cell 0, _, k6.cell 1, _, k6.cell 2, _, _, _, k6.cell 3, (sane_ok P6 hf ok at_ g).use fun e w12 he => ?_⟩
  obtain ⟨b, rfl, hb, B12⟩ := he
  have B12' := B6.vstep B12
  have k12 := k6.below B12
  have P12 := P6.below B12
  refine ⟨b, rfl, fun gb => ⟨[], rfl, .inr ⟨rfl, fun h => ?_⟩, B12'⟩, fun gb => ?_⟩
  · have := hb.2 h.1; subst this; simp at gb
  have hS : Sane ok ps := hb.1 (by simpa using gb)
  have hpos : 0 < ps.length := List.length_pos_iff.2 hS.pos
  have h480 := hS.len
  refine ⟨_, k12.cell 0, _, k12.cell 1, _, k12.cell 2, _, _, _, k12.cell 3, _, _, _, k12.cell 3, ?_⟩
  have e1 : IntKind.wrap .i64 ((l : Int) - 1) = ((ps.length - 1 : Nat) : Int) := by rw [w64 (by omega)]; omega
  dsimp only
  rw [e1]
  refine (l1write_ok (at_ := at_) (g := g) hS hf (ps.length - 1) (by omega) P12).ret fun w20 B20 => ⟨_, rfl, ?_⟩
  have B20' := B12'.vstep B20
  refine (sreadPattern_ok _ w20).use fun e w26 he => ?_
  rw [L_B] at he
  have hsp : ∀ {s : Bytes} {w' : World}, s = [] → (¬ (Sane ok ps ∧ (readP (wT ps (ps.length - 1))).ok = true ∧ ((readP (wT ps (ps.length - 1))).groups : Int) = g ∧ at_ = 0 ∧ (readP (wT ps (ps.length - 1))).pieces = ps)) → Below w.heap.size w w' → RetW (WS ok at_ g ps) w (.returned (.string (B s))) w' := fun hs hn hb => ⟨_, rfl, .inr ⟨hs, hn⟩, hb⟩
  have hgood : (readP (wT ps (ps.length - 1))).ok = true → ((readP (wT ps (ps.length - 1))).groups : Int) = g → at_ = 0 → (readP (wT ps (ps.length - 1))).pieces = ps → ∀ {w' : World}, Below w.heap.size w w' → RetW (WS ok at_ g ps) w (.returned (.string (B (wT ps (ps.length - 1))))) w' := fun h1 h2 h3 h4 _ hb => ⟨_, rfl, .inl ⟨hS, rfl, h1, h2, h3, h4⟩, hb⟩
  have hf2 := fits_read (wT ps (ps.length - 1))
  generalize wT ps (ps.length - 1) = t at *
  generalize readP t = Q at *
  obtain ⟨a2, l2, c2, rs2, rfl, P26, B26⟩ := he
  have B26' := B20'.vstep B26
  refine ⟨_, _, _, _, _, _, rfl, ?_⟩
  refine newC_in fun w29 s29 k29 e29 => ?_
  refine stW_in k29 (by show 0 + 4 ≤ 4; decide) fun w30 s30 k30 e30 => ?_
  have B630 : Below w26.heap.size w26 w30 := Ext.to (Ext.to (Below.refl _ _) e29 fun _ h => h.elim) e30 fun i hi => by omega
  have B30 := B26'.vstep B630
  have q6 := ((k12.below B20).below B26).below B630
  have P30 := P26.below B630
  have O30 := ((P12.below B20).below B26).below B630
  refine ⟨_, k30.cell 0, fun g1 => hsp rfl (fun h => ?_) B30, fun g1 => ⟨_, k30.cell 2, _, q6.cell 2, fun g2 => hsp rfl (fun h => ?_) B30, fun g2 => ⟨_, q6.cell 1, fun g3 => hsp rfl (fun h => ?_) B30, fun g3 => ⟨_, _, _, k30.cell 3, _, _, _, q6.cell 3, ?_⟩⟩⟩⟩
  · have := h.2.1; rw [this] at g1; simp at g1
  · have := h.2.2.1; rw [this] at g2; simp at g2
  · have := h.2.2.2.1; subst this; simp at g3
  have g1' : Q.ok = true := by simpa using g1
  have g2' : (Q.groups : Int) = g := by simpa using g2
  have g3' : at_ = 0 := by simpa using g3
  refine (l1pieces_ok P30 O30 hf2 hf).use fun e w38 he => ?_
  obtain ⟨b2, rfl, hb2, B38⟩ := he
  refine ⟨b2, rfl, fun g4 => hsp rfl (fun h => ?_) (B30.vstep B38), fun g4 => hgood g1' g2' g3' (hb2.1 (by simpa using g4)) (B30.vstep B38)⟩
  have := hb2.2 h.2.2.2.2; subst this; simp at g4
end Go.Proofs.Ytngbiaeliphdjaa.V

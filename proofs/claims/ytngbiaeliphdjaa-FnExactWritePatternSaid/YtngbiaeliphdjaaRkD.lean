/- Parts of a proof, put together: definitions, formulas of Go functions and lemmas. No statement of the seat is proved here. -/
import Derived.Test.YtngbiaeliphdjaaProg
import Derived.Defers
import Derived.Recover
import Derived.Test.YtngbiaeliphdjaaRkC
set_option maxHeartbeats 4000000
/- The reference asks whether a pattern can be written. No statement of the seat is proved here. -/
namespace Go.Vc
set_option linter.unusedVariables false
set_option linter.unusedSimpArgs false
theorem kf_take {ps : List Pc} {i : Nat} (hi : i < ps.length) : kf (ps.take (i + 1)) = kf (ps.take i) ++ ps[i].kids := by
  rw [List.take_succ_eq_append_getElem hi, kf_app]
theorem sane_at {ok : Bool} {ps : List Pc} (h : Sane ok ps) {i : Nat} (hi : i < ps.length) : PFine ps[i] ∧ (∀ c ∈ ps[i].kids, 0 ≤ c ∧ c < (i : Int)) ∧ (kf (ps.take i) ++ ps[i].kids).Nodup := by
  refine ⟨h.fine _ (List.getElem_mem hi), h.ord i _ (List.getElem?_eq_getElem hi), ?_⟩
  have : kf ps = (kf (ps.take i) ++ ps[i].kids) ++ kf (ps.drop (i + 1)) := by
    rw [← kf_take hi]
    unfold kf
    rw [← List.flatMap_append, List.take_append_drop]
  have hn := h.once
  rw [this] at hn
  exact (List.nodup_append.1 hn).1
/-- So far nothing is wrong. -/
structure SanI (ps : List Pc) (i : Nat) : Prop where
  fine : ∀ x ∈ ps.take i, PFine x
  ord : ∀ (k : Nat) (x : Pc), k < i → ps[k]? = some x → ∀ c ∈ x.kids, 0 ≤ c ∧ c < (k : Int)
  once : (kf (ps.take i)).Nodup
theorem SanI.zero (ps : List Pc) : SanI ps 0 := ⟨by simp, by intro k x h; omega, by simp [kf]⟩
theorem SanI.succ {ps : List Pc} {i : Nat} (h : SanI ps i) (hi : i < ps.length) (hf : PFine ps[i]) (ho : ∀ c ∈ ps[i].kids, 0 ≤ c ∧ c < (i : Int)) (hn : (kf (ps.take i) ++ ps[i].kids).Nodup) : SanI ps (i + 1) := by
  refine ⟨fun x hx => ?_, fun k x hk hx => ?_, by rw [kf_take hi]; exact hn⟩
  · rw [List.take_succ_eq_append_getElem hi] at hx
    rcases List.mem_append.1 hx with hx | hx
    · exact h.fine x hx
    · rw [List.mem_singleton.1 hx]; exact hf
  · by_cases hk2 : k = i
    · subst hk2
      rw [List.getElem?_eq_getElem hi] at hx
      cases hx
      exact ho
    · exact h.ord k x (by omega) hx
theorem SanI.all {ok : Bool} {ps : List Pc} (h : SanI ps ps.length) (h1 : ok = true) (h2 : ps ≠ []) (h3 : ps.length ≤ 480) : Sane ok ps := by
  have e : ps.take ps.length = ps := List.take_length
  exact ⟨h1, h2, h3, by have := h.fine; rwa [e] at this, fun k x hx => h.ord k x (by exact (List.getElem?_eq_some_iff.1 hx).1) hx, by have := h.once; rwa [e] at this⟩
/-- What is asked of a piece behind its kind. -/
def TailC (x : Pc) (i : Nat) (K : List Int) : Prop := 0 ≤ x.min ∧ x.min ≤ 50 ∧ x.max ≤ 50 ∧ SetF x.set ∧ (∀ c ∈ x.kids, 0 ≤ c ∧ c < (i : Int)) ∧ (K ++ x.kids).Nodup
theorem take_one {α : Type} {l : List α} {j : Nat} (h : j < l.length) : l.take (j + 1) = l.take j ++ [l[j]] := List.take_succ_eq_append_getElem h
theorem nodup_take {K l : List Int} (h : (K ++ l).Nodup) (j : Nat) : (K ++ l.take j).Nodup := by
  refine List.Nodup.sublist ?_ h
  exact List.Sublist.append_left (List.take_sublist j l) K
end Go.Vc
namespace Go.Proofs.Ytngbiaeliphdjaa.V
open Go.Vc Go.Proofs Go.RowKit
set_option linter.unusedVariables false
set_option linter.unusedSimpArgs false
theorem saneTail {w31 : World} {l i b29 bk : Nat} {a11 : Option Addr} {l11 : Nat} {r : Raw} {x : Pc} {K : List Int} {R : Rt} {NX : World → Prop} (q31 : Blk w31.heap b29 111 r.cells) (S1 : RawOk w31 r x) (hb : x.set.length ≤ 1099511627776 ∧ x.kids.length ≤ 1099511627776)
    (ha : a11 = some ⟨bk, 0, none⟩) (hl11 : l11 = l) (k31 : Blk w31.heap bk 4 (rowN l fun q => .bool (decide ((q : Int) ∈ K)))) (hne : b29 ≠ bk) (hbk : bk ∉ r.blocks) (hil : i < l) (hl : l ≤ 480) (hK : K.Nodup)
    (no : ¬ TailC x i K → ∀ {w'}, Ext (fun k => k = bk) w31 w' → R (.returned (.bool false)) w') (yes : TailC x i K → ∀ {w'}, Blk w'.heap bk 4 (rowN l fun q => .bool (decide ((q : Int) ∈ K ++ x.kids))) → Ext (fun k => k = bk) w31 w' → NX w') :
    lI w31 b29 2 fun n82 => (cB (decide (n82 < 0)) (R (.returned (.bool false)) w31) (lI w31 b29 2 fun n83 => (cB (decide (n83 > 50)) (R (.returned (.bool false)) w31) (lI w31 b29 3 fun n84 => (cB (decide (n84 > 50)) (R (.returned (.bool false)) w31) (lL w31 b29 1 fun a85 l85 c85 => (cB (decide (((l85 : Nat) : Int) > 128)) (R (.returned (.bool false)) w31) (lL w31 b29 6 fun a86 l86 c86 => ∃ (I87 : Nat → Int → World → Prop), (∃ k89, I87 k89 0 w31) ∧ ∀ k88 (d91 : Nat → Value) n92 w90, I87 k88 n92 w90 → (cB (decide (n92 < ((l86 : Nat) : Int))) (ixS a86 l86 n92 fun b93 o94 => lI w90 b93 (o94 + (Int.toNat n92) * 1) fun n95 => (cB (decide (n95 < 0)) (R (.returned (.bool false)) w90) ((cB (decide (n95 ≥ (i : Int))) (R (.returned (.bool false)) w90) (ixS a11 l11 n95 fun b96 o97 => lB w90 b96 (o97 + (Int.toNat n95) * 1) fun t98 => (cB t98 (R (.returned (.bool false)) w90) (ixS a11 l11 n95 fun b99 o100 => stW b99 (o100 + (Int.toNat n95) * 1) [.bool true] (fun w101 => (∃ m102, m102 < k88 ∧ I87 m102 (IntKind.wrap .i64 (n92 + 1)) w101)) w90))))))) (lL w90 b29 1 fun a103 l103 c103 => ∃ (I104 : Nat → Int → World → Prop), (∃ k106, I104 k106 0 w90) ∧ ∀ k105 (d108 : Nat → Value) n109 w107, I104 k105 n109 w107 → (cB (decide (n109 < ((l103 : Nat) : Int))) (ixS a103 l103 n109 fun b110 o111 => lI w107 b110 (o111 + (Int.toNat n109) * 2) fun n112 => lI w107 b110 (o111 + (Int.toNat n109) * 2 + 1) fun n113 => newC [.int .i64 0, .int .i64 0] 134 (fun b114 w115 => stW b114 0 [.int .i64 n112, .int .i64 n113] (fun w116 => lI w116 b114 0 fun n117 => (cB (decide (n117 < 0)) (R (.returned (.bool false)) w116) (lI w116 b114 1 fun n118 => (cB (decide (n118 > 255)) (R (.returned (.bool false)) w116) (lI w116 b114 0 fun n119 => lI w116 b114 1 fun n120 => (cB (decide (n119 > n120)) (R (.returned (.bool false)) w116) ((∃ m121, m121 < k105 ∧ I104 m121 (IntKind.wrap .i64 (n109 + 1)) w116)))))))) w115) w107) (NX w107)))))))))))) := by
  subst ha hl11
  have sl1 : r.sl = x.set.length := by have := S1.set.1; rw [rngC_length] at this; omega
  have kl1 : r.kl = x.kids.length := by have := S1.kids.1; rw [intC_length] at this; omega
  have hmin := S1.min
  have hmax := S1.max
  have rf := Ext.refl (fun k => k = bk) w31
  have hltq := q31.lt
  have hltk := k31.lt
  refine ⟨_, q31.cell 2, fun h => no (fun hc => ?_) rf, fun h1 => ⟨_, q31.cell 2, fun h => no (fun hc => ?_) rf, fun h2 => ⟨_, q31.cell 3, fun h => no (fun hc => ?_) rf, fun h3 => ⟨_, _, _, q31.cell 1, fun h => no (fun hc => ?_) rf, fun h4 => ⟨_, _, _, q31.cell 6, ?_⟩⟩⟩⟩⟩
  · have := of_decide_eq_true h; have := hc.1; omega
  · have := of_decide_eq_true h; have := hc.2.1; omega
  · have := of_decide_eq_true h; have := hc.2.2.1; omega
  · have := of_decide_eq_true h; have := hc.2.2.2.1.1; omega
  have c1 := of_decide_eq_false h1
  have c2 := of_decide_eq_false h2
  have c3 := of_decide_eq_false h3
  have c4 := of_decide_eq_false h4
  refine ⟨fun k n w' => ∃ j : Nat, n = j ∧ j ≤ x.kids.length ∧ k = x.kids.length - j ∧ (∀ c ∈ x.kids.take j, 0 ≤ c ∧ c < (i : Int)) ∧ (K ++ x.kids.take j).Nodup ∧ Blk w'.heap bk 4 (rowN l11 fun q => .bool (decide ((q : Int) ∈ K ++ x.kids.take j))) ∧ Ext (fun k => k = bk) w31 w',
    ⟨_, 0, rfl, by omega, rfl, by simp, by simpa using hK, by simpa using k31, rf⟩, ?_⟩
  rintro k5 d5 _ w57 ⟨j, rfl, hj, rfl, hjk, hjn, k57, E57⟩
  have S57 := S1.keep E57 fun q hq h => by subst h; exact hbk hq
  have q57 := q31.keep E57 hne
  refine ⟨fun g => ?_, fun g => ?_⟩
  · have gj : j < x.kids.length := by have := of_decide_eq_true g; omega
    have f0 : Int.toNat (j : Int) = j := by omega
    have f1 : IntKind.wrap .i64 ((j : Int) + 1) = ((j + 1 : Nat) : Int) := by rw [w64 (by omega)]; omega
    rw [f0, f1]
    obtain ⟨d1, hd1, hg1⟩ := S57.kids.open (by omega)
    have hmem := List.getElem_mem gj
    have htk := take_one gj
    have hcell : cellH w57.heap d1 (0 + j * 1) = some (.int .i64 x.kids[j]) := by rw [show 0 + j * 1 = j from by omega, hg1 _ (by omega)]; exact intC_at _ j gj
    generalize x.kids[j] = y at *
    refine ⟨d1, 0, ⟨hd1, by omega, by omega⟩, _, hcell, fun h => no (fun hc => ?_) E57, fun h5 => ⟨fun h => no (fun hc => ?_) E57, fun h6 => ?_⟩⟩
    · have := of_decide_eq_true h; have := hc.2.2.2.2.1 y hmem; omega
    · have := of_decide_eq_true h; have := hc.2.2.2.2.1 y hmem; omega
    have c5 := of_decide_eq_false h5
    have c6 := of_decide_eq_false h6
    have hyn : ((y.toNat : Nat) : Int) = y := by omega
    have hcb : cellH w57.heap bk (0 + Int.toNat y * 1) = some (.bool (decide (y ∈ K ++ x.kids.take j))) := by
      rw [show 0 + Int.toNat y * 1 = y.toNat from by omega, k57.cell, rowN_get _ (by omega), hyn]
    refine ⟨bk, 0, ⟨rfl, by omega, by omega⟩, _, hcb, ⟨fun h => no (fun hc => ?_) E57, fun h7 => ⟨bk, 0, ⟨rfl, by omega, by omega⟩, ?_⟩⟩⟩
    · have hin := of_decide_eq_true h
      have hnd := nodup_take hc.2.2.2.2.2 (j + 1)
      rw [htk, ← List.append_assoc, List.nodup_append] at hnd
      exact hnd.2.2 y hin y (List.mem_singleton.2 rfl) rfl
    have c7 := of_decide_eq_false h7
    dsimp only
    rw [show 0 + Int.toNat y * 1 = y.toNat from by omega]
    refine stW_in k57 (by rw [rowN_length]; simp; omega) fun w101 s101 k101 e101 => ?_
    refine ⟨_, by omega, j + 1, rfl, by omega, rfl, fun c hc => ?_, ?_, ?_, E57.trans e101⟩
    · rw [htk] at hc
      rcases List.mem_append.1 hc with hc | hc
      · exact hjk c hc
      · rw [List.mem_singleton.1 hc]; omega
    · rw [htk, ← List.append_assoc, List.nodup_append]
      refine ⟨hjn, by simp, fun a ha b hb => ?_⟩
      rw [List.mem_singleton.1 hb]
      rintro rfl; exact c7 ha
    · have e : segSet (rowN l11 fun q => Value.bool (decide ((q : Int) ∈ K ++ x.kids.take j))) y.toNat [.bool true] = rowN l11 fun q => .bool (decide ((q : Int) ∈ K ++ x.kids.take (j + 1))) := by
        show (rowN l11 fun q => Value.bool (decide ((q : Int) ∈ K ++ x.kids.take j))).set y.toNat (.bool true) = _
        rw [rowN_set]
        refine rowN_ext fun q hq => ?_
        rw [htk]
        by_cases h : q = y.toNat
        · rw [if_pos h]
          have : (q : Int) = y := by omega
          rw [this, decide_eq_true (by simp)]
        · rw [if_neg h]
          congr 1
          apply decide_eq_decide.2
          have : (q : Int) ≠ y := by omega
          simp [this]
      rw [e] at k101
      exact k101
  have hjl : j = x.kids.length := by have := of_decide_eq_false g; omega
  subst hjl
  rw [List.take_length] at hjk hjn k57
  refine ⟨_, _, _, q57.cell 1, ?_⟩
  refine ⟨fun k n w' => ∃ j : Nat, n = j ∧ j ≤ x.set.length ∧ k = x.set.length - j ∧ (∀ c ∈ x.set.take j, 0 ≤ c.1 ∧ c.1 ≤ c.2 ∧ c.2 ≤ 255) ∧ Below w57.heap.size w57 w', ⟨_, 0, rfl, by omega, rfl, by simp, Below.refl _ _⟩, ?_⟩
  rintro k6 d6 _ w107 ⟨j, rfl, hj6, rfl, hjs, B107⟩
  have E107 := E57.trans (Ext.of_below B107)
  refine ⟨fun g => ?_, fun g => ?_⟩
  · have gj : j < x.set.length := by have := of_decide_eq_true g; omega
    have f0 : Int.toNat (j : Int) = j := by omega
    have f1 : IntKind.wrap .i64 ((j : Int) + 1) = ((j + 1 : Nat) : Int) := by rw [w64 (by omega)]; omega
    rw [f0, f1]
    obtain ⟨d1, hd1, hg1⟩ := (S57.keep (S := fun _ => False) (Ext.of_below B107) fun _ _ h => h).set.open (by omega)
    have m1 := rngC_at x.set j gj
    have hmem := List.getElem_mem gj
    have htk := take_one gj
    generalize x.set[j] = y at *
    refine ⟨d1, 0, ⟨hd1, by omega, by omega⟩, _, by rw [Nat.zero_add, hg1 _ (by omega)]; exact m1.1, _, by rw [Nat.zero_add, hg1 _ (by omega)]; exact m1.2, ?_⟩
    refine newC_in fun w115 s115 k115 e115 => ?_
    refine stW_in k115 (by show 0 + 2 ≤ 2; decide) fun w116 s116 k116 e116 => ?_
    have B116 : Below w57.heap.size w57 w116 := Ext.to (Ext.to B107 e115 fun _ h => h.elim) e116 fun i hi => by have := B107.size; omega
    have E116 := E57.trans (Ext.of_below B116)
    refine ⟨_, k116.cell 0, fun h => no (fun hc => ?_) E116, fun h5 => ⟨_, k116.cell 1, fun h => no (fun hc => ?_) E116, fun h6 => ⟨_, k116.cell 0, _, k116.cell 1, fun h => no (fun hc => ?_) E116, fun h7 => ⟨_, by omega, j + 1, rfl, by omega, rfl, fun c hc => ?_, B116⟩⟩⟩⟩
    · have := of_decide_eq_true h; have := hc.2.2.2.1.2 y hmem; omega
    · have := of_decide_eq_true h; have := hc.2.2.2.1.2 y hmem; omega
    · have := of_decide_eq_true h; have := hc.2.2.2.1.2 y hmem; omega
    · rw [htk] at hc
      rcases List.mem_append.1 hc with hc | hc
      · exact hjs c hc
      · rw [List.mem_singleton.1 hc]
        have c5 := of_decide_eq_false h5
        have c6 := of_decide_eq_false h6
        have c7 := of_decide_eq_false h7
        omega
  have hjl : j = x.set.length := by have := of_decide_eq_false g; omega
  subst hjl
  rw [List.take_length] at hjs
  exact yes ⟨by omega, by omega, by omega, ⟨by omega, hjs⟩, hjk, hjn⟩ (k57.below B107) E107
def RetSn (ok : Bool) (ps : List Pc) (w : World) : Rt := fun e w' => ∃ b : Bool, e = .returned (.bool b) ∧ (b = true ↔ Sane ok ps) ∧ Below w.heap.size w w'
theorem sane_ok {w : World} {N : Nat} {a : Option Addr} {l c : Nat} {rs : List Raw} {ps : List Pc} (hP : Pcs N w a l c rs ps) (hf : Fits ps) (ok : Bool) (at_ g : Int) :
    Cl Try.prog 95 [.agg #[.bool ok, .int .i64 at_, .int .i64 g, .slice a l c]] w (RetSn ok ps w) := by
  apply vc95
  unfold V95
  have hl := hP.len
  have hl' := hP.len'
  have no : ¬ Sane ok ps → ∀ {w'}, Below w.heap.size w w' → RetSn ok ps w (.returned (.bool false)) w' := fun hn {w'} hb => ⟨false, rfl, ⟨fun h => (by cases h), fun h => absurd h hn⟩, hb⟩
  refine newC_in fun w6 s6 k6 e6 => ?_
  have B6 : Below w.heap.size w w6 := Ext.to (Below.refl _ _) e6 fun _ h => h.elim
  refine ⟨_, k6.cell 0, fun g0 => no (fun h => by have := h.ok; subst this; simp at g0) B6, fun g0 => ⟨_, _, _, k6.cell 3, fun g1 => no (fun h => ?_) B6, fun g1 => ⟨_, _, _, k6.cell 3, fun g2 => no (fun h => ?_) B6, fun g2 => ⟨_, _, _, k6.cell 3, ?_⟩⟩⟩⟩
  · have : ((l : Nat) : Int) = 0 := by simpa using g1
    exact h.pos (List.length_eq_zero_iff.1 (by omega))
  · have := of_decide_eq_true g2; have := h.len; omega
  have g1' : l ≠ 0 := by rintro rfl; simp at g1
  have g2' : l ≤ 480 := by have := of_decide_eq_false g2; omega
  have g0' : ok = true := by simpa using g0
  obtain ⟨w12, hr12, s12, k12, e12⟩ := makeBools l (by omega) w6
  have q12 := k6.keep e12 fun h => h
  have B12 : Below w.heap.size w w12 := Ext.to B6 e12 fun _ h => h.elim
  have hz6 := B6.size
  refine ⟨_, _, _, w12, hr12, _, _, _, q12.cell 3, fun k n w' => ∃ i : Nat, n = i ∧ i ≤ l ∧ k = l - i ∧ SanI ps i ∧ Blk w'.heap w6.heap.size 4 (rowN l fun q => .bool (decide ((q : Int) ∈ kf (ps.take i)))) ∧ Ext (fun k => k = w6.heap.size) w12 w', ⟨_, 0, rfl, by omega, rfl, SanI.zero ps, by simpa [kf] using k12, Ext.refl _ _⟩, ?_⟩
  rintro k d _ w17 ⟨i, rfl, hi, rfl, hsan, k17, E17⟩
  have B17 : Below w.heap.size w w17 := Ext.to B12 E17 fun j hj => by omega
  refine ⟨fun g => ?_, fun g => ⟨true, rfl, ⟨fun _ => ?_, fun _ => rfl⟩, B17⟩⟩
  rotate_left
  · have : i = ps.length := by have := of_decide_eq_false g; omega
    subst this
    exact hsan.all g0' (by rintro rfl; simp at hl'; omega) (by omega)
  have gi : i < ps.length := by have := of_decide_eq_true g; omega
  have gir : i < rs.length := by omega
  have e0 : Int.toNat (i : Int) = i := by omega
  have e1 : IntKind.wrap .i64 ((i : Int) + 1) = ((i + 1 : Nat) : Int) := by rw [w64 (by omega)]; omega
  rw [e0, e1]
  have P17 := hP.below B17
  obtain ⟨b1, ha1, hc1⟩ := P17.row.open (by omega)
  have k1 := fun o ho => raw_at hc1 hl gir o ho
  have o1 := P17.all i _ _ (List.getElem?_eq_getElem gir) (List.getElem?_eq_getElem gi)
  have sx := hf.2 _ (List.getElem_mem gi)
  have sat := fun h => sane_at (ok := ok) (ps := ps) h gi
  have nxt := fun h1 h2 h3 => hsan.succ gi h1 h2 h3
  have hkt := kf_take gi
  have hrm := List.getElem_mem gir
  generalize rs[i] = r at *
  generalize ps[i] = x at *
  refine ⟨b1, 0, ⟨ha1, by omega, by omega⟩, _, k1 0 (by decide), _, _, _, k1 1 (by decide), _, k1 2 (by decide), _, k1 3 (by decide), _, k1 4 (by decide), _, k1 5 (by decide), _, _, _, k1 6 (by decide), ?_⟩
  refine newC_in fun w30 z30 q30 x30 => ?_
  refine stW_in q30 (by show 0 + 7 ≤ 7; decide) fun w31 z31 q31 x31 => ?_
  have B31 : Below w17.heap.size w17 w31 := Ext.to (Ext.to (Below.refl _ _) x30 fun _ h => h.elim) x31 fun i hi => by omega
  have q31' : Blk w31.heap w17.heap.size 111 r.cells := q31
  have Bw := B17.vstep B31
  have hz17 := B17.size
  have hlt17 := k17.lt
  have S1 := o1.keep (S := fun _ => False) (Ext.of_below B31) fun _ _ h => h
  have sl1 : r.sl = x.set.length := by have := S1.set.1; rw [rngC_length] at this; omega
  have kl1 : r.kl = x.kids.length := by have := S1.kids.1; rw [intC_length] at this; omega
  refine ⟨fun n w' => n = (if x.kind = 4 ∨ x.kind = 5 then 1 else -1 : Int) ∧ w31 = w', ⟨_, q31'.cell 0, fun h => ⟨?_, rfl⟩, fun h => ⟨_, q31'.cell 0, fun h2 => ⟨?_, rfl⟩, fun h2 => ⟨?_, rfl⟩⟩⟩, ?_⟩
  · have : r.kind = 4 := by simpa using h
    rw [if_pos (.inl (by rw [← o1.kind]; exact this))]
  · have : r.kind = 5 := by simpa using h2
    rw [if_pos (.inr (by rw [← o1.kind]; exact this))]
  · have h' : r.kind ≠ 4 := by simpa using h
    have h2' : r.kind ≠ 5 := by simpa using h2
    rw [if_neg]
    rw [← o1.kind]; rintro (h3 | h3)
    · exact h' h3
    · exact h2' h3
  rintro d35 _ _ ⟨rfl, rfl⟩
  have hkd := o1.kind
  have hbk : w6.heap.size ∉ r.blocks := fun h => by
    have h1 := hP.lt w6.heap.size (List.mem_append_right _ (List.mem_flatMap.2 ⟨r, hrm, h⟩))
    omega
  have B31' : Below w.heap.size w w31 := Bw
  have hno : ∀ {w'}, ¬ TailC x i (kf (ps.take i)) → Ext (fun k => k = w6.heap.size) w31 w' → RetSn ok ps w (.returned (.bool false)) w' := fun hn hE => no (fun hS => by
    obtain ⟨f1, f2, f3⟩ := sat hS
    exact hn ⟨f1.min.1, f1.min.2, f1.max, f1.set, f2, f3⟩) (Ext.to Bw hE fun q hq => by omega)
  have tail := fun (h1 : 1 ≤ x.kind) (h2 : x.kind ≤ 7) (h3 : x.kind = 4 ∨ x.kind = 5 → x.kids.length = 1) => saneTail (R := RetSn ok ps w) (NX := fun w' => ∃ m122, m122 < l - i ∧ ∃ i_1 : Nat, ((i + 1 : Nat) : Int) = i_1 ∧ i_1 ≤ l ∧ m122 = l - i_1 ∧ SanI ps i_1 ∧ Blk w'.heap w6.heap.size 4 (rowN l fun q => .bool (decide ((q : Int) ∈ kf (ps.take i_1)))) ∧ Ext (fun k => k = w6.heap.size) w12 w') (a11 := some ⟨w6.heap.size, 0, none⟩) (l11 := l) (i := i) (K := kf (ps.take i)) q31' S1 sx rfl rfl (k17.below B31) (by omega) hbk (by omega) g2' hsan.once (fun hn {w'} hE => hno hn hE)
    (fun hc {w'} hk hE => ⟨_, by omega, i + 1, rfl, by omega, rfl, nxt ⟨⟨h1, h2⟩, h3, ⟨hc.1, hc.2.1⟩, hc.2.2.1, hc.2.2.2.1⟩ hc.2.2.2.2.1 hc.2.2.2.2.2, by rw [hkt]; exact hk, (E17.trans (Ext.of_below B31)).trans hE⟩)
  refine ⟨_, q31'.cell 0, fun h => no (fun hS => ?_) Bw, fun h1 => ⟨_, q31'.cell 0, fun h => no (fun hS => ?_) Bw, fun h2 => ⟨fun h3 => ⟨_, _, _, q31'.cell 6, fun h => no (fun hS => ?_) Bw, fun h4 => ?_⟩, fun h3 => ?_⟩⟩⟩
  · have := of_decide_eq_true h; have := (sat hS).1.kind.1; omega
  · have := of_decide_eq_true h; have := (sat hS).1.kind.2; omega
  · by_cases hk : x.kind = 4 ∨ x.kind = 5
    · rw [if_pos hk] at h
      have h5 : ((r.kl : Nat) : Int) ≠ 1 := by simpa using h
      have := (sat hS).1.one hk
      omega
    · rw [if_neg hk] at h3; have := of_decide_eq_true h3; omega
  · have a1 := of_decide_eq_false h1
    have a2 := of_decide_eq_false h2
    refine tail (by omega) (by omega) fun hk => ?_
    rw [if_pos hk] at h4
    have h5 : ((r.kl : Nat) : Int) = 1 := by simpa using h4
    omega
  · have a1 := of_decide_eq_false h1
    have a2 := of_decide_eq_false h2
    refine tail (by omega) (by omega) fun hk => ?_
    rw [if_pos hk] at h3
    have := of_decide_eq_false h3
    omega
end Go.Proofs.Ytngbiaeliphdjaa.V
/- Printed by vcgen.py, a program of this session: formulas of Go functions, each with the proof that it gives the function's contract. No statement of the seat is proved here. -/
namespace Go.Proofs.Ytngbiaeliphdjaa.V
open Go.Vc Go.Proofs
set_option linter.unusedVariables false
set_option maxRecDepth 100000
/-- spec.l1decimal -/
def V106 (n1 : Int) (R : Rt) : Pred := fun w =>
  ∃ (I2 : Nat → Int → ByteArray → World → Prop), (∃ k4, I2 k4 n1 (⟨#[]⟩ : ByteArray) w) ∧ ∀ k3 (d6 : Nat → Value) n7 s8 w5, I2 k3 n7 s8 w5 → ((10 : Int) ≠ 0) ∧ newC [.int .u8 (IntKind.wrap .u8 (IntKind.wrap .i64 (48 + (Int.tmod n7 10))))] 5 (fun b9 w10 => ∃ s11, (convert 22 9 (.slice (some ⟨b9, 0, none⟩) 1 1)).run Try.prog w10 = .ok (.string s11) w10 ∧ (s11.size + s8.size ≤ 9223372036854775807) ∧ ((10 : Int) ≠ 0) ∧ (cB ((IntKind.wrap .i64 (Int.tdiv n7 10)) == 0) (R (.returned (.string (s11 ++ s8))) w10) ((∃ m12, m12 < k3 ∧ I2 m12 (IntKind.wrap .i64 (Int.tdiv n7 10)) (s11 ++ s8) w10)))) w5
def scr106 : Scr := (.q 1 (.q 1 (.loop (dr [(0, some (.int .i64)), (3, some .str)] [(2,1),(4,13)]) (.q 9 (.q 3 (.q 2 (.cond (.q 2 .nil) .nil)))))))
theorem vc106 {n1} {R w} (h : V106 n1 R w) : Cl Try.prog 106 [.int .i64 n1] w R :=
  cl_of scr106 Try.func106 (by kernel_rfl) _ _ (by kernel_rfl) h
end Go.Proofs.Ytngbiaeliphdjaa.V
/- A string of one byte, or of two. No statement of the seat is proved here. -/
namespace Go.Proofs.Ytngbiaeliphdjaa.V
open Go.Vc Go.Proofs Go.RowKit
set_option linter.unusedVariables false
set_option linter.unusedSimpArgs false
theorem strOf {x : Int} {y : UInt8} (h : x = (y.toNat : Int)) {w0 w : World} (hb : Below w0.heap.size w0 w) {F : ByteArray → World → Prop}
    (hF : ∀ w', Below w0.heap.size w0 w' → F (B [y]) w') :
    newC [.int .u8 x] 5 (fun (b : Nat) (w1 : World) => ∃ (s : ByteArray), (convert 22 9 (.slice (some ⟨b, 0, none⟩) 1 1)).run Try.prog w1 = .ok (.string s) w1 ∧ F s w1) w := by
  subst h
  have hb' : Below w0.heap.size w0 (newW w (.cells ⟨[.int .u8 (y.toNat : Int)]⟩ 5)) := hb.vnew (by have := hb.size; omega) _
  exact ⟨B [y], conv_run Try.underlying22 Try.underlying9 Try.underlying5 (l := [y]) rfl (cellsAt_newW w _ _), hF _ hb'⟩
theorem strOf2 {x x' : Int} {y y' : UInt8} (h : x = (y.toNat : Int)) (h' : x' = (y'.toNat : Int)) {w0 w : World} (hb : Below w0.heap.size w0 w) {F : ByteArray → World → Prop}
    (hF : ∀ w', Below w0.heap.size w0 w' → F (B [y, y']) w') :
    newC [.int .u8 x, .int .u8 x'] 5 (fun (b : Nat) (w1 : World) => ∃ (s : ByteArray), (convert 22 9 (.slice (some ⟨b, 0, none⟩) 2 2)).run Try.prog w1 = .ok (.string s) w1 ∧ F s w1) w := by
  subst h; subst h'
  have hb' : Below w0.heap.size w0 (newW w (.cells ⟨[.int .u8 (y.toNat : Int), .int .u8 (y'.toNat : Int)]⟩ 5)) := hb.vnew (by have := hb.size; omega) _
  exact ⟨B [y, y'], conv_run Try.underlying22 Try.underlying9 Try.underlying5 (l := [y, y']) rfl (cellsAt_newW w _ _), hF _ hb'⟩
theorem u8_of {n : Int} (h : 0 ≤ n ∧ n ≤ 255) : IntKind.wrap .u8 n = ((UInt8.ofNat n.toNat).toNat : Int) := by
  rw [w8]
  simp
  omega
end Go.Proofs.Ytngbiaeliphdjaa.V
/- A number's digits, as the reference writes them. No statement of the seat is proved here. -/
namespace Go.Proofs.Ytngbiaeliphdjaa.V
open Go.Vc Go.Proofs Go.RowKit
set_option linter.unusedVariables false
set_option linter.unusedSimpArgs false
theorem decimal_ok (n : Nat) (h : n ≤ 99) (w : World) : Cl Try.prog 106 [.int .i64 (n : Int)] w (RetB (.string (B (decN n))) w) := by
  apply vc106
  unfold V106
  have e : ∀ m : Nat, m ≤ 9 → IntKind.wrap .u8 (IntKind.wrap .i64 (48 + (m : Int))) = ((UInt8.ofNat (48 + m)).toNat : Int) := fun m hm => by
    rw [w64 (by omega), w8, u8N (by omega)]; omega
  have t1 : ∀ x : Nat, x ≤ 99 → Int.tmod (x : Int) 10 = ((x % 10 : Nat) : Int) := fun x hx => by rw [Int.tmod_eq_emod_of_nonneg (by omega)]; omega
  have t2 : ∀ x : Nat, x ≤ 99 → IntKind.wrap .i64 (Int.tdiv (x : Int) 10) = ((x / 10 : Nat) : Int) := fun x hx => by rw [Int.tdiv_eq_ediv_of_nonneg (by omega), w64 (by omega)]; omega
  refine ⟨fun k x s w' => (k = 2 ∧ x = n ∧ s = B [] ∧ Below w.heap.size w w') ∨ (k = 1 ∧ 10 ≤ n ∧ x = ((n / 10 : Nat) : Int) ∧ s = B [UInt8.ofNat (48 + n % 10)] ∧ Below w.heap.size w w'), ⟨2, .inl ⟨rfl, rfl, rfl, Below.refl _ _⟩⟩, ?_⟩
  rintro k d x s w1 (⟨rfl, rfl, rfl, B1⟩ | ⟨rfl, hn, rfl, rfl, B1⟩)
  · rw [t1 n h, t2 n h]
    refine ⟨by decide, strOf (e _ (by omega)) B1 fun w' hb' => ⟨by rw [size_B, size_B]; simp, by decide, fun g => ?_, fun g => ?_⟩⟩
    · have g' : n / 10 = 0 := by have : ((n / 10 : Nat) : Int) = 0 := by simpa using g
                                 omega
      refine ⟨?_, hb'⟩
      rw [B_append]
      unfold decN
      rw [if_pos (by omega), show n % 10 = n from by omega]
      rfl
    · have g' : ¬ n / 10 = 0 := by have : ¬ ((n / 10 : Nat) : Int) = 0 := by simpa using g
                                   omega
      exact ⟨1, by omega, .inr ⟨rfl, by omega, rfl, by rw [B_append]; rfl, hb'⟩⟩
  · rw [t1 _ (by omega), t2 _ (by omega)]
    refine ⟨by decide, strOf (e _ (by omega)) B1 fun w' hb' => ⟨by rw [size_B, size_B]; simp, by decide, fun g => ?_, fun g => ?_⟩⟩
    · refine ⟨?_, hb'⟩
      rw [B_append]
      unfold decN
      rw [if_neg (by omega), show n / 10 % 10 = n / 10 from by omega]
      rfl
    · have : ¬ ((n / 10 / 10 : Nat) : Int) = 0 := by simpa using g
      omega
end Go.Proofs.Ytngbiaeliphdjaa.V
/- Printed by vcgen.py, a program of this session: formulas of Go functions, each with the proof that it gives the function's contract. No statement of the seat is proved here. -/
namespace Go.Proofs.Ytngbiaeliphdjaa.V
open Go.Vc Go.Proofs
set_option linter.unusedVariables false
set_option maxRecDepth 100000
/-- impl.byteText -/
def V83 (n1 : Int) (R : Rt) : Pred := fun w =>
  (cB (decide (n1 < 33)) (drw (fun w2 => ((0 : Int) ≤ 4) ∧ (ixT (⟨#[48, 49, 50, 51, 52, 53, 54, 55, 56, 57, 97, 98, 99, 100, 101, 102]⟩ : ByteArray) (Int.fdiv n1 (2 ^ (min (Int.toNat 4) 64)))) ∧ (ixT (⟨#[48, 49, 50, 51, 52, 53, 54, 55, 56, 57, 97, 98, 99, 100, 101, 102]⟩ : ByteArray) (IntKind.wrap .i64 (((BitVec.ofInt 64 n1 &&& BitVec.ofInt 64 15).toNat : Int)))) ∧ newC [.int .u8 (byteAt (⟨#[48, 49, 50, 51, 52, 53, 54, 55, 56, 57, 97, 98, 99, 100, 101, 102]⟩ : ByteArray) (Int.toNat (Int.fdiv n1 (2 ^ (min (Int.toNat 4) 64))))), .int .u8 (byteAt (⟨#[48, 49, 50, 51, 52, 53, 54, 55, 56, 57, 97, 98, 99, 100, 101, 102]⟩ : ByteArray) (Int.toNat (IntKind.wrap .i64 (((BitVec.ofInt 64 n1 &&& BitVec.ofInt 64 15).toNat : Int)))))] 5 (fun b3 w4 => ∃ s5, (convert 22 9 (.slice (some ⟨b3, 0, none⟩) 2 2)).run Try.prog w4 = .ok (.string s5) w4 ∧ ((⟨#[92, 120]⟩ : ByteArray).size + s5.size ≤ 9223372036854775807) ∧ R (.returned (.string ((⟨#[92, 120]⟩ : ByteArray) ++ s5))) w4) w2) w) ((cB (decide (n1 > 126)) (drw (fun w6 => ((0 : Int) ≤ 4) ∧ (ixT (⟨#[48, 49, 50, 51, 52, 53, 54, 55, 56, 57, 97, 98, 99, 100, 101, 102]⟩ : ByteArray) (Int.fdiv n1 (2 ^ (min (Int.toNat 4) 64)))) ∧ (ixT (⟨#[48, 49, 50, 51, 52, 53, 54, 55, 56, 57, 97, 98, 99, 100, 101, 102]⟩ : ByteArray) (IntKind.wrap .i64 (((BitVec.ofInt 64 n1 &&& BitVec.ofInt 64 15).toNat : Int)))) ∧ newC [.int .u8 (byteAt (⟨#[48, 49, 50, 51, 52, 53, 54, 55, 56, 57, 97, 98, 99, 100, 101, 102]⟩ : ByteArray) (Int.toNat (Int.fdiv n1 (2 ^ (min (Int.toNat 4) 64))))), .int .u8 (byteAt (⟨#[48, 49, 50, 51, 52, 53, 54, 55, 56, 57, 97, 98, 99, 100, 101, 102]⟩ : ByteArray) (Int.toNat (IntKind.wrap .i64 (((BitVec.ofInt 64 n1 &&& BitVec.ofInt 64 15).toNat : Int)))))] 5 (fun b7 w8 => ∃ s9, (convert 22 9 (.slice (some ⟨b7, 0, none⟩) 2 2)).run Try.prog w8 = .ok (.string s9) w8 ∧ ((⟨#[92, 120]⟩ : ByteArray).size + s9.size ≤ 9223372036854775807) ∧ R (.returned (.string ((⟨#[92, 120]⟩ : ByteArray) ++ s9))) w8) w6) w) ((cB (decide (n1 ≥ 48)) ((cB (decide (n1 ≤ 57)) (newC [.int .u8 (IntKind.wrap .u8 n1)] 5 (fun b10 w11 => ∃ s12, (convert 22 9 (.slice (some ⟨b10, 0, none⟩) 1 1)).run Try.prog w11 = .ok (.string s12) w11 ∧ R (.returned (.string s12)) w11) w) ((cB (decide (n1 ≥ 97)) ((cB (decide (n1 ≤ 122)) (newC [.int .u8 (IntKind.wrap .u8 n1)] 5 (fun b13 w14 => ∃ s15, (convert 22 9 (.slice (some ⟨b13, 0, none⟩) 1 1)).run Try.prog w14 = .ok (.string s15) w14 ∧ R (.returned (.string s15)) w14) w) ((cB (decide (n1 ≥ 65)) ((cB (decide (n1 ≤ 90)) (newC [.int .u8 (IntKind.wrap .u8 n1)] 5 (fun b16 w17 => ∃ s18, (convert 22 9 (.slice (some ⟨b16, 0, none⟩) 1 1)).run Try.prog w17 = .ok (.string s18) w17 ∧ R (.returned (.string s18)) w17) w) ((cB (n1 == 95) (newC [.int .u8 (IntKind.wrap .u8 n1)] 5 (fun b19 w20 => ∃ s21, (convert 22 9 (.slice (some ⟨b19, 0, none⟩) 1 1)).run Try.prog w20 = .ok (.string s21) w20 ∧ R (.returned (.string s21)) w20) w) ((cB (n1 == 44) (newC [.int .u8 (IntKind.wrap .u8 n1)] 5 (fun b22 w23 => ∃ s24, (convert 22 9 (.slice (some ⟨b22, 0, none⟩) 1 1)).run Try.prog w23 = .ok (.string s24) w23 ∧ R (.returned (.string s24)) w23) w) ((cB (n1 == 58) (newC [.int .u8 (IntKind.wrap .u8 n1)] 5 (fun b25 w26 => ∃ s27, (convert 22 9 (.slice (some ⟨b25, 0, none⟩) 1 1)).run Try.prog w26 = .ok (.string s27) w26 ∧ R (.returned (.string s27)) w26) w) ((cB (n1 == 61) (newC [.int .u8 (IntKind.wrap .u8 n1)] 5 (fun b28 w29 => ∃ s30, (convert 22 9 (.slice (some ⟨b28, 0, none⟩) 1 1)).run Try.prog w29 = .ok (.string s30) w29 ∧ R (.returned (.string s30)) w29) w) (newC [.int .u8 (IntKind.wrap .u8 n1)] 5 (fun b31 w32 => ∃ s33, (convert 22 9 (.slice (some ⟨b31, 0, none⟩) 1 1)).run Try.prog w32 = .ok (.string s33) w32 ∧ ((⟨#[92]⟩ : ByteArray).size + s33.size ≤ 9223372036854775807) ∧ R (.returned (.string ((⟨#[92]⟩ : ByteArray) ++ s33))) w32) w))))))))))) ((cB (n1 == 95) (newC [.int .u8 (IntKind.wrap .u8 n1)] 5 (fun b34 w35 => ∃ s36, (convert 22 9 (.slice (some ⟨b34, 0, none⟩) 1 1)).run Try.prog w35 = .ok (.string s36) w35 ∧ R (.returned (.string s36)) w35) w) ((cB (n1 == 44) (newC [.int .u8 (IntKind.wrap .u8 n1)] 5 (fun b37 w38 => ∃ s39, (convert 22 9 (.slice (some ⟨b37, 0, none⟩) 1 1)).run Try.prog w38 = .ok (.string s39) w38 ∧ R (.returned (.string s39)) w38) w) ((cB (n1 == 58) (newC [.int .u8 (IntKind.wrap .u8 n1)] 5 (fun b40 w41 => ∃ s42, (convert 22 9 (.slice (some ⟨b40, 0, none⟩) 1 1)).run Try.prog w41 = .ok (.string s42) w41 ∧ R (.returned (.string s42)) w41) w) ((cB (n1 == 61) (newC [.int .u8 (IntKind.wrap .u8 n1)] 5 (fun b43 w44 => ∃ s45, (convert 22 9 (.slice (some ⟨b43, 0, none⟩) 1 1)).run Try.prog w44 = .ok (.string s45) w44 ∧ R (.returned (.string s45)) w44) w) (newC [.int .u8 (IntKind.wrap .u8 n1)] 5 (fun b46 w47 => ∃ s48, (convert 22 9 (.slice (some ⟨b46, 0, none⟩) 1 1)).run Try.prog w47 = .ok (.string s48) w47 ∧ ((⟨#[92]⟩ : ByteArray).size + s48.size ≤ 9223372036854775807) ∧ R (.returned (.string ((⟨#[92]⟩ : ByteArray) ++ s48))) w47) w))))))))))))) ((cB (decide (n1 ≥ 65)) ((cB (decide (n1 ≤ 90)) (newC [.int .u8 (IntKind.wrap .u8 n1)] 5 (fun b49 w50 => ∃ s51, (convert 22 9 (.slice (some ⟨b49, 0, none⟩) 1 1)).run Try.prog w50 = .ok (.string s51) w50 ∧ R (.returned (.string s51)) w50) w) ((cB (n1 == 95) (newC [.int .u8 (IntKind.wrap .u8 n1)] 5 (fun b52 w53 => ∃ s54, (convert 22 9 (.slice (some ⟨b52, 0, none⟩) 1 1)).run Try.prog w53 = .ok (.string s54) w53 ∧ R (.returned (.string s54)) w53) w) ((cB (n1 == 44) (newC [.int .u8 (IntKind.wrap .u8 n1)] 5 (fun b55 w56 => ∃ s57, (convert 22 9 (.slice (some ⟨b55, 0, none⟩) 1 1)).run Try.prog w56 = .ok (.string s57) w56 ∧ R (.returned (.string s57)) w56) w) ((cB (n1 == 58) (newC [.int .u8 (IntKind.wrap .u8 n1)] 5 (fun b58 w59 => ∃ s60, (convert 22 9 (.slice (some ⟨b58, 0, none⟩) 1 1)).run Try.prog w59 = .ok (.string s60) w59 ∧ R (.returned (.string s60)) w59) w) ((cB (n1 == 61) (newC [.int .u8 (IntKind.wrap .u8 n1)] 5 (fun b61 w62 => ∃ s63, (convert 22 9 (.slice (some ⟨b61, 0, none⟩) 1 1)).run Try.prog w62 = .ok (.string s63) w62 ∧ R (.returned (.string s63)) w62) w) (newC [.int .u8 (IntKind.wrap .u8 n1)] 5 (fun b64 w65 => ∃ s66, (convert 22 9 (.slice (some ⟨b64, 0, none⟩) 1 1)).run Try.prog w65 = .ok (.string s66) w65 ∧ ((⟨#[92]⟩ : ByteArray).size + s66.size ≤ 9223372036854775807) ∧ R (.returned (.string ((⟨#[92]⟩ : ByteArray) ++ s66))) w65) w))))))))))) ((cB (n1 == 95) (newC [.int .u8 (IntKind.wrap .u8 n1)] 5 (fun b67 w68 => ∃ s69, (convert 22 9 (.slice (some ⟨b67, 0, none⟩) 1 1)).run Try.prog w68 = .ok (.string s69) w68 ∧ R (.returned (.string s69)) w68) w) ((cB (n1 == 44) (newC [.int .u8 (IntKind.wrap .u8 n1)] 5 (fun b70 w71 => ∃ s72, (convert 22 9 (.slice (some ⟨b70, 0, none⟩) 1 1)).run Try.prog w71 = .ok (.string s72) w71 ∧ R (.returned (.string s72)) w71) w) ((cB (n1 == 58) (newC [.int .u8 (IntKind.wrap .u8 n1)] 5 (fun b73 w74 => ∃ s75, (convert 22 9 (.slice (some ⟨b73, 0, none⟩) 1 1)).run Try.prog w74 = .ok (.string s75) w74 ∧ R (.returned (.string s75)) w74) w) ((cB (n1 == 61) (newC [.int .u8 (IntKind.wrap .u8 n1)] 5 (fun b76 w77 => ∃ s78, (convert 22 9 (.slice (some ⟨b76, 0, none⟩) 1 1)).run Try.prog w77 = .ok (.string s78) w77 ∧ R (.returned (.string s78)) w77) w) (newC [.int .u8 (IntKind.wrap .u8 n1)] 5 (fun b79 w80 => ∃ s81, (convert 22 9 (.slice (some ⟨b79, 0, none⟩) 1 1)).run Try.prog w80 = .ok (.string s81) w80 ∧ ((⟨#[92]⟩ : ByteArray).size + s81.size ≤ 9223372036854775807) ∧ R (.returned (.string ((⟨#[92]⟩ : ByteArray) ++ s81))) w80) w))))))))))))))) ((cB (decide (n1 ≥ 97)) ((cB (decide (n1 ≤ 122)) (newC [.int .u8 (IntKind.wrap .u8 n1)] 5 (fun b82 w83 => ∃ s84, (convert 22 9 (.slice (some ⟨b82, 0, none⟩) 1 1)).run Try.prog w83 = .ok (.string s84) w83 ∧ R (.returned (.string s84)) w83) w) ((cB (decide (n1 ≥ 65)) ((cB (decide (n1 ≤ 90)) (newC [.int .u8 (IntKind.wrap .u8 n1)] 5 (fun b85 w86 => ∃ s87, (convert 22 9 (.slice (some ⟨b85, 0, none⟩) 1 1)).run Try.prog w86 = .ok (.string s87) w86 ∧ R (.returned (.string s87)) w86) w) ((cB (n1 == 95) (newC [.int .u8 (IntKind.wrap .u8 n1)] 5 (fun b88 w89 => ∃ s90, (convert 22 9 (.slice (some ⟨b88, 0, none⟩) 1 1)).run Try.prog w89 = .ok (.string s90) w89 ∧ R (.returned (.string s90)) w89) w) ((cB (n1 == 44) (newC [.int .u8 (IntKind.wrap .u8 n1)] 5 (fun b91 w92 => ∃ s93, (convert 22 9 (.slice (some ⟨b91, 0, none⟩) 1 1)).run Try.prog w92 = .ok (.string s93) w92 ∧ R (.returned (.string s93)) w92) w) ((cB (n1 == 58) (newC [.int .u8 (IntKind.wrap .u8 n1)] 5 (fun b94 w95 => ∃ s96, (convert 22 9 (.slice (some ⟨b94, 0, none⟩) 1 1)).run Try.prog w95 = .ok (.string s96) w95 ∧ R (.returned (.string s96)) w95) w) ((cB (n1 == 61) (newC [.int .u8 (IntKind.wrap .u8 n1)] 5 (fun b97 w98 => ∃ s99, (convert 22 9 (.slice (some ⟨b97, 0, none⟩) 1 1)).run Try.prog w98 = .ok (.string s99) w98 ∧ R (.returned (.string s99)) w98) w) (newC [.int .u8 (IntKind.wrap .u8 n1)] 5 (fun b100 w101 => ∃ s102, (convert 22 9 (.slice (some ⟨b100, 0, none⟩) 1 1)).run Try.prog w101 = .ok (.string s102) w101 ∧ ((⟨#[92]⟩ : ByteArray).size + s102.size ≤ 9223372036854775807) ∧ R (.returned (.string ((⟨#[92]⟩ : ByteArray) ++ s102))) w101) w))))))))))) ((cB (n1 == 95) (newC [.int .u8 (IntKind.wrap .u8 n1)] 5 (fun b103 w104 => ∃ s105, (convert 22 9 (.slice (some ⟨b103, 0, none⟩) 1 1)).run Try.prog w104 = .ok (.string s105) w104 ∧ R (.returned (.string s105)) w104) w) ((cB (n1 == 44) (newC [.int .u8 (IntKind.wrap .u8 n1)] 5 (fun b106 w107 => ∃ s108, (convert 22 9 (.slice (some ⟨b106, 0, none⟩) 1 1)).run Try.prog w107 = .ok (.string s108) w107 ∧ R (.returned (.string s108)) w107) w) ((cB (n1 == 58) (newC [.int .u8 (IntKind.wrap .u8 n1)] 5 (fun b109 w110 => ∃ s111, (convert 22 9 (.slice (some ⟨b109, 0, none⟩) 1 1)).run Try.prog w110 = .ok (.string s111) w110 ∧ R (.returned (.string s111)) w110) w) ((cB (n1 == 61) (newC [.int .u8 (IntKind.wrap .u8 n1)] 5 (fun b112 w113 => ∃ s114, (convert 22 9 (.slice (some ⟨b112, 0, none⟩) 1 1)).run Try.prog w113 = .ok (.string s114) w113 ∧ R (.returned (.string s114)) w113) w) (newC [.int .u8 (IntKind.wrap .u8 n1)] 5 (fun b115 w116 => ∃ s117, (convert 22 9 (.slice (some ⟨b115, 0, none⟩) 1 1)).run Try.prog w116 = .ok (.string s117) w116 ∧ ((⟨#[92]⟩ : ByteArray).size + s117.size ≤ 9223372036854775807) ∧ R (.returned (.string ((⟨#[92]⟩ : ByteArray) ++ s117))) w116) w))))))))))))) ((cB (decide (n1 ≥ 65)) ((cB (decide (n1 ≤ 90)) (newC [.int .u8 (IntKind.wrap .u8 n1)] 5 (fun b118 w119 => ∃ s120, (convert 22 9 (.slice (some ⟨b118, 0, none⟩) 1 1)).run Try.prog w119 = .ok (.string s120) w119 ∧ R (.returned (.string s120)) w119) w) ((cB (n1 == 95) (newC [.int .u8 (IntKind.wrap .u8 n1)] 5 (fun b121 w122 => ∃ s123, (convert 22 9 (.slice (some ⟨b121, 0, none⟩) 1 1)).run Try.prog w122 = .ok (.string s123) w122 ∧ R (.returned (.string s123)) w122) w) ((cB (n1 == 44) (newC [.int .u8 (IntKind.wrap .u8 n1)] 5 (fun b124 w125 => ∃ s126, (convert 22 9 (.slice (some ⟨b124, 0, none⟩) 1 1)).run Try.prog w125 = .ok (.string s126) w125 ∧ R (.returned (.string s126)) w125) w) ((cB (n1 == 58) (newC [.int .u8 (IntKind.wrap .u8 n1)] 5 (fun b127 w128 => ∃ s129, (convert 22 9 (.slice (some ⟨b127, 0, none⟩) 1 1)).run Try.prog w128 = .ok (.string s129) w128 ∧ R (.returned (.string s129)) w128) w) ((cB (n1 == 61) (newC [.int .u8 (IntKind.wrap .u8 n1)] 5 (fun b130 w131 => ∃ s132, (convert 22 9 (.slice (some ⟨b130, 0, none⟩) 1 1)).run Try.prog w131 = .ok (.string s132) w131 ∧ R (.returned (.string s132)) w131) w) (newC [.int .u8 (IntKind.wrap .u8 n1)] 5 (fun b133 w134 => ∃ s135, (convert 22 9 (.slice (some ⟨b133, 0, none⟩) 1 1)).run Try.prog w134 = .ok (.string s135) w134 ∧ ((⟨#[92]⟩ : ByteArray).size + s135.size ≤ 9223372036854775807) ∧ R (.returned (.string ((⟨#[92]⟩ : ByteArray) ++ s135))) w134) w))))))))))) ((cB (n1 == 95) (newC [.int .u8 (IntKind.wrap .u8 n1)] 5 (fun b136 w137 => ∃ s138, (convert 22 9 (.slice (some ⟨b136, 0, none⟩) 1 1)).run Try.prog w137 = .ok (.string s138) w137 ∧ R (.returned (.string s138)) w137) w) ((cB (n1 == 44) (newC [.int .u8 (IntKind.wrap .u8 n1)] 5 (fun b139 w140 => ∃ s141, (convert 22 9 (.slice (some ⟨b139, 0, none⟩) 1 1)).run Try.prog w140 = .ok (.string s141) w140 ∧ R (.returned (.string s141)) w140) w) ((cB (n1 == 58) (newC [.int .u8 (IntKind.wrap .u8 n1)] 5 (fun b142 w143 => ∃ s144, (convert 22 9 (.slice (some ⟨b142, 0, none⟩) 1 1)).run Try.prog w143 = .ok (.string s144) w143 ∧ R (.returned (.string s144)) w143) w) ((cB (n1 == 61) (newC [.int .u8 (IntKind.wrap .u8 n1)] 5 (fun b145 w146 => ∃ s147, (convert 22 9 (.slice (some ⟨b145, 0, none⟩) 1 1)).run Try.prog w146 = .ok (.string s147) w146 ∧ R (.returned (.string s147)) w146) w) (newC [.int .u8 (IntKind.wrap .u8 n1)] 5 (fun b148 w149 => ∃ s150, (convert 22 9 (.slice (some ⟨b148, 0, none⟩) 1 1)).run Try.prog w149 = .ok (.string s150) w149 ∧ ((⟨#[92]⟩ : ByteArray).size + s150.size ≤ 9223372036854775807) ∧ R (.returned (.string ((⟨#[92]⟩ : ByteArray) ++ s150))) w149) w))))))))))))))))))
def scr83 : Scr := (.q 1 (.run [0,1,2] (.split 6 (.r [3,4,5,6] (.lit (.q 10 .nil))) (.r [3,4,5,6] (.cond (.q 10 .nil) (.run [0,1,2] (.split 22 (.r [3,4,5,6] (.cond (.lit (.q 5 .nil)) (.run [0,1,2] (.split 28 (.r [3,4,5,6] (.cond (.lit (.q 5 .nil)) (.run [0,1,2] (.split 34 (.r [3,4,5,6] (.cond (.lit (.q 5 .nil)) (.q 3 (.cond (.lit (.q 5 .nil)) (.q 3 (.cond (.lit (.q 5 .nil)) (.q 3 (.cond (.lit (.q 5 .nil)) (.q 3 (.cond (.q 5 .nil) (.q 6 .nil))))))))))) (.r [3,4,5,6] (.lit (.q 3 (.cond (.lit (.q 5 .nil)) (.q 3 (.cond (.lit (.q 5 .nil)) (.q 3 (.cond (.lit (.q 5 .nil)) (.q 3 (.cond (.q 5 .nil) (.q 6 .nil))))))))))))))) (.r [3,4,5,6] (.lit (.run [0,1,2] (.split 34 (.r [3,4,5,6] (.cond (.lit (.q 5 .nil)) (.q 3 (.cond (.lit (.q 5 .nil)) (.q 3 (.cond (.lit (.q 5 .nil)) (.q 3 (.cond (.lit (.q 5 .nil)) (.q 3 (.cond (.q 5 .nil) (.q 6 .nil))))))))))) (.r [3,4,5,6] (.lit (.q 3 (.cond (.lit (.q 5 .nil)) (.q 3 (.cond (.lit (.q 5 .nil)) (.q 3 (.cond (.lit (.q 5 .nil)) (.q 3 (.cond (.q 5 .nil) (.q 6 .nil))))))))))))))))))) (.r [3,4,5,6] (.lit (.run [0,1,2] (.split 28 (.r [3,4,5,6] (.cond (.lit (.q 5 .nil)) (.run [0,1,2] (.split 34 (.r [3,4,5,6] (.cond (.lit (.q 5 .nil)) (.q 3 (.cond (.lit (.q 5 .nil)) (.q 3 (.cond (.lit (.q 5 .nil)) (.q 3 (.cond (.lit (.q 5 .nil)) (.q 3 (.cond (.q 5 .nil) (.q 6 .nil))))))))))) (.r [3,4,5,6] (.lit (.q 3 (.cond (.lit (.q 5 .nil)) (.q 3 (.cond (.lit (.q 5 .nil)) (.q 3 (.cond (.lit (.q 5 .nil)) (.q 3 (.cond (.q 5 .nil) (.q 6 .nil))))))))))))))) (.r [3,4,5,6] (.lit (.run [0,1,2] (.split 34 (.r [3,4,5,6] (.cond (.lit (.q 5 .nil)) (.q 3 (.cond (.lit (.q 5 .nil)) (.q 3 (.cond (.lit (.q 5 .nil)) (.q 3 (.cond (.lit (.q 5 .nil)) (.q 3 (.cond (.q 5 .nil) (.q 6 .nil))))))))))) (.r [3,4,5,6] (.lit (.q 3 (.cond (.lit (.q 5 .nil)) (.q 3 (.cond (.lit (.q 5 .nil)) (.q 3 (.cond (.lit (.q 5 .nil)) (.q 3 (.cond (.q 5 .nil) (.q 6 .nil))))))))))))))))))))))))))
theorem vc83 {n1} {R w} (h : V83 n1 R w) : Cl Try.prog 83 [.int .i64 n1] w R :=
  cl_of scr83 Try.func83 (by kernel_rfl) _ _ (by kernel_rfl) h
/-- spec.l1byte -/
def V84 (n1 : Int) (R : Rt) : Pred := fun w =>
  (cB (decide (n1 < 33)) (drw (fun w2 => ((16 : Int) ≠ 0) ∧ ((16 : Int) ≠ 0) ∧ (slT (⟨#[48, 49, 50, 51, 52, 53, 54, 55, 56, 57, 97, 98, 99, 100, 101, 102]⟩ : ByteArray) (IntKind.wrap .i64 (Int.tdiv n1 16)) (IntKind.wrap .i64 ((IntKind.wrap .i64 (Int.tdiv n1 16)) + 1))) ∧ ((⟨#[92, 120]⟩ : ByteArray).size + (ByteArray.extract (⟨#[48, 49, 50, 51, 52, 53, 54, 55, 56, 57, 97, 98, 99, 100, 101, 102]⟩ : ByteArray) (Int.toNat (IntKind.wrap .i64 (Int.tdiv n1 16))) (Int.toNat (IntKind.wrap .i64 ((IntKind.wrap .i64 (Int.tdiv n1 16)) + 1)))).size ≤ 9223372036854775807) ∧ ((16 : Int) ≠ 0) ∧ ((16 : Int) ≠ 0) ∧ (slT (⟨#[48, 49, 50, 51, 52, 53, 54, 55, 56, 57, 97, 98, 99, 100, 101, 102]⟩ : ByteArray) (Int.tmod n1 16) (IntKind.wrap .i64 ((Int.tmod n1 16) + 1))) ∧ (((⟨#[92, 120]⟩ : ByteArray) ++ (ByteArray.extract (⟨#[48, 49, 50, 51, 52, 53, 54, 55, 56, 57, 97, 98, 99, 100, 101, 102]⟩ : ByteArray) (Int.toNat (IntKind.wrap .i64 (Int.tdiv n1 16))) (Int.toNat (IntKind.wrap .i64 ((IntKind.wrap .i64 (Int.tdiv n1 16)) + 1))))).size + (ByteArray.extract (⟨#[48, 49, 50, 51, 52, 53, 54, 55, 56, 57, 97, 98, 99, 100, 101, 102]⟩ : ByteArray) (Int.toNat (Int.tmod n1 16)) (Int.toNat (IntKind.wrap .i64 ((Int.tmod n1 16) + 1)))).size ≤ 9223372036854775807) ∧ R (.returned (.string (((⟨#[92, 120]⟩ : ByteArray) ++ (ByteArray.extract (⟨#[48, 49, 50, 51, 52, 53, 54, 55, 56, 57, 97, 98, 99, 100, 101, 102]⟩ : ByteArray) (Int.toNat (IntKind.wrap .i64 (Int.tdiv n1 16))) (Int.toNat (IntKind.wrap .i64 ((IntKind.wrap .i64 (Int.tdiv n1 16)) + 1))))) ++ (ByteArray.extract (⟨#[48, 49, 50, 51, 52, 53, 54, 55, 56, 57, 97, 98, 99, 100, 101, 102]⟩ : ByteArray) (Int.toNat (Int.tmod n1 16)) (Int.toNat (IntKind.wrap .i64 ((Int.tmod n1 16) + 1))))))) w2) w) ((cB (decide (n1 > 126)) (drw (fun w3 => ((16 : Int) ≠ 0) ∧ ((16 : Int) ≠ 0) ∧ (slT (⟨#[48, 49, 50, 51, 52, 53, 54, 55, 56, 57, 97, 98, 99, 100, 101, 102]⟩ : ByteArray) (IntKind.wrap .i64 (Int.tdiv n1 16)) (IntKind.wrap .i64 ((IntKind.wrap .i64 (Int.tdiv n1 16)) + 1))) ∧ ((⟨#[92, 120]⟩ : ByteArray).size + (ByteArray.extract (⟨#[48, 49, 50, 51, 52, 53, 54, 55, 56, 57, 97, 98, 99, 100, 101, 102]⟩ : ByteArray) (Int.toNat (IntKind.wrap .i64 (Int.tdiv n1 16))) (Int.toNat (IntKind.wrap .i64 ((IntKind.wrap .i64 (Int.tdiv n1 16)) + 1)))).size ≤ 9223372036854775807) ∧ ((16 : Int) ≠ 0) ∧ ((16 : Int) ≠ 0) ∧ (slT (⟨#[48, 49, 50, 51, 52, 53, 54, 55, 56, 57, 97, 98, 99, 100, 101, 102]⟩ : ByteArray) (Int.tmod n1 16) (IntKind.wrap .i64 ((Int.tmod n1 16) + 1))) ∧ (((⟨#[92, 120]⟩ : ByteArray) ++ (ByteArray.extract (⟨#[48, 49, 50, 51, 52, 53, 54, 55, 56, 57, 97, 98, 99, 100, 101, 102]⟩ : ByteArray) (Int.toNat (IntKind.wrap .i64 (Int.tdiv n1 16))) (Int.toNat (IntKind.wrap .i64 ((IntKind.wrap .i64 (Int.tdiv n1 16)) + 1))))).size + (ByteArray.extract (⟨#[48, 49, 50, 51, 52, 53, 54, 55, 56, 57, 97, 98, 99, 100, 101, 102]⟩ : ByteArray) (Int.toNat (Int.tmod n1 16)) (Int.toNat (IntKind.wrap .i64 ((Int.tmod n1 16) + 1)))).size ≤ 9223372036854775807) ∧ R (.returned (.string (((⟨#[92, 120]⟩ : ByteArray) ++ (ByteArray.extract (⟨#[48, 49, 50, 51, 52, 53, 54, 55, 56, 57, 97, 98, 99, 100, 101, 102]⟩ : ByteArray) (Int.toNat (IntKind.wrap .i64 (Int.tdiv n1 16))) (Int.toNat (IntKind.wrap .i64 ((IntKind.wrap .i64 (Int.tdiv n1 16)) + 1))))) ++ (ByteArray.extract (⟨#[48, 49, 50, 51, 52, 53, 54, 55, 56, 57, 97, 98, 99, 100, 101, 102]⟩ : ByteArray) (Int.toNat (Int.tmod n1 16)) (Int.toNat (IntKind.wrap .i64 ((Int.tmod n1 16) + 1))))))) w3) w) ((cB (decide (n1 ≥ 97)) ((cB (decide (n1 ≤ 122)) (newC [.int .u8 (IntKind.wrap .u8 n1)] 5 (fun b4 w5 => ∃ s6, (convert 22 9 (.slice (some ⟨b4, 0, none⟩) 1 1)).run Try.prog w5 = .ok (.string s6) w5 ∧ R (.returned (.string s6)) w5) w) ((cB (decide (n1 ≥ 65)) ((cB (decide (n1 ≤ 90)) (newC [.int .u8 (IntKind.wrap .u8 n1)] 5 (fun b7 w8 => ∃ s9, (convert 22 9 (.slice (some ⟨b7, 0, none⟩) 1 1)).run Try.prog w8 = .ok (.string s9) w8 ∧ R (.returned (.string s9)) w8) w) ((cB (decide (n1 ≥ 48)) ((cB (decide (n1 ≤ 57)) (newC [.int .u8 (IntKind.wrap .u8 n1)] 5 (fun b10 w11 => ∃ s12, (convert 22 9 (.slice (some ⟨b10, 0, none⟩) 1 1)).run Try.prog w11 = .ok (.string s12) w11 ∧ R (.returned (.string s12)) w11) w) ((cB (n1 == 95) (newC [.int .u8 (IntKind.wrap .u8 n1)] 5 (fun b13 w14 => ∃ s15, (convert 22 9 (.slice (some ⟨b13, 0, none⟩) 1 1)).run Try.prog w14 = .ok (.string s15) w14 ∧ R (.returned (.string s15)) w14) w) ((cB (n1 == 44) (newC [.int .u8 (IntKind.wrap .u8 n1)] 5 (fun b16 w17 => ∃ s18, (convert 22 9 (.slice (some ⟨b16, 0, none⟩) 1 1)).run Try.prog w17 = .ok (.string s18) w17 ∧ R (.returned (.string s18)) w17) w) ((cB (n1 == 58) (newC [.int .u8 (IntKind.wrap .u8 n1)] 5 (fun b19 w20 => ∃ s21, (convert 22 9 (.slice (some ⟨b19, 0, none⟩) 1 1)).run Try.prog w20 = .ok (.string s21) w20 ∧ R (.returned (.string s21)) w20) w) ((cB (n1 == 61) (newC [.int .u8 (IntKind.wrap .u8 n1)] 5 (fun b22 w23 => ∃ s24, (convert 22 9 (.slice (some ⟨b22, 0, none⟩) 1 1)).run Try.prog w23 = .ok (.string s24) w23 ∧ R (.returned (.string s24)) w23) w) (newC [.int .u8 (IntKind.wrap .u8 n1)] 5 (fun b25 w26 => ∃ s27, (convert 22 9 (.slice (some ⟨b25, 0, none⟩) 1 1)).run Try.prog w26 = .ok (.string s27) w26 ∧ ((⟨#[92]⟩ : ByteArray).size + s27.size ≤ 9223372036854775807) ∧ R (.returned (.string ((⟨#[92]⟩ : ByteArray) ++ s27))) w26) w))))))))))) ((cB (n1 == 95) (newC [.int .u8 (IntKind.wrap .u8 n1)] 5 (fun b28 w29 => ∃ s30, (convert 22 9 (.slice (some ⟨b28, 0, none⟩) 1 1)).run Try.prog w29 = .ok (.string s30) w29 ∧ R (.returned (.string s30)) w29) w) ((cB (n1 == 44) (newC [.int .u8 (IntKind.wrap .u8 n1)] 5 (fun b31 w32 => ∃ s33, (convert 22 9 (.slice (some ⟨b31, 0, none⟩) 1 1)).run Try.prog w32 = .ok (.string s33) w32 ∧ R (.returned (.string s33)) w32) w) ((cB (n1 == 58) (newC [.int .u8 (IntKind.wrap .u8 n1)] 5 (fun b34 w35 => ∃ s36, (convert 22 9 (.slice (some ⟨b34, 0, none⟩) 1 1)).run Try.prog w35 = .ok (.string s36) w35 ∧ R (.returned (.string s36)) w35) w) ((cB (n1 == 61) (newC [.int .u8 (IntKind.wrap .u8 n1)] 5 (fun b37 w38 => ∃ s39, (convert 22 9 (.slice (some ⟨b37, 0, none⟩) 1 1)).run Try.prog w38 = .ok (.string s39) w38 ∧ R (.returned (.string s39)) w38) w) (newC [.int .u8 (IntKind.wrap .u8 n1)] 5 (fun b40 w41 => ∃ s42, (convert 22 9 (.slice (some ⟨b40, 0, none⟩) 1 1)).run Try.prog w41 = .ok (.string s42) w41 ∧ ((⟨#[92]⟩ : ByteArray).size + s42.size ≤ 9223372036854775807) ∧ R (.returned (.string ((⟨#[92]⟩ : ByteArray) ++ s42))) w41) w))))))))))))) ((cB (decide (n1 ≥ 48)) ((cB (decide (n1 ≤ 57)) (newC [.int .u8 (IntKind.wrap .u8 n1)] 5 (fun b43 w44 => ∃ s45, (convert 22 9 (.slice (some ⟨b43, 0, none⟩) 1 1)).run Try.prog w44 = .ok (.string s45) w44 ∧ R (.returned (.string s45)) w44) w) ((cB (n1 == 95) (newC [.int .u8 (IntKind.wrap .u8 n1)] 5 (fun b46 w47 => ∃ s48, (convert 22 9 (.slice (some ⟨b46, 0, none⟩) 1 1)).run Try.prog w47 = .ok (.string s48) w47 ∧ R (.returned (.string s48)) w47) w) ((cB (n1 == 44) (newC [.int .u8 (IntKind.wrap .u8 n1)] 5 (fun b49 w50 => ∃ s51, (convert 22 9 (.slice (some ⟨b49, 0, none⟩) 1 1)).run Try.prog w50 = .ok (.string s51) w50 ∧ R (.returned (.string s51)) w50) w) ((cB (n1 == 58) (newC [.int .u8 (IntKind.wrap .u8 n1)] 5 (fun b52 w53 => ∃ s54, (convert 22 9 (.slice (some ⟨b52, 0, none⟩) 1 1)).run Try.prog w53 = .ok (.string s54) w53 ∧ R (.returned (.string s54)) w53) w) ((cB (n1 == 61) (newC [.int .u8 (IntKind.wrap .u8 n1)] 5 (fun b55 w56 => ∃ s57, (convert 22 9 (.slice (some ⟨b55, 0, none⟩) 1 1)).run Try.prog w56 = .ok (.string s57) w56 ∧ R (.returned (.string s57)) w56) w) (newC [.int .u8 (IntKind.wrap .u8 n1)] 5 (fun b58 w59 => ∃ s60, (convert 22 9 (.slice (some ⟨b58, 0, none⟩) 1 1)).run Try.prog w59 = .ok (.string s60) w59 ∧ ((⟨#[92]⟩ : ByteArray).size + s60.size ≤ 9223372036854775807) ∧ R (.returned (.string ((⟨#[92]⟩ : ByteArray) ++ s60))) w59) w))))))))))) ((cB (n1 == 95) (newC [.int .u8 (IntKind.wrap .u8 n1)] 5 (fun b61 w62 => ∃ s63, (convert 22 9 (.slice (some ⟨b61, 0, none⟩) 1 1)).run Try.prog w62 = .ok (.string s63) w62 ∧ R (.returned (.string s63)) w62) w) ((cB (n1 == 44) (newC [.int .u8 (IntKind.wrap .u8 n1)] 5 (fun b64 w65 => ∃ s66, (convert 22 9 (.slice (some ⟨b64, 0, none⟩) 1 1)).run Try.prog w65 = .ok (.string s66) w65 ∧ R (.returned (.string s66)) w65) w) ((cB (n1 == 58) (newC [.int .u8 (IntKind.wrap .u8 n1)] 5 (fun b67 w68 => ∃ s69, (convert 22 9 (.slice (some ⟨b67, 0, none⟩) 1 1)).run Try.prog w68 = .ok (.string s69) w68 ∧ R (.returned (.string s69)) w68) w) ((cB (n1 == 61) (newC [.int .u8 (IntKind.wrap .u8 n1)] 5 (fun b70 w71 => ∃ s72, (convert 22 9 (.slice (some ⟨b70, 0, none⟩) 1 1)).run Try.prog w71 = .ok (.string s72) w71 ∧ R (.returned (.string s72)) w71) w) (newC [.int .u8 (IntKind.wrap .u8 n1)] 5 (fun b73 w74 => ∃ s75, (convert 22 9 (.slice (some ⟨b73, 0, none⟩) 1 1)).run Try.prog w74 = .ok (.string s75) w74 ∧ ((⟨#[92]⟩ : ByteArray).size + s75.size ≤ 9223372036854775807) ∧ R (.returned (.string ((⟨#[92]⟩ : ByteArray) ++ s75))) w74) w))))))))))))))) ((cB (decide (n1 ≥ 65)) ((cB (decide (n1 ≤ 90)) (newC [.int .u8 (IntKind.wrap .u8 n1)] 5 (fun b76 w77 => ∃ s78, (convert 22 9 (.slice (some ⟨b76, 0, none⟩) 1 1)).run Try.prog w77 = .ok (.string s78) w77 ∧ R (.returned (.string s78)) w77) w) ((cB (decide (n1 ≥ 48)) ((cB (decide (n1 ≤ 57)) (newC [.int .u8 (IntKind.wrap .u8 n1)] 5 (fun b79 w80 => ∃ s81, (convert 22 9 (.slice (some ⟨b79, 0, none⟩) 1 1)).run Try.prog w80 = .ok (.string s81) w80 ∧ R (.returned (.string s81)) w80) w) ((cB (n1 == 95) (newC [.int .u8 (IntKind.wrap .u8 n1)] 5 (fun b82 w83 => ∃ s84, (convert 22 9 (.slice (some ⟨b82, 0, none⟩) 1 1)).run Try.prog w83 = .ok (.string s84) w83 ∧ R (.returned (.string s84)) w83) w) ((cB (n1 == 44) (newC [.int .u8 (IntKind.wrap .u8 n1)] 5 (fun b85 w86 => ∃ s87, (convert 22 9 (.slice (some ⟨b85, 0, none⟩) 1 1)).run Try.prog w86 = .ok (.string s87) w86 ∧ R (.returned (.string s87)) w86) w) ((cB (n1 == 58) (newC [.int .u8 (IntKind.wrap .u8 n1)] 5 (fun b88 w89 => ∃ s90, (convert 22 9 (.slice (some ⟨b88, 0, none⟩) 1 1)).run Try.prog w89 = .ok (.string s90) w89 ∧ R (.returned (.string s90)) w89) w) ((cB (n1 == 61) (newC [.int .u8 (IntKind.wrap .u8 n1)] 5 (fun b91 w92 => ∃ s93, (convert 22 9 (.slice (some ⟨b91, 0, none⟩) 1 1)).run Try.prog w92 = .ok (.string s93) w92 ∧ R (.returned (.string s93)) w92) w) (newC [.int .u8 (IntKind.wrap .u8 n1)] 5 (fun b94 w95 => ∃ s96, (convert 22 9 (.slice (some ⟨b94, 0, none⟩) 1 1)).run Try.prog w95 = .ok (.string s96) w95 ∧ ((⟨#[92]⟩ : ByteArray).size + s96.size ≤ 9223372036854775807) ∧ R (.returned (.string ((⟨#[92]⟩ : ByteArray) ++ s96))) w95) w))))))))))) ((cB (n1 == 95) (newC [.int .u8 (IntKind.wrap .u8 n1)] 5 (fun b97 w98 => ∃ s99, (convert 22 9 (.slice (some ⟨b97, 0, none⟩) 1 1)).run Try.prog w98 = .ok (.string s99) w98 ∧ R (.returned (.string s99)) w98) w) ((cB (n1 == 44) (newC [.int .u8 (IntKind.wrap .u8 n1)] 5 (fun b100 w101 => ∃ s102, (convert 22 9 (.slice (some ⟨b100, 0, none⟩) 1 1)).run Try.prog w101 = .ok (.string s102) w101 ∧ R (.returned (.string s102)) w101) w) ((cB (n1 == 58) (newC [.int .u8 (IntKind.wrap .u8 n1)] 5 (fun b103 w104 => ∃ s105, (convert 22 9 (.slice (some ⟨b103, 0, none⟩) 1 1)).run Try.prog w104 = .ok (.string s105) w104 ∧ R (.returned (.string s105)) w104) w) ((cB (n1 == 61) (newC [.int .u8 (IntKind.wrap .u8 n1)] 5 (fun b106 w107 => ∃ s108, (convert 22 9 (.slice (some ⟨b106, 0, none⟩) 1 1)).run Try.prog w107 = .ok (.string s108) w107 ∧ R (.returned (.string s108)) w107) w) (newC [.int .u8 (IntKind.wrap .u8 n1)] 5 (fun b109 w110 => ∃ s111, (convert 22 9 (.slice (some ⟨b109, 0, none⟩) 1 1)).run Try.prog w110 = .ok (.string s111) w110 ∧ ((⟨#[92]⟩ : ByteArray).size + s111.size ≤ 9223372036854775807) ∧ R (.returned (.string ((⟨#[92]⟩ : ByteArray) ++ s111))) w110) w))))))))))))) ((cB (decide (n1 ≥ 48)) ((cB (decide (n1 ≤ 57)) (newC [.int .u8 (IntKind.wrap .u8 n1)] 5 (fun b112 w113 => ∃ s114, (convert 22 9 (.slice (some ⟨b112, 0, none⟩) 1 1)).run Try.prog w113 = .ok (.string s114) w113 ∧ R (.returned (.string s114)) w113) w) ((cB (n1 == 95) (newC [.int .u8 (IntKind.wrap .u8 n1)] 5 (fun b115 w116 => ∃ s117, (convert 22 9 (.slice (some ⟨b115, 0, none⟩) 1 1)).run Try.prog w116 = .ok (.string s117) w116 ∧ R (.returned (.string s117)) w116) w) ((cB (n1 == 44) (newC [.int .u8 (IntKind.wrap .u8 n1)] 5 (fun b118 w119 => ∃ s120, (convert 22 9 (.slice (some ⟨b118, 0, none⟩) 1 1)).run Try.prog w119 = .ok (.string s120) w119 ∧ R (.returned (.string s120)) w119) w) ((cB (n1 == 58) (newC [.int .u8 (IntKind.wrap .u8 n1)] 5 (fun b121 w122 => ∃ s123, (convert 22 9 (.slice (some ⟨b121, 0, none⟩) 1 1)).run Try.prog w122 = .ok (.string s123) w122 ∧ R (.returned (.string s123)) w122) w) ((cB (n1 == 61) (newC [.int .u8 (IntKind.wrap .u8 n1)] 5 (fun b124 w125 => ∃ s126, (convert 22 9 (.slice (some ⟨b124, 0, none⟩) 1 1)).run Try.prog w125 = .ok (.string s126) w125 ∧ R (.returned (.string s126)) w125) w) (newC [.int .u8 (IntKind.wrap .u8 n1)] 5 (fun b127 w128 => ∃ s129, (convert 22 9 (.slice (some ⟨b127, 0, none⟩) 1 1)).run Try.prog w128 = .ok (.string s129) w128 ∧ ((⟨#[92]⟩ : ByteArray).size + s129.size ≤ 9223372036854775807) ∧ R (.returned (.string ((⟨#[92]⟩ : ByteArray) ++ s129))) w128) w))))))))))) ((cB (n1 == 95) (newC [.int .u8 (IntKind.wrap .u8 n1)] 5 (fun b130 w131 => ∃ s132, (convert 22 9 (.slice (some ⟨b130, 0, none⟩) 1 1)).run Try.prog w131 = .ok (.string s132) w131 ∧ R (.returned (.string s132)) w131) w) ((cB (n1 == 44) (newC [.int .u8 (IntKind.wrap .u8 n1)] 5 (fun b133 w134 => ∃ s135, (convert 22 9 (.slice (some ⟨b133, 0, none⟩) 1 1)).run Try.prog w134 = .ok (.string s135) w134 ∧ R (.returned (.string s135)) w134) w) ((cB (n1 == 58) (newC [.int .u8 (IntKind.wrap .u8 n1)] 5 (fun b136 w137 => ∃ s138, (convert 22 9 (.slice (some ⟨b136, 0, none⟩) 1 1)).run Try.prog w137 = .ok (.string s138) w137 ∧ R (.returned (.string s138)) w137) w) ((cB (n1 == 61) (newC [.int .u8 (IntKind.wrap .u8 n1)] 5 (fun b139 w140 => ∃ s141, (convert 22 9 (.slice (some ⟨b139, 0, none⟩) 1 1)).run Try.prog w140 = .ok (.string s141) w140 ∧ R (.returned (.string s141)) w140) w) (newC [.int .u8 (IntKind.wrap .u8 n1)] 5 (fun b142 w143 => ∃ s144, (convert 22 9 (.slice (some ⟨b142, 0, none⟩) 1 1)).run Try.prog w143 = .ok (.string s144) w143 ∧ ((⟨#[92]⟩ : ByteArray).size + s144.size ≤ 9223372036854775807) ∧ R (.returned (.string ((⟨#[92]⟩ : ByteArray) ++ s144))) w143) w))))))))))))))))))
def scr84 : Scr := (.q 1 (.q 1 (.run [0,1,2] (.split 6 (.r [3,4,5] (.lit (.q 17 .nil))) (.r [3,4,5] (.cond (.q 17 .nil) (.run [0,1,2] (.split 28 (.run [3,4,5,6] (.split 32 (.r [7,8,9,10,11,12,13,14,15,16,17,18,19,20,21,22,23,24,25,26,27,28,29,30,31,32,33,34,35,36,37] (.lit (.q 5 .nil))) (.run [7,8,9] (.split 35 (.run [10,11,12,13,14] (.split 40 (.r [15,16,17,18,19,20,21,22,23,24,25,26,27,28,29,30,31,32,33,34,35,36,37] (.lit (.q 5 .nil))) (.run [15,16,17] (.split 43 (.run [18,19,20,21,22] (.split 48 (.r [23,24,25,26,27,28,29,30,31,32,33,34,35,36,37] (.lit (.q 5 .nil))) (.run [23,24,25,26] (.split 52 (.r [27,28,29,30,31,32,33,34,35,36,37] (.lit (.q 5 .nil))) (.run [27,28,29,30] (.split 56 (.r [31,32,33,34,35,36,37] (.lit (.q 5 .nil))) (.run [31,32,33,34] (.split 60 (.r [35,36,37] (.lit (.q 5 .nil))) (.r [35,36,37] (.cond (.q 5 .nil) (.q 6 .nil))))))))))) (.run [18,19,20,21,22,23,24,25,26] (.split 52 (.r [27,28,29,30,31,32,33,34,35,36,37] (.lit (.q 5 .nil))) (.run [27,28,29,30] (.split 56 (.r [31,32,33,34,35,36,37] (.lit (.q 5 .nil))) (.run [31,32,33,34] (.split 60 (.r [35,36,37] (.lit (.q 5 .nil))) (.r [35,36,37] (.cond (.q 5 .nil) (.q 6 .nil))))))))))))) (.run [10,11,12,13,14,15,16,17] (.split 43 (.run [18,19,20,21,22] (.split 48 (.r [23,24,25,26,27,28,29,30,31,32,33,34,35,36,37] (.lit (.q 5 .nil))) (.run [23,24,25,26] (.split 52 (.r [27,28,29,30,31,32,33,34,35,36,37] (.lit (.q 5 .nil))) (.run [27,28,29,30] (.split 56 (.r [31,32,33,34,35,36,37] (.lit (.q 5 .nil))) (.run [31,32,33,34] (.split 60 (.r [35,36,37] (.lit (.q 5 .nil))) (.r [35,36,37] (.cond (.q 5 .nil) (.q 6 .nil))))))))))) (.run [18,19,20,21,22,23,24,25,26] (.split 52 (.r [27,28,29,30,31,32,33,34,35,36,37] (.lit (.q 5 .nil))) (.run [27,28,29,30] (.split 56 (.r [31,32,33,34,35,36,37] (.lit (.q 5 .nil))) (.run [31,32,33,34] (.split 60 (.r [35,36,37] (.lit (.q 5 .nil))) (.r [35,36,37] (.cond (.q 5 .nil) (.q 6 .nil))))))))))))))) (.run [3,4,5,6,7,8,9] (.split 35 (.run [10,11,12,13,14] (.split 40 (.r [15,16,17,18,19,20,21,22,23,24,25,26,27,28,29,30,31,32,33,34,35,36,37] (.lit (.q 5 .nil))) (.run [15,16,17] (.split 43 (.run [18,19,20,21,22] (.split 48 (.r [23,24,25,26,27,28,29,30,31,32,33,34,35,36,37] (.lit (.q 5 .nil))) (.run [23,24,25,26] (.split 52 (.r [27,28,29,30,31,32,33,34,35,36,37] (.lit (.q 5 .nil))) (.run [27,28,29,30] (.split 56 (.r [31,32,33,34,35,36,37] (.lit (.q 5 .nil))) (.run [31,32,33,34] (.split 60 (.r [35,36,37] (.lit (.q 5 .nil))) (.r [35,36,37] (.cond (.q 5 .nil) (.q 6 .nil))))))))))) (.run [18,19,20,21,22,23,24,25,26] (.split 52 (.r [27,28,29,30,31,32,33,34,35,36,37] (.lit (.q 5 .nil))) (.run [27,28,29,30] (.split 56 (.r [31,32,33,34,35,36,37] (.lit (.q 5 .nil))) (.run [31,32,33,34] (.split 60 (.r [35,36,37] (.lit (.q 5 .nil))) (.r [35,36,37] (.cond (.q 5 .nil) (.q 6 .nil))))))))))))) (.run [10,11,12,13,14,15,16,17] (.split 43 (.run [18,19,20,21,22] (.split 48 (.r [23,24,25,26,27,28,29,30,31,32,33,34,35,36,37] (.lit (.q 5 .nil))) (.run [23,24,25,26] (.split 52 (.r [27,28,29,30,31,32,33,34,35,36,37] (.lit (.q 5 .nil))) (.run [27,28,29,30] (.split 56 (.r [31,32,33,34,35,36,37] (.lit (.q 5 .nil))) (.run [31,32,33,34] (.split 60 (.r [35,36,37] (.lit (.q 5 .nil))) (.r [35,36,37] (.cond (.q 5 .nil) (.q 6 .nil))))))))))) (.run [18,19,20,21,22,23,24,25,26] (.split 52 (.r [27,28,29,30,31,32,33,34,35,36,37] (.lit (.q 5 .nil))) (.run [27,28,29,30] (.split 56 (.r [31,32,33,34,35,36,37] (.lit (.q 5 .nil))) (.run [31,32,33,34] (.split 60 (.r [35,36,37] (.lit (.q 5 .nil))) (.r [35,36,37] (.cond (.q 5 .nil) (.q 6 .nil)))))))))))))))))))))
theorem vc84 {n1} {R w} (h : V84 n1 R w) : Cl Try.prog 84 [.int .i64 n1] w R :=
  cl_of scr84 Try.func84 (by kernel_rfl) _ _ (by kernel_rfl) h
/-- impl.Escape -/
def V33 (s1 : ByteArray) (R : Rt) : Pred := fun w =>
  ∃ (I2 : Nat → ByteArray → Int → World → Prop), (∃ k4, I2 k4 (⟨#[]⟩ : ByteArray) 0 w) ∧ ∀ k3 (d6 : Nat → Value) s7 n8 w5, I2 k3 s7 n8 w5 → (cB (decide (n8 < ((ByteArray.size s1 : Nat) : Int))) ((ixT s1 n8) ∧ clS 83 ([.int .i64 (IntKind.wrap .i64 (byteAt s1 (Int.toNat n8)))]) w5 R fun s9 w10 => (s7.size + s9.size ≤ 9223372036854775807) ∧ (cB (decide (((ByteArray.size (s7 ++ s9) : Nat) : Int) > 120)) (R (.returned (.string (⟨#[]⟩ : ByteArray))) w10) ((∃ m12, m12 < k3 ∧ I2 m12 (s7 ++ s9) (IntKind.wrap .i64 (n8 + 1)) w10)))) (R (.returned (.string s7)) w5))
def scr33 : Scr := (.q 1 (.q 1 (.q 1 (.loop (dr [(3, some .str), (4, some (.int .i64))] [(2,1),(5,16)]) (.q 4 (.cond (.q 8 (.q 3 (.cond (.q 1 .nil) (.q 3 .nil)))) (.q 2 .nil)))))))
theorem vc33 {s1} {R w} (h : V33 s1 R w) : Cl Try.prog 33 [.string s1] w R :=
  cl_of scr33 Try.func33 (by kernel_rfl) _ _ (by kernel_rfl) h
/-- spec.Escape -/
def V34 (s1 : ByteArray) (R : Rt) : Pred := fun w =>
  ∃ (I2 : Nat → ByteArray → Int → World → Prop), (∃ k4, I2 k4 (⟨#[]⟩ : ByteArray) 0 w) ∧ ∀ k3 (d6 : Nat → Value) s7 n8 w5, I2 k3 s7 n8 w5 → (cB (decide (n8 < ((ByteArray.size s1 : Nat) : Int))) ((cB (decide (((ByteArray.size s7 : Nat) : Int) ≤ 120)) ((ixT s1 n8) ∧ clS 84 ([.int .i64 (IntKind.wrap .i64 (byteAt s1 (Int.toNat n8)))]) w5 R fun s9 w10 => (s7.size + s9.size ≤ 9223372036854775807) ∧ (∃ m12, m12 < k3 ∧ I2 m12 (s7 ++ s9) (IntKind.wrap .i64 (n8 + 1)) w10)) ((cB (decide (((ByteArray.size s7 : Nat) : Int) > 120)) (R (.returned (.string (⟨#[]⟩ : ByteArray))) w5) (R (.returned (.string s7)) w5))))) ((cB (decide (((ByteArray.size s7 : Nat) : Int) > 120)) (R (.returned (.string (⟨#[]⟩ : ByteArray))) w5) (R (.returned (.string s7)) w5))))
def scr34 : Scr := (.q 1 (.q 1 (.q 1 (.loop (dr [(3, some .str), (4, some (.int .i64))] [(5,18)]) (.run [0,1,2,3,4] (.split 9 (.r [5,6,7,8] (.cond (.q 8 (.q 3 .nil)) (.q 3 (.cond (.q 1 .nil) (.q 2 .nil))))) (.r [5,6,7,8] (.lit (.q 3 (.cond (.q 1 .nil) (.q 2 .nil)))))))))))
theorem vc34 {s1} {R w} (h : V34 s1 R w) : Cl Try.prog 34 [.string s1] w R :=
  cl_of scr34 Try.func34 (by kernel_rfl) _ _ (by kernel_rfl) h
end Go.Proofs.Ytngbiaeliphdjaa.V
/- The walks of Escape, in the program and in the reference: both return the plain function's text. No statement of the seat is proved here. -/
namespace Go.Proofs.Ytngbiaeliphdjaa.V
open Go.Vc Go.Proofs Go.RowKit
set_option linter.unusedVariables false
set_option linter.unusedSimpArgs false

theorem l1byte_ok (n : Int) (h : 0 ≤ n ∧ n ≤ 255) (w : World) : Cl Try.prog 84 [.int .i64 n] w (RetB (.string (B (escB n.toNat))) w) := by
  apply vc84
  unfold V84
  have hb : Below w.heap.size w w := Below.refl _ _
  have hexleaf : (n < 33 ∨ 126 < n) → ∀ w2, Below w.heap.size w w2 → ((16 : Int) ≠ 0) ∧ ((16 : Int) ≠ 0) ∧ (0 ≤ (IntKind.wrap .i64 (Int.tdiv n 16) : Int) ∧ (IntKind.wrap .i64 (Int.tdiv n 16) : Int) ≤ (IntKind.wrap .i64 ((IntKind.wrap .i64 (Int.tdiv n 16)) + 1)) ∧ (IntKind.wrap .i64 ((IntKind.wrap .i64 (Int.tdiv n 16)) + 1) : Int) ≤ ((ByteArray.size hexS : Nat) : Int)) ∧ ((⟨#[92, 120]⟩ : ByteArray).size + (ByteArray.extract hexS (Int.toNat (IntKind.wrap .i64 (Int.tdiv n 16))) (Int.toNat (IntKind.wrap .i64 ((IntKind.wrap .i64 (Int.tdiv n 16)) + 1)))).size ≤ 9223372036854775807) ∧ ((16 : Int) ≠ 0) ∧ ((16 : Int) ≠ 0) ∧ (0 ≤ (Int.tmod n 16 : Int) ∧ (Int.tmod n 16 : Int) ≤ (IntKind.wrap .i64 ((Int.tmod n 16) + 1)) ∧ (IntKind.wrap .i64 ((Int.tmod n 16) + 1) : Int) ≤ ((ByteArray.size hexS : Nat) : Int)) ∧ (((⟨#[92, 120]⟩ : ByteArray) ++ (ByteArray.extract hexS (Int.toNat (IntKind.wrap .i64 (Int.tdiv n 16))) (Int.toNat (IntKind.wrap .i64 ((IntKind.wrap .i64 (Int.tdiv n 16)) + 1))))).size + (ByteArray.extract hexS (Int.toNat (Int.tmod n 16)) (Int.toNat (IntKind.wrap .i64 ((Int.tmod n 16) + 1)))).size ≤ 9223372036854775807) ∧ RetB (.string (B (escB n.toNat))) w (.returned (.string (((⟨#[92, 120]⟩ : ByteArray) ++ (ByteArray.extract hexS (Int.toNat (IntKind.wrap .i64 (Int.tdiv n 16))) (Int.toNat (IntKind.wrap .i64 ((IntKind.wrap .i64 (Int.tdiv n 16)) + 1))))) ++ (ByteArray.extract hexS (Int.toNat (Int.tmod n 16)) (Int.toNat (IntKind.wrap .i64 ((Int.tmod n 16) + 1))))))) w2 := by
    intro hn w2 hb2
    have e1 : Int.tdiv n 16 = n / 16 := Int.tdiv_eq_ediv_of_nonneg h.1
    have e2 : Int.tmod n 16 = n % 16 := Int.tmod_eq_emod_of_nonneg h.1
    have e3 : IntKind.wrap .i64 (n / 16) = n / 16 := w64 (by omega)
    have e4 : IntKind.wrap .i64 (n / 16 + 1) = n / 16 + 1 := w64 (by omega)
    have e5 : IntKind.wrap .i64 (n % 16 + 1) = n % 16 + 1 := w64 (by omega)
    rw [e1, e2, e3, e4, e5]
    have s1 : hexS.extract (n / 16).toNat (n / 16 + 1).toNat = B [hexd (n / 16).toNat] := by
      have : (n / 16 + 1).toNat = (n / 16).toNat + 1 := by omega
      rw [this]; exact hex_sub _ (by omega)
    have s2 : hexS.extract (n % 16).toNat (n % 16 + 1).toNat = B [hexd (n % 16).toNat] := by
      have : (n % 16 + 1).toNat = (n % 16).toNat + 1 := by omega
      rw [this]; exact hex_sub _ (by omega)
    rw [s1, s2]
    have hs : ((ByteArray.size hexS : Nat) : Int) = 16 := by decide
    rw [hs]
    refine ⟨by decide, by decide, ⟨by omega, by omega, by omega⟩, by rw [size_B]; show 2 + 1 ≤ _; decide, by decide, by decide, ⟨by omega, by omega, by omega⟩, ?_, ?_⟩
    · rw [show (⟨#[92, 120]⟩ : ByteArray) = B [92, 120] from rfl, B_append, size_B, size_B]; simp
    · refine ⟨?_, hb2⟩
      rw [show (⟨#[92, 120]⟩ : ByteArray) = B [92, 120] from rfl, B_append, B_append, escB_hex (by omega)]
      have t1 : (n / 16).toNat = n.toNat / 16 := by omega
      have t2 : (n % 16).toNat = n.toNat % 16 := by omega
      rw [t1, t2]
      rfl
  refine ⟨fun h1 => ?_, fun h1 => ⟨fun h2 => ?_, fun h2 => ?_⟩⟩
  · exact hexleaf (.inl (of_decide_eq_true h1)) _ hb.vdrew
  · exact hexleaf (.inr (of_decide_eq_true h2)) _ hb.vdrew
  · have g1 : ¬ n < 33 := of_decide_eq_false h1
    have g2 : ¬ n > 126 := of_decide_eq_false h2
    have idl : ((48 ≤ n ∧ n ≤ 57) ∨ (97 ≤ n ∧ n ≤ 122) ∨ (65 ≤ n ∧ n ≤ 90) ∨ n = 95 ∨ n = 44 ∨ n = 58 ∨ n = 61) → newC [.int .u8 (IntKind.wrap .u8 n)] 5 (fun (b4 : Nat) (w5 : World) => ∃ (s6 : ByteArray), (convert 22 9 (.slice (some ⟨b4, 0, none⟩) 1 1)).run Try.prog w5 = .ok (.string s6) w5 ∧ RetB (.string (B (escB n.toNat))) w (.returned (.string s6)) w5) w := fun hn =>
      strOf (u8_of h) hb fun w' hb' => ⟨by rw [escB_id (by omega) (by omega)], hb'⟩
    have bsl : (¬ ((48 ≤ n ∧ n ≤ 57) ∨ (97 ≤ n ∧ n ≤ 122) ∨ (65 ≤ n ∧ n ≤ 90) ∨ n = 95 ∨ n = 44 ∨ n = 58 ∨ n = 61)) → newC [.int .u8 (IntKind.wrap .u8 n)] 5 (fun (b4 : Nat) (w5 : World) => ∃ (s6 : ByteArray), (convert 22 9 (.slice (some ⟨b4, 0, none⟩) 1 1)).run Try.prog w5 = .ok (.string s6) w5 ∧ ((⟨#[92]⟩ : ByteArray).size + s6.size ≤ 9223372036854775807) ∧ RetB (.string (B (escB n.toNat))) w (.returned (.string ((⟨#[92]⟩ : ByteArray) ++ s6))) w5) w := fun hn =>
      strOf (u8_of h) hb fun w' hb' => ⟨by rw [size_B]; simp; decide, by rw [show (⟨#[92]⟩ : ByteArray) = B [92] from rfl, B_append, escB_bs (by omega) (by omega)]; rfl, hb'⟩
    simp only [cB, decide_eq_true_eq, decide_eq_false_iff_not, beq_iff_eq, beq_eq_false_iff_ne, ne_eq]
    repeat' (first | exact idl (by omega) | exact bsl (by omega) | apply And.intro | intro _)

theorem byteText_ok (n : Int) (h : 0 ≤ n ∧ n ≤ 255) (w : World) : Cl Try.prog 83 [.int .i64 n] w (RetB (.string (B (escB n.toNat))) w) := by
  apply vc83
  unfold V83
  have hb : Below w.heap.size w w := Below.refl _ _
  have hexleaf : (n < 33 ∨ 126 < n) → ∀ w2, Below w.heap.size w w2 → ((0 : Int) ≤ 4) ∧ (0 ≤ (Int.fdiv n (2 ^ (min (Int.toNat 4) 64)) : Int) ∧ (Int.fdiv n (2 ^ (min (Int.toNat 4) 64)) : Int) < ((ByteArray.size hexS : Nat) : Int)) ∧ (0 ≤ (IntKind.wrap .i64 (((BitVec.ofInt 64 n &&& BitVec.ofInt 64 15).toNat : Int)) : Int) ∧ (IntKind.wrap .i64 (((BitVec.ofInt 64 n &&& BitVec.ofInt 64 15).toNat : Int)) : Int) < ((ByteArray.size hexS : Nat) : Int)) ∧ newC [.int .u8 (byteAt hexS (Int.toNat (Int.fdiv n (2 ^ (min (Int.toNat 4) 64))))), .int .u8 (byteAt hexS (Int.toNat (IntKind.wrap .i64 (((BitVec.ofInt 64 n &&& BitVec.ofInt 64 15).toNat : Int)))))] 5 (fun (b3 : Nat) (w4 : World) => ∃ (s5 : ByteArray), (convert 22 9 (.slice (some ⟨b3, 0, none⟩) 2 2)).run Try.prog w4 = .ok (.string s5) w4 ∧ ((⟨#[92, 120]⟩ : ByteArray).size + s5.size ≤ 9223372036854775807) ∧ RetB (.string (B (escB n.toNat))) w (.returned (.string ((⟨#[92, 120]⟩ : ByteArray) ++ s5))) w4) w2 := by
    intro hn w2 hb2
    rw [shr4 n h, and15 n h]
    have hs : ((ByteArray.size hexS : Nat) : Int) = 16 := by decide
    rw [hs]
    refine ⟨by decide, ⟨by omega, by omega⟩, ⟨by omega, by omega⟩, ?_⟩
    refine strOf2 (hex_at _ (by omega)) (hex_at _ (by omega)) hb2 fun w' hb' => ⟨by rw [size_B]; show 2 + 2 ≤ _; decide, ?_, hb'⟩
    rw [show (⟨#[92, 120]⟩ : ByteArray) = B [92, 120] from rfl, B_append, escB_hex (by omega)]
    have t1 : (n / 16).toNat = n.toNat / 16 := by omega
    have t2 : (n % 16).toNat = n.toNat % 16 := by omega
    rw [t1, t2]
    rfl
  refine ⟨fun h1 => ?_, fun h1 => ⟨fun h2 => ?_, fun h2 => ?_⟩⟩
  · exact hexleaf (.inl (of_decide_eq_true h1)) _ hb.vdrew
  · exact hexleaf (.inr (of_decide_eq_true h2)) _ hb.vdrew
  · have g1 : ¬ n < 33 := of_decide_eq_false h1
    have g2 : ¬ n > 126 := of_decide_eq_false h2
    have idl : ((48 ≤ n ∧ n ≤ 57) ∨ (97 ≤ n ∧ n ≤ 122) ∨ (65 ≤ n ∧ n ≤ 90) ∨ n = 95 ∨ n = 44 ∨ n = 58 ∨ n = 61) → newC [.int .u8 (IntKind.wrap .u8 n)] 5 (fun (b4 : Nat) (w5 : World) => ∃ (s6 : ByteArray), (convert 22 9 (.slice (some ⟨b4, 0, none⟩) 1 1)).run Try.prog w5 = .ok (.string s6) w5 ∧ RetB (.string (B (escB n.toNat))) w (.returned (.string s6)) w5) w := fun hn =>
      strOf (u8_of h) hb fun w' hb' => ⟨by rw [escB_id (by omega) (by omega)], hb'⟩
    have bsl : (¬ ((48 ≤ n ∧ n ≤ 57) ∨ (97 ≤ n ∧ n ≤ 122) ∨ (65 ≤ n ∧ n ≤ 90) ∨ n = 95 ∨ n = 44 ∨ n = 58 ∨ n = 61)) → newC [.int .u8 (IntKind.wrap .u8 n)] 5 (fun (b4 : Nat) (w5 : World) => ∃ (s6 : ByteArray), (convert 22 9 (.slice (some ⟨b4, 0, none⟩) 1 1)).run Try.prog w5 = .ok (.string s6) w5 ∧ ((⟨#[92]⟩ : ByteArray).size + s6.size ≤ 9223372036854775807) ∧ RetB (.string (B (escB n.toNat))) w (.returned (.string ((⟨#[92]⟩ : ByteArray) ++ s6))) w5) w := fun hn =>
      strOf (u8_of h) hb fun w' hb' => ⟨by rw [size_B]; simp; decide, by rw [show (⟨#[92]⟩ : ByteArray) = B [92] from rfl, B_append, escB_bs (by omega) (by omega)]; rfl, hb'⟩
    simp only [cB, decide_eq_true_eq, decide_eq_false_iff_not, beq_iff_eq, beq_eq_false_iff_ne, ne_eq]
    repeat' (first | exact idl (by omega) | exact bsl (by omega) | apply And.intro | intro _)

/-! ### The texts -/
theorem byte_rng (s : ByteArray) (i : Nat) : 0 ≤ byteAt s i ∧ byteAt s i ≤ 255 := by
  unfold byteAt
  have := (s.data.toList.getD i 0).toNat_lt
  omega
theorem escL_snoc (l : Bytes) (i : Nat) (h : i < l.length) : escL (l.take (i + 1)) = escL (l.take i) ++ escB (l.getD i 0).toNat := by
  unfold escL
  rw [List.take_succ_eq_append_getElem h, List.flatMap_append]
  simp [List.getD_eq_getElem?_getD, List.getElem?_eq_getElem h]
theorem escL_take_le (l : Bytes) (i j : Nat) (h : i ≤ j) : (escL (l.take i)).length ≤ (escL (l.take j)).length := by
  have : l.take i = (l.take j).take i := by rw [List.take_take, Nat.min_eq_left h]
  rw [this]
  generalize l.take j = m
  have : escL m = escL (m.take i) ++ escL (m.drop i) := by
    unfold escL; rw [← List.flatMap_append, List.take_append_drop]
  rw [this]; simp
/-- The text, or nothing where it is too long. -/
def escT (l : Bytes) : Bytes := if (escL l).length > 120 then [] else escL l

theorem implEscape_ok (s : ByteArray) (hs : s.size ≤ 1048576) (w : World) : Cl Try.prog 33 [.string s] w (RetB (.string (B (escT (L s)))) w) := by
  apply vc33
  unfold V33
  refine ⟨fun k t n w' => ∃ i : Nat, n = i ∧ i ≤ s.size ∧ k = s.size - i ∧ t = B (escL ((L s).take i)) ∧ (escL ((L s).take i)).length ≤ 120 ∧ Below w.heap.size w w', ⟨s.size, 0, rfl, by omega, by omega, rfl, by simp [escL], Below.refl _ _⟩, ?_⟩
  rintro k d t n w1 ⟨i, rfl, hi, rfl, rfl, hl, hb⟩
  have hsz : s.size = (L s).length := size_L s
  refine ⟨fun h1 => ?_, fun h1 => ?_⟩
  · have h1' : (i : Int) < s.size := of_decide_eq_true h1
    have hb8 := byte_rng s i
    have e0 : (Int.toNat (i : Int)) = i := by omega
    rw [e0, w64 (by omega : -9223372036854775808 ≤ byteAt s i ∧ byteAt s i ≤ 9223372036854775807)]
    refine ⟨⟨by omega, h1'⟩, (byteText_ok _ hb8 w1).ret fun w2 hb2 => ⟨_, rfl, ?_⟩⟩
    have ec : (byteAt s i).toNat = ((L s).getD i 0).toNat := by rw [byteAt_L]; omega
    have el := escB_len (byteAt s i).toNat
    have hsn := escL_snoc (L s) i (by omega)
    dsimp only
    rw [B_append, ec, ← hsn]
    rw [ec] at el
    have hlen := congrArg List.length hsn
    rw [List.length_append] at hlen
    simp only [size_B]
    refine ⟨by omega, fun h2 => ?_, fun h2 => ?_⟩
    · have h2' := of_decide_eq_true h2
      refine ⟨?_, hb.vstep hb2⟩
      have : (escL (L s)).length > 120 := by
        have := escL_take_le (L s) (i + 1) (L s).length (by omega)
        rw [List.take_length] at this
        omega
      simp only [escT, this, if_true]
      rfl
    · have h2' := of_decide_eq_false h2
      rw [w64 (by omega)]
      exact ⟨s.size - (i + 1), by omega, i + 1, by omega, by omega, rfl, rfl, by omega, hb.vstep hb2⟩
  · have h1' : ¬ (i : Int) < s.size := of_decide_eq_false h1
    have : i = (L s).length := by omega
    refine ⟨?_, hb⟩
    rw [this, List.take_length] at hl ⊢
    simp only [escT, Nat.not_lt.2 hl, if_false]

theorem specEscape_ok (s : ByteArray) (hs : s.size ≤ 1048576) (w : World) : Cl Try.prog 34 [.string s] w (RetB (.string (B (escT (L s)))) w) := by
  apply vc34
  unfold V34
  refine ⟨fun k t n w' => ∃ i : Nat, n = i ∧ i ≤ s.size ∧ k = s.size - i ∧ t = B (escL ((L s).take i)) ∧ (escL ((L s).take i)).length ≤ 124 ∧ Below w.heap.size w w', ⟨s.size, 0, rfl, by omega, by omega, rfl, by simp [escL], Below.refl _ _⟩, ?_⟩
  rintro k d t n w1 ⟨i, rfl, hi, rfl, rfl, hl, hb⟩
  have hsz : s.size = (L s).length := size_L s
  have hlong : (escL ((L s).take i)).length > 120 → RetB (.string (B (escT (L s)))) w (.returned (.string (⟨#[]⟩ : ByteArray))) w1 := fun hh => by
    have : (escL (L s)).length > 120 := by
      have := escL_take_le (L s) i (L s).length (by omega)
      rw [List.take_length] at this
      omega
    refine ⟨?_, hb⟩
    simp only [escT, this, if_true]
    rfl
  simp only [size_B]
  refine ⟨fun h1 => ⟨fun h2 => ?_, fun h2 => ⟨fun h3 => hlong (by have := of_decide_eq_true h3; omega), fun h3 => ?_⟩⟩, fun h1 => ⟨fun h3 => hlong (by have := of_decide_eq_true h3; omega), fun h3 => ?_⟩⟩
  · have h1' : (i : Int) < s.size := of_decide_eq_true h1
    have h2' := of_decide_eq_true h2
    have hb8 := byte_rng s i
    have e0 : (Int.toNat (i : Int)) = i := by omega
    rw [e0, w64 (by omega : -9223372036854775808 ≤ byteAt s i ∧ byteAt s i ≤ 9223372036854775807)]
    refine ⟨⟨by omega, h1'⟩, (l1byte_ok _ hb8 w1).ret fun w2 hb2 => ⟨_, rfl, ?_⟩⟩
    have ec : (byteAt s i).toNat = ((L s).getD i 0).toNat := by rw [byteAt_L]; omega
    have el := escB_len (byteAt s i).toNat
    have hsn := escL_snoc (L s) i (by omega)
    dsimp only
    rw [B_append, ec, ← hsn]
    rw [ec] at el
    have hlen := congrArg List.length hsn
    rw [List.length_append] at hlen
    simp only [size_B]
    rw [w64 (by omega)]
    exact ⟨by omega, s.size - (i + 1), by omega, i + 1, by omega, by omega, rfl, rfl, by omega, hb.vstep hb2⟩
  · have h2' := of_decide_eq_false h2
    have h3' := of_decide_eq_false h3
    omega
  · have h1' : ¬ (i : Int) < s.size := of_decide_eq_false h1
    have h3' := of_decide_eq_false h3
    have : i = (L s).length := by omega
    refine ⟨?_, hb⟩
    rw [this, List.take_length] at h3' ⊢
    have : ¬ (escL (L s)).length > 120 := by omega
    simp only [escT, this, if_false]

end Go.Proofs.Ytngbiaeliphdjaa.V
/- The reference writes a piece. No statement of the seat is proved here. -/
namespace Go.Vc
set_option linter.unusedVariables false
set_option linter.unusedSimpArgs false
theorem nodup_sum (f : Nat → Nat) : ∀ (i : Nat) (l : List Int), l.Nodup → (∀ c ∈ l, 0 ≤ c ∧ c < (i : Int)) → (l.map fun c => f c.toNat).sum ≤ ((List.range i).map f).sum := by
  intro i
  induction i with
  | zero =>
    intro l _ h
    have : l = [] := by
      cases l with
      | nil => rfl
      | cons a r => have := h a (List.mem_cons_self ..); omega
    subst this; simp
  | succ i ih =>
    intro l hn h
    rw [List.range_succ, List.map_append, List.sum_append]
    simp only [List.map_cons, List.map_nil, List.sum_cons, List.sum_nil, Nat.add_zero]
    by_cases hm : (i : Int) ∈ l
    · have hp := List.perm_cons_erase hm
      have h1 : (l.map fun c => f c.toNat).sum = f i + ((l.erase (i : Int)).map fun c => f c.toNat).sum := by
        have := (hp.map fun c => f c.toNat).sum_nat
        rw [this]
        simp
      have h2 := ih (l.erase (i : Int)) (hn.erase _) fun c hc => by
        have := (hn.mem_erase_iff).1 hc
        have h3 := h c this.2
        have h4 := this.1
        omega
      omega
    · have h2 := ih l hn fun c hc => by
        have h3 := h c hc
        have : c ≠ (i : Int) := fun e => hm (e ▸ hc)
        omega
      omega
theorem sum_ones (l : List Int) : (l.map fun _ => 1).sum = l.length := by
  induction l with
  | nil => rfl
  | cons a r ih => simp [ih]; omega
theorem rngT_len (r : Int × Int) : (rngT r).length ≤ 9 := by
  have h1 := (escB_len r.1.toNat).2
  have h2 := (escB_len r.2.toNat).2
  unfold rngT
  rw [List.length_append]
  split <;> simp <;> omega
theorem flat_rng : ∀ (s : List (Int × Int)), (s.flatMap rngT).length ≤ 9 * s.length
  | [] => by simp
  | r :: s => by
    have := flat_rng s
    have := rngT_len r
    rw [List.flatMap_cons, List.length_append, List.length_cons]; omega
theorem setT_len {s : List (Int × Int)} (h : s.length ≤ 128) : (setT s).length ≤ 1200 := by
  unfold setT
  split
  · simp [allT]
  · split
    · have := (escB_len (s.headD (0, 0)).1.toNat).2; omega
    · have := flat_rng s
      rw [List.length_cons, List.length_append, List.length_singleton]; omega
theorem foldl_len : ∀ (r : List Bytes) (t : Bytes), (r.foldl (fun a b => a ++ 124 :: b) t).length = t.length + (r.map List.length).sum + r.length
  | [], t => by simp
  | b :: r, t => by
    rw [List.foldl_cons, foldl_len r, List.length_append, List.map_cons, List.sum_cons, List.length_cons, List.length_cons]; omega
theorem altJ_len (ts : List Bytes) : (altJ ts).length ≤ (ts.map List.length).sum + ts.length := by
  cases ts with
  | nil => simp [altJ]
  | cons t r =>
    show (r.foldl (fun a b => a ++ 124 :: b) t).length ≤ _
    rw [foldl_len, List.map_cons, List.sum_cons, List.length_cons]; omega
theorem decN_le (n : Nat) : (decN n).length ≤ 2 := by unfold decN; split <;> simp
theorem lzT_le (z : Bool) : (lzT z).length ≤ 1 := by unfold lzT; split <;> simp
theorem repS_len (x : Pc) (t : Bytes) : (repS x t).length ≤ t.length + 10 := by
  have h1 := decN_le x.min.toNat
  have h2 := decN_le x.max.toNat
  have h3 := lzT_le x.lazy
  unfold repS
  simp only [List.length_append, List.length_cons]
  split
  · simp; omega
  · split
    · simp; omega
    · simp; omega
theorem wWork_le {x : Pc} (h : PFine x) (sub : Nat → Bytes) : (wWork sub x).length ≤ 1210 + x.kids.length + (x.kids.map fun k => (sub k.toNat).length).sum := by
  have one : x.kids.length = 1 → (x.kids.map fun k => (sub k.toNat).length).sum = (sub (x.kids.getD 0 0).toNat).length := by
    intro hl
    match hx : x.kids, hl with
    | [a], _ => simp
  unfold wWork
  split
  · have := setT_len h.set.1; omega
  split
  · rw [List.length_flatMap]; omega
  split
  · have := altJ_len (x.kids.map fun k => sub k.toNat)
    rw [List.map_map, List.length_map] at this
    have e : (x.kids.map (List.length ∘ fun k => sub k.toNat)) = x.kids.map fun k => (sub k.toNat).length := rfl
    rw [e] at this; omega
  split
  · rename_i h4
    have := repS_len x (sub (x.kids.getD 0 0).toNat)
    rw [one (h.one (.inl h4))]; omega
  split
  · rename_i h5
    rw [one (h.one (.inr h5)), List.length_cons, List.length_append]; simp; omega
  split <;> simp <;> omega
/-- No text is long. -/
theorem wT_len {ok : Bool} {ps : List Pc} (h : Sane ok ps) {k : Nat} (hk : k < ps.length) : (wT ps k).length ≤ 2000000 := by
  have key : ∀ i, i ≤ ps.length → ((List.range i).map fun k => (wT ps k).length).sum ≤ 1700 * i + ((kf (ps.take i)).map fun c => (wT ps c.toNat).length).sum := by
    intro i
    induction i with
    | zero => intro _; simp
    | succ i ih =>
      intro hi
      have ih := ih (by omega)
      have hs := sane_at h (i := i) (by omega)
      have hkl : ps[i].kids.length ≤ i := by
        have := nodup_sum (fun _ => 1) i ps[i].kids (List.nodup_append.1 hs.2.2).2.1 hs.2.1
        rw [sum_ones] at this
        have e : ∀ n : Nat, ((List.range n).map fun _ => 1).sum = n := by
          intro n
          induction n with
          | zero => rfl
          | succ n ihn => rw [List.range_succ, List.map_append, List.sum_append, ihn]; rfl
        rw [e] at this; exact this
      have hw := wT_at h.ord h.one (List.getElem?_eq_getElem (show i < ps.length by omega))
      have hl := wWork_le hs.1 (wT ps)
      have hlen := h.len
      rw [List.range_succ, List.map_append, List.sum_append, kf_take (by omega), List.map_append, List.sum_append]
      simp only [List.map_cons, List.map_nil, List.sum_cons, List.sum_nil, Nat.add_zero]
      rw [hw]
      omega
  have h1 := key (k + 1) (by omega)
  have hn : (kf (ps.take (k + 1))).Nodup := by
    have := sane_at h hk
    rw [kf_take hk]; exact this.2.2
  have h2 := nodup_sum (fun k => (wT ps k).length) k (kf (ps.take (k + 1))) hn fun c hc => by
    unfold kf at hc
    obtain ⟨x, hx, hcx⟩ := List.mem_flatMap.1 hc
    obtain ⟨j, hj⟩ := List.getElem?_of_mem hx
    rw [List.getElem?_take] at hj
    split at hj
    · have := h.ord j x hj c hcx; omega
    · cases hj
  rw [List.range_succ, List.map_append, List.sum_append] at h1
  simp only [List.map_cons, List.map_nil, List.sum_cons, List.sum_nil, Nat.add_zero] at h1
  have := h.len
  omega
end Go.Vc
/- The program writes a number and a set: the walk. No statement of the seat is proved here. -/
namespace Go.Proofs.Ytngbiaeliphdjaa.V
open Go.Vc Go.Proofs Go.RowKit
set_option linter.unusedVariables false
set_option linter.unusedSimpArgs false
theorem num_ok (n : Int) (w : World) : Cl Try.prog 100 [.int .i64 n] w (RetB (.string (B (numI n))) w) := by
  apply vc100
  unfold V100
  have e : ∀ m : Nat, m ≤ 9 → IntKind.wrap .u8 (IntKind.wrap .i64 (48 + (m : Int))) = ((UInt8.ofNat (48 + m)).toNat : Int) := fun m hm => by
    rw [w64 (by omega), w8, u8N (by omega)]; omega
  refine ⟨fun g => ⟨?_, Below.refl _ _⟩, fun g => ⟨fun g2 => ⟨?_, Below.refl _ _⟩, fun g2 => ?_⟩⟩
  · have := of_decide_eq_true g
    unfold numI; rw [if_pos (by omega)]; rfl
  · have := of_decide_eq_true g2
    unfold numI; rw [if_pos (by omega)]; rfl
  have h1 := of_decide_eq_false g
  have h2 := of_decide_eq_false g2
  obtain ⟨m, rfl⟩ : ∃ m : Nat, n = m := ⟨n.toNat, by omega⟩
  have en : numI (m : Int) = decN m := by unfold numI; rw [if_neg (by omega)]; rfl
  rw [en]
  have t1 : Int.tmod (m : Int) 10 = ((m % 10 : Nat) : Int) := by rw [Int.tmod_eq_emod_of_nonneg (by omega)]; omega
  have t2 : IntKind.wrap .i64 (Int.tdiv (m : Int) 10) = ((m / 10 : Nat) : Int) := by rw [Int.tdiv_eq_ediv_of_nonneg (by omega), w64 (by omega)]; omega
  refine ⟨fun g3 => ⟨by decide, by decide, ?_⟩, fun g3 => ?_⟩
  · have g3' : 9 < m := by have := of_decide_eq_true g3; omega
    rw [t1, t2]
    refine strOf2 (e _ (by omega)) (e _ (by omega)) (Below.refl _ _) fun w' hb' => ⟨?_, hb'⟩
    unfold decN
    rw [if_neg (by omega)]
  · have g3' : m ≤ 9 := by have := of_decide_eq_false g3; omega
    refine strOf (e _ (by omega)) (Below.refl _ _) fun w' hb' => ⟨?_, hb'⟩
    unfold decN
    rw [if_pos (by omega)]
/-- Ranges of bytes. -/
def SetB (s : List (Int × Int)) : Prop := ∀ r ∈ s, 0 ≤ r.1 ∧ r.1 ≤ 255 ∧ 0 ≤ r.2 ∧ r.2 ≤ 255
theorem setLoopI {w22 : World} {s : List (Int × Int)} {a40 : Option Addr} {l40 c40 : Nat} (hv : Vec w22.heap 134 2 a40 l40 c40 (rngC s)) (h128 : s.length ≤ 256) (hs : SetB s) {R : Rt} (hR : ∀ w', Below w22.heap.size w22 w' → R (.returned (.tuple #[.string (B (91 :: (s.flatMap rngT ++ [93]))), .bool true])) w') :
    ∃ (I33 : Nat → ByteArray → Int → World → Prop), (∃ k35, I33 k35 (⟨#[91]⟩ : ByteArray) 0 w22) ∧ ∀ k34 (d37 : Nat → Value) s38 n39 w36, I33 k34 s38 n39 w36 → (cB (decide (n39 < ((l40 : Nat) : Int))) (ixS a40 l40 n39 fun b40 o41 => lI w36 b40 (o41 + (Int.toNat n39) * 2) fun n42 => lI w36 b40 (o41 + (Int.toNat n39) * 2 + 1) fun n43 => newC [.int .i64 0, .int .i64 0] 134 (fun b44 w45 => stW b44 0 [.int .i64 n42, .int .i64 n43] (fun w46 => lI w46 b44 0 fun n47 => clS 83 ([.int .i64 n47]) w46 R fun s48 w49 => (s38.size + s48.size ≤ 9223372036854775807) ∧ lI w49 b44 0 fun n51 => lI w49 b44 1 fun n52 => (cB (n51 != n52) (lI w49 b44 1 fun n53 => clS 83 ([.int .i64 n53]) w49 R fun s54 w55 => ((⟨#[45]⟩ : ByteArray).size + s54.size ≤ 9223372036854775807) ∧ ((s38 ++ s48).size + ((⟨#[45]⟩ : ByteArray) ++ s54).size ≤ 9223372036854775807) ∧ (∃ m57, m57 < k34 ∧ I33 m57 ((s38 ++ s48) ++ ((⟨#[45]⟩ : ByteArray) ++ s54)) (IntKind.wrap .i64 (n39 + 1)) w55)) ((∃ m58, m58 < k34 ∧ I33 m58 (s38 ++ s48) (IntKind.wrap .i64 (n39 + 1)) w49)))) w45) w36) ((s38.size + (⟨#[93]⟩ : ByteArray).size ≤ 9223372036854775807) ∧ R (.returned (.tuple #[.string (s38 ++ (⟨#[93]⟩ : ByteArray)), .bool true])) w36)) := by
  have hl : l40 = s.length := by have := hv.1; rw [rngC_length] at this; omega
  subst hl
  refine ⟨fun k t n w' => ∃ j : Nat, n = j ∧ j ≤ s.length ∧ k = s.length - j ∧ t = B (91 :: (s.take j).flatMap rngT) ∧ Below w22.heap.size w22 w', ⟨_, 0, rfl, by omega, rfl, rfl, Below.refl _ _⟩, ?_⟩
  rintro k d _ _ w44 ⟨j, rfl, hj, rfl, rfl, B44⟩
  have hpl := flat_rng (s.take j)
  rw [List.length_take] at hpl
  refine ⟨fun g => ?_, fun g => ?_⟩
  · have gj : j < s.length := by have := of_decide_eq_true g; omega
    have f0 : Int.toNat (j : Int) = j := by omega
    have f1 : IntKind.wrap .i64 ((j : Int) + 1) = ((j + 1 : Nat) : Int) := by rw [w64 (by omega)]; omega
    rw [f0, f1]
    obtain ⟨d1, hd1, hg1⟩ := (hv.keep (S := fun _ => False) (Ext.of_below B44) fun _ _ h => h).open (by omega)
    have m1 := rngC_at s j gj
    have hmem := hs _ (List.getElem_mem gj)
    have htk := take_one gj
    generalize s[j] = y at *
    refine ⟨d1, 0, ⟨hd1, by omega, by omega⟩, _, by rw [Nat.zero_add, hg1 _ (by omega)]; exact m1.1, _, by rw [Nat.zero_add, hg1 _ (by omega)]; exact m1.2, ?_⟩
    refine newC_in fun w53 s53 k53 e53 => ?_
    refine stW_in k53 (by show 0 + 2 ≤ 2; decide) fun w54 s54 k54 e54 => ?_
    have B54 : Below w22.heap.size w22 w54 := Ext.to (Ext.to B44 e53 fun _ h => h.elim) e54 fun i hi => by have := B44.size; omega
    have hl1 := (escB_len y.1.toNat).2
    have hl2 := (escB_len y.2.toNat).2
    refine ⟨_, k54.cell 0, (byteText_ok y.1 ⟨by omega, by omega⟩ w54).ret fun w57 B57 => ⟨_, rfl, ?_⟩⟩
    dsimp only
    have k57 := k54.below B57
    have B57' := B54.vstep B57
    refine ⟨by rw [size_B, size_B, List.length_cons]; omega, _, k57.cell 0, _, k57.cell 1, fun g2 => ?_, fun g2 => ?_⟩
    · have g2' : y.1 ≠ y.2 := by simpa using g2
      refine ⟨_, k57.cell 1, (byteText_ok y.2 ⟨by omega, by omega⟩ w57).ret fun w63 B63 => ⟨_, rfl, ?_⟩⟩
      dsimp only
      rw [show (⟨#[45]⟩ : ByteArray) = B [45] from rfl, B_append, B_append, B_append]
      refine ⟨by rw [size_B, size_B]; simp; omega, by rw [size_B, size_B]; simp only [List.length_cons, List.length_append, List.length_nil]; omega, _, by omega, j + 1, rfl, by omega, rfl, ?_, B57'.vstep B63⟩
      rw [htk, List.flatMap_append]
      simp only [List.flatMap_cons, List.flatMap_nil, List.append_nil]
      unfold rngT
      rw [if_neg g2']
      simp
    · have g2' : y.1 = y.2 := by simpa using g2
      rw [B_append]
      refine ⟨_, by omega, j + 1, rfl, by omega, rfl, ?_, B57'⟩
      rw [htk, List.flatMap_append]
      simp only [List.flatMap_cons, List.flatMap_nil, List.append_nil]
      unfold rngT
      rw [if_pos g2']
      simp
  · have hjl : j = s.length := by have := of_decide_eq_false g; omega
    subst hjl
    rw [List.take_length]
    refine ⟨by rw [size_B, List.length_cons]; show _ + 1 ≤ _; rw [List.take_length] at hpl; omega, ?_⟩
    rw [show (⟨#[93]⟩ : ByteArray) = B [93] from rfl, B_append]
    exact hR _ B44
def RetSt (s : List (Int × Int)) (w : World) : Rt := fun e w' => ∃ t b, e = .returned (.tuple #[.string t, .bool b]) ∧ (b = true → setOk s ∧ t = B (setT s)) ∧ (b = false → ¬ setOk s) ∧ Below w.heap.size w w'
theorem setText_ok {w : World} {a : Option Addr} {l c : Nat} {s : List (Int × Int)} (hv : Vec w.heap 134 2 a l c (rngC s)) (hb : s.length ≤ 1099511627776) : Cl Try.prog 99 [.slice a l c] w (RetSt s w) := by
  apply vc99
  unfold V99
  have hl : l = s.length := by have := hv.1; rw [rngC_length] at this; omega
  subst hl
  have no : ¬ setOk s → ∀ {w' : World}, Below w.heap.size w w' → RetSt s w (.returned (.tuple #[.string (⟨#[]⟩ : ByteArray), .bool false])) w' := fun hn _ hb' => ⟨_, _, rfl, fun h => (by cases h), fun _ => hn, hb'⟩
  refine ⟨fun k n w' => ∃ j : Nat, n = j ∧ j ≤ s.length ∧ k = s.length - j ∧ SetB (s.take j) ∧ Below w.heap.size w w', ⟨_, 0, rfl, by omega, rfl, by intro r hr; simp at hr, Below.refl _ _⟩, ?_⟩
  rintro k d _ w5 ⟨j, rfl, hj, rfl, hst, B5⟩
  refine ⟨fun g => ?_, fun g => ?_⟩
  · have gj : j < s.length := by have := of_decide_eq_true g; omega
    have f0 : Int.toNat (j : Int) = j := by omega
    have f1 : IntKind.wrap .i64 ((j : Int) + 1) = ((j + 1 : Nat) : Int) := by rw [w64 (by omega)]; omega
    rw [f0, f1]
    obtain ⟨d1, hd1, hg1⟩ := (hv.keep (S := fun _ => False) (Ext.of_below B5) fun _ _ h => h).open (by omega)
    have m1 := rngC_at s j gj
    have hmem := List.getElem_mem gj
    have htk := take_one gj
    generalize s[j] = y at *
    have no' : ¬ (0 ≤ y.1 ∧ y.1 ≤ 255 ∧ 0 ≤ y.2 ∧ y.2 ≤ 255) → ∀ {w' : World}, Below w.heap.size w w' → RetSt s w (.returned (.tuple #[.string (⟨#[]⟩ : ByteArray), .bool false])) w' := fun hn => no fun h => hn (h.2 y hmem)
    refine ⟨d1, 0, ⟨hd1, by omega, by omega⟩, _, by rw [Nat.zero_add, hg1 _ (by omega)]; exact m1.1, _, by rw [Nat.zero_add, hg1 _ (by omega)]; exact m1.2, ?_⟩
    refine newC_in fun w13 s13 k13 e13 => ?_
    refine stW_in k13 (by show 0 + 2 ≤ 2; decide) fun w14 s14 k14 e14 => ?_
    have B14 : Below w.heap.size w w14 := Ext.to (Ext.to B5 e13 fun _ h => h.elim) e14 fun i hi => by have := B5.size; omega
    refine ⟨_, k14.cell 0, fun g1 => no' (fun h => ?_) B14, fun g1 => ⟨_, k14.cell 0, fun g2 => no' (fun h => ?_) B14, fun g2 => ⟨_, k14.cell 1, fun g3 => no' (fun h => ?_) B14, fun g3 => ⟨_, k14.cell 1, fun g4 => no' (fun h => ?_) B14, fun g4 => ⟨_, by omega, j + 1, rfl, by omega, rfl, fun r hr => ?_, B14⟩⟩⟩⟩⟩
    · have := of_decide_eq_true g1; omega
    · have := of_decide_eq_true g2; omega
    · have := of_decide_eq_true g3; omega
    · have := of_decide_eq_true g4; omega
    · rw [htk] at hr
      rcases List.mem_append.1 hr with hr | hr
      · exact hst r hr
      · rw [List.mem_singleton.1 hr]
        have h1 := of_decide_eq_false g1
        have h2 := of_decide_eq_false g2
        have h3 := of_decide_eq_false g3
        have h4 := of_decide_eq_false g4
        omega
  have hjl : j = s.length := by have := of_decide_eq_false g; omega
  subst hjl
  rw [List.take_length] at hst
  refine ⟨fun g1 => no (fun h => ?_) B5, fun g1 => ?_⟩
  · have := of_decide_eq_true g1; have := h.1; omega
  have h256 : s.length ≤ 256 := by have := of_decide_eq_false g1; omega
  have hok : setOk s := ⟨h256, hst⟩
  have yes : ∀ {t : ByteArray} {w' : World}, t = B (setT s) → Below w.heap.size w w' → RetSt s w (.returned (.tuple #[.string t, .bool true])) w' := fun ht hb' => ⟨_, _, rfl, fun _ => ⟨hok, ht⟩, fun h => (by cases h), hb'⟩
  refine ⟨fun g2 => yes ?_ B5, fun g2 => ?_⟩
  · have h0 : s.length = 0 := by have : ((s.length : Nat) : Int) = 0 := by simpa using g2
                                 omega
    unfold setT
    rw [if_pos (List.length_eq_zero_iff.1 h0)]; rfl
  have hne : s ≠ [] := by rintro rfl; simp at g2
  refine drw_in fun w20 s20 e20 => ?_
  have B20 : Below w.heap.size w w20 := Ext.to B5 e20 fun _ h => h.elim
  have hv20 := hv.keep (S := fun _ => False) (Ext.of_below B20) fun _ _ h => h
  have rest : oneS s = false → _ := fun h1 => setLoopI hv20 h256 hst (R := RetSt s w) fun w' hb' => yes (by unfold setT; rw [if_neg hne, h1, if_neg (by decide)]) (B20.vstep hb')
  refine ⟨fun g3 => ?_, fun g3 => ?_⟩
  · have g3' : s.length = 1 := by have : ((s.length : Nat) : Int) = 1 := by simpa using g3
                                  omega
    obtain ⟨y, rfl⟩ : ∃ y, s = [y] := by
      match s, g3' with
      | [y], _ => exact ⟨y, rfl⟩
    obtain ⟨d1, hd1, hg1⟩ := hv20.open (by omega)
    have hy2 := hst y (List.mem_singleton.2 rfl)
    have c0 : cellH w20.heap d1 0 = some (.int .i64 y.1) := by rw [hg1 0 (by omega)]; rfl
    have c1 : cellH w20.heap d1 (0 + 1) = some (.int .i64 y.2) := by rw [hg1 1 (by omega)]; rfl
    refine ⟨d1, 0, ⟨hd1, by omega, by omega⟩, _, c0, d1, 0, ⟨hd1, by omega, by omega⟩, _, c1, fun g4 => ?_, fun g4 => ?_⟩
    · have g4' : y.1 = y.2 := by simpa using g4
      refine ⟨d1, 0, ⟨hd1, by omega, by omega⟩, _, c0, (byteText_ok y.1 ⟨by omega, by omega⟩ w20).ret fun w31 B31 => ⟨_, rfl, yes ?_ (B20.vstep B31)⟩⟩
      unfold setT
      rw [if_neg (by simp), if_pos (by simp [oneS, g4'])]
      rfl
    · have g4' : ¬ y.1 = y.2 := by simpa using g4
      exact rest (by simp [oneS, g4'])
  · have g3' : ¬ s.length = 1 := by have : ¬ ((s.length : Nat) : Int) = 1 := by simpa using g3
                                    omega
    refine rest ?_
    match s with
    | [] => rfl
    | [y] => simp at g3'
    | y :: z :: t => rfl
end Go.Proofs.Ytngbiaeliphdjaa.V
/- Printed by vcgen.py, a program of this session: formulas of Go functions, each with the proof that it gives the function's contract. No statement of the seat is proved here. -/
namespace Go.Proofs.Ytngbiaeliphdjaa.V
open Go.Vc Go.Proofs
set_option linter.unusedVariables false
set_option maxRecDepth 100000
/-- impl.newFinder -/
def V70 (s1 s2 : ByteArray) (R : Rt) : Pred := fun w =>
  clV 26 ([.string s1]) w R fun r8 w7 => ∃ t3, ∃ n4, ∃ n5, ∃ a6 l6 c6, r8 = .agg #[.bool t3, .int .i64 n4, .int .i64 n5, .slice a6 l6 c6] ∧ newC [.bool false, .int .i64 0, .int .i64 0, .slice none 0 0] 37 (fun b9 w10 => stW b9 0 [.bool t3, .int .i64 n4, .int .i64 n5, .slice a6 l6 c6] (fun w11 => lB w11 b9 0 fun t12 => lI w11 b9 1 fun n13 => lI w11 b9 2 fun n14 => lL w11 b9 3 fun a15 l15 c15 => ∃ (m16 : Option Nat), ∃ w17, (Instr.makeMap 126 none).run Try.prog w11 = .ok (.map m16) w17 ∧ newC [.bool t12, .int .i64 n13, .int .i64 n14, .slice a15 l15 c15, .string s2, .map m16] 128 (fun b18 w19 => lB w19 b9 0 fun t20 => (cB t20 (R (.returned (.tuple #[.pointer (some ⟨b18, 0, none⟩), .bool (decide (((ByteArray.size s2 : Nat) : Int) ≤ 200))])) w19) (R (.returned (.tuple #[.pointer (some ⟨b18, 0, none⟩), .bool false])) w19))) w17) w10) w7
def scr70 : Scr := (.q 2 (.q 4 (.run [0,1,2,3,4,5,6,7] (.split 16 (.r [8,9,10,11,12,13] .nil) (.r [8,9,10,11,12,13] .nil)))))
theorem vc70 {s1 s2} {R w} (h : V70 s1 s2 R w) : Cl Try.prog 70 [.string s1, .string s2] w R :=
  cl_of scr70 Try.func70 (by kernel_rfl) _ _ (by kernel_rfl) h
/-- impl.Ways -/
def V30 (s1 s2 : ByteArray) (n3 : Int) (R : Rt) : Pred := fun w =>
  clV 70 ([.string s1, .string s2]) w R fun r8 w7 => ∃ b4, ∃ o5, ∃ t6, r8 = .tuple #[.pointer (some ⟨b4, o5, none⟩), .bool t6] ∧ (cB (!t6) (R (.returned (.slice none 0 0)) w7) (clL 80 ([.pointer (some ⟨b4, o5, none⟩), .int .i64 n3]) w7 R fun a9 l9 c9 w10 => R (.returned (.slice a9 l9 c9)) w10))
def scr30 : Scr := (.q 1 (.q 8 (.q 2 (.cond (.q 1 .nil) (.q 4 .nil)))))
theorem vc30 {s1 s2 n3} {R w} (h : V30 s1 s2 n3 R w) : Cl Try.prog 30 [.string s1, .string s2, .int .i64 n3] w R :=
  cl_of scr30 Try.func30 (by kernel_rfl) _ _ (by kernel_rfl) h
/-- impl.Find -/
def V45 (s1 s2 : ByteArray) (n3 : Int) (R : Rt) : Pred := fun w =>
  newC [.bool false, .int .i64 0, .int .i64 0, .slice none 0 0] 29 (fun b4 w5 => clV 70 ([.string s1, .string s2]) w5 R fun r10 w9 => ∃ b6, ∃ o7, ∃ t8, r10 = .tuple #[.pointer (some ⟨b6, o7, none⟩), .bool t8] ∧ (cB (!t8) (stW b4 0 [.bool false, .int .i64 0, .int .i64 0, .slice none 0 0] (fun w11 => lB w11 b4 0 fun t12 => lI w11 b4 1 fun n13 => lI w11 b4 2 fun n14 => lL w11 b4 3 fun a15 l15 c15 => R (.returned (.agg #[.bool t12, .int .i64 n13, .int .i64 n14, .slice a15 l15 c15])) w11) w9) (clV 71 ([.pointer (some ⟨b6, o7, none⟩), .int .i64 n3]) w9 R fun r21 w20 => ∃ t16, ∃ n17, ∃ n18, ∃ a19 l19 c19, r21 = .agg #[.bool t16, .int .i64 n17, .int .i64 n18, .slice a19 l19 c19] ∧ stW b4 0 [.bool t16, .int .i64 n17, .int .i64 n18, .slice a19 l19 c19] (fun w22 => lB w22 b4 0 fun t23 => lI w22 b4 1 fun n24 => lI w22 b4 2 fun n25 => lL w22 b4 3 fun a26 l26 c26 => R (.returned (.agg #[.bool t23, .int .i64 n24, .int .i64 n25, .slice a26 l26 c26])) w22) w20))) w
def scr45 : Scr := (.q 1 (.q 8 (.q 2 (.cond (.q 2 .nil) (.q 4 .nil)))))
theorem vc45 {s1 s2 n3} {R w} (h : V45 s1 s2 n3 R w) : Cl Try.prog 45 [.string s1, .string s2, .int .i64 n3] w R :=
  cl_of scr45 Try.func45 (by kernel_rfl) _ _ (by kernel_rfl) h
/-- impl.Split -/
def V51 (s1 s2 : ByteArray) (R : Rt) : Pred := fun w =>
  clV 70 ([.string s1, .string s2]) w R fun r7 w6 => ∃ b3, ∃ o4, ∃ t5, r7 = .tuple #[.pointer (some ⟨b3, o4, none⟩), .bool t5] ∧ (cB (!t5) (R (.returned (.slice none 0 0)) w6) (clL 22 ([.string s1, .string s2]) w6 R fun a8 l8 c8 w9 => ∃ (I11 : Nat → Option Addr → Nat → Nat → Int → Int → World → Prop), (∃ k13, I11 k13 none 0 0 0 0 w9) ∧ ∀ k12 (d15 : Nat → Value) a16 l16 c16 n17 n18 w14, I11 k12 a16 l16 c16 n17 n18 w14 → (cB (decide (n18 < ((l8 : Nat) : Int))) (ixS a8 l8 n18 fun b19 o20 => lB w14 b19 (o20 + (Int.toNat n18) * 4) fun t21 => lI w14 b19 (o20 + (Int.toNat n18) * 4 + 1) fun n22 => lI w14 b19 (o20 + (Int.toNat n18) * 4 + 2) fun n23 => lL w14 b19 (o20 + (Int.toNat n18) * 4 + 3) fun a24 l24 c24 => newC [.bool false, .int .i64 0, .int .i64 0, .slice none 0 0] 29 (fun b25 w26 => stW b25 0 [.bool t21, .int .i64 n22, .int .i64 n23, .slice a24 l24 c24] (fun w27 => lI w27 b25 1 fun n28 => lI w27 b25 2 fun n29 => (cB (n28 == n29) (lI w27 b25 1 fun n30 => (cB (n30 == 0) ((∃ m31, m31 < k12 ∧ I11 m31 a16 l16 c16 n17 (IntKind.wrap .i64 (n18 + 1)) w27)) (lI w27 b25 1 fun n32 => (cB (n32 == ((ByteArray.size s2 : Nat) : Int)) ((∃ m33, m33 < k12 ∧ I11 m33 a16 l16 c16 n17 (IntKind.wrap .i64 (n18 + 1)) w27)) (lI w27 b25 1 fun n34 => (slT s2 n17 n34) ∧ newC [.string (ByteArray.extract s2 (Int.toNat n17) (Int.toNat n34))] 9 (fun b35 w36 => ∃ a37 l37 c37, ∃ w38, (Builtin.append_ #[55, 55] 55 #[.slice a16 l16 c16, .slice (some ⟨b35, 0, none⟩) 1 1]).run Try.prog w36 = .ok (.slice a37 l37 c37) w38 ∧ lI w38 b25 2 fun n39 => (∃ m40, m40 < k12 ∧ I11 m40 a37 l37 c37 n39 (IntKind.wrap .i64 (n18 + 1)) w38)) w27))))) (lI w27 b25 1 fun n41 => (slT s2 n17 n41) ∧ newC [.string (ByteArray.extract s2 (Int.toNat n17) (Int.toNat n41))] 9 (fun b42 w43 => ∃ a44 l44 c44, ∃ w45, (Builtin.append_ #[55, 55] 55 #[.slice a16 l16 c16, .slice (some ⟨b42, 0, none⟩) 1 1]).run Try.prog w43 = .ok (.slice a44 l44 c44) w45 ∧ lI w45 b25 2 fun n46 => (∃ m47, m47 < k12 ∧ I11 m47 a44 l44 c44 n46 (IntKind.wrap .i64 (n18 + 1)) w45)) w27))) w26) w14) ((slA s2 n17) ∧ newC [.string (ByteArray.extract s2 (Int.toNat n17) (ByteArray.size s2))] 9 (fun b48 w49 => ∃ a50 l50 c50, ∃ w51, (Builtin.append_ #[55, 55] 55 #[.slice a16 l16 c16, .slice (some ⟨b48, 0, none⟩) 1 1]).run Try.prog w49 = .ok (.slice a50 l50 c50) w51 ∧ R (.returned (.slice a50 l50 c50)) w51) w14))))
def scr51 : Scr := (.q 1 (.q 8 (.q 2 (.cond (.q 1 .nil) (.q 1 (.q 1 (.q 5 (.loop (dr [(7, some .slice), (8, some (.int .i64)), (23, some (.int .i64))] [(10,1),(24,31)]) (.q 1 (.cond (.q 4 (.run [0,1,2,3,4,5] (.split 32 (.run [6,7,8,9] (.split 36 (.r [10,11,12,13,14,15,16] (.lit (.q 2 .nil))) (.r [10,11,12,13,14,15,16] (.cond (.q 2 .nil) (.q 9 (.q 3 (.q 2 .nil))))))) (.r [6,7,8,9,10,11,12,13,14,15,16] (.lit (.q 9 (.q 3 (.q 2 .nil)))))))) (.q 7 .nil)))))))))))
theorem vc51 {s1 s2} {R w} (h : V51 s1 s2 R w) : Cl Try.prog 51 [.string s1, .string s2] w R :=
  cl_of scr51 Try.func51 (by kernel_rfl) _ _ (by kernel_rfl) h
/-- laws.FnWritten -/
def V18 (a1 : Option Addr) (l1 c1 : Nat) (R : Rt) : Pred := fun w =>
  (cB (decide (((l1 : Nat) : Int) > 1048576)) (R (.returned (.bool true)) w) (clS 64 ([.slice a1 l1 c1]) w R fun s2 w3 => clV 26 ([.string s2]) w3 R fun r10 w9 => ∃ t5, ∃ n6, ∃ n7, ∃ a8 l8 c8, r10 = .agg #[.bool t5, .int .i64 n6, .int .i64 n7, .slice a8 l8 c8] ∧ newC [.bool false, .int .i64 0, .int .i64 0, .slice none 0 0] 37 (fun b11 w12 => stW b11 0 [.bool t5, .int .i64 n6, .int .i64 n7, .slice a8 l8 c8] (fun w13 => drw (fun w14 => lB w14 b11 0 fun t15 => lI w14 b11 1 fun n16 => lI w14 b11 2 fun n17 => lL w14 b11 3 fun a18 l18 c18 => clV 27 ([.string s2]) w14 R fun r24 w23 => ∃ t19, ∃ n20, ∃ n21, ∃ a22 l22 c22, r24 = .agg #[.bool t19, .int .i64 n20, .int .i64 n21, .slice a22 l22 c22] ∧ cellsAt w23.heap b11 0 [.bool t15, .int .i64 n16, .int .i64 n17, .slice a18 l18 c18] ∧ clB 25 ([.agg #[.bool t15, .int .i64 n16, .int .i64 n17, .slice a18 l18 c18], .agg #[.bool t19, .int .i64 n20, .int .i64 n21, .slice a22 l22 c22]]) w23 R fun t25 w26 => (cB (!t25) (R (.returned (.bool false)) w26) (lB w26 b11 0 fun t28 => lI w26 b11 1 fun n29 => lI w26 b11 2 fun n30 => lL w26 b11 3 fun a31 l31 c31 => clS 59 ([.agg #[.bool t28, .int .i64 n29, .int .i64 n30, .slice a31 l31 c31]]) w26 R fun s32 w33 => lB w33 b11 0 fun t35 => lI w33 b11 1 fun n36 => lI w33 b11 2 fun n37 => lL w33 b11 3 fun a38 l38 c38 => clS 57 ([.agg #[.bool t35, .int .i64 n36, .int .i64 n37, .slice a38 l38 c38]]) w33 R fun s39 w40 => (cB (!(s32.toList == s39.toList)) (R (.returned (.bool false)) w40) (lB w40 b11 0 fun t42 => (cB (!t42) ((cB (s32.toList == (⟨#[]⟩ : ByteArray).toList) (clL 30 ([.string s2, .string (⟨#[97]⟩ : ByteArray), .int .i64 0]) w40 R fun a43 l43 c43 w44 => (cB (((l43 : Nat) : Int) == 0) (clV 45 ([.string s2, .string (⟨#[97]⟩ : ByteArray), .int .i64 0]) w44 R fun r51 w50 => ∃ t46, ∃ n47, ∃ n48, ∃ a49 l49 c49, r51 = .agg #[.bool t46, .int .i64 n47, .int .i64 n48, .slice a49 l49 c49] ∧ (cB (!t46) (clL 51 ([.string s2, .string (⟨#[97]⟩ : ByteArray)]) w50 R fun a52 l52 c52 w53 => R (.returned (.bool (((l52 : Nat) : Int) == 0))) w53) (R (.returned (.bool false)) w50))) (R (.returned (.bool false)) w44))) (R (.returned (.bool false)) w40))) (drw (fun w55 => (cB (s32.toList == (⟨#[]⟩ : ByteArray).toList) (R (.returned (.bool true)) w55) (lB w55 b11 0 fun t56 => lI w55 b11 1 fun n57 => lI w55 b11 2 fun n58 => lL w55 b11 3 fun a59 l59 c59 => clV 26 ([.string s32]) w55 R fun r65 w64 => ∃ t60, ∃ n61, ∃ n62, ∃ a63 l63 c63, r65 = .agg #[.bool t60, .int .i64 n61, .int .i64 n62, .slice a63 l63 c63] ∧ cellsAt w64.heap b11 0 [.bool t56, .int .i64 n57, .int .i64 n58, .slice a59 l59 c59] ∧ clB 25 ([.agg #[.bool t60, .int .i64 n61, .int .i64 n62, .slice a63 l63 c63], .agg #[.bool t56, .int .i64 n57, .int .i64 n58, .slice a59 l59 c59]]) w64 R fun t66 w67 => (cB t66 (clV 26 ([.string s32]) w67 R fun r74 w73 => ∃ t69, ∃ n70, ∃ n71, ∃ a72 l72 c72, r74 = .agg #[.bool t69, .int .i64 n70, .int .i64 n71, .slice a72 l72 c72] ∧ clS 59 ([.agg #[.bool t69, .int .i64 n70, .int .i64 n71, .slice a72 l72 c72]]) w73 R fun s75 w76 => R (.returned (.bool (s75.toList == s32.toList))) w76) (R (.returned (.bool false)) w67))))) w40))))))) w13) w12) w9))
def scr18 : Scr := (.q 1 (.q 3 (.cond (.q 1 .nil) (.q 3 (.q 4 (.q 5 (.cond (.q 1 .nil) (.q 3 (.q 4 (.cond (.q 1 .nil) (.q 3 (.cond (.run [0,1,2] (.split 29 (.run [3,4,5,6,7,8] (.split 35 (.run [9,10,11,12,13,14] (.split 41 (.r [15,16,17,18,19,20] .nil) (.r [15,16,17,18,19,20] .nil))) (.r [9,10,11,12,13,14,15,16,17,18,19,20] .nil))) (.r [3,4,5,6,7,8,9,10,11,12,13,14,15,16,17,18,19,20] .nil))) (.run [0,1,2] (.split 49 (.r [3,4,5,6,7,8,9,10,11,12,13,14,15] .nil) (.run [3,5,4,6,7] (.split 54 (.r [8,11,9,10,12,13,14,15] .nil) (.r [8,9,10,11,12,13,14,15] .nil)))))))))))))))))
theorem vc18 {a1 l1 c1} {R w} (h : V18 a1 l1 c1 R w) : Cl Try.prog 18 [.slice a1 l1 c1] w R :=
  cl_of scr18 Try.func18 (by kernel_rfl) _ _ (by kernel_rfl) h
/-- spec.DrawReadPattern -/
def V64 (a1 : Option Addr) (l1 c1 : Nat) (R : Rt) : Pred := fun w =>
  newC [.slice a1 l1 c1, .int .i64 0, .int .u64 0] 76 (fun b2 w3 => clS 105 ([.pointer (some ⟨b2, 0, none⟩)]) w3 R fun s4 w5 => R (.returned (.string s4)) w5) w
def scr64 : Scr := (.q 1 (.q 4 (.q 3 .nil)))
theorem vc64 {a1 l1 c1} {R w} (h : V64 a1 l1 c1 R w) : Cl Try.prog 64 [.slice a1 l1 c1] w R :=
  cl_of scr64 Try.func64 (by kernel_rfl) _ _ (by kernel_rfl) h
/-- (*spec.l6Cur).any -/
def V105 (b1 o2 : Nat) (R : Rt) : Pred := fun w =>
  clS 66 ([.pointer (some ⟨b1, o2, none⟩), .bool false]) w R fun s3 w4 => clI 82 ([.pointer (some ⟨b1, o2, none⟩), .int .i64 3]) w4 R fun n6 w7 => ∃ (J9 : ByteArray → World → Prop), (∃ (I10 : Nat → ByteArray → Int → World → Prop), (∃ k12, I10 k12 s3 n6 w7) ∧ ∀ k11 (d14 : Nat → Value) s15 n16 w13, I10 k11 s15 n16 w13 → (cB (decide (n16 > 0)) (clI 82 ([.pointer (some ⟨b1, o2, none⟩), .int .i64 2]) w13 R fun n17 w18 => (cB (n17 == 0) (clI 82 ([.pointer (some ⟨b1, o2, none⟩), .int .i64 (IntKind.wrap .i64 (((ByteArray.size s15 : Nat) : Int) + 1))]) w18 R fun n20 w21 => newC [.string (⟨#[40]⟩ : ByteArray), .string (⟨#[41]⟩ : ByteArray), .string (⟨#[91]⟩ : ByteArray), .string (⟨#[93]⟩ : ByteArray), .string (⟨#[123]⟩ : ByteArray), .string (⟨#[125]⟩ : ByteArray), .string (⟨#[42]⟩ : ByteArray), .string (⟨#[63]⟩ : ByteArray), .string (⟨#[124]⟩ : ByteArray), .string (⟨#[92]⟩ : ByteArray), .string (⟨#[92, 120, 52]⟩ : ByteArray), .string (⟨#[92, 113]⟩ : ByteArray), .string (⟨#[123, 51, 44, 50, 125]⟩ : ByteArray), .string (⟨#[123, 53, 49, 125]⟩ : ByteArray), .string (⟨#[123, 53, 48, 125]⟩ : ByteArray), .string (⟨#[91, 98, 45, 97, 93]⟩ : ByteArray), .string (⟨#[91, 97, 45, 92, 100, 93]⟩ : ByteArray), .string (⟨#[123, 44, 51, 125]⟩ : ByteArray), .string (⟨#[123, 50]⟩ : ByteArray), .string (⟨#[45]⟩ : ByteArray), .string (⟨#[94]⟩ : ByteArray), .string (⟨#[91, 94]⟩ : ByteArray), .string (⟨#[92, 32]⟩ : ByteArray)] 9 (fun b23 w24 => drw (fun w25 => (slA s15 n20) ∧ (slA s15 n20) ∧ clI 82 ([.pointer (some ⟨b1, o2, none⟩), .int .i64 ((23 : Nat) : Int)]) w25 R fun n26 w27 => ixS (some ⟨b23, 0, none⟩) 23 n26 fun b29 o30 => lS w27 b29 (o30 + (Int.toNat n26) * 1) fun s31 => ((ByteArray.extract s15 0 (Int.toNat n20)).size + s31.size ≤ 9223372036854775807) ∧ (((ByteArray.extract s15 0 (Int.toNat n20)) ++ s31).size + (ByteArray.extract s15 (Int.toNat n20) (ByteArray.size s15)).size ≤ 9223372036854775807) ∧ (∃ m32, m32 < k11 ∧ I10 m32 (((ByteArray.extract s15 0 (Int.toNat n20)) ++ s31) ++ (ByteArray.extract s15 (Int.toNat n20) (ByteArray.size s15))) (IntKind.wrap .i64 (n16 - 1)) w27)) w24) w21) (J9 s15 w18))) (J9 s15 w13))) ∧ ∀ (d33 : Nat → Value) s34 w35, J9 s34 w35 → clI 82 ([.pointer (some ⟨b1, o2, none⟩), .int .i64 60]) w35 R fun n36 w37 => (cB (n36 == 0) (newC [.string (⟨#[40, 40, 40, 40, 40, 40, 40, 97, 41, 41, 41, 41, 41, 41, 41]⟩ : ByteArray), .string (⟨#[40, 40, 40, 40, 40, 40, 97, 41, 41, 41, 41, 41, 41]⟩ : ByteArray), .string (⟨#[40, 97, 41, 40, 97, 41, 40, 97, 41, 40, 97, 41, 40, 97, 41, 40, 97, 41, 40, 97, 41, 40, 97, 41, 40, 97, 41, 40, 97, 41]⟩ : ByteArray), .string (⟨#[40, 97, 41, 40, 97, 41, 40, 97, 41, 40, 97, 41, 40, 97, 41, 40, 97, 41, 40, 97, 41, 40, 97, 41, 40, 97, 41]⟩ : ByteArray)] 9 (fun b39 w40 => clI 82 ([.pointer (some ⟨b1, o2, none⟩), .int .i64 4]) w40 R fun n41 w42 => ixS (some ⟨b39, 0, none⟩) 4 n41 fun b44 o45 => lS w42 b44 (o45 + (Int.toNat n41) * 1) fun s46 => clI 82 ([.pointer (some ⟨b1, o2, none⟩), .int .i64 60]) w42 R fun n47 w48 => (cB (n47 == 0) (∃ (I50 : Nat → ByteArray → World → Prop), (∃ k52, I50 k52 (⟨#[]⟩ : ByteArray) w48) ∧ ∀ k51 (d54 : Nat → Value) s55 w53, I50 k51 s55 w53 → clI 82 ([.pointer (some ⟨b1, o2, none⟩), .int .i64 3]) w53 R fun n56 w57 => (cB (decide (((ByteArray.size s55 : Nat) : Int) < (IntKind.wrap .i64 (119 + n56)))) ((s55.size + (⟨#[97]⟩ : ByteArray).size ≤ 9223372036854775807) ∧ (∃ m59, m59 < k51 ∧ I50 m59 (s55 ++ (⟨#[97]⟩ : ByteArray)) w57)) (R (.returned (.string s55)) w57))) (R (.returned (.string s46)) w48))) w37) (clI 82 ([.pointer (some ⟨b1, o2, none⟩), .int .i64 60]) w37 R fun n60 w61 => (cB (n60 == 0) (∃ (I63 : Nat → ByteArray → World → Prop), (∃ k65, I63 k65 (⟨#[]⟩ : ByteArray) w61) ∧ ∀ k64 (d67 : Nat → Value) s68 w66, I63 k64 s68 w66 → clI 82 ([.pointer (some ⟨b1, o2, none⟩), .int .i64 3]) w66 R fun n69 w70 => (cB (decide (((ByteArray.size s68 : Nat) : Int) < (IntKind.wrap .i64 (119 + n69)))) ((s68.size + (⟨#[97]⟩ : ByteArray).size ≤ 9223372036854775807) ∧ (∃ m72, m72 < k64 ∧ I63 m72 (s68 ++ (⟨#[97]⟩ : ByteArray)) w70)) (R (.returned (.string s68)) w70))) (R (.returned (.string s34)) w61))))
def scr105 : Scr := (.q 1 (.q 3 (.q 3 (.cut (dr [(3, some .str)] [(4,3),(12,30)]) (.loop (dr [(3, some .str), (4, some (.int .i64))] [(5,2),(12,30)]) (.run [0,1,2] (.split 14 (.r [3,4,5,6] (.cond (.q 6 (.q 2 (.r [0,1,2,3,4,5,6,11,12,13,7,8,9,10,14,15] (.q 3 .nil)))) .nil)) (.r [3,4,5,6] (.lit .nil))))) (.q 3 (.cond (.q 2 (.q 6 (.q 3 (.cond (.q 1 (.loop (dr [(3, some .str)] [(54,8)]) (.q 6 (.cond (.q 3 .nil) (.q 2 .nil))))) (.q 2 .nil))))) (.q 3 (.cond (.q 1 (.loop (dr [(3, some .str)] [(54,8)]) (.q 6 (.cond (.q 3 .nil) (.q 2 .nil))))) (.q 2 .nil)))))))))
theorem vc105 {b1 o2} {R w} (h : V105 b1 o2 R w) : Cl Try.prog 105 [.pointer (some ⟨b1, o2, none⟩)] w R :=
  cl_of scr105 Try.func105 (by kernel_rfl) _ _ (by kernel_rfl) h
/-- laws.wPattern -/
def V25 (t1 : Bool) (n2 n3 : Int) (a4 : Option Addr) (l4 c4 : Nat) (t5 : Bool) (n6 n7 : Int) (a8 : Option Addr) (l8 c8 : Nat) (R : Rt) : Pred := fun w =>
  newC [.bool t1, .int .i64 n2, .int .i64 n3, .slice a4 l4 c4] 37 (fun b9 w10 => newC [.bool t5, .int .i64 n6, .int .i64 n7, .slice a8 l8 c8] 37 (fun b11 w12 => lB w12 b9 0 fun t13 => lB w12 b11 0 fun t14 => (cB (t13 == t14) (lI w12 b9 1 fun n15 => lI w12 b11 1 fun n16 => (cB (n15 == n16) (lI w12 b9 2 fun n17 => lI w12 b11 2 fun n18 => (cB (n17 == n18) (lL w12 b9 3 fun a19 l19 c19 => lL w12 b11 3 fun a20 l20 c20 => clB 72 ([.slice a19 l19 c19, .slice a20 l20 c20]) w12 R fun t21 w22 => R (.returned (.bool t21)) w22) (R (.returned (.bool false)) w12))) (R (.returned (.bool false)) w12))) (R (.returned (.bool false)) w12))) w10) w
def scr25 : Scr := (.q 3 (.run [0,1,2,3,4,5] (.split 10 (.run [6,7,8,9,10,11,12] (.split 17 (.run [13,14,15,16,17,18,19] (.split 24 (.r [20,21,22,23,24,25,26] .nil) (.r [20,21,22,23,24,25,26] .nil))) (.r [13,14,15,16,17,18,19,20,21,22,23,24,25,26] .nil))) (.r [6,7,8,9,10,11,12,13,14,15,16,17,18,19,20,21,22,23,24,25,26] .nil))))
theorem vc25 {t1 n2 n3 a4 l4 c4 t5 n6 n7 a8 l8 c8} {R w} (h : V25 t1 n2 n3 a4 l4 c4 t5 n6 n7 a8 l8 c8 R w) : Cl Try.prog 25 [.agg #[.bool t1, .int .i64 n2, .int .i64 n3, .slice a4 l4 c4], .agg #[.bool t5, .int .i64 n6, .int .i64 n7, .slice a8 l8 c8]] w R :=
  cl_of scr25 Try.func25 (by kernel_rfl) _ _ (by kernel_rfl) h
end Go.Proofs.Ytngbiaeliphdjaa.V
/- put, number, counts in the program's reader. No statement of the seat is proved here. -/
namespace Go.Proofs.Ytngbiaeliphdjaa.V
open Go.Vc Go.Proofs Go.RowKit
set_option linter.unusedVariables false
set_option linter.unusedSimpArgs false

structure PSt (N : Nat) (w : World) (b : Nat) (s : ByteArray) (i g : Nat) (dp : Int) (a : Option Addr) (ln c : Nat) (rs : List Raw) (ps : List Pc) : Prop where
  rd : Rd w b s i g dp a ln c
  pcs : Pcs N w a ln c rs ps
  lt : b < N
  hN : N ≤ w.heap.size
theorem PSt.notb {N : Nat} {w : World} {b : Nat} {s : ByteArray} {i g : Nat} {dp : Int} {a : Option Addr} {ln c : Nat} {rs : List Raw} {ps : List Pc} (h : PSt N w b s i g dp a ln c rs ps) : b ∉ blks a rs := fun hb => by have := h.pcs.low b hb; have := h.lt; omega
theorem PSt.below {N : Nat} {w w' : World} {b : Nat} {s : ByteArray} {i g : Nat} {dp : Int} {a : Option Addr} {ln c : Nat} {rs : List Raw} {ps : List Pc} (h : PSt N w b s i g dp a ln c rs ps) (k : Below w.heap.size w w') : PSt N w' b s i g dp a ln c rs ps :=
  ⟨h.rd.below k, h.pcs.below k, h.lt, Nat.le_trans h.hN k.size⟩
/-- The reader's own block alone has changed. -/
theorem PSt.upd {N : Nat} {w w' : World} {b : Nat} {s : ByteArray} {i g i' g' : Nat} {dp dp' : Int} {a : Option Addr} {ln c : Nat} {rs : List Raw} {ps : List Pc} (h : PSt N w b s i g dp a ln c rs ps) (e : Ext (fun k => k = b) w w') (hr : Rd w' b s i' g' dp' a ln c) : PSt N w' b s i' g' dp' a ln c rs ps :=
  ⟨hr, h.pcs.keep e fun k hk hb => by subst hb; exact h.notb hk, h.lt, Nat.le_trans h.hN e.size⟩
theorem PSt.other {S : Nat → Prop} {N : Nat} {w w' : World} {b : Nat} {s : ByteArray} {i g : Nat} {dp : Int} {a : Option Addr} {ln c : Nat} {rs : List Raw} {ps : List Pc} (h : PSt N w b s i g dp a ln c rs ps) (e : Ext S w w') (hb : ¬ S b) (hs : ∀ k ∈ blks a rs, ¬ S k) : PSt N w' b s i g dp a ln c rs ps :=
  ⟨Blk.keep h.rd e hb, h.pcs.keep e hs, h.lt, Nat.le_trans h.hN e.size⟩

/-- What put leaves. -/
def PutR (N : Nat) (w : World) (b : Nat) (s : ByteArray) (i g : Nat) (dp : Int) (a : Option Addr) (ln : Nat) (rs : List Raw) (ps : List Pc) (r : Raw) (p : Pc) : Ending → World → Prop := fun e w' =>
  e = .returned (.int .i64 ln) ∧ ∃ a2 c2, PSt N w' b s i g dp a2 (ln + 1) c2 (rs ++ [r]) (ps ++ [p]) ∧ Ext (fun k => k = b ∨ k ∈ blks a rs) w w' ∧ ∀ k ∈ blks a2 (rs ++ [r]), k ∈ blks a rs ∨ k ∈ r.blocks ∨ w.heap.size ≤ k
theorem put_ok {N : Nat} {w : World} {b : Nat} {s : ByteArray} {i g : Nat} {dp : Int} {a : Option Addr} {ln c : Nat} {rs : List Raw} {ps : List Pc} (h : PSt N w b s i g dp a ln c rs ps) {r : Raw} {p : Pc} (hr : RawOk w r p) (hb : r.blocks.Nodup) (hd : ∀ k ∈ r.blocks, k ∉ blks a rs ∧ N ≤ k) (hl : ln ≤ 1000) :
    Cl Try.prog 110 [.pointer (some ⟨b, 0, none⟩), .agg ⟨r.cells⟩] w (PutR N w b s i g dp a ln rs ps r p) := by
  have hbl := h.rd.lt
  refine vc110 (n3 := r.kind) (a4 := r.sa) (l4 := r.sl) (c4 := r.sc) (n5 := r.min) (n6 := r.max) (t7 := r.lazy) (n8 := r.num) (a9 := r.ka) (l9 := r.kl) (c9 := r.kc) ?_
  unfold V110
  refine newC_in fun w1 s1 k1 e1 => ?_
  refine drw_in fun w2 q2 e2 => ?_
  have E2 : Below w.heap.size w w2 := Ext.to (Ext.to (Below.refl _ _) e1 fun _ h => h.elim) e2 fun _ h => h.elim
  have h2 := h.below E2
  have k2 : Blk w2.heap w.heap.size 111 r.cells := k1.keep e2 fun h => h
  have r2 : RawOk w2 r p := hr.keep (S := fun _ => False) (Ext.of_below E2) fun _ _ h => h
  refine ⟨a, ln, c, h2.rd.cell 4, _, k2.cell 0, _, _, _, k2.cell 1, _, k2.cell 2, _, k2.cell 3, _, k2.cell 4, _, k2.cell 5, _, _, _, k2.cell 6, ?_⟩
  obtain ⟨a2, c2, w3, p1, p2, p3, p4⟩ := Pcs_app h2.pcs h2.hN r2 hb hd hl
  refine ⟨?_, a2, ln + 1, c2, w3, p1, ?_⟩
  · exact (Blk.vnew h2.rd _).cell 4
  have hob : ∀ k, k ∈ ob a → k ∈ blks a rs := fun k hk => List.mem_append_left _ hk
  have hR3 : Rd w3 b s i g dp a ln c := Blk.keep h2.rd p3 fun hk => h2.notb (hob _ hk)
  refine stW_in hR3 (by show 0 + 4 + 1 ≤ 5; decide) fun w4 s4 k4 e4 => ?_
  have hR4 : Rd w4 b s i g dp a2 (ln + 1) c2 := k4
  have hz := E2.size
  have hz3 := p3.size
  have hblk : ∀ k ∈ blks a2 (rs ++ [r]), k ∈ blks a rs ∨ k ∈ r.blocks ∨ w2.heap.size ≤ k := by
    intro k hk
    simp only [blks, List.flatMap_append, List.mem_append, List.flatMap_cons, List.flatMap_nil, List.append_nil] at hk ⊢
    rcases hk with hk | hk | hk
    · rcases p4 with rfl | rfl
      · exact .inl (.inl hk)
      · right; right; rw [mem_ob] at hk; simp [blkOf] at hk; omega
    · exact .inl (.inr hk)
    · exact .inr (.inl hk)
  refine ⟨_, _, _, hR4.cell 4, ?_, a2, c2, ⟨hR4, p2.keep e4 fun k hk hkb => ?_, h.lt, by have := h.hN; omega⟩, ?_, ?_⟩
  · rw [show IntKind.wrap .i64 ((((ln + 1 : Nat) : Int)) - 1) = (ln : Int) from by rw [w64 (by omega)]; omega]
  · subst hkb
    rcases hblk k hk with h1 | h1 | h1
    · exact h.notb h1
    · have := (hd k h1).2; have := h.lt; omega
    · omega
  · exact ((Ext.of_below E2).trans (Ext.mono p3 fun k _ hk => .inr (hob k hk))).trans (Ext.mono e4 fun k _ hk => .inl hk)
  · intro k hk
    rcases hblk k hk with h1 | h1 | h1
    · exact .inl h1
    · exact .inr (.inl h1)
    · exact .inr (.inr (by omega))

/-! ### Numbers -/
theorem min_run (x y : Int) (w : World) : (Builtin.min_ #[3, 3] 3 #[.int .i64 x, .int .i64 y]).run Try.prog w = .ok (.int .i64 (if y < x then y else x)) w := by simp [Builtin.min_, Builtin.min2]
theorem number_ok {w : World} {b : Nat} {s : ByteArray} {i g : Nat} {dp : Int} {a : Option Addr} {ln c : Nat} (h : Rd w b s i g dp a ln c) (hs : s.size ≤ 120) (hi : i ≤ s.size) :
    Cl Try.prog 148 [.pointer (some ⟨b, 0, none⟩)] w (fun e w' => Ext (fun k => k = b) w w' ∧ match numP (L s) i with | .bad n => e = PanicB n | .ok (j, v) => e = .returned (.int .i64 (v : Int)) ∧ Rd w' b s j g dp a ln c ∧ j ≤ s.size) := by
  apply vc148
  unfold V148
  have hsz := size_L s
  refine ⟨i, h.cell 1, ?_⟩
  unfold numP
  by_cases hl : i < s.size
  case neg =>
    refine (need_bad h hl).use fun e w1 he => ?_
    obtain ⟨rfl, b1⟩ := he
    refine ⟨Ext.of_below b1, ?_⟩
    rw [if_pos (by omega), ← hsz]; rfl
  rw [if_neg (by omega)]
  refine (need_ret h hl).ret fun w1 b1 => ⟨_, rfl, ?_⟩
  have h1 := h.below b1
  have E1 : Ext (fun k => k = b) w w1 := Ext.of_below b1
  have hbad : (at_ (L s) i < 48 ∨ 57 < at_ (L s) i) → ∀ F : Value → World → Prop, ∃ n8 : Int, cellH w1.heap b (0 + 1) = some (.int .i64 n8) ∧ Cl Try.prog 76 [.pointer (some ⟨b, 0, none⟩), .int .i64 n8] w1 (retG F
        (fun c1 w' => Ext (fun k => k = b) w w' ∧ match (if at_ (L s) i < 48 ∨ 57 < at_ (L s) i then Pr.bad i else if 50 < (digP (L s) i 0).2 then .bad i else .ok (digP (L s) i 0)) with | .bad n => Ending.panicked c1 = PanicB n | .ok (j, v) => Ending.panicked c1 = .returned (.int .i64 (v : Int)) ∧ Rd w' b s j g dp a ln c ∧ j ≤ s.size)) := by
    intro n1 F
    refine ⟨_, h1.cell 1, (fail_ok b i rfl w1).use fun e w3 he => ?_⟩
    obtain ⟨rfl, rfl⟩ := he
    refine ⟨E1, ?_⟩
    rw [if_pos n1]; rfl
  refine ⟨fun w' => Rd w' b s i g dp a ln c ∧ Ext (fun k => k = b) w w' ∧ 48 ≤ at_ (L s) i ∧ at_ (L s) i ≤ 57, ⟨fun g1 => hbad (.inl (by have := of_decide_eq_true g1; omega)) _, fun g1 => ⟨fun g2 => hbad (.inr (by have := of_decide_eq_true g2; omega)) _, fun g2 => ⟨h1, E1, by have := of_decide_eq_false g1; omega, by have := of_decide_eq_false g2; omega⟩⟩⟩, ?_⟩
  rintro - w2 ⟨h2, E2, hd1, hd2⟩
  rw [if_neg (by omega)]
  refine ⟨fun k n w' => ∃ (j v : Nat), n = v ∧ v ≤ 1000 ∧ j ≤ s.size ∧ k = s.size - j ∧ digP (L s) j v = digP (L s) i 0 ∧ Rd w' b s j g dp a ln c ∧ Ext (fun k => k = b) w w', ⟨_, i, 0, rfl, by omega, hi, rfl, rfl, h2, E2⟩, ?_⟩
  rintro k d n w3 ⟨j, v, rfl, hv, hj, rfl, hdig, h3, E3⟩
  refine drw_in fun w4 q4 e4 => ?_
  have h4 : Rd w4 b s j g dp a ln c := Blk.keep h3 e4 fun h => h
  have E4 : Ext (fun k => k = b) w w4 := E3.trans (Ext.mono e4 fun _ _ h => h.elim)
  refine (end_ok h4).ret fun w5 b5 => ⟨_, rfl, ?_⟩
  have h5 := h4.below b5
  have E5 : Ext (fun k => k = b) w w5 := E4.trans (Ext.of_below b5)
  -- the end of the digits
  have hout : digP (L s) j v = (j, v) → ((decide ((v : Int) > 50)) = true → Cl Try.prog 76 [.pointer (some ⟨b, 0, none⟩), .int .i64 (i : Int)] w5 (retG (fun (r32 : Value) (w31 : World) => r32 = .tuple #[] ∧ (Ext (fun k => k = b) w w31 ∧ match (if 50 < (digP (L s) i 0).2 then Pr.bad i else .ok (digP (L s) i 0)) with | .bad n => Ending.returned (.int .i64 (v : Int)) = PanicB n | .ok (j, v1) => Ending.returned (.int .i64 (v : Int)) = .returned (.int .i64 (v1 : Int)) ∧ Rd w31 b s j g dp a ln c ∧ j ≤ s.size))
        (fun c1 w' => Ext (fun k => k = b) w w' ∧ match (if 50 < (digP (L s) i 0).2 then Pr.bad i else .ok (digP (L s) i 0)) with | .bad n => Ending.panicked c1 = PanicB n | .ok (j, v1) => Ending.panicked c1 = .returned (.int .i64 (v1 : Int)) ∧ Rd w' b s j g dp a ln c ∧ j ≤ s.size))) ∧
      ((decide ((v : Int) > 50)) = false → (Ext (fun k => k = b) w w5 ∧ match (if 50 < (digP (L s) i 0).2 then Pr.bad i else .ok (digP (L s) i 0)) with | .bad n => Ending.returned (.int .i64 (v : Int)) = PanicB n | .ok (j, v1) => Ending.returned (.int .i64 (v : Int)) = .returned (.int .i64 (v1 : Int)) ∧ Rd w5 b s j g dp a ln c ∧ j ≤ s.size)) := by
    intro hd
    rw [← hdig, hd]
    refine ⟨fun g1 => ?_, fun g1 => ?_⟩
    · have g1' := of_decide_eq_true g1
      refine (fail_ok b i rfl w5).use fun e w6 he => ?_
      obtain ⟨rfl, rfl⟩ := he
      refine ⟨E5, ?_⟩
      rw [if_pos (show 50 < v by omega)]; rfl
    · have g1' := of_decide_eq_false g1
      refine ⟨E5, ?_⟩
      rw [if_neg (show ¬ 50 < v by omega)]
      exact ⟨rfl, h5, hj⟩
  refine ⟨fun g1 => ?_, fun g1 => ?_⟩
  · have g1' : j < s.size := by
      have : decide (s.size ≤ j) = false := by simpa using g1
      have := of_decide_eq_false this; omega
    refine ⟨s, h5.cell 0, j, h5.cell 1, ⟨by omega, by omega⟩, ?_⟩
    rw [byteI s (j := j) rfl]
    refine ⟨fun g2 => ?_, fun g2 => ?_⟩
    · have g2' := of_decide_eq_true g2
      refine ⟨s, h5.cell 0, j, h5.cell 1, ⟨by omega, by omega⟩, ?_⟩
      rw [byteI s (j := j) rfl]
      refine ⟨fun g3 => ?_, fun g3 => ?_⟩
      · have g3' := of_decide_eq_true g3
        refine drw_in fun w6 q6 e6 => ?_
        have h6 : Rd w6 b s j g dp a ln c := Blk.keep h5 e6 fun h => h
        refine ⟨s, h6.cell 0, j, h6.cell 1, ⟨by omega, by omega⟩, ?_⟩
        rw [byteI s (j := j) rfl]
        refine ⟨_, min_run _ _ _, j, h6.cell 1, ?_⟩
        refine h6.mv (j := j + 1) (by rw [w64 (by omega)]; omega) fun w7 s7 h7 e7 => ?_
        have hw : IntKind.wrap .i64 (IntKind.wrap .i64 (10 * (v : Int)) + IntKind.wrap .i64 (IntKind.wrap .u8 ((at_ (L s) j : Int) - 48))) = ((10 * v + (at_ (L s) j - 48) : Nat) : Int) := by
          rw [w8, w64 (n := 10 * (v : Int)) (by omega), w64 (n := ((at_ (L s) j : Int) - 48) % 256) (by omega), w64 (by omega)]; omega
        rw [hw]
        refine ⟨s.size - (j + 1), by omega, j + 1, Nat.min 1000 (10 * v + (at_ (L s) j - 48)), ?_, Nat.min_le_left _ _, by omega, rfl, ?_, h7, (E5.trans (Ext.mono e6 fun _ _ h => h.elim)).trans e7⟩
        · have : Nat.min 1000 (10 * v + (at_ (L s) j - 48)) = if 10 * v + (at_ (L s) j - 48) < 1000 then 10 * v + (at_ (L s) j - 48) else 1000 := by
            show min _ _ = _
            split <;> omega
          rw [this]
          split <;> split <;> omega
        · rw [← hdig]; conv => rhs; rw [digP]
          rw [dif_pos ⟨by omega, by omega, by omega⟩]
      · have g3' := of_decide_eq_false g3
        exact hout (by rw [digP, dif_neg (by omega)])
    · have g2' := of_decide_eq_false g2
      exact hout (by rw [digP, dif_neg (by omega)])
  · have g1' : ¬ j < s.size := by
      have : decide (s.size ≤ j) = true := by simpa using g1
      have := of_decide_eq_true this; omega
    exact hout (by rw [digP, dif_neg (by omega)])
end Go.Proofs.Ytngbiaeliphdjaa.V
/- counts in the program's reader. No statement of the seat is proved here. -/
namespace Go.Proofs.Ytngbiaeliphdjaa.V
open Go.Vc Go.Proofs Go.RowKit
set_option linter.unusedVariables false
set_option linter.unusedSimpArgs false

/-- What a reading function leaves. -/
def ResI (N : Nat) (w : World) (b : Nat) (s : ByteArray) (dp : Int) (B : List Nat) (r : Pr (St × Int)) : Ending → World → Prop := fun e w' => match r with
  | .bad n => e = PanicB n ∧ Ext (fun k => k = b ∨ k ∈ B) w w'
  | .ok ((j, g, out), x) => e = .returned (.int .i64 x) ∧ ∃ a ln c rs, PSt N w' b s j g dp a ln c rs out ∧ Step b B w w' (blks a rs)
theorem ResI.bad {N : Nat} {w w' : World} {b : Nat} {s : ByteArray} {dp : Int} {B : List Nat} {r : Pr (St × Int)} {n : Nat} (hr : r = .bad n) (e : Ext (fun k => k = b ∨ k ∈ B) w w') : ResI N w b s dp B r (PanicB n) w' := by subst hr; exact ⟨rfl, e⟩

/-- Lazy or not. -/
def lazP (l : Bytes) (j : Nat) (a b : Int) : Pr (Nat × Option (Int × Int × Bool)) := if j < l.length ∧ at_ l j = 63 then .ok (j + 1, some (a, b, true)) else .ok (j, some (a, b, false))
theorem cntP_eq (l : Bytes) (i : Nat) : cntP l i = if l.length ≤ i then .ok (i, none)
  else if at_ l i = 42 then lazP l (i + 1) 0 (-1)
  else if at_ l i = 43 then lazP l (i + 1) 1 (-1)
  else if at_ l i = 63 then lazP l (i + 1) 0 1
  else if at_ l i = 123 then match braP l (i + 1) with
    | .bad e => .bad e
    | .ok (j, a, b) => lazP l j a b
  else .ok (i, none) := rfl

theorem counts_ok {N : Nat} {w : World} {b : Nat} {s : ByteArray} {i g : Nat} {dp : Int} {a : Option Addr} {ln c : Nat} {rs : List Raw} {ps : List Pc} (h : PSt N w b s i g dp a ln c rs ps) (hs : s.size ≤ 120) (hi : i ≤ s.size) (hl : ln ≤ 1000) (x : Int) :
    Cl Try.prog 127 [.pointer (some ⟨b, 0, none⟩), .int .i64 x] w (ResI N w b s dp (blks a rs) (cntR (L s) i g ps x)) := by
  apply vc127
  unfold V127
  have hsz := size_L s
  have hlen' := h.pcs.len'
  have hB := h.pcs.lt
  have hbl := h.rd.lt
  refine (end_ok h.rd).ret fun w1 b1 => ⟨_, rfl, fun g1 => ?_, fun g1 => ?_⟩
  · have g1' := of_decide_eq_true g1
    unfold cntR
    rw [cntP_eq, if_pos (by omega)]
    exact ⟨rfl, a, ln, c, rs, h.below b1, Step.of_below b1⟩
  have g1' := of_decide_eq_false g1
  have h1 := h.below b1
  refine newC_in fun w2 s2 k7 e2 => ?_
  have z1 := b1.size
  generalize hb7 : w1.heap.size = b7 at *
  refine newC_in fun w3 s3 k9 e3 => ?_
  generalize hb9 : w2.heap.size = b9 at *
  refine stW_in k9 (by show 0 + 7 ≤ 7; decide) fun w4 s4 k9' e4 => ?_
  let cs (m1 m2 : Int) (z : Bool) : List Value := [.int .i64 4, .slice none 0 0, .int .i64 m1, .int .i64 m2, .bool z, .int .i64 0, .slice (some ⟨b7, 0, none⟩) 1 1]
  -- what is kept all along
  let Q (w' : World) (j : Nat) (m1 m2 : Int) (z : Bool) : Prop := PSt N w' b s j g dp a ln c rs ps ∧ Blk w'.heap b9 111 (cs m1 m2 z) ∧ Blk w'.heap b7 3 [.int .i64 x] ∧ Ext (fun k => k = b) w w'
  have hb9' : b9 = b7 + 1 := by omega
  have qb : ∀ {w' w'' : World} {j : Nat} {m1 m2 : Int} {z : Bool}, Q w' j m1 m2 z → Below w'.heap.size w' w'' → Q w'' j m1 m2 z := fun h k => ⟨h.1.below k, h.2.1.below k, h.2.2.1.below k, h.2.2.2.trans (Ext.of_below k)⟩
  have qe : ∀ {w' w'' : World} {j : Nat} {m1 m2 : Int} {z : Bool}, Q w' j m1 m2 z → Ext (fun _ => False) w' w'' → Q w'' j m1 m2 z := fun h k => qb h ⟨k.os, k.tape, k.output, k.size, fun i hi => k.block i hi fun h => h⟩
  have qr : ∀ {w' w'' : World} {j j' : Nat} {m1 m2 : Int} {z : Bool}, Q w' j m1 m2 z → Ext (fun k => k = b) w' w'' → Rd w'' b s j' g dp a ln c → Q w'' j' m1 m2 z := fun h k r => ⟨h.1.upd k r, h.2.1.keep k (by omega), h.2.2.1.keep k (by omega), h.2.2.2.trans k⟩
  have q9 : ∀ {w' w'' : World} {j : Nat} {m1 m2 m1' m2' : Int} {z z' : Bool}, Q w' j m1 m2 z → Ext (fun k => k = b9) w' w'' → Blk w''.heap b9 111 (cs m1' m2' z') → Q w'' j m1' m2' z' := fun h k r =>
    ⟨h.1.other k (by omega) fun q hq hq' => by have := hB q hq; omega, r, h.2.2.1.keep k (by omega), h.2.2.2.step k fun q hq hq' => by omega⟩
  have st9 : ∀ {w' : World} {j : Nat} {m1 m2 : Int} {z : Bool} {K : World → Prop} {o : Nat} {v : Value} {m1' m2' : Int} {z' : Bool}, Q w' j m1 m2 z → o < 7 → segSet (cs m1 m2 z) o [v] = cs m1' m2' z' → (∀ w'', Q w'' j m1' m2' z' → K w'') → stW b9 o [v] K w' := by
    intro w' j m1 m2 z K o v m1' m2' z' hq ho hv hK
    refine stW_in hq.2.1 (by show o + 1 ≤ 7; omega) fun w'' s'' k'' e'' => ?_
    rw [hv] at k''
    exact hK w'' (q9 hq e'' k'')
  have mv : ∀ {w' : World} {j : Nat} {m1 m2 : Int} {z : Bool} {K : World → Prop} {n : Int}, Q w' j m1 m2 z → j ≤ 1000 → n = j → (∀ w'', Q w'' (j + 1) m1 m2 z → K w'') → stW b (0 + 1) [.int .i64 (IntKind.wrap .i64 (n + 1))] K w' := by
    intro w' j m1 m2 z K n hq hj hn hK
    subst hn
    exact hq.1.rd.mv (j := j + 1) (by rw [w64 (by omega)]; omega) fun w'' s'' k'' e'' => hK w'' (qr hq e'' k'')
  have hbadr : ∀ {w' : World} {j n : Nat} {m1 m2 : Int} {z : Bool} {r : Pr (St × Int)}, Q w' j m1 m2 z → ∀ {w'' : World}, Ext (fun k => k = b) w' w'' → r = .bad n → ResI N w b s dp (blks a rs) r (PanicB n) w'' := fun hq _ e hr => ResI.bad hr (Ext.mono (hq.2.2.2.trans e) fun _ _ hk => .inl hk)
  have q4 : Q w4 i 0 0 false := by
    have q3 : PSt N w3 b s i g dp a ln c rs ps := (h1.below ⟨e2.os, e2.tape, e2.output, e2.size, fun i hi => e2.block i hi fun h => h⟩).below ⟨e3.os, e3.tape, e3.output, e3.size, fun i hi => e3.block i hi fun h => h⟩
    refine ⟨q3.other e4 (by omega) fun q hq hq' => by have := hB q hq; omega, k9', (k7.keep e3 fun h => h).keep e4 (by omega), ?_⟩
    exact (((Ext.of_below b1).trans (Ext.mono e2 fun _ _ h => h.elim)).trans (Ext.mono e3 fun _ _ h => h.elim)).step e4 fun q hq hq' => by omega
  refine drw_in fun w5 q5 e5 => ?_
  have q5 := qe q4 e5
  refine ⟨s, q5.1.rd.cell 0, i, q5.1.rd.cell 1, ⟨by omega, by omega⟩, ?_⟩
  rw [byteI s (j := i) rfl]
  generalize hR : cntR (L s) i g ps x = R
  refine ⟨fun w' => ∃ j m1 m2, Q w' j m1 m2 false ∧ j ≤ s.size ∧ cntP (L s) i = lazP (L s) j m1 m2, ?_, ?_⟩
  · have hc0 := cntP_eq (L s) i
    rw [if_neg (by omega)] at hc0
    refine ⟨fun g2 => ?_, fun g2 => ⟨fun g3 => ?_, fun g3 => ⟨fun g4 => ?_, fun g4 => ⟨fun g5 => ?_, fun g5 => ?_⟩⟩⟩⟩
    all_goals try simp only [beq_iff_eq, beq_eq_false_iff_ne, ne_eq] at g2
    all_goals try simp only [beq_iff_eq, beq_eq_false_iff_ne, ne_eq] at g3
    all_goals try simp only [beq_iff_eq, beq_eq_false_iff_ne, ne_eq] at g4
    all_goals try simp only [beq_iff_eq, beq_eq_false_iff_ne, ne_eq] at g5
    · rw [if_pos (by omega)] at hc0
      exact st9 q5 (by decide) (show _ = cs 0 (-1) false from rfl) fun w6 q6 => ⟨i, q6.1.rd.cell 1, mv q6 (by omega) rfl fun w7 q7 => ⟨_, _, _, q7, by omega, hc0⟩⟩
    · rw [if_neg (by omega), if_pos (by omega)] at hc0
      exact st9 q5 (by decide) (show _ = cs 1 0 false from rfl) fun w6 q6 => st9 q6 (by decide) (show _ = cs 1 (-1) false from rfl) fun w7 q7 => ⟨i, q7.1.rd.cell 1, mv q7 (by omega) rfl fun w8 q8 => ⟨_, _, _, q8, by omega, hc0⟩⟩
    · rw [if_neg (by omega), if_neg (by omega), if_pos (by omega)] at hc0
      exact st9 q5 (by decide) (show _ = cs 0 1 false from rfl) fun w6 q6 => ⟨i, q6.1.rd.cell 1, mv q6 (by omega) rfl fun w7 q7 => ⟨_, _, _, q7, by omega, hc0⟩⟩
    · rw [if_neg (by omega), if_neg (by omega), if_neg (by omega), if_pos (by omega)] at hc0
      refine ⟨i, q5.1.rd.cell 1, mv q5 (by omega) rfl fun w6 q6 => ?_⟩
      refine (number_ok q6.1.rd hs (by omega)).use fun e w7 he => ?_
      obtain ⟨e7, he⟩ := he
      unfold braP at hc0
      cases hn : numP (L s) (i + 1) with
      | bad n =>
        rw [hn] at he hc0; subst he
        exact hbadr q6 e7 (by rw [← hR]; unfold cntR; rw [hc0])
      | ok y =>
      obtain ⟨j, lo⟩ := y
      rw [hn] at he hc0
      simp only [] at hc0
      obtain ⟨rfl, r7, hj⟩ := he
      have hlo := numP_gt hn
      have q7 := qr q6 e7 r7
      refine ⟨_, rfl, st9 q7 (by decide) (show _ = cs lo 0 false from rfl) fun w8 q8 => ?_⟩
      refine ⟨lo, q8.2.1.cell 2, st9 q8 (by decide) (show _ = cs lo lo false from rfl) fun w9 q9' => ?_⟩
      by_cases hjl : j < s.size
      case neg =>
        refine (need_bad q9'.1.rd hjl).use fun e w10 he => ?_
        obtain ⟨rfl, b10⟩ := he
        refine hbadr q9' (Ext.of_below b10) ?_
        rw [← hR]; unfold cntR; rw [hc0, if_pos (by omega), ← hsz]
      rw [if_neg (by omega)] at hc0
      refine (need_ret q9'.1.rd hjl).ret fun w10 b10 => ⟨_, rfl, fun g6 => ?_, fun g6 => ?_⟩
      · simp only [beq_iff_eq] at g6
        rw [if_pos (by omega)] at hc0
        have q10 := qb q9' b10
        refine ⟨j, q10.1.rd.cell 1, mv q10 (by omega) rfl fun w11 q11 => ?_⟩
        refine st9 q11 (by decide) (show _ = cs lo (-1) false from rfl) fun w12 q12 => ?_
        by_cases hj1 : j + 1 < s.size
        case neg =>
          refine (need_bad q12.1.rd hj1).use fun e w13 he => ?_
          obtain ⟨rfl, b13⟩ := he
          refine hbadr q12 (Ext.of_below b13) ?_
          rw [← hR]; unfold cntR; rw [hc0, if_pos (by omega), ← hsz]
        rw [if_neg (by omega)] at hc0
        refine (need_ret q12.1.rd hj1).ret fun w13 b13 => ⟨_, rfl, fun g7 => ?_, fun g7 => ?_⟩
        · have g7' : ¬ at_ (L s) (j + 1) = 125 := by have : ¬ ((at_ (L s) (j + 1) : Nat) : Int) = 125 := by simpa using g7
                                                     omega
          rw [if_neg g7'] at hc0
          have q13 := qb q12 b13
          refine ⟨_, q13.1.rd.cell 1, ?_⟩
          refine (number_ok q13.1.rd hs (by omega)).use fun e w14 he => ?_
          obtain ⟨e14, he⟩ := he
          cases hn2 : numP (L s) (j + 1) with
          | bad n =>
            rw [hn2] at he hc0; subst he
            exact hbadr q13 e14 (by rw [← hR]; unfold cntR; rw [hc0])
          | ok y =>
          obtain ⟨k, hi'⟩ := y
          rw [hn2] at he hc0
          simp only [] at hc0
          obtain ⟨rfl, r14, hk⟩ := he
          have q14 := qr q13 e14 r14
          refine ⟨_, rfl, st9 q14 (by decide) (show _ = cs lo hi' false from rfl) fun w15 q15 => ?_⟩
          refine ⟨_, q15.2.1.cell 3, _, q15.2.1.cell 2, fun g8 => ?_, fun g8 => ?_⟩
          · have g8' := of_decide_eq_true g8
            refine (fail_ok b (j + 1) rfl w15).use fun e w16 he => ?_
            obtain ⟨rfl, rfl⟩ := he
            refine hbadr q15 (Ext.refl _ _) ?_
            rw [← hR]; unfold cntR; rw [hc0, if_pos (by omega)]
          · have g8' := of_decide_eq_false g8
            rw [if_neg (by omega)] at hc0
            by_cases hkl : k < s.size
            case neg =>
              refine (need_bad q15.1.rd hkl).use fun e w16 he => ?_
              obtain ⟨rfl, b16⟩ := he
              refine hbadr q15 (Ext.of_below b16) ?_
              rw [← hR]; unfold cntR; rw [hc0, if_pos (by omega), ← hsz]
            rw [if_neg (by omega)] at hc0
            refine (need_ret q15.1.rd hkl).ret fun w16 b16 => ⟨_, rfl, fun g9 => ?_, fun g9 => ?_⟩
            · have g9' : ¬ at_ (L s) k = 125 := by have : ¬ ((at_ (L s) k : Nat) : Int) = 125 := by simpa using g9
                                                   omega
              have q16 := qb q15 b16
              refine ⟨_, q16.1.rd.cell 1, (fail_ok b k rfl w16).use fun e w17 he => ?_⟩
              obtain ⟨rfl, rfl⟩ := he
              refine hbadr q16 (Ext.refl _ _) ?_
              rw [← hR]; unfold cntR; rw [hc0, if_neg g9']
            · have g9' : at_ (L s) k = 125 := by have : ((at_ (L s) k : Nat) : Int) = 125 := by simpa using g9
                                                 omega
              rw [if_pos g9'] at hc0
              have q16 := qb q15 b16
              exact ⟨k, q16.1.rd.cell 1, mv q16 (by omega) rfl fun w17 q17 => ⟨_, _, _, q17, by omega, hc0⟩⟩
        · have g7' : at_ (L s) (j + 1) = 125 := by have : ((at_ (L s) (j + 1) : Nat) : Int) = 125 := by simpa using g7
                                                   omega
          rw [if_pos g7'] at hc0
          have q13 := qb q12 b13
          refine (need_ret q13.1.rd hj1).ret fun w14 b14 => ⟨_, rfl, fun g8 => ?_, fun g8 => ?_⟩
          · have : ¬ ((at_ (L s) (j + 1) : Nat) : Int) = 125 := by simpa using g8
            omega
          · have q14 := qb q13 b14
            exact ⟨_, q14.1.rd.cell 1, mv q14 (by omega) rfl fun w17 q17 => ⟨_, _, _, q17, by omega, hc0⟩⟩
      · have g6' : ¬ at_ (L s) j = 44 := by have : ¬ ((at_ (L s) j : Nat) : Int) = 44 := by simpa using g6
                                            omega
        rw [if_neg g6'] at hc0
        have q10 := qb q9' b10
        refine (need_ret q10.1.rd hjl).ret fun w11 b11 => ⟨_, rfl, fun g7 => ?_, fun g7 => ?_⟩
        · have g7' : ¬ at_ (L s) j = 125 := by have : ¬ ((at_ (L s) j : Nat) : Int) = 125 := by simpa using g7
                                               omega
          have q11 := qb q10 b11
          refine ⟨_, q11.1.rd.cell 1, (fail_ok b j rfl w11).use fun e w12 he => ?_⟩
          obtain ⟨rfl, rfl⟩ := he
          refine hbadr q11 (Ext.refl _ _) ?_
          rw [← hR]; unfold cntR; rw [hc0, if_neg g7']
        · have g7' : at_ (L s) j = 125 := by have : ((at_ (L s) j : Nat) : Int) = 125 := by simpa using g7
                                             omega
          rw [if_pos g7'] at hc0
          have q11 := qb q10 b11
          exact ⟨_, q11.1.rd.cell 1, mv q11 (by omega) rfl fun w17 q17 => ⟨_, _, _, q17, by omega, hc0⟩⟩
    · rw [if_neg (by omega), if_neg (by omega), if_neg (by omega), if_neg (by omega)] at hc0
      rw [← hR]
      unfold cntR
      rw [hc0]
      exact ⟨rfl, a, ln, c, rs, q5.1, Step.of_ext q5.2.2.2⟩
  · rintro - w6 ⟨j, m1, m2, q6, hj, hc⟩
    refine drw_in fun w7 q7' e7 => ?_
    have q7 := qe q6 e7
    have hput : ∀ {w' : World} {k : Nat} {z : Bool}, Q w' k m1 m2 z → R = .ok ((k, g, ps ++ [pRep m1 m2 z x]), (ps.length : Int)) →
        ∃ (n103 : Int), cellH w'.heap b9 0 = some (.int .i64 n103) ∧ ∃ (a104 : Option Addr), ∃ (l104 : Nat), ∃ (c104 : Nat), cellH w'.heap b9 1 = some (.slice a104 l104 c104) ∧ ∃ (n105 : Int), cellH w'.heap b9 2 = some (.int .i64 n105) ∧ ∃ (n106 : Int), cellH w'.heap b9 3 = some (.int .i64 n106) ∧ ∃ (t107 : Bool), cellH w'.heap b9 4 = some (.bool t107) ∧ ∃ (n108 : Int), cellH w'.heap b9 5 = some (.int .i64 n108) ∧ ∃ (a109 : Option Addr), ∃ (l109 : Nat), ∃ (c109 : Nat), cellH w'.heap b9 6 = some (.slice a109 l109 c109) ∧
          Cl Try.prog 110 [.pointer (some ⟨b, 0, none⟩), .agg #[.int .i64 n103, .slice a104 l104 c104, .int .i64 n105, .int .i64 n106, .bool t107, .int .i64 n108, .slice a109 l109 c109]] w' (retG (fun (r112 : Value) (w111 : World) => ∃ (n110 : Int), r112 = .int .i64 n110 ∧ ResI N w b s dp (blks a rs) R (.returned (.int .i64 n110)) w111) fun c1 w1 => ResI N w b s dp (blks a rs) R (.panicked c1) w1) := by
      intro w' k z hq hr
      refine ⟨_, hq.2.1.cell 0, _, _, _, hq.2.1.cell 1, _, hq.2.1.cell 2, _, hq.2.1.cell 3, _, hq.2.1.cell 4, _, hq.2.1.cell 5, _, _, _, hq.2.1.cell 6, ?_⟩
      have hok : RawOk w' ⟨4, none, 0, 0, m1, m2, z, 0, some ⟨b7, 0, none⟩, 1, 1⟩ (pRep m1 m2 z x) := ⟨rfl, rfl, rfl, rfl, rfl, Vec.nil _ _ _, ⟨rfl, Nat.le_refl _, .inr ⟨b7, _, rfl, hq.2.2.1, rfl, rfl⟩⟩⟩
      refine (put_ok (r := ⟨4, none, 0, 0, m1, m2, z, 0, some ⟨b7, 0, none⟩, 1, 1⟩) hq.1 hok (by simp [Raw.blocks, ob, blkOf]) (fun k hk => ?_) hl).use fun e w8 he => ?_
      · have hk' : k = b7 := by simpa [Raw.blocks, ob, blkOf] using hk
        subst hk'
        exact ⟨fun hm => by have := hB _ hm; omega, by have := h.hN; omega⟩
      · obtain ⟨rfl, a2, c2, p8, e8, hb8⟩ := he
        refine ⟨_, rfl, ?_⟩
        subst hr
        refine ⟨by rw [hlen'], a2, ln + 1, c2, _, p8, ?_, fun k hk => ?_⟩
        · exact (Ext.mono hq.2.2.2 fun _ _ hk => .inl hk).trans e8
        · rcases hb8 k hk with h1 | h1 | h1
          · exact .inl h1
          · have hk' : k = b7 := by simpa [Raw.blocks, ob, blkOf] using h1
            exact .inr (by omega)
          · exact .inr (Nat.le_trans hq.2.2.2.size h1)
    refine (end_ok q7.1.rd).ret fun w8 b8 => ⟨_, rfl, fun g2 => ?_, fun g2 => ?_⟩
    · have g2' : j < s.size := by
        have : decide (s.size ≤ j) = false := by simpa using g2
        have := of_decide_eq_false this; omega
      have q8 := qb q7 b8
      refine ⟨s, q8.1.rd.cell 0, j, q8.1.rd.cell 1, ⟨by omega, by omega⟩, ?_⟩
      rw [byteI s (j := j) rfl]
      refine ⟨fun g3 => ?_, fun g3 => ?_⟩
      · simp only [beq_iff_eq] at g3
        refine st9 q8 (by decide) (show _ = cs m1 m2 true from rfl) fun w9 q9'' => ?_
        refine ⟨j, q9''.1.rd.cell 1, mv q9'' (by omega) rfl fun w10 q10 => hput q10 ?_⟩
        rw [← hR]; unfold cntR; rw [hc]; unfold lazP; rw [if_pos ⟨by omega, by omega⟩]
      · simp only [beq_eq_false_iff_ne, ne_eq] at g3
        refine hput q8 ?_
        rw [← hR]; unfold cntR; rw [hc]; unfold lazP; rw [if_neg (by omega)]
    · have g2' : ¬ j < s.size := by
        have : decide (s.size ≤ j) = true := by simpa using g2
        have := of_decide_eq_true this; omega
      refine hput (qb q7 b8) ?_
      rw [← hR]; unfold cntR; rw [hc]; unfold lazP; rw [if_neg (by omega)]
end Go.Proofs.Ytngbiaeliphdjaa.V
/- An atom in the program's reader. No statement of the seat is proved here. -/
namespace Go.Proofs.Ytngbiaeliphdjaa.V
open Go.Vc Go.Proofs Go.RowKit
set_option linter.unusedVariables false
set_option linter.unusedSimpArgs false

def subP (l : Bytes) : Nat → St → Pr (St × Int)
  | 0 => fun _ => .bad 0
  | d + 1 => patP l d
/-- The contract of pattern, at most d groups deep. -/
def PatC (d : Nat) : Prop := ∀ (N : Nat) (w : World) (b : Nat) (s : ByteArray) (i g : Nat) (dp : Int) (a : Option Addr) (ln c : Nat) (rs : List Raw) (ps : List Pc), PSt N w b s i g dp a ln c rs ps → s.size ≤ 120 → i ≤ s.size → g ≤ 9 → dp = 6 - (d : Int) → d ≤ 6 → ln + 4 * (s.size - i) + 4 * d ≤ 900 →
  Cl Try.prog 74 [.pointer (some ⟨b, 0, none⟩)] w (ResI N w b s dp (blks a rs) (patP (L s) d (i, g, ps)))

section
variable {N : Nat} {w : World} {b : Nat} {s : ByteArray} {i g : Nat} {dp : Int} {a : Option Addr} {ln c : Nat} {rs : List Raw} {ps : List Pc}
theorem PSt.mv {K : World → Prop} {n : Int} (h : PSt N w b s i g dp a ln c rs ps) (hj : i ≤ 1000) (hn : n = i) (hK : ∀ w', PSt N w' b s (i + 1) g dp a ln c rs ps → Ext (fun k => k = b) w w' → K w') : stW b (0 + 1) [.int .i64 (IntKind.wrap .i64 (n + 1))] K w := by
  subst hn
  exact h.rd.mv (j := i + 1) (by rw [w64 (by omega)]; omega) fun w'' s'' k'' e'' => hK w'' (h.upd e'' k'') e''
/-- A piece of a set is put, its ranges being a new row. -/
theorem putSet {w0 : World} (h : PSt N w b s i g dp a ln c rs ps) (E : Ext (fun k => k = b) w0 w) (hB0 : ∀ k ∈ blks a rs, k < w0.heap.size) {sa : Option Addr} {sc sl : Nat} {set : List (Int × Int)} (hsl : sl = set.length) (hv : Vec w.heap 134 2 sa sl sc (rngC set)) (hf : ∀ k, blkOf sa = some k → w0.heap.size ≤ k) (hN0 : N ≤ w0.heap.size) (hl : ln ≤ 1000) {r : Pr (St × Int)}
    (hr : r = .ok ((i, g, ps ++ [pSet set]), (ps.length : Int))) : Cl Try.prog 110 [.pointer (some ⟨b, 0, none⟩), .agg #[.int .i64 1, .slice sa sl sc, .int .i64 0, .int .i64 0, .bool false, .int .i64 0, .slice none 0 0]] w
      (retG (fun (r112 : Value) (w111 : World) => ∃ (n110 : Int), r112 = .int .i64 n110 ∧ ResI N w0 b s dp (blks a rs) r (.returned (.int .i64 n110)) w111) fun c1 w1 => ResI N w0 b s dp (blks a rs) r (.panicked c1) w1) := by
  have hok : RawOk w ⟨1, sa, sl, sc, 0, 0, false, 0, none, 0, 0⟩ (pSet set) := ⟨rfl, rfl, rfl, rfl, rfl, hv, Vec.nil _ _ _⟩
  have hblk : (Raw.mk 1 sa sl sc 0 0 false 0 none 0 0).blocks = ob sa := by simp [Raw.blocks, ob, blkOf]
  refine (put_ok (r := ⟨1, sa, sl, sc, 0, 0, false, 0, none, 0, 0⟩) h hok (by rw [hblk]; unfold ob; cases blkOf sa <;> simp) (fun k hk => ?_) hl).use fun e w8 he => ?_
  · rw [hblk] at hk
    have := hf k (mem_ob.1 hk)
    exact ⟨fun hm => by have := hB0 _ hm; omega, by omega⟩
  · obtain ⟨rfl, a2, c2, p8, e8, hb8⟩ := he
    refine ⟨_, rfl, ?_⟩
    subst hr
    refine ⟨by rw [h.pcs.len'], a2, ln + 1, c2, _, p8, ?_, fun k hk => ?_⟩
    · exact (Ext.mono E fun _ _ hk => .inl hk).trans e8
    · rcases hb8 k hk with h1 | h1 | h1
      · exact .inl h1
      · rw [hblk] at h1; exact .inr (hf k (mem_ob.1 h1))
      · exact .inr (Nat.le_trans E.size h1)
/-- A piece without rows is put. -/
theorem putBare {w0 : World} (h : PSt N w b s i g dp a ln c rs ps) (E : Ext (fun k => k = b) w0 w) (kind : Int) {p : Pc} (hp : p = ⟨kind, [], 0, 0, false, 0, []⟩) (hl : ln ≤ 1000) {r : Pr (St × Int)}
    (hr : r = .ok ((i, g, ps ++ [p]), (ps.length : Int))) : Cl Try.prog 110 [.pointer (some ⟨b, 0, none⟩), .agg #[.int .i64 kind, .slice none 0 0, .int .i64 0, .int .i64 0, .bool false, .int .i64 0, .slice none 0 0]] w
      (retG (fun (r112 : Value) (w111 : World) => ∃ (n110 : Int), r112 = .int .i64 n110 ∧ ResI N w0 b s dp (blks a rs) r (.returned (.int .i64 n110)) w111) fun c1 w1 => ResI N w0 b s dp (blks a rs) r (.panicked c1) w1) := by
  subst hp
  have hok : RawOk w ⟨kind, none, 0, 0, 0, 0, false, 0, none, 0, 0⟩ ⟨kind, [], 0, 0, false, 0, []⟩ := ⟨rfl, rfl, rfl, rfl, rfl, Vec.nil _ _ _, Vec.nil _ _ _⟩
  have hblk : (Raw.mk kind none 0 0 0 0 false 0 none 0 0).blocks = [] := by simp [Raw.blocks, ob, blkOf]
  refine (put_ok (r := ⟨kind, none, 0, 0, 0, 0, false, 0, none, 0, 0⟩) h hok (by rw [hblk]; simp) (fun k hk => by rw [hblk] at hk; cases hk) hl).use fun e w8 he => ?_
  obtain ⟨rfl, a2, c2, p8, e8, hb8⟩ := he
  refine ⟨_, rfl, ?_⟩
  subst hr
  refine ⟨by rw [h.pcs.len'], a2, ln + 1, c2, _, p8, ?_, fun k hk => ?_⟩
  · exact (Ext.mono E fun _ _ hk => .inl hk).trans e8
  · rcases hb8 k hk with h1 | h1 | h1
    · exact .inl h1
    · rw [hblk] at h1; cases h1
    · exact .inr (Nat.le_trans E.size h1)
end

theorem atom_ok {N : Nat} {w : World} {b : Nat} {s : ByteArray} {i g : Nat} {dp : Int} {a : Option Addr} {ln c : Nat} {rs : List Raw} {ps : List Pc} (d : Nat) (hsub : ∀ d', d = d' + 1 → PatC d') (h : PSt N w b s i g dp a ln c rs ps) (hs : s.size ≤ 120) (hi : i < s.size) (hg : g ≤ 9) (hdp : dp = 6 - (d : Int)) (hd6 : d ≤ 6) (hbd : ln + 4 * (s.size - i) + 4 * d ≤ 900) :
    Cl Try.prog 126 [.pointer (some ⟨b, 0, none⟩), .int .u8 (at_ (L s) i)] w (ResI N w b s dp (blks a rs) (atomP (subP (L s) d) (decide (d = 0)) (L s) i g ps)) := by
  apply vc126
  unfold V126
  have hsz := size_L s
  have hlen' := h.pcs.len'
  have hB := h.pcs.lt
  have hbl := h.rd.lt
  have hc := at_lt (L s) i
  have hl : ln ≤ 1000 := by omega
  generalize hR : atomP (subP (L s) d) (decide (d = 0)) (L s) i g ps = R
  unfold atomP at hR
  refine ⟨fun g1 => ?_, fun g1 => ⟨fun g2 => ?_, fun g2 => ⟨fun g3 => ?_, fun g3 => ⟨fun g4 => ?_, fun g4 => ⟨fun g5 => ?_, fun g5 => ⟨fun g6 => ?_, fun g6 => ?_⟩⟩⟩⟩⟩⟩
  all_goals try simp only [beq_iff_eq, beq_eq_false_iff_ne, ne_eq] at g1
  all_goals try simp only [beq_iff_eq, beq_eq_false_iff_ne, ne_eq] at g2
  all_goals try simp only [beq_iff_eq, beq_eq_false_iff_ne, ne_eq] at g3
  all_goals try simp only [beq_iff_eq, beq_eq_false_iff_ne, ne_eq] at g4
  all_goals try simp only [beq_iff_eq, beq_eq_false_iff_ne, ne_eq] at g5
  all_goals try simp only [beq_iff_eq, beq_eq_false_iff_ne, ne_eq] at g6
  · rw [if_pos (by omega)] at hR
    refine ⟨fun w' => w' = w ∧ g ≠ 9 ∧ d ≠ 0, ?_, ?_⟩
    · refine ⟨_, h.rd.cell 2, fun g2 => ?_, fun g2 => ⟨_, h.rd.cell 3, fun g3 => ?_, fun g3 => ?_⟩⟩
      · simp only [beq_iff_eq] at g2
        rw [if_pos (.inl (by omega))] at hR
        refine ⟨_, h.rd.cell 1, (fail_ok b i rfl w).use fun e w2 he => ?_⟩
        obtain ⟨rfl, rfl⟩ := he
        exact ResI.bad hR.symm (Ext.refl _ _)
      · simp only [beq_iff_eq] at g3
        rw [if_pos (.inr (decide_eq_true (by omega)))] at hR
        refine ⟨_, h.rd.cell 1, (fail_ok b i rfl w).use fun e w2 he => ?_⟩
        obtain ⟨rfl, rfl⟩ := he
        exact ResI.bad hR.symm (Ext.refl _ _)
      · simp only [beq_eq_false_iff_ne, ne_eq] at g2 g3
        exact ⟨rfl, by omega, by omega⟩
    rintro - w1 ⟨rfl, hg9, hd0⟩
    obtain ⟨d', rfl⟩ : ∃ d', d = d' + 1 := ⟨d - 1, by omega⟩
    rw [if_neg (by simp; omega)] at hR
    refine ⟨_, h.rd.cell 2, ?_⟩
    dsimp only
    rw [show IntKind.wrap .i64 ((g : Int) + 1) = ((g + 1 : Nat) : Int) from by rw [w64 (by omega)]; omega]
    refine stW_in h.rd (by show 0 + 2 + 1 ≤ 5; decide) fun w2 s2 k2 e2 => ?_
    have p2 : PSt N w2 b s i (g + 1) dp a ln c rs ps := h.upd e2 k2
    refine ⟨_, p2.rd.cell 3, ?_⟩
    dsimp only
    rw [show IntKind.wrap .i64 (dp + 1) = dp + 1 from w64 (by omega)]
    refine stW_in p2.rd (by show 0 + 3 + 1 ≤ 5; decide) fun w3 s3 k3 e3 => ?_
    have p3 : PSt N w3 b s i (g + 1) (dp + 1) a ln c rs ps := p2.upd e3 k3
    refine ⟨_, p3.rd.cell 2, _, p3.rd.cell 1, p3.mv (by omega) rfl fun w4 p4 e4 => ?_⟩
    have E4 : Ext (fun k => k = b) w1 w4 := (e2.trans e3).trans e4
    refine (hsub d' rfl N w4 b s (i + 1) (g + 1) (dp + 1) a ln c rs ps p4 hs (by omega) (by omega) (by omega) (by omega) (by omega)).use fun e w5 he => ?_
    have hsubP : subP (L s) (d' + 1) (i + 1, g + 1, ps) = patP (L s) d' (i + 1, g + 1, ps) := rfl
    rw [hsubP] at hR
    cases hq : patP (L s) d' (i + 1, g + 1, ps) with
    | bad n =>
      rw [hq] at he hR
      obtain ⟨rfl, e5⟩ := he
      exact ResI.bad hR.symm ((Ext.mono E4 fun _ _ hk => .inl hk).trans e5)
    | ok y =>
    obtain ⟨⟨j, g', out'⟩, x⟩ := y
    have hlen := patP_len (L s) d' _ _ _ _ _ _ _ (by omega) hq
    rw [hq] at he hR
    simp only [] at hR
    obtain ⟨rfl, a5, ln5, c5, rs5, p5, st5⟩ := he
    have hln5 := p5.pcs.len'
    refine ⟨x, rfl, ?_⟩
    have st5' : Step b (blks a rs) w1 w5 (blks a5 rs5) := Step.trans (Step.of_ext E4) st5
    by_cases hjl : j < s.size
    case neg =>
      rw [if_pos (by omega)] at hR
      refine (need_bad p5.rd hjl).use fun e w6 he => ?_
      obtain ⟨rfl, b6⟩ := he
      rw [hsz]
      exact ResI.bad hR.symm (st5'.1.trans (Ext.of_below b6))
    rw [if_neg (by omega)] at hR
    refine (need_ret p5.rd hjl).ret fun w6 b6 => ⟨_, rfl, fun g2 => ?_, fun g2 => ?_⟩
    · have g2' : ¬ at_ (L s) j = 41 := by have : ¬ ((at_ (L s) j : Nat) : Int) = 41 := by simpa using g2
                                          omega
      rw [if_neg g2'] at hR
      refine ⟨_, (p5.below b6).rd.cell 1, (fail_ok b j rfl w6).use fun e w7 he => ?_⟩
      obtain ⟨rfl, rfl⟩ := he
      exact ResI.bad hR.symm (st5'.1.trans (Ext.of_below b6))
    · have g2' : at_ (L s) j = 41 := by have : ((at_ (L s) j : Nat) : Int) = 41 := by simpa using g2
                                        omega
      rw [if_pos g2'] at hR
      have p6 := p5.below b6
      refine ⟨_, p6.rd.cell 1, p6.mv (by omega) rfl fun w7 p7 e7 => ?_⟩
      refine ⟨_, p7.rd.cell 3, ?_⟩
      dsimp only
      rw [show IntKind.wrap .i64 (dp + 1 - 1) = dp from by rw [w64 (by omega)]; omega]
      refine stW_in p7.rd (by show 0 + 3 + 1 ≤ 5; decide) fun w8 s8 k8 e8 => ?_
      have p8 : PSt N w8 b s (j + 1) g' dp a5 ln5 c5 rs5 out' := p7.upd e8 k8
      refine newC_in fun w9 s9 k9 e9 => ?_
      have p9 : PSt N w9 b s (j + 1) g' dp a5 ln5 c5 rs5 out' := p8.other e9 (fun h => h) fun _ _ h => h
      have st9 : Step b (blks a rs) w1 w9 (blks a5 rs5) := Step.trans st5' (Step.trans (Step.of_below b6) (Step.of_ext ((e7.trans e8).trans (Ext.mono e9 fun _ _ h => h.elim))))
      have z58 : w5.heap.size ≤ w8.heap.size := Nat.le_trans b6.size (Nat.le_trans e7.size e8.size)
      have z18 : w1.heap.size ≤ w8.heap.size := Nat.le_trans st5'.1.size z58
      have hok : RawOk w9 ⟨5, none, 0, 0, 0, 0, false, ((g + 1 : Nat) : Int), some ⟨w8.heap.size, 0, none⟩, 1, 1⟩ (pGrp ((g + 1 : Nat) : Int) x) := ⟨rfl, rfl, rfl, rfl, rfl, Vec.nil _ _ _, ⟨rfl, Nat.le_refl _, .inr ⟨_, _, rfl, k9, rfl, rfl⟩⟩⟩
      refine (put_ok (r := ⟨5, none, 0, 0, 0, 0, false, ((g + 1 : Nat) : Int), some ⟨w8.heap.size, 0, none⟩, 1, 1⟩) p9 hok (by simp [Raw.blocks, ob, blkOf]) (fun k hk => ?_) (by omega)).use fun e w10 he => ?_
      · have hk' : k = w8.heap.size := by simpa [Raw.blocks, ob, blkOf] using hk
        subst hk'
        exact ⟨fun hm => by have := p8.pcs.lt _ hm; omega, p8.hN⟩
      · obtain ⟨rfl, a2, c2, p10, e10, hb10⟩ := he
        refine ⟨_, rfl, ?_⟩
        rw [← hR]
        refine ⟨by rw [hln5], a2, ln5 + 1, c2, _, p10, st9.1.step e10 fun k hk hk' => ?_, fun k hk => ?_⟩
        · rcases hk' with h1 | h1
          · exact .inl h1
          · rcases st9.2 k h1 with h2 | h2
            · exact .inr h2
            · omega
        · rcases hb10 k hk with h1 | h1 | h1
          · exact st9.2 k h1
          · have hk' : k = w8.heap.size := by simpa [Raw.blocks, ob, blkOf] using h1
            exact .inr (by omega)
          · exact .inr (Nat.le_trans st9.1.size h1)
  · -- a set
    rw [if_neg (by omega), if_pos (by omega)] at hR
    refine (set_ok h.rd hs hi).use fun e w1 he => ?_
    obtain ⟨e1, he⟩ := he
    cases hq : setP (L s) i with
    | bad n => rw [hq] at he hR; subst he; exact ResI.bad hR.symm (Ext.mono e1 fun _ _ hk => .inl hk)
    | ok y =>
      obtain ⟨j, set⟩ := y
      rw [hq] at he hR
      obtain ⟨a', c', rfl, hRow, hRd⟩ := he
      exact ⟨_, _, _, rfl, putSet (h.upd e1 hRd) e1 hB rfl hRow.1 hRow.2.1 h.hN hl hR.symm⟩
  · -- the dot
    rw [if_neg (by omega), if_neg (by omega), if_pos (by omega)] at hR
    refine ⟨_, h.rd.cell 1, h.mv (by omega) rfl fun w1 p1 e1 => ?_⟩
    refine newC_in fun w2 s2 k2 e2 => ?_
    rw [← b256_false, ← inR_nil] at k2
    refine (addR_ok k2 0 9 (by decide) rfl rfl).use fun e w3 he => ?_
    obtain ⟨rfl, k3, e3⟩ := he
    refine ⟨rfl, (addR_ok k3 11 255 (by decide) rfl rfl).use fun e w4 he => ?_⟩
    obtain ⟨rfl, k4, e4⟩ := he
    refine ⟨rfl, (ranges_ok k4).use fun e w5 he => ?_⟩
    obtain ⟨a', c', rfl, hRow, b5⟩ := he
    have z1 := e1.size
    have E5 : Ext (fun k => k = b) w w5 := ((e1.trans (Ext.mono e2 fun _ _ h => h.elim)).step (e3.trans e4) fun k hk h => by omega).trans (Ext.of_below b5)
    have e34 := (Ext.mono e2 (T := fun k => k = w1.heap.size) fun _ _ h => h.elim).trans (e3.trans e4)
    have p5 : PSt N w5 b s (i + 1) g dp a ln c rs ps := (p1.other e34 (by have := p1.rd.lt; omega) fun k hk hk' => by have := hB k hk; omega).below b5
    have z4 := e34.size
    exact ⟨_, _, _, rfl, putSet p5 E5 hB rfl hRow.1 (fun k hk => Nat.le_trans (Nat.le_trans z1 z4) (hRow.2.1 k hk)) h.hN hl hR.symm⟩
  · rw [if_neg (by omega), if_neg (by omega), if_neg (by omega), if_pos (by omega)] at hR
    exact ⟨_, h.rd.cell 1, h.mv (by omega) rfl fun w1 p1 e1 => putBare p1 e1 6 (p := pSta) rfl hl hR.symm⟩
  · rw [if_neg (by omega), if_neg (by omega), if_neg (by omega), if_neg (by omega), if_pos (by omega)] at hR
    exact ⟨_, h.rd.cell 1, h.mv (by omega) rfl fun w1 p1 e1 => putBare p1 e1 7 (p := pEnd) rfl hl hR.symm⟩
  · -- an escape
    rw [if_neg (by omega), if_neg (by omega), if_neg (by omega), if_neg (by omega), if_neg (by omega), if_pos (by omega)] at hR
    refine (escape_ok h.rd (by omega)).use fun e w1 he => ?_
    obtain ⟨e1, he⟩ := he
    cases hq : escP (L s) (i + 1) with
    | bad n => rw [hq] at he hR; subst he; exact ResI.bad hR.symm (Ext.mono e1 fun _ _ hk => .inl hk)
    | ok y =>
      obtain ⟨j, r, o⟩ := y
      rw [hq] at he hR
      obtain ⟨rfl, hRd⟩ := he
      have p1 := h.upd e1 hRd
      have z1 := e1.size
      refine ⟨_, _, rfl, newC_in fun w2 s2 k2 e2 => stA_in k2 (b256_length _) List.length_replicate (b256_scal _) fun w3 s3 k3 e3 => ?_⟩
      refine (ranges_ok k3).use fun e w5 he => ?_
      obtain ⟨a', c', rfl, hRow, b5⟩ := he
      have e23 := (Ext.mono e2 (T := fun k => k = w1.heap.size) fun _ _ h => h.elim).trans e3
      have E5 : Ext (fun k => k = b) w w5 := (e1.step e23 fun k hk h => by omega).trans (Ext.of_below b5)
      have p5 : PSt N w5 b s j g dp a ln c rs ps := (p1.other e23 (by have := p1.rd.lt; omega) fun k hk hk' => by have := hB k hk; omega).below b5
      have z4 := e23.size
      exact ⟨_, _, _, rfl, putSet p5 E5 hB rfl hRow.1 (fun k hk => Nat.le_trans (Nat.le_trans z1 z4) (hRow.2.1 k hk)) h.hN hl hR.symm⟩
  · rw [if_neg (by omega), if_neg (by omega), if_neg (by omega), if_neg (by omega), if_neg (by omega), if_neg (by omega)] at hR
    refine ⟨fun t w' => w' = w ∧ (t = true ↔ (at_ (L s) i = 41 ∨ at_ (L s) i = 93 ∨ at_ (L s) i = 123 ∨ at_ (L s) i = 125 ∨ at_ (L s) i = 42 ∨ at_ (L s) i = 43 ∨ at_ (L s) i = 63 ∨ at_ (L s) i = 124)), ?_, ?_⟩
    · repeat' (apply And.intro <;> intro g)
      all_goals refine ⟨rfl, ?_⟩
      all_goals simp only [beq_iff_eq, beq_eq_false_iff_ne, ne_eq, true_iff] at *
      all_goals omega
    · rintro - t w1 ⟨rfl, ht⟩
      refine ⟨fun g7 => ?_, fun g7 => ?_⟩
      · rw [if_pos (ht.1 g7)] at hR
        refine ⟨_, h.rd.cell 1, (fail_ok b i rfl w1).use fun e w2 he => ?_⟩
        obtain ⟨rfl, rfl⟩ := he
        exact ResI.bad hR.symm (Ext.refl _ _)
      · rw [if_neg (fun hc => by have := ht.2 hc; rw [g7] at this; cases this)] at hR
        refine ⟨_, h.rd.cell 1, h.mv (by omega) rfl fun w2 p2 e2 => ?_⟩
        rw [show IntKind.wrap .i64 ((at_ (L s) i : Nat) : Int) = ((at_ (L s) i : Nat) : Int) from w64 (by omega)]
        refine newC_in fun w3 s3 k3 e3 => ?_
        have z2 := e2.size
        have E3 : Ext (fun k => k = b) w1 w3 := e2.trans (Ext.mono e3 fun _ _ h => h.elim)
        have p3 : PSt N w3 b s (i + 1) g dp a ln c rs ps := p2.other e3 (fun h => h) fun _ _ h => h
        exact putSet p3 E3 hB (set := [((at_ (L s) i : Int), (at_ (L s) i : Int))]) rfl ⟨rfl, Nat.le_refl _, .inr ⟨_, _, rfl, k3, rfl, rfl⟩⟩ (fun k hk => by simp [blkOf] at hk; omega) h.hN hl hR.symm
end Go.Proofs.Ytngbiaeliphdjaa.V
/- A sequence in the program's reader. No statement of the seat is proved here. -/
namespace Go.Proofs.Ytngbiaeliphdjaa.V
open Go.Vc Go.Proofs Go.RowKit
set_option linter.unusedVariables false
set_option linter.unusedSimpArgs false

/-- The row of a sequence's or an alternative's kids: of the call's own, none of the pieces' blocks. -/
def Kids (w0 w : World) (B : List Nat) (a : Option Addr) (l c : Nat) (kids : List Int) : Prop := Vec w.heap 3 1 a l c (intC kids) ∧ l = kids.length ∧ ∀ k, blkOf a = some k → w0.heap.size ≤ k ∧ k ∉ B
theorem Kids.step {w0 w w' : World} {b : Nat} {B B' : List Nat} {a : Option Addr} {l c : Nat} {kids : List Int} (h : Kids w0 w B a l c kids) (hb : b < w0.heap.size) (e : Step b B w w' B') : Kids w0 w' B' a l c kids := by
  refine ⟨h.1.keep e.1 fun k hk hk' => ?_, h.2.1, fun k hk => ⟨(h.2.2 k hk).1, fun hB' => ?_⟩⟩
  · have := h.2.2 k hk
    rcases hk' with h1 | h1
    · omega
    · exact this.2 h1
  · have h1 := h.2.2 k hk
    have h2 := h.1.lt k hk
    rcases e.2 k hB' with h3 | h3
    · exact h1.2 h3
    · omega
theorem Kids.below {w0 w w' : World} {B : List Nat} {a : Option Addr} {l c : Nat} {kids : List Int} (h : Kids w0 w B a l c kids) (e : Below w.heap.size w w') : Kids w0 w' B a l c kids :=
  ⟨h.1.keep (S := fun _ => False) (Ext.of_below e) fun _ _ h => h, h.2⟩
/-- One kid more. -/
theorem Kids.app {w0 w : World} {B : List Nat} {a : Option Addr} {l c : Nat} {kids : List Int} (h : Kids w0 w B a l c kids) (hB : ∀ k ∈ B, k < w.heap.size) (hw : w0.heap.size ≤ w.heap.size) (hl : l ≤ 1000) (x : Int) :
    ∃ a2 c2 w', (Builtin.append_ #[109, 109] 109 #[.slice a l c, .slice (some ⟨w.heap.size, 0, none⟩) 1 1]).run Try.prog (newW w (.cells ⟨[.int .i64 x]⟩ 3)) = .ok (.slice a2 (l + 1) c2) w' ∧ Kids w0 w' B a2 (l + 1) c2 (kids ++ [x]) ∧ Ext (fun k => blkOf a = some k) w w' := by
  have E1 : Ext (fun _ => False) w (newW w (.cells ⟨[.int .i64 x]⟩ 3)) := (Ext.refl _ w).vnew _
  obtain ⟨a2, c2, w', h1, h2, h3, h4⟩ := append_run (P := Try.prog) (T := 109) (T' := 109) (T'' := 109) elemInt.und elemInt.und elemInt.size elemInt.bytes (by rw [show zeroL Try.prog 3 = some _ from elemInt.zero.choose_spec.1]; simp)
    (by rw [show zeroL Try.prog 3 = some _ from elemInt.zero.choose_spec.1]; intro y hy; cases hy; exact elemInt.zero.choose_spec.2) (h.1.keep E1 fun _ _ h => h) (a' := some ⟨w.heap.size, 0, none⟩) (n := 1) (c' := 1) (ys := [.int .i64 x]) rfl rfl (.inr ⟨_, _, rfl, cellsAt_newW w _ _⟩) (fun h => by cases h) (by omega) (by omega)
  rw [size_newW] at h4
  refine ⟨a2, c2, w', h1, ⟨by rw [intC_append]; exact h2, by rw [List.length_append, h.2.1]; rfl, fun k hk => ?_⟩, (Ext.mono E1 fun _ _ h => h.elim).trans h3⟩
  rcases h4 with rfl | rfl
  · exact h.2.2 k hk
  · simp only [blkOf, Option.some.injEq] at hk
    exact ⟨by omega, fun hm => by have := hB k hm; omega⟩
/-- A piece with kids is put. -/
theorem putKids {N : Nat} {w0 w : World} {b : Nat} {s : ByteArray} {i g : Nat} {dp : Int} {a : Option Addr} {ln c : Nat} {rs : List Raw} {ps : List Pc} {B0 : List Nat} (h : PSt N w b s i g dp a ln c rs ps) (st : Step b B0 w0 w (blks a rs)) {ka : Option Addr} {kl kc : Nat} {kids : List Int} (hk : Kids w0 w (blks a rs) ka kl kc kids) (hN0 : N ≤ w0.heap.size) (hl : ln ≤ 1000)
    {n : Int} {p : Pc} (hp : p = ⟨n, [], 0, 0, false, 0, kids⟩) {r : Pr (St × Int)} (hr : r = .ok ((i, g, ps ++ [p]), (ps.length : Int))) :
    Cl Try.prog 110 [.pointer (some ⟨b, 0, none⟩), .agg #[.int .i64 n, .slice none 0 0, .int .i64 0, .int .i64 0, .bool false, .int .i64 0, .slice ka kl kc]] w
      (retG (fun (r112 : Value) (w111 : World) => ∃ (n110 : Int), r112 = .int .i64 n110 ∧ ResI N w0 b s dp B0 r (.returned (.int .i64 n110)) w111) fun c1 w1 => ResI N w0 b s dp B0 r (.panicked c1) w1) := by
  subst hp
  have hok : RawOk w ⟨n, none, 0, 0, 0, 0, false, 0, ka, kl, kc⟩ ⟨n, [], 0, 0, false, 0, kids⟩ := ⟨rfl, rfl, rfl, rfl, rfl, Vec.nil _ _ _, hk.1⟩
  have hblk : (Raw.mk n none 0 0 0 0 false 0 ka kl kc).blocks = ob ka := by simp [Raw.blocks, ob, blkOf]
  refine (put_ok (r := ⟨n, none, 0, 0, 0, 0, false, 0, ka, kl, kc⟩) h hok (by rw [hblk]; unfold ob; cases blkOf ka <;> simp) (fun k hm => ?_) hl).use fun e w8 he => ?_
  · rw [hblk] at hm
    have := hk.2.2 k (mem_ob.1 hm)
    exact ⟨this.2, by omega⟩
  · obtain ⟨rfl, a2, c2, p8, e8, hb8⟩ := he
    refine ⟨_, rfl, ?_⟩
    subst hr
    refine ⟨by rw [h.pcs.len'], a2, ln + 1, c2, _, p8, st.1.step e8 fun k hk hk' => ?_, fun k hk' => ?_⟩
    · rcases hk' with h1 | h1
      · exact .inl h1
      · rcases st.2 k h1 with h2 | h2
        · exact .inr h2
        · omega
    · rcases hb8 k hk' with h1 | h1 | h1
      · exact st.2 k h1
      · rw [hblk] at h1; exact .inr (hk.2.2 k (mem_ob.1 h1)).1
      · exact .inr (Nat.le_trans st.1.size h1)

theorem seq_ok {N : Nat} {w : World} {b : Nat} {s : ByteArray} {i g : Nat} {dp : Int} {a : Option Addr} {ln c : Nat} {rs : List Raw} {ps : List Pc} (d : Nat) (hsub : ∀ d', d = d' + 1 → PatC d') (hsl : SubOk (L s) (subP (L s) d)) (h : PSt N w b s i g dp a ln c rs ps) (hs : s.size ≤ 120) (hi : i ≤ s.size) (hg : g ≤ 9) (hdp : dp = 6 - (d : Int)) (hd6 : d ≤ 6) (hbd : ln + 4 * (s.size - i) + 4 * d ≤ 950) (hbd' : i < s.size → ln + 4 * (s.size - i) + 4 * d ≤ 900) :
    Cl Try.prog 109 [.pointer (some ⟨b, 0, none⟩)] w (ResI N w b s dp (blks a rs) (seqL (subP (L s) d) (decide (d = 0)) (L s) i g ps [])) := by
  apply vc109
  unfold V109
  have hsz := size_L s
  have hbl := h.rd.lt
  generalize hR : seqL (subP (L s) d) (decide (d = 0)) (L s) i g ps [] = R
  refine ⟨fun k ka kl kc w' => ∃ (j g' : Nat) (a' : Option Addr) (ln' c' : Nat) (rs' : List Raw) (out : List Pc) (kids : List Int), PSt N w' b s j g' dp a' ln' c' rs' out ∧ seqL (subP (L s) d) (decide (d = 0)) (L s) j g' out kids = R ∧ Kids w w' (blks a' rs') ka kl kc kids ∧ Step b (blks a rs) w w' (blks a' rs') ∧ k = s.size - j ∧ i ≤ j ∧ j ≤ s.size ∧ g' ≤ 9 ∧ ln' + 4 * (s.size - j) + 4 * d ≤ 950 ∧ (j < s.size → ln' + 4 * (s.size - j) + 4 * d ≤ 900) ∧ kids.length ≤ j,
    ⟨_, i, g, a, ln, c, rs, ps, [], h, hR, ⟨Vec.nil _ _ _, rfl, by simp [blkOf]⟩, Step.refl _ _ _, rfl, Nat.le_refl _, hi, hg, hbd, hbd', by simp⟩, ?_⟩
  rintro k dd ka kl kc w1 ⟨j, g', a', ln', c', rs', out, kids, p1, hq, hK, st1, rfl, hij, hj, hg', hb', hb'', hkl⟩
  have hout : ¬ (j < s.size ∧ at_ (L s) j ≠ 124 ∧ at_ (L s) j ≠ 41) → R = .ok ((j, g', out ++ [pSeq kids]), (out.length : Int)) := by
    intro hn
    rw [← hq, seqL, dif_neg (by rw [← hsz]; exact hn)]
  refine (end_ok p1.rd).ret fun w2 b2 => ⟨_, rfl, fun g1 => ?_, fun g1 => ?_⟩
  · have g1' : j < s.size := by
      have : decide (s.size ≤ j) = false := by simpa using g1
      have := of_decide_eq_false this; omega
    have hb900 := hb'' g1'
    refine drw_in fun w3 q3 e3 => ?_
    have b3 : Below w1.heap.size w1 w3 := Ext.to b2 e3 fun _ h => h.elim
    have p3 := p1.below b3
    have K3 := hK.below b3
    have st3 : Step b (blks a rs) w w3 (blks a' rs') := Step.trans st1 (Step.of_below b3)
    refine ⟨s, p3.rd.cell 0, j, p3.rd.cell 1, ⟨by omega, by omega⟩, ?_⟩
    rw [byteI s (j := j) rfl]
    refine ⟨fun g2 => ?_, fun g2 => ⟨fun g3 => ?_, fun g3 => ?_⟩⟩
    · simp only [beq_iff_eq] at g2
      exact putKids p3 st3 K3 h.hN (by omega) rfl (hout (by omega))
    · simp only [beq_iff_eq] at g3
      exact putKids p3 st3 K3 h.hN (by omega) rfl (hout (by omega))
    · simp only [beq_eq_false_iff_ne, ne_eq] at g2 g3
      have hcnd : j < (L s).length ∧ at_ (L s) j ≠ 124 ∧ at_ (L s) j ≠ 41 := ⟨by omega, by omega, by omega⟩
      refine (atom_ok d hsub p3 hs g1' hg' hdp hd6 hb900).use fun e w4 he => ?_
      cases ha : atomP (subP (L s) d) (decide (d = 0)) (L s) j g' out with
      | bad n =>
        rw [ha] at he
        obtain ⟨rfl, e4⟩ := he
        refine ResI.bad (by rw [← hq, seqL_bad hcnd (pieceP_bad ha)]) (st3.1.step e4 fun k hk hk' => ?_)
        rcases hk' with h1 | h1
        · exact .inl h1
        · rcases st3.2 k h1 with h2 | h2
          · exact .inr h2
          · omega
      | ok y =>
      obtain ⟨⟨j1, g1', out1⟩, x1⟩ := y
      have hal := atomP_len hsl (by omega) ha
      have hpe := pieceP_ok ha
      rw [ha] at he
      obtain ⟨rfl, a4, ln4, c4, rs4, p4, s4⟩ := he
      have hl4 := p4.pcs.len'
      have hl1 := p1.pcs.len'
      have st4 := Step.trans st3 s4
      have K4 := K3.step hbl s4
      refine ⟨x1, rfl, ?_⟩
      refine (counts_ok p4 hs (by omega) (by omega) x1).use fun e w5 he => ?_
      cases hc : cntR (L s) j1 g1' out1 x1 with
      | bad n =>
        rw [hc] at he hpe
        obtain ⟨rfl, e5⟩ := he
        refine ResI.bad (by rw [← hq, seqL_bad hcnd hpe]) (st4.1.step e5 fun k hk hk' => ?_)
        rcases hk' with h1 | h1
        · exact .inl h1
        · rcases st4.2 k h1 with h2 | h2
          · exact .inr h2
          · omega
      | ok y =>
      obtain ⟨⟨j2, g2', out2⟩, x2⟩ := y
      rw [hc] at he hpe
      obtain ⟨rfl, a5, ln5, c5, rs5, p5, s5⟩ := he
      have hpl' := pieceP_len hsl (by omega) hpe
      have hstep := seqL_go (kids := kids) hcnd hpe hpl'.1
      have st5 := Step.trans st4 s5
      have K5 := K4.step hbl s5
      have hl5 := p5.pcs.len'
      refine ⟨x2, rfl, ?_⟩
      obtain ⟨ka2, kc2, w6, r1, r2, r3⟩ := K5.app p5.pcs.lt st5.1.size (by rw [K5.2.1]; omega) x2
      have hkb : ∀ k, blkOf ka = some k → k ∉ blks a5 rs5 ∧ k ≠ b ∧ w.heap.size ≤ k := fun k hk => ⟨(K5.2.2 k hk).2, by have := (K5.2.2 k hk).1; omega, (K5.2.2 k hk).1⟩
      refine ⟨ka2, kl + 1, kc2, w6, r1, s.size - j2, by omega, j2, g2', a5, ln5, c5, rs5, out2, kids ++ [x2], p5.other r3 (fun hk => (hkb b hk).2.1 rfl) fun k hk hk' => (hkb k hk').1 hk, by rw [← hstep, hq], r2, ⟨st5.1.step r3 fun k hk hk' => by have := (hkb k hk').2.2; omega, fun k hk => st5.2 k hk⟩, rfl, by omega, by omega, hpl'.2.2.2 hg', by omega, by omega, by simp; omega⟩
  · have g1' : ¬ j < s.size := by
      have : decide (s.size ≤ j) = true := by simpa using g1
      have := of_decide_eq_true this; omega
    exact putKids (p1.below b2) (Step.trans st1 (Step.of_below b2)) (hK.below b2) h.hN (by omega) rfl (hout (by omega))
end Go.Proofs.Ytngbiaeliphdjaa.V
/- The program's reader of patterns. No statement of the seat is proved here. -/
namespace Go.Proofs.Ytngbiaeliphdjaa.V
open Go.Vc Go.Proofs Go.RowKit
set_option linter.unusedVariables false
set_option linter.unusedSimpArgs false

theorem patP_eq (l : Bytes) (d i g : Nat) (out : List Pc) : patP l d (i, g, out) = match seqL (subP l d) (decide (d = 0)) l i g out [] with
    | .bad e => .bad e
    | .ok ((j, g', out'), x) => altL (subP l d) (decide (d = 0)) l j g' out' [x] := by
  cases d <;> rfl
theorem subP_ok (l : Bytes) (d : Nat) : SubOk l (subP l d) := by
  cases d with
  | zero => intro i g out j g' out' k _ h; cases h
  | succ d => exact patP_len l d
theorem stepBad {b : Nat} {B B1 : List Nat} {w w1 w2 : World} (h : Step b B w w1 B1) (e : Ext (fun k => k = b ∨ k ∈ B1) w1 w2) : Ext (fun k => k = b ∨ k ∈ B) w w2 :=
  h.1.step e fun k hk hk' => by
    rcases hk' with h1 | h1
    · exact .inl h1
    · rcases h.2 k h1 with h2 | h2
      · exact .inr h2
      · omega

theorem pattern_ok : ∀ d, PatC d := by
  intro d
  induction d using Nat.strongRecOn with
  | _ d ih =>
  intro N w b s i g dp a ln c rs ps h hs hi hg hdp hd6 hbd
  have hsub : ∀ d', d = d' + 1 → PatC d' := fun d' hd => ih d' (by omega)
  have hsl := subP_ok (L s) d
  apply vc74
  unfold V74
  have hsz := size_L s
  have hbl := h.rd.lt
  have hl0 := h.pcs.len'
  rw [patP_eq]
  refine (seq_ok d hsub hsl h hs hi hg hdp hd6 (by omega) (fun _ => by omega)).use fun e w1 he => ?_
  cases hq : seqL (subP (L s) d) (decide (d = 0)) (L s) i g ps [] with
  | bad n =>
    rw [hq] at he
    obtain ⟨rfl, e1⟩ := he
    exact ResI.bad rfl e1
  | ok y =>
  obtain ⟨⟨j, g', out'⟩, x⟩ := y
  have hlen := seqL_len hsl _ rfl (by omega) hq
  rw [hq] at he
  obtain ⟨rfl, a1, ln1, c1, rs1, p1, st1⟩ := he
  have hl1 := p1.pcs.len'
  refine ⟨x, rfl, ?_⟩
  simp only []
  generalize hR : altL (subP (L s) d) (decide (d = 0)) (L s) j g' out' [x] = R
  refine newC_in fun w2 s2 k2 e2 => ?_
  have p2 : PSt N w2 b s j g' dp a1 ln1 c1 rs1 out' := p1.other e2 (fun h => h) fun _ _ h => h
  have st2 : Step b (blks a rs) w w2 (blks a1 rs1) := Step.trans st1 (Step.of_ext (Ext.mono e2 fun _ _ h => h.elim))
  refine ⟨fun k ka kl kc w' => ∃ (j g' : Nat) (a' : Option Addr) (ln' c' : Nat) (rs' : List Raw) (out : List Pc) (kids : List Int), PSt N w' b s j g' dp a' ln' c' rs' out ∧ altL (subP (L s) d) (decide (d = 0)) (L s) j g' out kids = R ∧ Kids w w' (blks a' rs') ka kl kc kids ∧ Step b (blks a rs) w w' (blks a' rs') ∧ k = s.size - j ∧ i ≤ j ∧ j ≤ s.size ∧ g' ≤ 9 ∧ ln' + 4 * (s.size - j) + 4 * d ≤ 901 ∧ 1 ≤ kids.length ∧ kids.length ≤ j + 1,
    ⟨_, j, g', a1, ln1, c1, rs1, out', [x], p2, hR, ⟨⟨rfl, Nat.le_refl _, .inr ⟨_, _, rfl, k2, rfl, rfl⟩⟩, rfl, fun k hk => ?_⟩, st2, rfl, by omega, by omega, hlen.2.2.2 hg, by omega, by simp, by simp⟩, ?_⟩
  · simp only [blkOf, Option.some.injEq] at hk
    subst hk
    exact ⟨st1.1.size, fun hm => by have := p1.pcs.lt _ hm; omega⟩
  clear hR hq hlen p2 st2 k2 e2 s2 p1 st1 hl1
  rintro k dd ka kl kc w3 ⟨j, g', a', ln', c', rs', out, kids, p3, hq, hK, st3, rfl, hij, hj, hg', hb', hk1, hkl⟩
  have hl3 := p3.pcs.len'
  have hend : ∀ {w' : World}, Below w3.heap.size w3 w' → ¬ (j < s.size ∧ at_ (L s) j = 124) →
      (((((kl : Nat) : Int) == 1) = true → ∃ (b30 : Nat) (o31 : Nat), ((ka : Option Addr) = some ⟨b30, o31, none⟩ ∧ 0 ≤ (0 : Int) ∧ (0 : Int) < ((kl : Nat) : Int)) ∧ ∃ (n32 : Int), cellH w'.heap b30 o31 = some (.int .i64 n32) ∧ ResI N w b s dp (blks a rs) R (.returned (.int .i64 n32)) w') ∧
       ((((kl : Nat) : Int) == 1) = false → Cl Try.prog 110 [.pointer (some ⟨b, 0, none⟩), .agg #[.int .i64 3, .slice none 0 0, .int .i64 0, .int .i64 0, .bool false, .int .i64 0, .slice ka kl kc]] w' (retG (fun (r35 : Value) (w34 : World) => ∃ (n33 : Int), r35 = .int .i64 n33 ∧ ResI N w b s dp (blks a rs) R (.returned (.int .i64 n33)) w34) fun c1 w1 => ResI N w b s dp (blks a rs) R (.panicked c1) w1))) := by
    intro w' hb hn
    have hRe : R = altE j g' out kids := by rw [← hq, altL_out (by rw [← hsz]; exact hn)]
    have hkll := hK.2.1
    refine ⟨fun g1 => ?_, fun g1 => ?_⟩
    · have g1' : kl = 1 := by have : ((kl : Nat) : Int) = 1 := by simpa using g1
                              omega
      obtain ⟨y, rfl⟩ : ∃ y, kids = [y] := by
        match kids, (show kids.length = 1 by omega) with
        | [y], _ => exact ⟨y, rfl⟩
      obtain ⟨kb, hka, hcells, hlt⟩ := (hK.below hb).1.at (by omega)
      refine ⟨kb, 0, ⟨hka, by omega, by omega⟩, y, ?_, ?_⟩
      · exact (cellsAt_iff _ 0).1 hcells 0 (by simp [intC])
      · rw [hRe]
        exact ⟨rfl, a', ln', c', rs', p3.below hb, Step.trans st3 (Step.of_below hb)⟩
    · have g1' : ¬ kl = 1 := by have : ¬ ((kl : Nat) : Int) = 1 := by simpa using g1
                                omega
      refine putKids (p3.below hb) (Step.trans st3 (Step.of_below hb)) (hK.below hb) h.hN (by omega) (p := pAlt kids) rfl ?_
      rw [hRe]
      match kids, hkll, hk1 with
      | [_], hkl, _ => simp at hkl; omega
      | _ :: _ :: _, _, _ => rfl
  refine drw_in fun w4 q4 e4 => ?_
  have b4 : Below w3.heap.size w3 w4 := Ext.to (Below.refl _ _) e4 fun _ h => h.elim
  refine (end_ok (p3.below b4).rd).ret fun w5 b5 => ⟨_, rfl, fun g1 => ?_, fun g1 => ?_⟩
  · have g1' : j < s.size := by
      have : decide (s.size ≤ j) = false := by simpa using g1
      have := of_decide_eq_false this; omega
    have b5' := b4.vstep b5
    have p5 := p3.below b5'
    have K5 := hK.below b5'
    have st5 : Step b (blks a rs) w w5 (blks a' rs') := Step.trans st3 (Step.of_below b5')
    refine ⟨s, p5.rd.cell 0, j, p5.rd.cell 1, ⟨by omega, by omega⟩, ?_⟩
    rw [byteI s (j := j) rfl]
    refine ⟨fun g2 => ?_, fun g2 => ?_⟩
    · simp only [beq_iff_eq] at g2
      have hcnd : j < (L s).length ∧ at_ (L s) j = 124 := ⟨by omega, by omega⟩
      refine ⟨j, p5.rd.cell 1, p5.mv (by omega) rfl fun w6 p6 e6 => ?_⟩
      have st6 := Step.trans st5 (Step.of_ext e6)
      have K6 := K5.step hbl (Step.of_ext e6)
      refine (seq_ok d hsub hsl p6 hs (by omega) hg' hdp hd6 (by omega) (fun _ => by omega)).use fun e w7 he => ?_
      cases hq2 : seqL (subP (L s) d) (decide (d = 0)) (L s) (j + 1) g' out [] with
      | bad n =>
        rw [hq2] at he
        obtain ⟨rfl, e7⟩ := he
        exact ResI.bad (by rw [← hq, altL_bad hcnd hq2]) (stepBad st6 e7)
      | ok y =>
      obtain ⟨⟨j2, g2', out2⟩, x2⟩ := y
      have hlen2 := seqL_len hsl _ rfl (by omega) hq2
      have hgo := altL_go (kids := kids) hcnd hq2 (by omega)
      rw [hq2] at he
      obtain ⟨rfl, a7, ln7, c7, rs7, p7, s7⟩ := he
      have hl7 := p7.pcs.len'
      have st7 := Step.trans st6 s7
      have K7 := K6.step hbl s7
      refine ⟨x2, rfl, ?_⟩
      obtain ⟨ka2, kc2, w8, r1, r2, r3⟩ := K7.app p7.pcs.lt st7.1.size (by rw [K7.2.1]; omega) x2
      have hkb : ∀ k, blkOf ka = some k → k ∉ blks a7 rs7 ∧ k ≠ b ∧ w.heap.size ≤ k := fun k hk => ⟨(K7.2.2 k hk).2, by have := (K7.2.2 k hk).1; omega, (K7.2.2 k hk).1⟩
      refine ⟨ka2, kl + 1, kc2, w8, r1, s.size - j2, by omega, j2, g2', a7, ln7, c7, rs7, out2, kids ++ [x2], p7.other r3 (fun hk => (hkb b hk).2.1 rfl) fun k hk hk' => (hkb k hk').1 hk, by rw [← hgo, hq], r2, ⟨st7.1.step r3 fun k hk hk' => by have := (hkb k hk').2.2; omega, fun k hk => st7.2 k hk⟩, rfl, by omega, by omega, hlen2.2.2.2 hg', by omega, by simp, by simp; omega⟩
    · simp only [beq_eq_false_iff_ne, ne_eq] at g2
      exact hend b5' (by omega)
  · have g1' : ¬ j < s.size := by
      have : decide (s.size ≤ j) = true := by simpa using g1
      have := of_decide_eq_true this; omega
    exact hend (b4.vstep b5) (by omega)
end Go.Proofs.Ytngbiaeliphdjaa.V
/- The deferred closure of the program's ReadPattern. No statement of the seat is proved here. -/
namespace Go.Vc
open Go.RowKit
set_option linter.unusedVariables false
set_option linter.unusedSimpArgs false
theorem wpOpsS_val {P : Program} {ops : Array Oper} {Q : Exit → Act → List Frame → World → Prop} {i : Nat} {rest : List Nat} {a : Act} {cs : List Frame} {w w' : World} {v : Value}
    (hi : decide (i < ops.size) = true) (hw : Region.wanted (ops.getD i default) (yielded ops a.tmps) = true) (h : (execOp a.eval (ops.getD i default)).run P w = .ok (.value v) w') (hk : wpOpsS P ops Q rest (a.put (ops.getD i default).dst v) cs w') : wpOpsS P ops Q (i :: rest) a cs w := by
  have ho : ops[i]? = some (ops.getD i default) := by have := of_decide_eq_true hi; simp [Array.getD, this]
  simp only [wpOpsS, ho, hw, if_true, h, Oper.upon]
  exact hk
theorem wpOpsS_skip {P : Program} {ops : Array Oper} {Q : Exit → Act → List Frame → World → Prop} {i : Nat} {rest : List Nat} {a : Act} {cs : List Frame} {w w' : World} 
    (hi : decide (i < ops.size) = true) (hw : Region.wanted (ops.getD i default) (yielded ops a.tmps) = true) (h : (execOp a.eval (ops.getD i default)).run P w = .ok .skip w') (hk : wpOpsS P ops Q rest (a.put (ops.getD i default).dst undef) cs w') : wpOpsS P ops Q (i :: rest) a cs w := by
  have ho : ops[i]? = some (ops.getD i default) := by have := of_decide_eq_true hi; simp [Array.getD, this]
  simp only [wpOpsS, ho, hw, if_true, h, Oper.upon]
  exact hk
theorem wpOpsS_rec {P : Program} {ops : Array Oper} {Q : Exit → Act → List Frame → World → Prop} {i : Nat} {rest : List Nat} {a : Act} {cs cs' : List Frame} {w w' : World} {v : Value}
    (hi : decide (i < ops.size) = true) (hw : Region.wanted (ops.getD i default) (yielded ops a.tmps) = true) (h : (execOp a.eval (ops.getD i default)).run P w = .ok .recover w') (hr : recoverD cs = some (v, cs')) (hk : wpOpsS P ops Q rest (a.put (ops.getD i default).dst v) cs' w') : wpOpsS P ops Q (i :: rest) a cs w := by
  have ho : ops[i]? = some (ops.getD i default) := by have := of_decide_eq_true hi; simp [Array.getD, this]
  simp only [wpOpsS, ho, hw, if_true, h, hr]
  exact hk
theorem wpOpsS_idle {P : Program} {ops : Array Oper} {Q : Exit → Act → List Frame → World → Prop} {i : Nat} {rest : List Nat} {a : Act} {cs : List Frame} {w w' : World} 
    (hi : decide (i < ops.size) = true) (hw : Region.wanted (ops.getD i default) (yielded ops a.tmps) = true) (h : (execOp a.eval (ops.getD i default)).run P w = .ok .recover w') (hr : recoverD cs = none) (hk : wpOpsS P ops Q rest (a.put (ops.getD i default).dst .nilIface) cs w') : wpOpsS P ops Q (i :: rest) a cs w := by
  have ho : ops[i]? = some (ops.getD i default) := by have := of_decide_eq_true hi; simp [Array.getD, this]
  simp only [wpOpsS, ho, hw, if_true, h, hr]
  exact hk
theorem wpS_region' {P : Program} {Q : Exit → Act → List Frame → World → Prop} {a : Act} {cs : List Frame} {w : World} {id : Nat} {ops : Array Oper} (l : List Nat) (hl : List.range ops.size = l) (h : wpOpsS P ops Q l a cs w) : (Code.region id ops false).wpS P Q a cs w :=
  wpS_region (by rw [hl]; exact h)
end Go.Vc
namespace Go.Proofs.Ytngbiaeliphdjaa.V
open Go.Vc Go.Proofs Go.RowKit
set_option linter.unusedVariables false
set_option linter.unusedSimpArgs false

set_option maxRecDepth 100000 in
theorem catch_bad (b : Nat) (n : Int) (w : World) (c0 c1 c2 c3 : Value) (hB : Blk w.heap b 37 [c0, c1, c2, c3]) :
    CallsD Try.prog 73 #[.pointer (some ⟨b, 0, none⟩)] (.panicking [{ v := .iface 90 (.int .i64 n), recovered := false }]) w fun e u' w' =>
      e = .returned (.tuple #[]) ∧ u' = .panicking [{ v := .iface 90 (.int .i64 n), recovered := true }] ∧ w' = setsW w b 0 [.bool false, .int .i64 n, .int .i64 0, .slice none 0 0] := by
  refine callsD_of_wpS Try.func73 rfl fun c₀ cs hu => ?_
  apply wpS_seq
  refine wpS_region' [0, 1, 2, 3, 4, 5, 6] (by kernel_rfl) ?_
  refine wpOpsS_rec (w' := w) (i := 0) (by kernel_rfl) (by kernel_rfl) (by kernel_rfl) (v := .iface 90 (.int .i64 n)) (by simp only [recoverD, hu]; rfl) ?_
  generalize hcs : ({ c₀ with mode := _ } : Frame) :: cs = cs1
  generalize hq : Exit.thenS _ _ = Q
  generalize ha : Act.put _ _ _ = a1
  refine wpOpsS_val (w' := w) (i := 1) (v := .tuple #[.int .i64 n, .bool true]) ?_ ?_ ?_ ?_
  all_goals subst ha
  · kernel_rfl
  · kernel_rfl
  · kernel_rfl
  generalize ha : Act.put _ _ _ = a1
  refine wpOpsS_val (w' := w) (i := 2) (v := .tuple #[.int .i64 n, .bool true]) ?_ ?_ ?_ ?_
  all_goals subst ha
  · kernel_rfl
  · kernel_rfl
  · kernel_rfl
  generalize ha : Act.put _ _ _ = a1
  refine wpOpsS_val (w' := w) (i := 3) (v := .int .i64 n) ?_ ?_ ?_ ?_
  all_goals subst ha
  · kernel_rfl
  · kernel_rfl
  · kernel_rfl
  generalize ha : Act.put _ _ _ = a1
  refine wpOpsS_val (w' := w) (i := 4) (v := .bool true) ?_ ?_ ?_ ?_
  all_goals subst ha
  · kernel_rfl
  · kernel_rfl
  · kernel_rfl
  generalize ha : Act.put _ _ _ = a1
  refine wpOpsS_val (w' := w) (i := 5) (v := .int .i64 n) ?_ ?_ ?_ ?_
  all_goals subst ha
  · kernel_rfl
  · kernel_rfl
  · kernel_rfl
  generalize ha : Act.put _ _ _ = a1
  refine wpOpsS_val (w' := w) (i := 6) (v := .bool true) ?_ ?_ ?_ ?_
  all_goals subst ha
  · kernel_rfl
  · kernel_rfl
  · kernel_rfl
  subst hq
  apply wpS_seq
  refine wpS_region' [0] (by kernel_rfl) ?_
  generalize hq : Exit.thenS _ _ = Q
  generalize ha : Act.put _ _ _ = a1
  refine wpOpsS_val (w' := w) (i := 0) (v := .bool true) ?_ ?_ ?_ ?_
  all_goals subst ha
  · kernel_rfl
  · kernel_rfl
  · kernel_rfl
  subst hq
  refine wpS_cond (t := true) (by kernel_rfl) ?_
  simp only [if_true]
  refine wpS_region' [0, 1, 2] (by kernel_rfl) ?_
  generalize hq : bodyPostS _ _ _ _ _ = Q
  generalize ha : Act.put _ _ _ = a1
  refine wpOpsS_val (w' := w) (i := 0) (v := .int .i64 n) ?_ ?_ ?_ ?_
  all_goals subst ha
  · kernel_rfl
  · kernel_rfl
  · kernel_rfl
  generalize ha : Act.put _ _ _ = a1
  refine wpOpsS_val (w' := w) (i := 1) (v := .agg #[.bool false, .int .i64 n, .int .i64 0, .slice none 0 0]) ?_ ?_ ?_ ?_
  all_goals subst ha
  · kernel_rfl
  · kernel_rfl
  · kernel_rfl
  generalize ha : Act.put _ _ _ = a1
  refine wpOpsS_skip (w' := setsW w b 0 [.bool false, .int .i64 n, .int .i64 0, .slice none 0 0]) (i := 2) ?_ ?_ ?_ ?_
  · kernel_rfl
  · subst ha; kernel_rfl
  · have e1 : a1.eval (.tmp 0) = .pointer (some ⟨b, 0, none⟩) := by subst ha; kernel_rfl
    have e2 : a1.eval (.tmp 10) = .agg #[.bool false, .int .i64 n, .int .i64 0, .slice none 0 0] := by subst ha; kernel_rfl
    have key : ∀ o : Oper, o.op = .store 37 (.tmp 0) (.tmp 10) → (execOp a1.eval o).run Try.prog w = .ok .skip (setsW w b 0 [.bool false, .int .i64 n, .int .i64 0, .slice none 0 0]) := by
      intro o ho
      simp only [execOp, ho, e1, e2]
      refine (bind_run (a := ()) (w' := setsW w b 0 [.bool false, .int .i64 n, .int .i64 0, .slice none 0 0]) ?_).trans rfl
      unfold Instr.storeAt
      rw [bind_run (show (Instr.sureAddr (.pointer (some ⟨b, 0, none⟩))).run Try.prog w = .ok ⟨b, 0, none⟩ w from rfl)]
      exact storeVar_run (n := 4) (v := .agg #[.bool false, .int .i64 n, .int .i64 0, .slice none 0 0]) (by kernel_rfl) rfl rfl (hB.wrL (by show 0 + 4 ≤ 4; decide))
    exact key _ (by kernel_rfl)
  · subst hq hcs ha
    exact ⟨by kernel_rfl, _, rfl, .tuple #[], by kernel_rfl, rfl, rfl, rfl⟩
set_option maxRecDepth 100000 in
theorem catch_idle (b : Nat) (w : World) : CallsD Try.prog 73 #[.pointer (some ⟨b, 0, none⟩)] .returning w fun e u' w' => e = .returned (.tuple #[]) ∧ u' = .returning ∧ w' = w := by
  refine callsD_of_wpS Try.func73 rfl fun c₀ cs hu => ?_
  apply wpS_seq
  refine wpS_region' [0, 1, 2, 3, 4, 5, 6] (by kernel_rfl) ?_
  refine wpOpsS_idle (w' := w) (i := 0) (by kernel_rfl) (by kernel_rfl) (by kernel_rfl) (by simp only [recoverD, hu]) ?_
  generalize hcs : c₀ :: cs = cs1
  generalize hq : Exit.thenS _ _ = Q
  generalize ha : Act.put _ _ _ = a1
  refine wpOpsS_val (w' := w) (i := 1) (v := .tuple #[.int .i64 0, .bool false]) ?_ ?_ ?_ ?_
  all_goals subst ha
  · kernel_rfl
  · kernel_rfl
  · kernel_rfl
  generalize ha : Act.put _ _ _ = a1
  refine wpOpsS_val (w' := w) (i := 2) (v := .tuple #[.int .i64 0, .bool false]) ?_ ?_ ?_ ?_
  all_goals subst ha
  · kernel_rfl
  · kernel_rfl
  · kernel_rfl
  generalize ha : Act.put _ _ _ = a1
  refine wpOpsS_val (w' := w) (i := 3) (v := .int .i64 0) ?_ ?_ ?_ ?_
  all_goals subst ha
  · kernel_rfl
  · kernel_rfl
  · kernel_rfl
  generalize ha : Act.put _ _ _ = a1
  refine wpOpsS_val (w' := w) (i := 4) (v := .bool false) ?_ ?_ ?_ ?_
  all_goals subst ha
  · kernel_rfl
  · kernel_rfl
  · kernel_rfl
  generalize ha : Act.put _ _ _ = a1
  refine wpOpsS_val (w' := w) (i := 5) (v := .int .i64 0) ?_ ?_ ?_ ?_
  all_goals subst ha
  · kernel_rfl
  · kernel_rfl
  · kernel_rfl
  generalize ha : Act.put _ _ _ = a1
  refine wpOpsS_val (w' := w) (i := 6) (v := .bool false) ?_ ?_ ?_ ?_
  all_goals subst ha
  · kernel_rfl
  · kernel_rfl
  · kernel_rfl
  subst hq
  apply wpS_seq
  refine wpS_region' [0] (by kernel_rfl) ?_
  generalize hq : Exit.thenS _ _ = Q
  generalize ha : Act.put _ _ _ = a1
  refine wpOpsS_val (w' := w) (i := 0) (v := .bool false) ?_ ?_ ?_ ?_
  all_goals subst ha
  · kernel_rfl
  · kernel_rfl
  · kernel_rfl
  subst hq
  refine wpS_cond (t := false) (by kernel_rfl) ?_
  simp only [Bool.false_eq_true, if_false]
  refine wpS_of_wp (wp_skip ?_)
  subst hcs
  exact ⟨by kernel_rfl, .returning, by rw [← hu], .tuple #[], by kernel_rfl, rfl, rfl, rfl⟩
end Go.Proofs.Ytngbiaeliphdjaa.V
/- The calculus for the head of a body, up to a part that is walked by hand. No statement of the seat is proved here. -/
namespace Go.Vc
set_option linter.unusedVariables false
set_option linter.unusedSimpArgs false
def wpCh (P : Program) (Qp : List PanicEntry → Pred) : Nat → Code → (Scr → Fr → Pred) → (Exit → Scr → Fr → Pred) → Scr → Fr → Pred
  | 0, _, H, _, s, fr => H s fr
  | n + 1, .seq a b, H, K, s, fr => wpC P Qp a (seqK K (fun s f => wpCh P Qp n b H K s f)) s fr
  | _, _, _, _, _, _ => fun _ => False
def tailC : Nat → Code → Code
  | 0, c => c
  | n + 1, .seq _ b => tailC n b
  | _, c => c
theorem wpCh_sound {P : Program} {Qp : List PanicEntry → Pred} {Q : Exit → Act → World → Prop} {ds : List Deferred} {H : Scr → Fr → Pred} {K : Exit → Scr → Fr → Pred}
    (hE : ∀ e s f w, e ≠ .normal → K e s f w → Q e (act f ds) w) (hP : ∀ c a w, a.defers = ds → Qp c w → Q (.panic c) a w) :
    ∀ (n : Nat) (c : Code) (s : Scr) (fr : Fr) (w : World), (∀ s f w', H s f w' → (tailC n c).wp P Q (act f ds) w') → wpCh P Qp n c H K s fr w → c.wp P Q (act fr ds) w
  | 0, c, s, fr, w, hH, h => hH s fr w h
  | n + 1, .seq a b, s, fr, w, hH, h => by
    refine wp_seq (wp_mono (wpC_sound (ds := ds) a _ s fr w h) fun e a' w' hg => ?_)
    cases e with
    | normal =>
      obtain ⟨f, rfl, _, s', h3⟩ := hg
      exact wpCh_sound hE hP n b s' f w' hH h3
    | panic c => exact hP c a' w' hg.1 hg.2
    | outgrown => exact hg.elim
    | exit i => obtain ⟨f, rfl, _, s', h3⟩ := hg; exact hE (.exit i) s' f w' (by simp) h3
    | goto l => obtain ⟨f, rfl, _, s', h3⟩ := hg; exact hE (.goto l) s' f w' (by simp) h3
    | ret => obtain ⟨f, rfl, _, s', h3⟩ := hg; exact hE .ret s' f w' (by simp) h3
  | n + 1, .skip, _, _, _, _, h => h.elim
  | n + 1, .region _ _ _, _, _, _, _, h => h.elim
  | n + 1, .cond _ _ _, _, _, _, _, h => h.elim
  | n + 1, .block _ _, _, _, _, _, h => h.elim
  | n + 1, .loop _, _, _, _, _, h => h.elim
  | n + 1, .exit _, _, _, _, _, h => h.elim
  | n + 1, .ret, _, _, _, _, h => h.elim
  | n + 1, .label _, _, _, _, _, h => h.elim
  | n + 1, .goto _, _, _, _, _, h => h.elim
def hookK (RK : Fr → Pred) : Exit → Scr → Fr → Pred
  | .ret, _, f => RK f
  | _, _, _ => fun _ => False
def tailK (NK : Fr → Pred) : Exit → Scr → Fr → Pred
  | .ret, _, f => NK f
  | .normal, _, f => NK f
  | _, _, _ => fun _ => False
theorem wpOps_val {P : Program} {ops : Array Oper} {Q : Exit → Act → World → Prop} {i : Nat} {rest : List Nat} {a : Act} {w w' : World} {v : Value}
    (hi : decide (i < ops.size) = true) (hw : Region.wanted (ops.getD i default) (yielded ops a.tmps) = true) (h : (execOp a.eval (ops.getD i default)).run P w = .ok (.value v) w') (hk : wpOps P ops Q rest (a.put (ops.getD i default).dst v) w') : wpOps P ops Q (i :: rest) a w := by
  have ho : ops[i]? = some (ops.getD i default) := by have := of_decide_eq_true hi; simp [Array.getD, this]
  simp only [wpOps, ho, hw, if_true]
  exact .inl (run_value h hk)
theorem wpOps_defer {P : Program} {ops : Array Oper} {Q : Exit → Act → World → Prop} {i : Nat} {rest : List Nat} {a : Act} {w w' : World} {d : Deferred}
    (hi : decide (i < ops.size) = true) (hw : Region.wanted (ops.getD i default) (yielded ops a.tmps) = true) (h : (execOp a.eval (ops.getD i default)).run P w = .ok (.defer d) w') (hk : wpOps P ops Q rest (({ a with defers := d :: a.defers } : Act).put (ops.getD i default).dst undef) w') : wpOps P ops Q (i :: rest) a w := by
  have ho : ops[i]? = some (ops.getD i default) := by have := of_decide_eq_true hi; simp [Array.getD, this]
  simp only [wpOps, ho, hw, if_true]
  refine .inl ?_
  unfold Oper.wp; rw [h]; exact hk
theorem wpOps_call {P : Program} {ops : Array Oper} {Q : Exit → Act → World → Prop} {i : Nat} {rest : List Nat} {a : Act} {w w' : World} {f : FuncId} {args : Array Value}
    (hi : decide (i < ops.size) = true) (hw : Region.wanted (ops.getD i default) (yielded ops a.tmps) = true) (h : (execOp a.eval (ops.getD i default)).run P w = .ok (.enter f args) w')
    (hk : Calls P f args w' fun e w'' => match e with | .returned v => wpOps P ops Q rest (a.put (ops.getD i default).dst v) w'' | .panicked c => Q (.panic c) a w'' | .outgrown => False) : wpOps P ops Q (i :: rest) a w := by
  have ho : ops[i]? = some (ops.getD i default) := by have := of_decide_eq_true hi; simp [Array.getD, this]
  simp only [wpOps, ho, hw, if_true]
  refine .inl ?_
  unfold Oper.wp; rw [h]
  refine Calls.mono hk fun e w'' he => ?_
  cases e with
  | returned v => exact he
  | panicked c => exact he
  | outgrown => exact he.elim
theorem wp_region' {P : Program} {Q : Exit → Act → World → Prop} {a : Act} {w : World} {id : Nat} {ops : Array Oper} (l : List Nat) (hl : List.range ops.size = l) (h : wpOps P ops Q l a w) : (Code.region id ops false).wp P Q a w :=
  wp_region (by rw [hl]; exact h)
end Go.Vc
/- Printed by part26.py, a program of this session. No statement of the seat is proved here. -/
namespace Go.Proofs.Ytngbiaeliphdjaa.V
open Go.Vc Go.Proofs
set_option linter.unusedVariables false
set_option maxRecDepth 100000
def VH26 (s1 : ByteArray) (HK RK : List Value → World → Prop) (QP : List PanicEntry → World → Prop) : World → Prop := fun w =>
  newC [.bool false, .int .i64 0, .int .i64 0, .slice none 0 0] 37 (fun (b1 : Nat) (w2 : World) => (((decide ((((ByteArray.size s1 : Nat) : Int) : Int) > 120)) = true → stW b1 0 [.bool false, .int .i64 120, .int .i64 0, .slice none 0 0] (fun (w3 : World) => RK [.string s1, undef, .pointer (some ⟨b1, 0, none⟩), undef, .string s1, .int .i64 ((ByteArray.size s1 : Nat) : Int), .bool true, .agg #[.bool false, .int .i64 120, .int .i64 0, .slice none 0 0], undef, undef, undef, undef, undef, undef, undef, undef, undef, undef, undef, undef, undef, undef, undef, undef, undef, undef, undef, undef, undef, undef, undef, undef] w3) w2) ∧ ((decide ((((ByteArray.size s1 : Nat) : Int) : Int) > 120)) = false → newC [.string s1, .int .i64 0, .int .i64 0, .int .i64 0, .slice none 0 0] 89 (fun (b4 : Nat) (w5 : World) => HK [.string s1, undef, .pointer (some ⟨b1, 0, none⟩), .pointer (some ⟨b4, 0, none⟩), .string s1, .int .i64 ((ByteArray.size s1 : Nat) : Int), .bool false, undef, .string s1, .agg #[.string s1, .int .i64 0, .int .i64 0, .int .i64 0, .slice none 0 0], .pointer (some ⟨b4, 0, none⟩), undef, undef, undef, undef, undef, undef, undef, undef, undef, undef, undef, undef, undef, undef, undef, undef, undef, undef, undef, undef, undef] w5) w2))) w
def scrH26 : Scr := (.run [0] (.close (.run [0, 1, 2] (.close (.cond (.run [0, 1] (.close .nil)) (.run [0, 1, 2, 3] (.close .nil)))))))
theorem vh26 (s1 : ByteArray) (HK RK : List Value → World → Prop) (QP : List PanicEntry → World → Prop) : wpCh Try.prog QP 3 (bodyOf Try.f26) (fun _ f => HK f) (hookK RK) scrH26 (frame0 Try.f26 [.string s1]) = VH26 s1 HK RK QP := by kernel_rfl
def fr26 (s1 : ByteArray) (b1 : Nat) (b4 : Nat) (n6 : Int) : List Value := [.string s1, undef, .pointer (some ⟨b1, 0, none⟩), .pointer (some ⟨b4, 0, none⟩), .string s1, .int .i64 ((ByteArray.size s1 : Nat) : Int), .bool false, undef, .string s1, .agg #[.string s1, .int .i64 0, .int .i64 0, .int .i64 0, .slice none 0 0], .pointer (some ⟨b4, 0, none⟩), .func (.func 73) #[] #[.pointer (some ⟨b1, 0, none⟩)], .pointer (some ⟨b4, 0, none⟩), .int .i64 n6, .pointer (some ⟨b4, 0, none⟩), .bool true, .bool false, undef, undef, undef, undef, undef, undef, undef, undef, undef, undef, undef, undef, undef, undef, undef]
def VT26 (s1 : ByteArray) (b1 : Nat) (b4 : Nat) (n6 : Int) (NK : List Value → World → Prop) (QP : List PanicEntry → World → Prop) : World → Prop := fun w =>
  drw (fun w6 => ∃ n7, cellH w6.heap b4 2 = some (.int .i64 n7) ∧ ∃ a8 l8 c8, cellH w6.heap b4 4 = some (.slice a8 l8 c8) ∧ stW b1 0 [.bool true, .int .i64 0, .int .i64 n7, .slice a8 l8 c8] (fun w9 => NK [.string s1, undef, .pointer (some ⟨b1, 0, none⟩), .pointer (some ⟨b4, 0, none⟩), .string s1, .int .i64 ((ByteArray.size s1 : Nat) : Int), .bool false, undef, .string s1, .agg #[.string s1, .int .i64 0, .int .i64 0, .int .i64 0, .slice none 0 0], .pointer (some ⟨b4, 0, none⟩), .func (.func 73) #[] #[.pointer (some ⟨b1, 0, none⟩)], .pointer (some ⟨b4, 0, none⟩), .int .i64 n6, .pointer (some ⟨b4, 0, none⟩), .bool true, .bool false, undef, undef, undef, undef, undef, undef, .pointer (some ⟨b4, 0, none⟩), .pointer (some ⟨b4, 0, none⟩), .pointer (some ⟨b4, 2, none⟩), .int .i64 n7, .pointer (some ⟨b4, 0, none⟩), .pointer (some ⟨b4, 0, none⟩), .pointer (some ⟨b4, 4, none⟩), .slice a8 l8 c8, .agg #[.bool true, .int .i64 0, .int .i64 n7, .slice a8 l8 c8]] w9) w6) w
def scrT26 : Scr := (.run [0, 1, 2, 3, 4, 5, 6, 7, 8, 9] (.close .nil))
theorem vt26 (s1 : ByteArray) (b1 : Nat) (b4 : Nat) (n6 : Int) (NK : List Value → World → Prop) (QP : List PanicEntry → World → Prop) : wpC Try.prog QP (tailC 6 (bodyOf Try.f26)) (tailK NK) scrT26 (fr26 s1 b1 b4 n6) = VT26 s1 b1 b4 n6 NK QP := by kernel_rfl
end Go.Proofs.Ytngbiaeliphdjaa.V
/- The program's ReadPattern. No statement of the seat is proved here. -/
namespace Go.Vc
def headC (n : Nat) (c : Code) : Code := match tailC n c with
  | .seq a _ => a
  | c => c
def fstC : Code → Code
  | .seq a _ => a
  | c => c
def sndC : Code → Code
  | .seq _ b => b
  | c => c
def thenC : Code → Code
  | .cond _ a _ => a
  | c => c
def opsC : Code → Array Oper
  | .region _ o _ => o
  | _ => #[]
end Go.Vc
namespace Go.Proofs.Ytngbiaeliphdjaa.V
open Go.Vc Go.Proofs Go.RowKit
set_option linter.unusedVariables false
set_option linter.unusedSimpArgs false

/-- A pattern's value: its pieces in blocks of their own, all new. -/
def RetP (p : Pat) (w : World) : Ending → World → Prop := fun e w' => ∃ a l c rs, e = .returned (.agg #[.bool p.ok, .int .i64 (p.at_ : Int), .int .i64 (p.groups : Int), .slice a l c]) ∧ Pcs w.heap.size w' a l c rs p.pieces ∧ Below w.heap.size w w'

/-- The named result, read at the end. -/
theorem res26 {fr : List Value} {b : Nat} {w : World} {t : Bool} {n m : Int} {a : Option Addr} {l c : Nat} {R : Ending → World → Prop} (h : fr.getD 2 undef = .pointer (some ⟨b, 0, none⟩)) (hB : Blk w.heap b 37 [.bool t, .int .i64 n, .int .i64 m, .slice a l c])
    (hR : R (.returned (.agg #[.bool t, .int .i64 n, .int .i64 m, .slice a l c])) w) : Leaves Try.prog Try.f26 fr.toArray R [] .returning w := by
  refine retC_run ?_
  rw [show Try.f26.results.toList = [.cell 2 37] from by kernel_rfl]
  simp only [retC, resV, h]
  rw [show shOf Try.prog 37 = some (.agg [.bool, .int .i64, .int .i64, .slice]) from by kernel_rfl, show aggP Try.prog 37 = some true from by kernel_rfl, show sizeP Try.prog 37 = some 4 from by kernel_rfl]
  simp only []
  rw [if_pos (by decide)]
  exact ⟨t, hB.cell 0, n, hB.cell 1, m, hB.cell 2, a, l, c, hB.cell 3, hR⟩

/-- What is deferred. -/
def dfr (b : Nat) : Deferred := { target := .fn (.func 73) #[.pointer (some ⟨b, 0, none⟩)], args := #[] }
theorem dfr_run (b : Nat) (w : World) : (invoke (.fn (.func 73) #[.pointer (some ⟨b, 0, none⟩)]) #[]).run Try.prog w = .ok (.enter 73 #[.pointer (some ⟨b, 0, none⟩)]) w := by kernel_rfl
/-- It leaves when the pattern goes wrong. -/
theorem leave_bad {fr : List Value} {b n : Nat} {w0 w : World} {p : Pat} (h : fr.getD 2 undef = .pointer (some ⟨b, 0, none⟩)) {c0 c1 c2 c3 : Value} (hB : Blk w.heap b 37 [c0, c1, c2, c3]) (hb : w0.heap.size ≤ b) (E : Below w0.heap.size w0 w) (hp : p = ⟨false, n, 0, []⟩) {c : List PanicEntry} (hc : Ending.panicked c = PanicB n) :
    Leaves Try.prog Try.f26 fr.toArray (RetP p w0) [dfr b] (.panicking c) w := by
  cases hc
  refine leaves_cons (f := 73) (args := #[.pointer (some ⟨b, 0, none⟩)]) (by simp) (dfr_run b w) ?_
  refine (catch_bad b n w c0 c1 c2 c3 hB).mono ?_
  rintro e u w' ⟨rfl, rfl, rfl⟩
  subst hp
  refine res26 h hB.sets ⟨none, 0, 0, [], rfl, Pcs.nil _ _, E.vsets hb⟩
/-- It leaves at its end. -/
theorem leave_ok {fr : List Value} {b : Nat} {w : World} {R : Ending → World → Prop} {t : Bool} {n m : Int} {a : Option Addr} {l c : Nat} (h : fr.getD 2 undef = .pointer (some ⟨b, 0, none⟩)) (hB : Blk w.heap b 37 [.bool t, .int .i64 n, .int .i64 m, .slice a l c])
    (hR : R (.returned (.agg #[.bool t, .int .i64 n, .int .i64 m, .slice a l c])) w) : Leaves Try.prog Try.f26 fr.toArray R [dfr b] .returning w := by
  refine leaves_cons (f := 73) (args := #[.pointer (some ⟨b, 0, none⟩)]) (by simp) (dfr_run b w) ?_
  refine (catch_idle b w).mono ?_
  rintro e u w' ⟨rfl, rfl, rfl⟩
  exact res26 h hB hR

set_option maxRecDepth 100000 in
theorem readPattern_ok (s : ByteArray) (w : World) : Cl Try.prog 26 [.string s] w (RetP (readP (L s)) w) := by
  refine ⟨by kernel_rfl, calls_of_wp_defers (c := bodyOf Try.f26) Try.func26 (by kernel_rfl) ?_⟩
  rw [show ({ tmps := (⟨[.string s]⟩ : Array Value) ++ Array.replicate (Try.f26.ntmps - (⟨[.string s]⟩ : Array Value).size) undef, defers := [] } : Act) = act (frame0 Try.f26 [.string s]) [] from by simp [act, frame0]]
  generalize hR : RetP (readP (L s)) w = R
  refine wpCh_sound (P := Try.prog) (ds := []) (Qp := fun _ _ => False) (H := fun _ f w' => (tailC 3 (bodyOf Try.f26)).wp Try.prog (bodyPostD Try.prog Try.f26 R) (act f []) w') (K := hookK fun f w' => Leaves Try.prog Try.f26 f.toArray R [] .returning w') ?_ ?_ 3 _ scrH26 _ _ (fun s f w' h => h) ?_
  · intro e s f w' hne h
    cases e <;> first | exact h | exact h.elim | exact absurd rfl hne
  · intro c a w' _ h; exact h.elim
  rw [vh26]
  unfold VH26
  have hsz := size_L s
  refine newC_in fun w1 s1 k1 e1 => ?_
  refine ⟨fun g1 => ?_, fun g1 => ?_⟩
  · have g1' := of_decide_eq_true g1
    refine stW_in k1 (by decide) fun w2 s2 k2 e2 => ?_
    refine res26 rfl k2 ?_
    subst hR
    refine ⟨none, 0, 0, [], ?_, ?_, (Ext.to (Ext.to (Below.refl _ _) e1 fun _ h => h.elim) e2 fun i hi => by omega)⟩
    · unfold readP; rw [if_pos (by omega)]; rfl
    · unfold readP; rw [if_pos (by omega)]; exact Pcs.nil _ _
  have g1' := of_decide_eq_false g1
  refine newC_in fun w2 s2 k2 e2 => ?_
  generalize hb1 : w.heap.size = b1 at *
  generalize hb4 : w1.heap.size = b4 at *
  have E2 : Below w.heap.size w w2 := Ext.to (Ext.to (Below.refl _ _) e1 fun _ h => h.elim) e2 fun _ h => h.elim
  have k1' : Blk w2.heap b1 37 _ := k1.keep e2 fun h => h
  rw [show tailC 3 (bodyOf Try.f26) = .seq (headC 3 (bodyOf Try.f26)) (.seq (headC 4 (bodyOf Try.f26)) (.seq (headC 5 (bodyOf Try.f26)) (tailC 6 (bodyOf Try.f26)))) from by kernel_rfl]
  refine wp_seq ?_
  rw [show headC 3 (bodyOf Try.f26) = .region 4 (opsC (headC 3 (bodyOf Try.f26))) false from by kernel_rfl]
  refine wp_region' [0, 1] (by kernel_rfl) ?_
  generalize hq : Exit.then _ _ = Q
  generalize ha : act _ _ = a1
  refine wpOps_val (w' := w2) (i := 0) (v := .func (.func 73) #[] #[.pointer (some ⟨b1, 0, none⟩)]) ?_ ?_ ?_ ?_
  all_goals subst ha
  · kernel_rfl
  · kernel_rfl
  · kernel_rfl
  generalize ha : Act.put _ _ _ = a1
  refine wpOps_defer (w' := w2) (i := 1) (d := dfr b1) ?_ ?_ ?_ ?_
  all_goals subst ha
  · kernel_rfl
  · kernel_rfl
  · kernel_rfl
  subst hq
  generalize ha : Act.put _ _ _ = a1
  have ha' : a1 = act [.string s, undef, .pointer (some ⟨b1, 0, none⟩), .pointer (some ⟨b4, 0, none⟩), .string s, .int .i64 ((ByteArray.size s : Nat) : Int), .bool false, undef, .string s, .agg #[.string s, .int .i64 0, .int .i64 0, .int .i64 0, .slice none 0 0], .pointer (some ⟨b4, 0, none⟩), .func (.func 73) #[] #[.pointer (some ⟨b1, 0, none⟩)], undef, undef, undef, undef, undef, undef, undef, undef, undef, undef, undef, undef, undef, undef, undef, undef, undef, undef, undef, undef] [dfr b1] := by subst ha; kernel_rfl
  clear ha
  subst ha'
  show (Code.seq _ _).wp _ _ _ _
  refine wp_seq ?_
  rw [show headC 4 (bodyOf Try.f26) = .region 5 (opsC (headC 4 (bodyOf Try.f26))) false from by kernel_rfl]
  refine wp_region' [0, 1] (by kernel_rfl) ?_
  generalize hq : Exit.then _ _ = Q
  generalize ha : act _ _ = a1
  refine wpOps_val (w' := w2) (i := 0) (v := .pointer (some ⟨b4, 0, none⟩)) ?_ ?_ ?_ ?_
  all_goals subst ha
  · kernel_rfl
  · kernel_rfl
  · kernel_rfl
  generalize ha : Act.put _ _ _ = a1
  have hat : a1.tmps.toList.getD 2 undef = .pointer (some ⟨b1, 0, none⟩) := by subst ha; kernel_rfl
  have had : a1.defers = [dfr b1] := by subst ha; kernel_rfl
  have hpat := pattern_ok 6 (b4 + 1) w2 b4 s 0 0 0 none 0 0 [] [] ⟨k2, Pcs.nil _ _, Nat.lt_succ_self _, by omega⟩ (by omega) (by omega) (by omega) (by omega) (by omega) (by omega)
  refine wpOps_call (w' := w2) (i := 1) (f := 74) (args := #[.pointer (some ⟨b4, 0, none⟩)]) ?_ ?_ ?_ ?_
  · kernel_rfl
  · subst ha; kernel_rfl
  · subst ha; kernel_rfl
  refine hpat.2.mono fun e w3 he => ?_
  cases hp : patP (L s) 6 (0, 0, []) with
  | bad n =>
    rw [hp] at he
    obtain ⟨rfl, e3⟩ := he
    subst hq
    show Leaves _ _ _ _ _ _ _
    rw [had]
    subst hR
    have := leave_bad (fr := a1.tmps.toList) (w0 := w) (p := readP (L s)) hat (k1'.keep e3 (by simp [blks, ob, blkOf]; omega)) (by omega) (E2.trans ⟨e3.os, e3.tape, e3.output, e3.size, fun i hi => e3.block i (by omega) (by simp [blks, ob, blkOf]; omega)⟩) (n := n) (by unfold readP; rw [if_neg (by omega), hp]) rfl
    exact this
  | ok y =>
  obtain ⟨⟨j, g, out⟩, x⟩ := y
  rw [hp] at he
  obtain ⟨rfl, a3, l3, c3, rs3, p3, st3⟩ := he
  have hlen := patP_len (L s) 6 0 0 [] j g out x (by omega) hp
  have E3 : Ext (fun k => k = b4) w2 w3 := Ext.mono st3.1 fun k _ hk => by simpa [blks, ob, blkOf] using hk
  have B3 : Below w.heap.size w w3 := Ext.to (hb1 ▸ E2) E3 fun i hi => by omega
  have k3 : Blk w3.heap b1 37 _ := k1'.keep E3 (by omega)
  clear hat had hpat
  simp only []
  subst hq
  subst ha
  generalize ha : Act.put _ _ _ = a1
  have ha' : a1 = act [.string s, undef, .pointer (some ⟨b1, 0, none⟩), .pointer (some ⟨b4, 0, none⟩), .string s, .int .i64 ((ByteArray.size s : Nat) : Int), .bool false, undef, .string s, .agg #[.string s, .int .i64 0, .int .i64 0, .int .i64 0, .slice none 0 0], .pointer (some ⟨b4, 0, none⟩), .func (.func 73) #[] #[.pointer (some ⟨b1, 0, none⟩)], .pointer (some ⟨b4, 0, none⟩), .int .i64 x, undef, undef, undef, undef, undef, undef, undef, undef, undef, undef, undef, undef, undef, undef, undef, undef, undef, undef] [dfr b1] := by subst ha; kernel_rfl
  clear ha
  subst ha'
  show (Code.seq _ _).wp _ _ _ _
  refine wp_seq ?_
  rw [show headC 5 (bodyOf Try.f26) = .seq (.region 6 (opsC (fstC (headC 5 (bodyOf Try.f26)))) false) (.cond (.tmp 16) (.region 7 (opsC (thenC (sndC (headC 5 (bodyOf Try.f26))))) false) .skip) from by kernel_rfl]
  refine wp_seq ?_
  refine wp_region' [0, 1, 2] (by kernel_rfl) ?_
  generalize hq : Exit.then _ _ = Q
  generalize ha : act _ _ = a1
  refine wpOps_val (w' := w3) (i := 0) (v := .pointer (some ⟨b4, 0, none⟩)) ?_ ?_ ?_ ?_
  all_goals subst ha
  · kernel_rfl
  · kernel_rfl
  · kernel_rfl
  generalize ha : Act.put _ _ _ = a1
  refine wpOps_call (w' := w3) (i := 1) (f := 75) (args := #[.pointer (some ⟨b4, 0, none⟩)]) ?_ ?_ ?_ ?_
  · kernel_rfl
  · subst ha; kernel_rfl
  · subst ha; kernel_rfl
  refine (end_ok p3.rd).2.mono fun e w4 he => ?_
  obtain ⟨rfl, B4⟩ := he
  have p4 := p3.below B4
  have k4 := k3.below B4
  have B4' := B3.vstep B4
  simp only []
  subst ha
  generalize ha : Act.put _ _ _ = a1
  refine wpOps_val (w' := w4) (i := 2) (v := .bool (!decide (s.size ≤ j))) ?_ ?_ ?_ ?_
  all_goals subst ha
  · kernel_rfl
  · kernel_rfl
  · kernel_rfl
  subst hq
  show (Code.cond _ _ _).wp _ _ _ _
  refine wp_cond (t := !decide (s.size ≤ j)) (by kernel_rfl) ?_
  cases hd : decide (s.size ≤ j) with
  | false =>
    have hd' := of_decide_eq_false hd
    simp only [Bool.not_false, if_true]
    refine wp_region' [0, 1, 2, 3, 4, 5] (by kernel_rfl) ?_
    generalize hq : Exit.then _ _ = Q
    generalize ha : Act.put _ _ _ = a1
    have ha' : a1 = act [.string s, undef, .pointer (some ⟨b1, 0, none⟩), .pointer (some ⟨b4, 0, none⟩), .string s, .int .i64 ((ByteArray.size s : Nat) : Int), .bool false, undef, .string s, .agg #[.string s, .int .i64 0, .int .i64 0, .int .i64 0, .slice none 0 0], .pointer (some ⟨b4, 0, none⟩), .func (.func 73) #[] #[.pointer (some ⟨b1, 0, none⟩)], .pointer (some ⟨b4, 0, none⟩), .int .i64 x, .pointer (some ⟨b4, 0, none⟩), .bool false, .bool true, undef, undef, undef, undef, undef, undef, undef, undef, undef, undef, undef, undef, undef, undef, undef] [dfr b1] := by subst ha; kernel_rfl
    clear ha
    subst ha'
    generalize ha : act _ _ = a1
    refine wpOps_val (w' := w4) (i := 0) (v := .pointer (some ⟨b4, 0, none⟩)) ?_ ?_ ?_ ?_
    all_goals subst ha
    · kernel_rfl
    · kernel_rfl
    · kernel_rfl
    generalize ha : Act.put _ _ _ = a1
    refine wpOps_val (w' := w4) (i := 1) (v := .pointer (some ⟨b4, 0, none⟩)) ?_ ?_ ?_ ?_
    all_goals subst ha
    · kernel_rfl
    · kernel_rfl
    · kernel_rfl
    generalize ha : Act.put _ _ _ = a1
    refine wpOps_val (w' := w4) (i := 2) (v := .pointer (some ⟨b4, 0, none⟩)) ?_ ?_ ?_ ?_
    all_goals subst ha
    · kernel_rfl
    · kernel_rfl
    · kernel_rfl
    generalize ha : Act.put _ _ _ = a1
    refine wpOps_val (w' := w4) (i := 3) (v := .pointer (some ⟨b4, 1, none⟩)) ?_ ?_ ?_ ?_
    all_goals subst ha
    · kernel_rfl
    · kernel_rfl
    · kernel_rfl
    generalize ha : Act.put _ _ _ = a1
    have e1a : a1.eval (.tmp 20) = .pointer (some ⟨b4, 1, none⟩) := by subst ha; kernel_rfl
    refine wpOps_val (w' := w4) (i := 4) (v := .int .i64 j) ?_ ?_ ?_ ?_
    · kernel_rfl
    · subst ha; kernel_rfl
    · have key : ∀ o : Oper, o.op = .load 3 (.tmp 20) → (execOp a1.eval o).run Try.prog w4 = .ok (.value (.int .i64 j)) w4 := by
        intro o ho
        simp only [execOp, ho, e1a]
        refine (bind_run (a := .int .i64 j) (w' := w4) ?_).trans rfl
        unfold Instr.loadAt
        rw [bind_run (show (Instr.sureAddr (.pointer (some ⟨b4, 1, none⟩))).run Try.prog w4 = .ok ⟨b4, 1, none⟩ w4 from rfl)]
        exact loadVar_one (by kernel_rfl) (p4.rd.cell 1)
      exact key _ (by kernel_rfl)
    subst ha
    generalize ha : Act.put _ _ _ = a1
    refine wpOps_call (w' := w4) (i := 5) (f := 76) (args := #[.pointer (some ⟨b4, 0, none⟩), .int .i64 j]) ?_ ?_ ?_ ?_
    · kernel_rfl
    · subst ha; kernel_rfl
    · subst ha; kernel_rfl
    refine (fail_ok b4 j rfl w4).2.mono fun e w5 he => ?_
    obtain ⟨rfl, rfl⟩ := he
    have hat : a1.tmps.toList.getD 2 undef = .pointer (some ⟨b1, 0, none⟩) := by subst ha; kernel_rfl
    have had : a1.defers = [dfr b1] := by subst ha; kernel_rfl
    subst hq
    show Leaves _ _ _ _ _ _ _
    rw [had]
    subst hR
    exact leave_bad (fr := a1.tmps.toList) (w0 := w) (p := readP (L s)) hat k4 (by omega) B4' (n := j) (by unfold readP; rw [if_neg (by omega), hp]; simp only []; rw [if_pos (by omega)]) rfl
  | true =>
    have hd' := of_decide_eq_true hd
    simp only [Bool.not_true, Bool.false_eq_true, if_false]
    generalize hq : Exit.then _ _ = Q
    generalize ha : Act.put _ _ _ = a1
    have ha' : a1 = act (fr26 s b1 b4 x) [dfr b1] := by subst ha; kernel_rfl
    clear ha
    subst ha'
    refine wp_skip ?_
    subst hq
    show (tailC 6 (bodyOf Try.f26)).wp _ _ _ _
    have hv := vt26 s b1 b4 x (fun f w' => Leaves Try.prog Try.f26 f.toArray R [dfr b1] .returning w') (fun _ _ => False)
    refine wp_mono (wpC_sound (ds := [dfr b1]) _ _ scrT26 _ _ (by
      rw [hv]
      unfold VT26
      refine drw_in fun w5 q5 e5 => ?_
      have r5 : Rd w5 b4 s j g 0 a3 l3 c3 := Blk.keep p4.rd e5 fun h => h
      refine ⟨g, r5.cell 2, a3, l3, c3, r5.cell 4, stW_in (k4.keep e5 fun h => h) (by show 0 + 4 ≤ 4; decide) fun w6 s6 k6 e6 => ?_⟩
      have B5 := Ext.to B4' e5 fun _ h => h.elim
      have B6 := Ext.to B5 e6 fun i hi => by omega
      refine leave_ok rfl k6 ?_
      subst hR
      have hr : readP (L s) = ⟨true, 0, g, out⟩ := by unfold readP; rw [if_neg (by omega), hp]; simp only []; rw [if_neg (by omega)]
      rw [hr]
      have q6 : Pcs (b4 + 1) w6 a3 l3 c3 rs3 out := (p4.pcs.keep e5 fun _ _ h => h).keep e6 fun k hk hb => by have := p4.pcs.low k hk; omega
      exact ⟨a3, l3, c3, rs3, rfl, ⟨q6.row, q6.len, q6.len', q6.all, q6.nodup, fun b hb => by have := q6.low b hb; omega⟩, B6⟩)) fun e a' w' hg => ?_
    cases e with
    | normal => obtain ⟨f, rfl, _, s', h3⟩ := hg; exact h3
    | ret => obtain ⟨f, rfl, _, s', h3⟩ := hg; exact h3
    | panic c => exact hg.2.elim
    | outgrown => exact hg.elim
    | exit i => obtain ⟨f, _, _, s', h3⟩ := hg; exact h3.elim
    | goto l => obtain ⟨f, _, _, s', h3⟩ := hg; exact h3.elim
end Go.Proofs.Ytngbiaeliphdjaa.V
/- A pattern that was read: its size; it is compared with itself. No statement of the seat is proved here. -/
namespace Go.Proofs.Ytngbiaeliphdjaa.V
open Go.Vc Go.Proofs Go.RowKit
set_option linter.unusedVariables false
set_option linter.unusedSimpArgs false
theorem fits_read (l : Bytes) : Fits (readP l).pieces := by
  have := readP_small l
  exact ⟨by omega, fun x hx => by have := this.1 x hx; have h1 := this.1; have h2 := this.2; omega⟩
theorem wPattern_ok {w : World} {N1 N2 : Nat} {a1 a2 : Option Addr} {l1 l2 c1 c2 : Nat} {rs1 rs2 : List Raw} {P : Pat} (h1 : Pcs N1 w a1 l1 c1 rs1 P.pieces) (h2 : Pcs N2 w a2 l2 c2 rs2 P.pieces) (hf : Fits P.pieces) :
    Cl Try.prog 25 [.agg #[.bool P.ok, .int .i64 (P.at_ : Int), .int .i64 (P.groups : Int), .slice a1 l1 c1], .agg #[.bool P.ok, .int .i64 (P.at_ : Int), .int .i64 (P.groups : Int), .slice a2 l2 c2]] w (RetB (.bool true) w) := by
  apply vc25
  unfold V25
  refine newC_in fun w10 s10 k10 e10 => ?_
  refine newC_in fun w12 s12 k12 e12 => ?_
  have k10' := k10.keep e12 fun h => h
  have B12 : Below w.heap.size w w12 := Ext.to (Ext.to (Below.refl _ _) e10 fun _ h => h.elim) e12 fun _ h => h.elim
  refine ⟨_, k10'.cell 0, _, k12.cell 0, fun _ => ⟨_, k10'.cell 1, _, k12.cell 1, fun _ => ⟨_, k10'.cell 2, _, k12.cell 2, fun _ => ⟨_, _, _, k10'.cell 3, _, _, _, k12.cell 3, ?_⟩, fun g => by simp at g⟩, fun g => by simp at g⟩, fun g => by simp at g⟩
  refine (wPieces_ok (h1.below B12) (h2.below B12) hf hf).use fun e w22 he => ?_
  obtain ⟨b, rfl, hb, B22⟩ := he
  have hbt : b = true := hb.2 rfl
  subst hbt
  exact ⟨true, rfl, rfl, B12.vstep B22⟩
end Go.Proofs.Ytngbiaeliphdjaa.V
/- The program compares two patterns: the walk. Printed by mksame.py from LawP's proof. No statement of the seat is proved here. -/
namespace Go.Proofs.Ytngbiaeliphdjaa.V
open Go.Vc Go.Proofs Go.RowKit
set_option linter.unusedVariables false
set_option linter.unusedSimpArgs false
theorem same_V {w : World} {b9 b11 : Nat} {t1 t5 : Bool} {n2 n3 n6 n7 : Int} {N1 N2 : Nat} {a1 a2 : Option Addr} {l1 l2 c1 c2 : Nat} {rs1 rs2 : List Raw} {ps1 ps2 : List Pc} (q9 : Blk w.heap b9 37 [.bool t1, .int .i64 n2, .int .i64 n3, .slice a1 l1 c1]) (q11 : Blk w.heap b11 37 [.bool t5, .int .i64 n6, .int .i64 n7, .slice a2 l2 c2]) (h1 : Pcs N1 w a1 l1 c1 rs1 ps1) (h2 : Pcs N2 w a2 l2 c2 rs2 ps2) (f1 : Fits ps1) (f2 : Fits ps2) {R : Rt}
    (hR : ∀ (b : Bool) (w' : World), (b = true ↔ ps1 = ps2) → Below w.heap.size w w' → R (.returned (.bool b)) w') : lL w b9 3 fun a19 l19 c19 => lL w b11 3 fun a20 l20 c20 => (cB (((l19 : Nat) : Int) != ((l20 : Nat) : Int)) (R (.returned (.bool false)) w) (lL w b9 3 fun a21 l21 c21 => ∃ (I22 : Nat → Int → World → Prop), (∃ k24, I22 k24 0 w) ∧ ∀ k23 (d26 : Nat → Value) n27 w25, I22 k23 n27 w25 → (cB (decide (n27 < ((l21 : Nat) : Int))) (ixS a21 l21 n27 fun b28 o29 => lI w25 b28 (o29 + (Int.toNat n27) * 7) fun n30 => lL w25 b28 (o29 + (Int.toNat n27) * 7 + 1) fun a31 l31 c31 => lI w25 b28 (o29 + (Int.toNat n27) * 7 + 2) fun n32 => lI w25 b28 (o29 + (Int.toNat n27) * 7 + 3) fun n33 => lB w25 b28 (o29 + (Int.toNat n27) * 7 + 4) fun t34 => lI w25 b28 (o29 + (Int.toNat n27) * 7 + 5) fun n35 => lL w25 b28 (o29 + (Int.toNat n27) * 7 + 6) fun a36 l36 c36 => newC [.int .i64 0, .slice none 0 0, .int .i64 0, .int .i64 0, .bool false, .int .i64 0, .slice none 0 0] 111 (fun b37 w38 => stW b37 0 [.int .i64 n30, .slice a31 l31 c31, .int .i64 n32, .int .i64 n33, .bool t34, .int .i64 n35, .slice a36 l36 c36] (fun w39 => lL w39 b11 3 fun a40 l40 c40 => ixS a40 l40 n27 fun b41 o42 => lI w39 b41 (o42 + (Int.toNat n27) * 7) fun n43 => lL w39 b41 (o42 + (Int.toNat n27) * 7 + 1) fun a44 l44 c44 => lI w39 b41 (o42 + (Int.toNat n27) * 7 + 2) fun n45 => lI w39 b41 (o42 + (Int.toNat n27) * 7 + 3) fun n46 => lB w39 b41 (o42 + (Int.toNat n27) * 7 + 4) fun t47 => lI w39 b41 (o42 + (Int.toNat n27) * 7 + 5) fun n48 => lL w39 b41 (o42 + (Int.toNat n27) * 7 + 6) fun a49 l49 c49 => newC [.int .i64 0, .slice none 0 0, .int .i64 0, .int .i64 0, .bool false, .int .i64 0, .slice none 0 0] 111 (fun b50 w51 => stW b50 0 [.int .i64 n43, .slice a44 l44 c44, .int .i64 n45, .int .i64 n46, .bool t47, .int .i64 n48, .slice a49 l49 c49] (fun w52 => lI w52 b37 0 fun n53 => lI w52 b50 0 fun n54 => (cB (n53 != n54) (R (.returned (.bool false)) w52) (lI w52 b37 2 fun n55 => lI w52 b50 2 fun n56 => (cB (n55 != n56) (R (.returned (.bool false)) w52) (lI w52 b37 3 fun n57 => lI w52 b50 3 fun n58 => (cB (n57 != n58) (R (.returned (.bool false)) w52) (lB w52 b37 4 fun t59 => lB w52 b50 4 fun t60 => (cB (!(t59 == t60)) (R (.returned (.bool false)) w52) (lI w52 b37 5 fun n61 => lI w52 b50 5 fun n62 => (cB (n61 != n62) (R (.returned (.bool false)) w52) (lL w52 b37 1 fun a63 l63 c63 => lL w52 b50 1 fun a64 l64 c64 => (cB (((l63 : Nat) : Int) != ((l64 : Nat) : Int)) (R (.returned (.bool false)) w52) (lL w52 b37 6 fun a65 l65 c65 => lL w52 b50 6 fun a66 l66 c66 => (cB (((l65 : Nat) : Int) != ((l66 : Nat) : Int)) (R (.returned (.bool false)) w52) (lL w52 b37 1 fun a67 l67 c67 => ∃ (I68 : Nat → Int → World → Prop), (∃ k70, I68 k70 0 w52) ∧ ∀ k69 (d72 : Nat → Value) n73 w71, I68 k69 n73 w71 → (cB (decide (n73 < ((l67 : Nat) : Int))) (drw (fun w74 => lL w74 b37 1 fun a75 l75 c75 => ixS a75 l75 n73 fun b76 o77 => lI w74 b76 (o77 + (Int.toNat n73) * 2) fun n78 => lI w74 b76 (o77 + (Int.toNat n73) * 2 + 1) fun n79 => lL w74 b50 1 fun a80 l80 c80 => ixS a80 l80 n73 fun b81 o82 => lI w74 b81 (o82 + (Int.toNat n73) * 2) fun n83 => lI w74 b81 (o82 + (Int.toNat n73) * 2 + 1) fun n84 => ∃ t85, (do pure (Value.bool (!(← Op.equal 134 (.agg #[.int .i64 n78, .int .i64 n79]) (.agg #[.int .i64 n83, .int .i64 n84])))) : Sem Value).run Try.prog w74 = .ok (.bool t85) w74 ∧ (cB t85 (R (.returned (.bool false)) w74) ((∃ m86, m86 < k69 ∧ I68 m86 (IntKind.wrap .i64 (n73 + 1)) w74)))) w71) (lL w71 b37 6 fun a87 l87 c87 => ∃ (I88 : Nat → Int → World → Prop), (∃ k90, I88 k90 0 w71) ∧ ∀ k89 (d92 : Nat → Value) n93 w91, I88 k89 n93 w91 → (cB (decide (n93 < ((l87 : Nat) : Int))) (drw (fun w94 => lL w94 b37 6 fun a95 l95 c95 => ixS a95 l95 n93 fun b96 o97 => lI w94 b96 (o97 + (Int.toNat n93) * 1) fun n98 => lL w94 b50 6 fun a99 l99 c99 => ixS a99 l99 n93 fun b100 o101 => lI w94 b100 (o101 + (Int.toNat n93) * 1) fun n102 => (cB (n98 != n102) (R (.returned (.bool false)) w94) ((∃ m103, m103 < k89 ∧ I88 m103 (IntKind.wrap .i64 (n93 + 1)) w94)))) w91) ((∃ m104, m104 < k23 ∧ I22 m104 (IntKind.wrap .i64 (n27 + 1)) w91)))))))))))))))))))) w51) w39) w38) w25) (R (.returned (.bool true)) w25)))) := by
  have hl1 := h1.len
  have hl2 := h2.len
  have hl1' := h1.len'
  have hl2' := h2.len'
  have hb1 := f1.1
  have hb2 := f2.1
  have no : ps1 ≠ ps2 → ∀ {w'}, Below w.heap.size w w' → R (.returned (.bool false)) w' := fun hne {w'} hb => hR false w' ⟨fun h => (by cases h), fun h => absurd h hne⟩ hb
  refine ⟨_, _, _, q9.cell 3, _, _, _, q11.cell 3, fun g => no (fun h => ?_) (Below.refl _ _), fun g => ⟨_, _, _, q9.cell 3, ?_⟩⟩
  · subst h
    have : ((l1 : Nat) : Int) ≠ l2 := by simpa using g
    omega
  have hll : l1 = l2 := by have : ((l1 : Nat) : Int) = l2 := by simpa using g
                           omega
  refine ⟨fun k n w' => ∃ i : Nat, n = i ∧ i ≤ l1 ∧ k = l1 - i ∧ ps1.take i = ps2.take i ∧ Below w.heap.size w w', ⟨_, 0, rfl, by omega, rfl, rfl, Below.refl _ _⟩, ?_⟩
  rintro k d n w6 ⟨i, rfl, hi, rfl, htk, hb⟩
  refine ⟨fun g => ?_, fun g => hR true _ ⟨fun _ => ?_, fun _ => rfl⟩ hb⟩
  rotate_left
  · have : i = l1 := by have := of_decide_eq_false g; omega
    subst this
    rw [List.take_of_length_le (by omega), List.take_of_length_le (by omega)] at htk
    exact htk
  have gi : i < l1 := by have := of_decide_eq_true g; omega
  have e0 : Int.toNat (i : Int) = i := by omega
  have e1 : IntKind.wrap .i64 ((i : Int) + 1) = ((i + 1 : Nat) : Int) := by rw [w64 (by omega)]; omega
  rw [e0, e1]
  have P1 := h1.below hb
  have P2 := h2.below hb
  obtain ⟨b1, ha1, hc1⟩ := P1.row.open (by omega)
  obtain ⟨b2, ha2, hc2⟩ := P2.row.open (by omega)
  have i1 : i < rs1.length := by omega
  have i2 : i < rs2.length := by omega
  have j1 : i < ps1.length := by omega
  have j2 : i < ps2.length := by omega
  have k1 := fun o ho => raw_at hc1 hl1 i1 o ho
  have k2 := fun o ho => raw_at hc2 hl2 i2 o ho
  have o1 := P1.all i _ _ (List.getElem?_eq_getElem i1) (List.getElem?_eq_getElem j1)
  have o2 := P2.all i _ _ (List.getElem?_eq_getElem i2) (List.getElem?_eq_getElem j2)
  have s1 := f1.2 _ (List.getElem_mem j1)
  have s2 := f2.2 _ (List.getElem_mem j2)
  have hsuf : ∀ {w'}, Below w.heap.size w w' → ps1[i] = ps2[i] → ∃ m84, m84 < l1 - i ∧ ∃ i_1 : Nat, ((i + 1 : Nat) : Int) = i_1 ∧ i_1 ≤ l1 ∧ m84 = l1 - i_1 ∧ ps1.take i_1 = ps2.take i_1 ∧ Below w.heap.size w w' := fun hb' he =>
    ⟨_, by omega, i + 1, rfl, by omega, rfl, by rw [List.take_succ_eq_append_getElem j1, List.take_succ_eq_append_getElem j2, htk, he], hb'⟩
  have no' : ps1[i] ≠ ps2[i] → ∀ {w'}, Below w.heap.size w w' → R (.returned (.bool false)) w' := fun hne => no fun h => hne (by subst h; rfl)
  generalize rs1[i] = r1 at *
  generalize rs2[i] = r2 at *
  generalize ps1[i] = p1 at *
  generalize ps2[i] = p2 at *
  refine ⟨b1, 0, ⟨ha1, by omega, by omega⟩, _, k1 0 (by decide), _, _, _, k1 1 (by decide), _, k1 2 (by decide), _, k1 3 (by decide), _, k1 4 (by decide), _, k1 5 (by decide), _, _, _, k1 6 (by decide), ?_⟩
  refine newC_in fun w19 z19 q19 x19 => ?_
  refine stW_in q19 (by show 0 + 7 ≤ 7; decide) fun w20 z20 q20 x20 => ?_
  have B20 : Below w6.heap.size w6 w20 := Ext.to (Ext.to (Below.refl _ _) x19 fun _ h => h.elim) x20 fun i hi => by omega
  have P2' := P2.below B20
  obtain ⟨b2', ha2', hc2'⟩ := P2'.row.open (by omega)
  obtain rfl : b2' = b2 := by rw [ha2] at ha2'; injection ha2' with h; injection h with h; exact h.symm
  have k2' : ∀ o, o < 7 → cellH w20.heap b2' (0 + i * 7 + o) = r2.cells[o]? := fun o ho => by
    have hlt := P2.row.lt b2' (by rw [ha2]; rfl)
    rw [B20.vcell hlt]; exact k2 o ho
  refine ⟨_, _, _, ((q11.below hb).below B20).cell 3, b2', 0, ⟨ha2, by omega, by omega⟩, _, k2' 0 (by decide), _, _, _, k2' 1 (by decide), _, k2' 2 (by decide), _, k2' 3 (by decide), _, k2' 4 (by decide), _, k2' 5 (by decide), _, _, _, k2' 6 (by decide), ?_⟩
  refine newC_in fun w31 z31 q31 x31 => ?_
  refine stW_in q31 (by show 0 + 7 ≤ 7; decide) fun w32 z32 q32 x32 => ?_
  have B32 : Below w20.heap.size w20 w32 := Ext.to (Ext.to (Below.refl _ _) x31 fun _ h => h.elim) x32 fun i hi => by omega
  have B632 := B20.vstep B32
  have Bw := hb.vstep B632
  have y1 : ∀ o, o < 7 → cellH w32.heap w6.heap.size o = r1.cells[o]? := fun o ho => (q20.below B32).cell o
  have y2 : ∀ o, o < 7 → cellH w32.heap w20.heap.size o = r2.cells[o]? := fun o ho => q32.cell o
  have K1 := q20.below B32
  have S1 := o1.keep (S := fun _ => False) (Ext.of_below B632) fun _ _ h => h
  have S2 := o2.keep (S := fun _ => False) (Ext.of_below B632) fun _ _ h => h
  have sl1 : r1.sl = p1.set.length := by have := S1.set.1; rw [rngC_length] at this; omega
  have sl2 : r2.sl = p2.set.length := by have := S2.set.1; rw [rngC_length] at this; omega
  have kl1 : r1.kl = p1.kids.length := by have := S1.kids.1; rw [intC_length] at this; omega
  have kl2 : r2.kl = p2.kids.length := by have := S2.kids.1; rw [intC_length] at this; omega
  have ne_i : ∀ {x y : Int}, (x != y) = true → x ≠ y := fun h => by simpa using h
  have eq_i : ∀ {x y : Int}, (x != y) = false → x = y := fun h => by simpa using h
  refine ⟨_, y1 0 (by decide), _, y2 0 (by decide), fun g => no' (fun h => ne_i g (by rw [o1.kind, o2.kind, h])) Bw, fun u0 => ⟨_, y1 2 (by decide), _, y2 2 (by decide), fun g => no' (fun h => ne_i g (by rw [o1.min, o2.min, h])) Bw, fun u2 => ⟨_, y1 3 (by decide), _, y2 3 (by decide), fun g => no' (fun h => ne_i g (by rw [o1.max, o2.max, h])) Bw, fun u3 =>
    ⟨_, y1 4 (by decide), _, y2 4 (by decide), fun g => no' (fun h => by rw [o1.lazy, o2.lazy, h] at g; simp at g) Bw, fun u4 => ⟨_, y1 5 (by decide), _, y2 5 (by decide), fun g => no' (fun h => ne_i g (by rw [o1.num, o2.num, h])) Bw, fun u5 => ⟨_, _, _, y1 1 (by decide), _, _, _, y2 1 (by decide), fun g => no' (fun h => ne_i g (by rw [sl1, sl2, h])) Bw, fun u1 =>
    ⟨_, _, _, y1 6 (by decide), _, _, _, y2 6 (by decide), fun g => no' (fun h => ne_i g (by rw [kl1, kl2, h])) Bw, fun u6 => ⟨_, _, _, y1 1 (by decide), ?_⟩⟩⟩⟩⟩⟩⟩⟩
  have v0 := eq_i u0
  have v2 := eq_i u2
  have v3 := eq_i u3
  have v4 : r1.lazy = r2.lazy := by simpa using u4
  have v5 := eq_i u5
  have v1 : p1.set.length = p2.set.length := by have := eq_i u1; omega
  have v6 : p1.kids.length = p2.kids.length := by have := eq_i u6; omega
  refine ⟨fun k n w' => ∃ j : Nat, n = j ∧ j ≤ p1.set.length ∧ k = p1.set.length - j ∧ p1.set.take j = p2.set.take j ∧ Below w32.heap.size w32 w', ⟨_, 0, rfl, by omega, rfl, rfl, Below.refl _ _⟩, ?_⟩
  rintro k5 d5 _ w51 ⟨j, rfl, hj, rfl, htj, B51⟩
  have Bw51 := Bw.vstep B51
  refine ⟨fun g => ?_, fun g => ?_⟩
  · have gj : j < p1.set.length := by have := of_decide_eq_true g; omega
    have gj2 : j < p2.set.length := by omega
    have f0 : Int.toNat (j : Int) = j := by omega
    have f1 : IntKind.wrap .i64 ((j : Int) + 1) = ((j + 1 : Nat) : Int) := by rw [w64 (by omega)]; omega
    rw [f0, f1]
    refine drw_in fun w54 z54 x54 => ?_
    have B54 := Ext.to B51 x54 fun _ h => h.elim
    have Bw54 := Ext.to Bw51 x54 fun _ h => h.elim
    have T1 := S1.keep (S := fun _ => False) (Ext.of_below B54) fun _ _ h => h
    have T2 := S2.keep (S := fun _ => False) (Ext.of_below B54) fun _ _ h => h
    obtain ⟨d1, hd1, hg1⟩ := T1.set.open (by omega)
    obtain ⟨d2, hd2, hg2⟩ := T2.set.open (by omega)
    have m1 := rngC_at p1.set j gj
    have m2 := rngC_at p2.set j gj2
    refine ⟨_, _, _, (K1.below B54).cell 1, d1, 0, ⟨hd1, by omega, by omega⟩, _, by rw [Nat.zero_add, hg1 _ (by omega)]; exact m1.1, _, by rw [Nat.zero_add, hg1 _ (by omega)]; exact m1.2,
      _, _, _, (q32.below B54).cell 1, d2, 0, ⟨hd2, by omega, by omega⟩, _, by rw [Nat.zero_add, hg2 _ (by omega)]; exact m2.1, _, by rw [Nat.zero_add, hg2 _ (by omega)]; exact m2.2, _, ne134 _ _ _ _ _, ?_⟩
    refine ⟨fun g => no' (fun h => ?_) Bw54, fun g => ?_⟩
    · subst h; simp at g
    · have h5 : (p1.set[j].1 == p2.set[j].1 && p1.set[j].2 == p2.set[j].2) = true := by simpa using g
      simp only [Bool.and_eq_true, beq_iff_eq] at h5
      have he : p1.set[j] = p2.set[j] := Prod.ext h5.1 h5.2
      exact ⟨_, by omega, j + 1, rfl, by omega, rfl, by rw [List.take_succ_eq_append_getElem gj, List.take_succ_eq_append_getElem gj2, htj, he], B54⟩
  have hset : p1.set = p2.set := by
    have : j = p1.set.length := by have := of_decide_eq_false g; omega
    subst this
    rw [List.take_of_length_le (by omega), List.take_of_length_le (by omega)] at htj
    exact htj
  refine ⟨_, _, _, (K1.below B51).cell 6, ?_⟩
  refine ⟨fun k n w' => ∃ j : Nat, n = j ∧ j ≤ p1.kids.length ∧ k = p1.kids.length - j ∧ p1.kids.take j = p2.kids.take j ∧ Below w32.heap.size w32 w', ⟨_, 0, rfl, by omega, rfl, rfl, B51⟩, ?_⟩
  rintro k6 d6 _ w71 ⟨j, rfl, hj, rfl, htj, B71⟩
  have Bw71 := Bw.vstep B71
  refine ⟨fun g => ?_, fun g => ?_⟩
  · have gj : j < p1.kids.length := by have := of_decide_eq_true g; omega
    have gj2 : j < p2.kids.length := by omega
    have f0 : Int.toNat (j : Int) = j := by omega
    have f1 : IntKind.wrap .i64 ((j : Int) + 1) = ((j + 1 : Nat) : Int) := by rw [w64 (by omega)]; omega
    rw [f0, f1]
    refine drw_in fun w74 z74 x74 => ?_
    have B74 := Ext.to B71 x74 fun _ h => h.elim
    have Bw74 := Ext.to Bw71 x74 fun _ h => h.elim
    have T1 := S1.keep (S := fun _ => False) (Ext.of_below B74) fun _ _ h => h
    have T2 := S2.keep (S := fun _ => False) (Ext.of_below B74) fun _ _ h => h
    obtain ⟨d1, hd1, hg1⟩ := T1.kids.open (by omega)
    obtain ⟨d2, hd2, hg2⟩ := T2.kids.open (by omega)
    refine ⟨_, _, _, (K1.below B74).cell 6, d1, 0, ⟨hd1, by omega, by omega⟩, _, by rw [show 0 + j * 1 = j from by omega, hg1 _ (by omega)]; exact intC_at _ j gj,
      _, _, _, (q32.below B74).cell 6, d2, 0, ⟨hd2, by omega, by omega⟩, _, by rw [show 0 + j * 1 = j from by omega, hg2 _ (by omega)]; exact intC_at _ j gj2, ?_⟩
    refine ⟨fun g => no' (fun h => ?_) Bw74, fun g => ?_⟩
    · subst h; simp at g
    · exact ⟨_, by omega, j + 1, rfl, by omega, rfl, by rw [List.take_succ_eq_append_getElem gj, List.take_succ_eq_append_getElem gj2, htj, eq_i g], B74⟩
  have hkids : p1.kids = p2.kids := by
    have : j = p1.kids.length := by have := of_decide_eq_false g; omega
    subst this
    rw [List.take_of_length_le (by omega), List.take_of_length_le (by omega)] at htj
    exact htj
  exact hsuf Bw71 (pc_ext (by rw [← o1.kind, ← o2.kind]; exact v0) hset (by rw [← o1.min, ← o2.min]; exact v2) (by rw [← o1.max, ← o2.max]; exact v3) (by rw [← o1.lazy, ← o2.lazy]; exact v4) (by rw [← o1.num, ← o2.num]; exact v5) hkids)
def RetSm (t1 t5 : Bool) (n2 n3 n6 n7 : Int) (ps1 ps2 : List Pc) (w : World) : Rt := fun e w' => ∃ b : Bool, e = .returned (.bool b) ∧ (b = true ↔ t1 = t5 ∧ n2 = n6 ∧ n3 = n7 ∧ ps1 = ps2) ∧ Below w.heap.size w w'
theorem same_ok {w : World} {N1 N2 : Nat} {a1 a2 : Option Addr} {l1 l2 c1 c2 : Nat} {rs1 rs2 : List Raw} {ps1 ps2 : List Pc} (h1 : Pcs N1 w a1 l1 c1 rs1 ps1) (h2 : Pcs N2 w a2 l2 c2 rs2 ps2) (f1 : Fits ps1) (f2 : Fits ps2) (t1 t5 : Bool) (n2 n3 n6 n7 : Int) :
    Cl Try.prog 101 [.agg #[.bool t1, .int .i64 n2, .int .i64 n3, .slice a1 l1 c1], .agg #[.bool t5, .int .i64 n6, .int .i64 n7, .slice a2 l2 c2]] w (RetSm t1 t5 n2 n3 n6 n7 ps1 ps2 w) := by
  apply vc101
  unfold V101
  refine newC_in fun w10 s10 k10 e10 => ?_
  refine newC_in fun w12 s12 k12 e12 => ?_
  have q10 := k10.keep e12 fun h => h
  have B12 : Below w.heap.size w w12 := Ext.to (Ext.to (Below.refl _ _) e10 fun _ h => h.elim) e12 fun _ h => h.elim
  refine ⟨_, q10.cell 0, _, k12.cell 0, fun g => ⟨false, rfl, ⟨fun h => (by cases h), fun h => ?_⟩, B12⟩, fun u0 => ⟨_, q10.cell 1, _, k12.cell 1, fun g => ⟨false, rfl, ⟨fun h => (by cases h), fun h => ?_⟩, B12⟩, fun u1 => ⟨_, q10.cell 2, _, k12.cell 2, fun g => ⟨false, rfl, ⟨fun h => (by cases h), fun h => ?_⟩, B12⟩, fun u2 => ?_⟩⟩⟩
  · rw [h.1] at g; simp at g
  · rw [h.2.1] at g; simp at g
  · rw [h.2.2.1] at g; simp at g
  have v0 : t1 = t5 := by simpa using u0
  have v1 : n2 = n6 := by simpa using u1
  have v2 : n3 = n7 := by simpa using u2
  exact same_V (R := RetSm t1 t5 n2 n3 n6 n7 ps1 ps2 w) (N1 := N1) (N2 := N2) q10 k12 (h1.below B12) (h2.below B12) f1 f2 fun b w' hb' hB => ⟨b, rfl, ⟨fun h => ⟨v0, v1, v2, hb'.1 h⟩, fun h => hb'.2 h.2.2.2⟩, B12.vstep hB⟩
end Go.Proofs.Ytngbiaeliphdjaa.V

/- Parts of a proof, put together: definitions, formulas of Go functions and lemmas. No statement of the seat is proved here. -/
import Derived.Laws.MakeOwn
import Derived.Test.YtngbiaeliphdjaaRiB
set_option maxHeartbeats 4000000
/- What more does in the program's finder. No statement of the seat is proved here. -/
namespace Go.Proofs.Ytngbiaeliphdjaa.V
open Go.Vc Go.Proofs Go.RowKit
set_option linter.unusedVariables false
set_option linter.unusedSimpArgs false
structure CxOk (c : Cx) : Prop where
  wf : Wf c.P.groups c.P.pieces
  g9 : c.P.groups ≤ 9
  len : c.P.pieces.length ≤ 482
  n200 : c.n ≤ 200
  small : AllS c.P.pieces
theorem CxOk.wok {c : Cx} (h : CxOk c) (k i : Nat) (hi : i ≤ c.n) : ∀ w ∈ c.ends k i, WOk c.P.groups c.n i w :=
  endsP_ok (fun x hx h5 => by
    obtain ⟨j, hj⟩ := List.getElem?_of_mem hx
    have := (h.wf j x hj).num h5
    omega) k i hi
theorem CxOk.short {c : Cx} (h : CxOk c) (k i : Nat) (hi : i ≤ c.n) : (c.ends k i).length ≤ 201 := by
  have := (endsP_dd c.P.pieces (L c.t) k i).short fun x hx => (h.wok k i hi x hx).hi
  have := h.n200
  show (endsP c.P.pieces (L c.t) k i).length ≤ 201
  omega
theorem CxOk.mok {c : Cx} (h : CxOk c) (k i : Nat) (left : Option Nat) (hi : i ≤ c.n) : ∀ w ∈ c.more k left i, WOk c.P.groups c.n i w :=
  moreP_ok (fun p hp => h.wok _ p hp) _ i left rfl hi
theorem CxOk.mshort {c : Cx} (h : CxOk c) (k i : Nat) (left : Option Nat) (hi : i ≤ c.n) : (c.more k left i).length ≤ 201 := by
  have := (moreP_dd (c.sub k) c.n (c.P.pieces.getD k pSta).lazy left i).short fun x hx => (h.mok k i left hi x hx).hi
  have := h.n200
  show (moreP (c.sub k) c.n (c.P.pieces.getD k pSta).lazy left i).length ≤ 201
  omega
/-- One piece in memory. -/
theorem FInv.piece {c : Cx} {X : Nat → Prop} {w : World} (h : FInv c X w) {k : Nat} (hk : k < c.P.pieces.length) :
    ∃ bp r, c.pa = some ⟨bp, 0, none⟩ ∧ k < c.pl ∧ (∀ o, o < 7 → cellH w.heap bp (0 + k * 7 + o) = r.cells[o]?) ∧ RawOk w r (c.P.pieces.getD k pSta) ∧ ∀ q ∈ r.blocks, q ∈ blks c.pa c.rs := by
  have h1 := h.pcs.len
  have h2 := h.pcs.len'
  obtain ⟨b, hb, hc⟩ := h.pcs.row.open (by omega)
  refine ⟨b, c.rs[k]'(by omega), hb, by omega, raw_at hc h1 (i := k) (by omega), ?_, fun q hq => List.mem_append_right _ (List.mem_flatMap.2 ⟨_, List.getElem_mem _, hq⟩)⟩
  refine h.pcs.all k _ _ (List.getElem?_eq_getElem (by omega)) ?_
  rw [List.getD_eq_getElem?_getD, List.getElem?_eq_getElem hk]; rfl
/-- The memo has it. -/
theorem memo_get {c : Cx} {X : Nat → Prop} {w0 w : World} (h : FInv c X w) (E : Ext (fun x => x = c.m) w0 w) (x y z : Int) :
    ∃ (a : Option Addr) (l cp : Nat) (t : Bool), (Instr.lookup 126 (.map (some c.m)) (.agg #[.int .i64 x, .int .i64 y, .int .i64 z]) true).run Try.prog w = .ok (.tuple #[.slice a l cp, .bool t]) w ∧ (t = true → Good c X w x y z a l cp) := lookup_run h.memo x y z
/-- The memo is told. -/
theorem memo_put {c : Cx} {X X1 : Nat → Prop} {w0 w : World} {b : Nat} {ws : List Wy} (S : LSt c X w0 b X1 w ws) (hX0 : ∀ x, X x → x < w0.heap.size) (hm : c.m < w0.heap.size) (x y z : Int) (hg : ∀ (w : World) (a : Option Addr) (l cp : Nat), WaysAt c X w a l cp ws → Good c X w x y z a l cp) :
    ∃ (a : Option Addr) (l cp : Nat) (w' : World), cellH w.heap b 0 = some (.slice a l cp) ∧ (Instr.mapUpdate 126 (.map (some c.m)) (.agg #[.int .i64 x, .int .i64 y, .int .i64 z]) (.slice a l cp)).run Try.prog w = .ok () w' ∧ cellH w'.heap b 0 = some (.slice a l cp) ∧ ResW c X w0 ws (.returned (.slice a l cp)) w' := by
  obtain ⟨a, l, cp, h1, h2, h3⟩ := S.res hX0 hm
  obtain ⟨w', r1, r2, r3, r4⟩ := update_run h3.memo (hg w a l cp h2)
  have hbm : b ≠ c.m := by have := S.new; omega
  have hbl : b < w.heap.size := (S.fin.priv b S.mem).2.2.2
  have hgrow : ∀ {a : Option Addr} {l cp : Nat} {ws : List Wy}, WaysAt c X w a l cp ws → WaysAt c X w' a l cp ws := fun h => h.grow r4 (fun _ h => .inr h) fun _ h => .inl h
  refine ⟨a, l, cp, w', h1, r1, by rw [Ext.cellH r4 hbl hbm]; exact h1, a, l, cp, rfl, hgrow h2, ⟨h3.fb.keep r4 h3.ne1, h3.pcs.keep r4 fun k hk hkm => h3.ne2 (hkm ▸ hk), r3.mono fun x y z a l cp hg => ?_, h3.ne1, h3.ne2, fun q hq => ?_⟩, S.ext.trans r4⟩
  · exact ⟨fun k i e1 e2 e3 => hgrow (hg.1 k i e1 e2 e3), fun k i left e1 e2 e3 => hgrow (hg.2 k i left e1 e2 e3)⟩
  · have := h3.priv q hq
    exact ⟨this.1, this.2.1, this.2.2.1, by omega⟩
theorem leftI_inj {a b : Option Nat} (h : leftI a = leftI b) : a = b := by
  cases a <;> cases b <;> simp only [leftI] at h
  · rfl
  · omega
  · omega
  · congr 1; omega
theorem leftI_ge (a : Option Nat) : -1 ≤ leftI a := by cases a <;> simp only [leftI] <;> omega
theorem good_more {c : Cx} {X : Nat → Prop} {w : World} {k i : Nat} {left : Option Nat} {a : Option Addr} {l cp : Nat} (h : WaysAt c X w a l cp (c.more k left i)) : Good c X w k i (leftI left) a l cp := by
  refine ⟨fun k' i' _ _ h3 => ?_, fun k' i' left' h1 h2 h3 => ?_⟩
  · have := leftI_ge left; omega
  · obtain rfl : k = k' := by omega
    obtain rfl : i = i' := by omega
    obtain rfl := leftI_inj h3
    exact h
theorem good_ways {c : Cx} {X : Nat → Prop} {w : World} {k i : Nat} {a : Option Addr} {l cp : Nat} (h : WaysAt c X w a l cp (c.ends k i)) : Good c X w k i (-2) a l cp := by
  refine ⟨fun k' i' h1 h2 _ => ?_, fun k' i' left' h1 h2 h3 => ?_⟩
  · obtain rfl : k = k' := by omega
    obtain rfl : i = i' := by omega
    exact h
  · have := leftI_ge left'; omega
/-- What a way on gives. -/
def stepM (c : Cx) (k : Nat) (left : Option Nat) (i : Nat) (a : Wy) : List Wy := if i < a.1 ∧ a.1 ≤ c.n then (c.more k (left.map (· - 1)) a.1).map (ovW a.2) else []
theorem more_eq (c : Cx) (k : Nat) (left : Option Nat) (i : Nat) : c.more k left i = addA [] ((if (c.P.pieces.getD k pSta).lazy then [(i, gNone)] else []) ++ (if left = some 0 then [] else (c.sub k i).flatMap (stepM c k left i)) ++ [(i, gNone)]) := by
  show moreP _ _ _ _ _ = _
  rw [moreP]
  congr 3
theorem fmore_ok {c : Cx} (ok : CxOk c) {k : Nat} (hk : k < c.P.pieces.length) (h4 : (c.P.pieces.getD k pSta).kind = 4) (hsub : ∀ k', k' < k → WaysC c k') : MoreC c k := by
  have hpk : c.P.pieces[k]? = some (c.P.pieces.getD k pSta) := by rw [List.getD_eq_getElem?_getD, List.getElem?_eq_getElem hk]; rfl
  have hpo := ok.wf k _ hpk
  obtain ⟨kid, hkid⟩ := hpo.one (.inl h4)
  have hkb := hpo.kids kid (by rw [hkid]; simp)
  have hkt : (kid.toNat : Int) = kid := by omega
  have hsubk : c.sub k = c.ends kid.toNat := by funext i; unfold Cx.sub; rw [hkid]; rfl
  intro X w i left hF hi hlq
  induction hm : c.n - i using Nat.strongRecOn generalizing X w i left with
  | _ m ih =>
  apply vc135
  unfold V135
  have hX0 : ∀ x, X x → x < w.heap.size := fun x hx => (hF.priv x hx).2.2.2
  have hml := hF.memo.lt
  have hn200 := ok.n200
  have hlen482 := ok.len
  refine newC_in fun w7 s7 k7 e7 => ?_
  generalize hb6 : w.heap.size = b6 at *
  refine stW_in k7 (by show 0 + 3 ≤ 3; decide) fun w8 s8 k8 e8 => ?_
  have k8' : Blk w8.heap b6 159 [.int .i64 k, .int .i64 i, .int .i64 (leftI left)] := k8
  refine drw_in fun w9 q9 e9 => ?_
  have B9 : Below w.heap.size w w9 := Ext.to (Ext.to (Ext.to (Below.refl _ _) e7 fun _ h => h.elim) e8 fun i hi => by omega) e9 fun _ h => h.elim
  have k9 := k8'.keep e9 fun h => h
  have F9 := hF.below B9
  obtain ⟨a0, l0, c0, t0, hl1, hl2⟩ := memo_get F9 (Ext.refl _ _) (k : Int) (i : Int) (leftI left)
  refine ⟨some c.m, F9.fb.cell 5, _, k9.cell 0, _, k9.cell 1, _, k9.cell 2, a0, l0, c0, t0, hl1, fun ht => ?_, fun ht => ?_⟩
  · exact ⟨a0, l0, c0, rfl, (hl2 ht).2 k i left rfl rfl rfl, F9, Ext.of_below (hb6 ▸ B9)⟩
  clear hl1 hl2
  obtain ⟨bp, r, hpa, hkpl, hcell, hraw, hrb⟩ := F9.piece hk
  have e0 : Int.toNat (k : Int) = k := by omega
  rw [e0]
  refine ⟨_, _, _, F9.fb.cell 3, bp, 0, ⟨hpa, by omega, by omega⟩, _, hcell 0 (by decide), _, _, _, hcell 1 (by decide), _, hcell 2 (by decide), _, hcell 3 (by decide), _, hcell 4 (by decide), _, hcell 5 (by decide), _, _, _, hcell 6 (by decide), ?_⟩
  refine newC_in fun w27 s27 k27 e27 => ?_
  generalize hb26 : w9.heap.size = b26 at *
  refine stW_in k27 (by show 0 + 7 ≤ 7; decide) fun w28 s28 k28 e28 => ?_
  have k28' : Blk w28.heap b26 111 r.cells := k28
  have B28 : Below w9.heap.size w9 w28 := Ext.to (Ext.to (Below.refl _ _) e27 fun _ h => h.elim) e28 fun i hi => by omega
  have F28 := F9.below B28
  have k28b := k9.below B28
  have hraw28 := hraw.keep (S := fun _ => False) (Ext.of_below B28) fun _ _ h => h
  have hz9 := B9.size
  refine newC_in fun w30 s30 k30 e30 => ?_
  have E28 : Ext (fun x => x = c.m) w w28 := (Ext.of_below (hb6 ▸ B9)).trans (Ext.of_below B28)
  have S30 := LSt.start F28 E28 k30 e30
  have k30a := k28'.keep e30 fun h => h
  have k30b := k28b.keep e30 fun h => h
  have hraw30 := hraw28.keep e30 fun _ _ h => h
  have hb6l := k28b.lt
  have hb26l := k28'.lt
  generalize hb29 : w28.heap.size = b29 at *
  have hn6 : ¬ (X b6 ∨ b6 = b29) := fun h => by
    rcases h with h | h
    · have := hX0 b6 h; omega
    · omega
  have hn26 : ¬ (X b26 ∨ b26 = b29) := fun h => by
    rcases h with h | h
    · have := hX0 b26 h; omega
    · omega
  have hm6 : b6 ≠ c.m := by omega
  have hm26 : b26 ≠ c.m := by omega
  have hlz : r.lazy = (c.P.pieces.getD k pSta).lazy := hraw.lazy
  refine ⟨r.lazy, k30a.cell 4, fun w' => ∃ X', LSt c X w b29 X' w' (addA [] (if (c.P.pieces.getD k pSta).lazy then [(i, gNone)] else [])) ∧ Blk w'.heap b26 111 r.cells ∧ Blk w'.heap b6 159 [.int .i64 k, .int .i64 i, .int .i64 (leftI left)] ∧ RawOk w' r (c.P.pieces.getD k pSta) ∧ ¬ X' b6 ∧ ¬ X' b26, ⟨fun g => ?_, fun g => ?_⟩, ?_⟩
  · refine (none_ok w30).ret fun w34 b34 => ⟨spI gNone, rfl, ?_⟩
    refine ((S30.below b34).add (i, gNone) (by show i ≤ 200; omega) (by simp)).use fun e w36 he => ?_
    obtain ⟨rfl, X3, S36, e36, hX3⟩ := he
    have hz34 := b34.size
    refine ⟨rfl, X3, ?_, (k30a.below b34).keep e36 hn26, (k30b.below b34).keep e36 hn6, (hraw30.keep (S := fun _ => False) (Ext.of_below b34) fun _ _ h => h).keep e36 fun q hq hX => ?_, fun h => ?_, fun h => ?_⟩
    · rw [← hlz, g]; exact S36
    · rcases hX with h | h
      · exact (hF.priv q h).2.2.1 (hrb q hq)
      · have := hF.pcs.lt q (hrb q hq); omega
    · rcases hX3 b6 h with h | h
      · exact hn6 h
      · have := k30b.lt; omega
    · rcases hX3 b26 h with h | h
      · exact hn26 h
      · have := k30a.lt; omega
  · exact ⟨_, by rw [← hlz, g]; exact S30, k30a, k30b, hraw30, hn6, hn26⟩
  clear hn26 hn6 hraw30 k30b k30a S30 e30 k30 s30 hraw28 k28b F28 k28' k28 e28 s28 k27 e27 s27 hcell F9 k9 B9 e9 q9 k8' k8 e8 s8 k7 e7 s7
  rintro d39 w39 ⟨X1, S39, kp39, kk39, hr39, hx6, hx26⟩
  -- the end
  have hfin : ∀ {w' : World} {X' : Nat → Prop} {ws : List Wy}, LSt c X w b29 X' w' ws → Blk w'.heap b6 159 [.int .i64 k, .int .i64 i, .int .i64 (leftI left)] → ¬ X' b6 → ws.length ≤ 1000 → addA ws [(i, gNone)] = c.more k left i → Cl Try.prog 130 ([]) w' (retG (fun (r96 : Value) (w95 : World) => ∃ (g94 : Nat → Int), r96 = .agg #[.int .i64 (g94 0), .int .i64 (g94 1), .int .i64 (g94 2), .int .i64 (g94 3), .int .i64 (g94 4), .int .i64 (g94 5), .int .i64 (g94 6), .int .i64 (g94 7), .int .i64 (g94 8), .int .i64 (g94 9), .int .i64 (g94 10), .int .i64 (g94 11), .int .i64 (g94 12), .int .i64 (g94 13), .int .i64 (g94 14), .int .i64 (g94 15), .int .i64 (g94 16), .int .i64 (g94 17), .int .i64 (g94 18), .int .i64 (g94 19)] ∧ Cl Try.prog 129 ([.pointer (some ⟨b29, 0, none⟩), .agg #[.int .i64 (i : Int), .int .i64 (g94 0), .int .i64 (g94 1), .int .i64 (g94 2), .int .i64 (g94 3), .int .i64 (g94 4), .int .i64 (g94 5), .int .i64 (g94 6), .int .i64 (g94 7), .int .i64 (g94 8), .int .i64 (g94 9), .int .i64 (g94 10), .int .i64 (g94 11), .int .i64 (g94 12), .int .i64 (g94 13), .int .i64 (g94 14), .int .i64 (g94 15), .int .i64 (g94 16), .int .i64 (g94 17), .int .i64 (g94 18), .int .i64 (g94 19)]]) w95 (retG (fun (r98 : Value) (w97 : World) => r98 = .tuple #[] ∧ drw (fun (w99 : World) => ∃ (m100 : Option Nat), cellH w99.heap c.bf (0 + 5) = some (.map m100) ∧ ∃ (n101 : Int), cellH w99.heap b6 0 = some (.int .i64 n101) ∧ ∃ (n102 : Int), cellH w99.heap b6 1 = some (.int .i64 n102) ∧ ∃ (n103 : Int), cellH w99.heap b6 2 = some (.int .i64 n103) ∧ ∃ (a104 : Option Addr), ∃ (l104 : Nat), ∃ (c104 : Nat), cellH w99.heap b29 0 = some (.slice a104 l104 c104) ∧ ∃ (w105 : World), (Instr.mapUpdate 126 (.map m100) (.agg #[.int .i64 n101, .int .i64 n102, .int .i64 n103]) (.slice a104 l104 c104)).run Try.prog w99 = .ok () w105 ∧ ∃ (a106 : Option Addr), ∃ (l106 : Nat), ∃ (c106 : Nat), cellH w105.heap b29 0 = some (.slice a106 l106 c106) ∧ ResW c X w (c.more k left i) (.returned (.slice a106 l106 c106)) w105) w97) (fun c1 w1' => ResW c X w (c.more k left i) (.panicked c1) w1'))) (fun c1 w1' => ResW c X w (c.more k left i) (.panicked c1) w1')) := by
    intro w' X' ws S' k' hx' hl' hws
    refine (none_ok w').ret fun w95 b95 => ⟨spI gNone, rfl, ?_⟩
    refine ((S'.below b95).add (i, gNone) (by show i ≤ 200; omega) hl').use fun e w97 he => ?_
    obtain ⟨rfl, X3, S97, e97, hX3⟩ := he
    refine ⟨rfl, drw_in fun w99 q99 e99 => ?_⟩
    have B99 : Below w97.heap.size w97 w99 := Ext.to (Below.refl _ _) e99 fun _ h => h.elim
    have S99 := S97.below B99
    have k99 := ((k'.below b95).keep e97 hx').below B99
    have S99' : LSt c X w b29 X3 w99 (c.more k left i) := by rw [← hws]; exact S99
    obtain ⟨a1, l1, c1, w105, p1, p2, p3, p4⟩ := memo_put S99' (fun x hx => by have := hX0 x hx; omega) (by omega) (k : Int) (i : Int) (leftI left) fun _ _ _ _ h => good_more h
    exact ⟨some c.m, S99.fin.fb.cell 5, _, k99.cell 0, _, k99.cell 1, _, k99.cell 2, a1, l1, c1, p1, w105, p2, a1, l1, c1, p3, p4⟩
  have hsh : ∀ {l : List Wy}, (∀ z ∈ l, z.1 ≤ 200) → (addA [] l).length ≤ 1000 := fun h => Nat.le_trans (addA_short h) (by decide)
  have hlz1 : ∀ z ∈ (if (c.P.pieces.getD k pSta).lazy = true then [((i : Nat), gNone)] else [] : List Wy), z.1 ≤ 200 := by
    intro z hz
    split at hz
    · simp only [List.mem_singleton] at hz; subst hz; show i ≤ 200; omega
    · cases hz
  refine ⟨fun g => ?_, fun g => ?_⟩
  rotate_left
  · have g' : left = some 0 := by
      have : leftI left = 0 := by simpa using g
      exact leftI_inj (by rw [this]; rfl)
    refine hfin S39 kk39 hx6 (hsh hlz1) ?_
    rw [more_eq, if_pos g', List.append_nil, addA_append]
  have g' : left ≠ some 0 := fun h => by subst h; simp [leftI] at g
  refine ⟨fun n' w' => n' = leftI (left.map (· - 1)) ∧ w' = w39, ⟨fun g2 => ?_, fun g2 => ?_⟩, ?_⟩
  · have g2' := of_decide_eq_true g2
    cases left with
    | none => simp [leftI] at g2'
    | some q =>
      simp only [leftI] at g2'
      have := hlq q rfl
      refine ⟨?_, rfl⟩
      show IntKind.wrap .i64 ((q : Int) - 1) = ((q - 1 : Nat) : Int)
      rw [w64 (by omega)]; omega
  · have g2' := of_decide_eq_false g2
    cases left with
    | none => exact ⟨rfl, rfl⟩
    | some q =>
      simp only [leftI] at g2'
      have : q = 0 := by omega
      subst this; exact absurd rfl g'
  rintro dn n42 w43 ⟨rfl, rfl⟩
  -- the kid
  have hkv := hr39.kids
  rw [hkid] at hkv
  have hkl : r.kl = 1 := by have := hkv.1; rw [intC_length] at this; simp at this; omega
  obtain ⟨bk, hbk, hkc⟩ := hkv.open (by omega)
  refine ⟨_, _, _, kp39.cell 6, bk, 0, ⟨hbk, by omega, by omega⟩, kid, by rw [hkc 0 (by omega)]; rfl, ?_⟩
  have hl50 : ∀ q, left.map (· - 1) = some q → q ≤ 50 := by
    intro q hq
    cases left with
    | none => cases hq
    | some q' => have := hlq q' rfl; simp only [Option.map_some, Option.some.injEq] at hq; omega
  have hcall := hsub kid.toNat (by omega) X1 w43 i S39.fin hi
  rw [hkt] at hcall
  refine hcall.use fun e w49 he => ?_
  obtain ⟨a48, l48, c48, rfl, r48, f48, e48⟩ := he
  have S49 := S39.call f48 e48
  have kk49 := kk39.keep e48 hm6
  have hwk := ok.wok kid.toNat i hi
  have hlw := ok.short kid.toNat i hi
  have hl48 := r48.len
  refine ⟨a48, l48, c48, rfl, fun m' n' w' => ∃ (A B : List Wy) (X2 : Nat → Prop), c.ends kid.toNat i = A ++ B ∧ n' = A.length ∧ m' = B.length ∧ LSt c X w b29 X2 w' (addA (addA [] (if (c.P.pieces.getD k pSta).lazy then [(i, gNone)] else [])) (A.flatMap (stepM c k left i))) ∧ WaysAt c X2 w' a48 l48 c48 (c.ends kid.toNat i) ∧ Blk w'.heap b6 159 [.int .i64 k, .int .i64 i, .int .i64 (leftI left)] ∧ ¬ X2 b6, ⟨_, [], _, X1, rfl, rfl, rfl, S49, r48, kk49, hx6⟩, ?_⟩
  clear S49 kk49 r48 f48 e48 hcall hkc hkv kp39 hr39 hx26 kk39 S39 hx6
  have hbndS : ∀ (A : List Wy), ∀ z ∈ A.flatMap (stepM c k left i), z.1 ≤ 200 := by
    intro A z hz
    simp only [List.mem_flatMap] at hz
    obtain ⟨x, hx, hz⟩ := hz
    unfold stepM at hz
    split at hz
    · rename_i hc
      obtain ⟨y, hy, rfl⟩ := List.mem_map.1 hz
      exact Nat.le_trans (ok.mok k x.1 _ hc.2 y hy).hi hn200
    · cases hz
  rintro m' d n' w54 ⟨A, B, X2, hAB, rfl, rfl, S54, r54, kk54, hx54⟩
  have hABl : (c.ends kid.toNat i).length = A.length + B.length := by rw [hAB]; simp
  have e0 : Int.toNat (A.length : Int) = A.length := by omega
  have e1 : IntKind.wrap .i64 ((A.length : Int) + 1) = ((A.length + 1 : Nat) : Int) := by rw [w64 (by omega)]; omega
  rw [e0, e1]
  have hbnd2 : ∀ z ∈ (if (c.P.pieces.getD k pSta).lazy = true then [((i : Nat), gNone)] else [] : List Wy) ++ A.flatMap (stepM c k left i), z.1 ≤ 200 := fun z hz => by
    rcases List.mem_append.1 hz with hz | hz
    · exact hlz1 z hz
    · exact hbndS A z hz
  refine ⟨fun g2 => ?_, fun g2 => ?_⟩
  · have g2' : A.length < l48 := by have := of_decide_eq_true g2; omega
    obtain ⟨x, B', rfl⟩ : ∃ x B', B = x :: B' := by
      cases B with
      | nil => simp at hABl; omega
      | cons x B' => exact ⟨x, B', rfl⟩
    have hxm : x ∈ c.ends kid.toNat i := by rw [hAB]; simp
    have hxb := hwk x hxm
    have r54' := r54
    rw [hAB] at r54'
    obtain ⟨ba, hba, _, hx1, hx2⟩ := r54'.elem
    refine ⟨ba, 0, ⟨hba, by omega, by omega⟩, _, hx1, _, hx2, ?_⟩
    refine newC_in fun w62 s62 k62 e62 => ?_
    generalize hb61 : w54.heap.size = b61 at *
    refine copy_way k62 rfl x fun w63 s63 k63 e63 => ?_
    have B63 : Below w54.heap.size w54 w63 := Ext.to (Ext.to (Below.refl _ _) e62 fun _ h => h.elim) e63 fun i hi => by omega
    have S63 := S54.below B63
    have r63 := r54.below B63
    have kk63 := kk54.below B63
    have hz54 := S54.ext.size
    have hX61 : ¬ X2 b61 := fun h => by have := (S54.fin.priv b61 h).2.2.2; omega
    refine ⟨_, k63.way.1, fun g3 => ?_, fun g3 => ?_⟩
    · have g3' : x.1 = i := by have : ((x.1 : Nat) : Int) = i := by simpa using g3
                               omega
      refine ⟨B'.length, by simp, A ++ [x], B', X2, by rw [hAB]; simp, by simp, rfl, ?_, r63, kk63, hx54⟩
      rw [List.flatMap_append, List.flatMap_cons, List.flatMap_nil, List.append_nil]
      rw [show stepM c k left i x = [] from by unfold stepM; rw [if_neg (by omega)], List.append_nil]
      exact S63
    · have g3' : x.1 ≠ i := by have : ¬ ((x.1 : Nat) : Int) = i := by simpa using g3
                               omega
      have hlo := hxb.lo
      have hhi := hxb.hi
      refine ⟨_, k63.way.1, ?_⟩
      refine (ih (c.n - x.1) (by omega) X2 w63 x.1 (left.map (· - 1)) S63.fin hhi hl50 rfl).use fun e w68 he => ?_
      obtain ⟨a67, l67, c67, rfl, r67, f67, e67⟩ := he
      have S68 := S63.call f67 e67
      have r68 : WaysAt c X2 w68 a48 l48 c48 (c.ends kid.toNat i) := r63.grow e67 (fun _ h => .inr h) fun _ h => .inl h
      have hm61 : b61 ≠ c.m := by omega
      have k68 := k63.keep e67 hm61
      have kk68 := kk63.keep e67 hm6
      have hl67 := r67.len
      have hml' := ok.mshort k x.1 (left.map (· - 1)) hhi
      have hmw := ok.mok k x.1 (left.map (· - 1)) hhi
      refine ⟨a67, l67, c67, rfl, fun m3 n3 w' => ∃ (C D : List Wy) (X3 : Nat → Prop), c.more k (left.map (· - 1)) x.1 = C ++ D ∧ n3 = C.length ∧ m3 = D.length ∧ LSt c X w b29 X3 w' (addA (addA (addA [] (if (c.P.pieces.getD k pSta).lazy then [(i, gNone)] else [])) (A.flatMap (stepM c k left i))) (C.map (ovW x.2))) ∧ WaysAt c X3 w' a48 l48 c48 (c.ends kid.toNat i) ∧ WaysAt c X3 w' a67 l67 c67 (c.more k (left.map (· - 1)) x.1) ∧ Blk w'.heap b6 159 [.int .i64 k, .int .i64 i, .int .i64 (leftI left)] ∧ Blk w'.heap b61 142 (wayC x) ∧ ¬ X3 b6 ∧ ¬ X3 b61, ⟨_, [], _, X2, rfl, rfl, rfl, S68, r68, r67, kk68, k68, hx54, hX61⟩, ?_⟩
      clear S68 r68 r67 kk68 k68 hX61 hx54 f67 e67 kk63 r63 S63 B63 k63 e63 s63 k62 e62 s62 hx1 hx2 r54' r54 S54 kk54
      rintro m3 d3 n3 w73 ⟨C, D, X3, hCD, rfl, rfl, S73, r73, q73, kk73, k73, hx73, hx61⟩
      have hCDl : (c.more k (left.map (· - 1)) x.1).length = C.length + D.length := by rw [hCD]; simp
      have e0' : Int.toNat (C.length : Int) = C.length := by omega
      have e1' : IntKind.wrap .i64 ((C.length : Int) + 1) = ((C.length + 1 : Nat) : Int) := by rw [w64 (by omega)]; omega
      rw [e0', e1']
      refine ⟨fun g4 => ?_, fun g4 => ?_⟩
      · have g4' : C.length < l67 := by have := of_decide_eq_true g4; omega
        obtain ⟨y, D', rfl⟩ : ∃ x B', D = x :: B' := by
          cases D with
          | nil => simp at hCDl; omega
          | cons x B' => exact ⟨x, B', rfl⟩
        have hym : y ∈ c.more k (left.map (· - 1)) x.1 := by rw [hCD]; simp
        have hyb := (hmw y hym).hi
        have q73' := q73
        rw [hCD] at q73'
        obtain ⟨br, hbr, _, hy1, hy2⟩ := q73'.elem
        refine ⟨br, 0, ⟨hbr, by omega, by omega⟩, _, hy1, _, hy2, ?_⟩
        refine newC_in fun w81 s81 k81 e81 => ?_
        generalize hb80 : w73.heap.size = b80 at *
        refine copy_way k81 rfl y fun w82 s82 k82 e82 => ?_
        refine drw_in fun w83 q83 e83 => ?_
        have B83 : Below w73.heap.size w73 w83 := Ext.to (Ext.to (Ext.to (Below.refl _ _) e81 fun _ h => h.elim) e82 fun i hi => by omega) e83 fun _ h => h.elim
        have k83 := k82.keep e83 fun h => h
        have kx83 := k73.below B83
        refine ⟨_, k83.way.1, _, kx83.way.2, _, k83.way.2, ?_⟩
        refine (with_ok x.2 y.2 w83).ret fun w88 b88 => ⟨spI (gOver x.2 y.2), rfl, (k83.below b88).way.1, ?_⟩
        have B88 := B83.vstep b88
        have S88 := S73.below B88
        have hz88 := B88.size
        refine (S88.add (ovW x.2 y) (by show y.1 ≤ 200; omega) ?_).use fun e w90 he => ?_
        · rw [← addA_append, ← addA_append]
          refine hsh fun z hz => ?_
          have hz' : z ∈ ((if (c.P.pieces.getD k pSta).lazy = true then [((i : Nat), gNone)] else [] : List Wy) ++ A.flatMap (stepM c k left i)) ++ C.map (ovW x.2) := by rw [List.append_assoc]; exact hz
          rcases List.mem_append.1 hz' with hz | hz
          · exact hbnd2 z hz
          · obtain ⟨b, hb, rfl⟩ := List.mem_map.1 hz
            exact Nat.le_trans (hmw b (by rw [hCD]; exact List.mem_append_left _ hb)).hi hn200
        obtain ⟨rfl, X4, S90, e90, hX4⟩ := he
        refine ⟨rfl, D'.length, by simp, C ++ [y], D', X4, by rw [hCD]; simp, by simp, rfl, ?_, (r73.below B88).grow e90 (fun _ h => .inl h) hX4, (q73.below B88).grow e90 (fun _ h => .inl h) hX4, (kk73.below B88).keep e90 hx73, (k73.below B88).keep e90 hx61, fun h => ?_, fun h => ?_⟩
        · rw [List.map_append, addA_append]; exact S90
        · rcases hX4 b6 h with h | h
          · exact hx73 h
          · have := kk73.lt; omega
        · rcases hX4 b61 h with h | h
          · exact hx61 h
          · have := k73.lt; omega
      · have g4' : ¬ C.length < l67 := by have := of_decide_eq_false g4; omega
        have : D = [] := by
          cases D with
          | nil => rfl
          | cons x r => have := q73.len; simp at hCDl; omega
        subst this
        rw [List.append_nil] at hCD
        refine ⟨B'.length, by simp, A ++ [x], B', X3, by rw [hAB]; simp, by simp, rfl, ?_, r73, kk73, hx73⟩
        rw [List.flatMap_append, addA_append, List.flatMap_cons, List.flatMap_nil, List.append_nil]
        rw [show stepM c k left i x = (c.more k (left.map (· - 1)) x.1).map (ovW x.2) from by unfold stepM; rw [if_pos ⟨by omega, hhi⟩], hCD]
        exact S73
  · have g2' : ¬ A.length < l48 := by have := of_decide_eq_false g2; omega
    have : B = [] := by
      cases B with
      | nil => rfl
      | cons x r => simp at hABl; omega
    subst this
    rw [List.append_nil] at hAB
    subst hAB
    refine hfin S54 kk54 hx54 ?_ ?_
    · rw [← addA_append]; exact hsh hbnd2
    · rw [more_eq, if_neg g', addA_append, addA_append, hsubk]
end Go.Proofs.Ytngbiaeliphdjaa.V
/- The reference's sets, byte by byte: plain lists, no program in sight. No statement of the seat is proved here. -/
namespace Go.Vc
set_option linter.unusedVariables false
set_option linter.unusedSimpArgs false
theorem runsF_no {f : Nat → Bool} {b : Nat} (hb : b < 256) (h : f b = false) : runsF f b = runsF f (b + 1) := by
  conv => lhs; rw [runsF]
  rw [dif_pos hb, h]; simp
theorem runsF_yes {f : Nat → Bool} {b : Nat} (hb : b < 256) (h : f b = true) : runsF f b = ((b : Int), (runEnd f b : Int)) :: runsF f (runEnd f b + 1) := by
  conv => lhs; rw [runsF]
  rw [dif_pos hb, h]; simp
theorem runsF_out {f : Nat → Bool} {b : Nat} (hb : ¬ b < 256) : runsF f b = [] := by rw [runsF, dif_neg hb]
theorem runEnd_no {f : Nat → Bool} {j : Nat} (h : f (j + 1) = false) : runEnd f j = j := by
  rw [runEnd]; split
  · rw [h]; simp
  · rfl
theorem runEnd_yes {f : Nat → Bool} {j : Nat} (hj : j < 255) (h : f (j + 1) = true) : runEnd f j = runEnd f (j + 1) := by
  conv => lhs; rw [runEnd]
  rw [dif_pos hj, h]; simp
theorem runEnd_255 (f : Nat → Bool) : runEnd f 255 = 255 := by rw [runEnd]; simp
/-- What was gathered of the bytes below b: the last row is done with, or goes on. -/
def SetInv (f : Nat → Bool) (b : Nat) (xs : List (Int × Int)) : Prop :=
  (xs ++ runsF f b = runs f ∧ ∀ ys lo hi, xs = ys ++ [(lo, hi)] → hi + 1 < (b : Int)) ∨
  (∃ c, b = c + 1 ∧ ∃ ys lo, xs = ys ++ [(lo, (c : Int))] ∧ ys ++ (lo, (runEnd f c : Int)) :: runsF f (runEnd f c + 1) = runs f)
theorem SetInv.init (f : Nat → Bool) : SetInv f 0 [] := .inl ⟨rfl, by intro ys lo hi h; simp at h⟩
theorem SetInv.no {f : Nat → Bool} {b : Nat} {xs : List (Int × Int)} (h : SetInv f b xs) (hb : b < 256) (hf : f b = false) : SetInv f (b + 1) xs := by
  rcases h with ⟨h1, h2⟩ | ⟨c, rfl, ys, lo, rfl, h⟩
  · exact .inl ⟨by rw [← runsF_no hb hf]; exact h1, fun ys lo hi e => by have := h2 ys lo hi e; omega⟩
  · rw [runEnd_no hf, runsF_no hb hf] at h
    refine .inl ⟨by rw [← h]; simp, fun ys' lo' hi' e => ?_⟩
    have := List.append_inj_right' e rfl
    simp only [List.cons.injEq, Prod.mk.injEq, and_true] at this
    omega
theorem SetInv.on {f : Nat → Bool} {b : Nat} {ys : List (Int × Int)} {lo hi : Int} (h : SetInv f b (ys ++ [(lo, hi)])) (hb : b < 256) (hf : f b = true) (hh : hi = (b : Int) - 1) : SetInv f (b + 1) (ys ++ [(lo, (b : Int))]) := by
  rcases h with ⟨h1, h2⟩ | ⟨c, rfl, ys', lo', e, h⟩
  · have := h2 ys lo hi rfl; omega
  · have e2 := List.append_inj_right' e rfl
    have e1 := List.append_inj_left' e rfl
    simp only [List.cons.injEq, Prod.mk.injEq, and_true] at e2
    obtain ⟨rfl, _⟩ := e2
    subst e1
    rw [runEnd_yes (by omega) hf] at h
    exact .inr ⟨c + 1, rfl, ys, lo, rfl, h⟩
theorem SetInv.new {f : Nat → Bool} {b : Nat} {xs : List (Int × Int)} (h : SetInv f b xs) (hb : b < 256) (hf : f b = true) (hn : ∀ ys lo hi, xs = ys ++ [(lo, hi)] → hi ≠ (b : Int) - 1) : SetInv f (b + 1) (xs ++ [((b : Int), (b : Int))]) := by
  rcases h with ⟨h1, h2⟩ | ⟨c, rfl, ys', lo', rfl, h⟩
  · rw [runsF_yes hb hf] at h1
    exact .inr ⟨b, rfl, xs, b, rfl, h1⟩
  · exact absurd (by omega) (hn _ _ _ rfl)
theorem SetInv.done {f : Nat → Bool} {xs : List (Int × Int)} (h : SetInv f 256 xs) : xs = runs f := by
  rcases h with ⟨h1, h2⟩ | ⟨c, hc, ys', lo', rfl, h⟩
  · rw [runsF_out (by omega)] at h1; simpa using h1
  · obtain rfl : c = 255 := by omega
    rw [runEnd_255, runsF_out (by omega)] at h; exact h
end Go.Vc
/- Printed by vcgen.py, a program of this session: formulas of Go functions, each with the proof that it gives the function's contract. No statement of the seat is proved here. -/
namespace Go.Proofs.Ytngbiaeliphdjaa.V
open Go.Vc Go.Proofs
set_option linter.unusedVariables false
set_option maxRecDepth 100000
/-- (*spec.l1R).more -/
def V78 (b1 o2 : Nat) (R : Rt) : Pred := fun w =>
  drw (fun w3 => lI w3 b1 (o2 + 2) fun n4 => (cB (decide (n4 < 0)) (lI w3 b1 (o2 + 1) fun n5 => lS w3 b1 o2 fun s6 => R (.returned (.bool (decide (n5 < ((ByteArray.size s6 : Nat) : Int))))) w3) (R (.returned (.bool false)) w3))) w
def scr78 : Scr := (.q 1 (.run [0,1,2,3,4,5] (.split 8 (.r [6,7,8,9,10,11,12,13,14,15,16,17] .nil) (.r [6,7,8,9,10,11,12,13,14,15,16,17] .nil))))
theorem vc78 {b1 o2} {R w} (h : V78 b1 o2 R w) : Cl Try.prog 78 [.pointer (some ⟨b1, o2, none⟩)] w R :=
  cl_of scr78 Try.func78 (by kernel_rfl) _ _ (by kernel_rfl) h
/-- (*spec.l1R).fail -/
def V79 (b1 o2 : Nat) (R : Rt) : Pred := fun w =>
  lI w b1 (o2 + 2) fun n3 => (cB (decide (n3 < 0)) (lI w b1 (o2 + 1) fun n4 => stW b1 (o2 + 2) [.int .i64 n4] (fun w5 => R (.returned (.tuple #[])) w5) w) (R (.returned (.tuple #[])) w))
def scr79 : Scr := (.q 5 (.cond (.q 8 .nil) .nil))
theorem vc79 {b1 o2} {R w} (h : V79 b1 o2 R w) : Cl Try.prog 79 [.pointer (some ⟨b1, o2, none⟩)] w R :=
  cl_of scr79 Try.func79 (by kernel_rfl) _ _ (by kernel_rfl) h
/-- (*spec.l1R).is -/
def V112 (b1 o2 : Nat) (n3 : Int) (R : Rt) : Pred := fun w =>
  drw (fun w4 => clB 78 ([.pointer (some ⟨b1, o2, none⟩)]) w4 R fun t5 w6 => (cB t5 (lS w6 b1 o2 fun s8 => lI w6 b1 (o2 + 1) fun n9 => (ixT s8 n9) ∧ (cB ((byteAt s8 (Int.toNat n9)) == n3) (lI w6 b1 (o2 + 1) fun n10 => stW b1 (o2 + 1) [.int .i64 (IntKind.wrap .i64 (n10 + 1))] (fun w11 => R (.returned (.bool true)) w11) w6) (R (.returned (.bool false)) w6))) (R (.returned (.bool false)) w6))) w
def scr112 : Scr := (.q 1 (.run [0,1,2] (.split 7 (.r [3,4,5,6,7,8,9,10,11,12,13,14] (.cond (.q 8 (.q 1 .nil)) (.q 1 .nil))) (.r [3,4,5,6,7,8,9,10,11,12,13,14] (.lit (.q 1 .nil))))))
theorem vc112 {b1 o2 n3} {R w} (h : V112 b1 o2 n3 R w) : Cl Try.prog 112 [.pointer (some ⟨b1, o2, none⟩), .int .u8 n3] w R :=
  cl_of scr112 Try.func112 (by kernel_rfl) _ _ (by kernel_rfl) h
/-- (*spec.l1R).add -/
def V113 (b1 o2 : Nat) (n3 : Int) (a4 : Option Addr) (l4 c4 : Nat) (n5 n6 : Int) (t7 : Bool) (n8 : Int) (a9 : Option Addr) (l9 c9 : Nat) (R : Rt) : Pred := fun w =>
  newC [.int .i64 n3, .slice a4 l4 c4, .int .i64 n5, .int .i64 n6, .bool t7, .int .i64 n8, .slice a9 l9 c9] 111 (fun b10 w11 => drw (fun w12 => lL w12 b1 (o2 + 4) fun a13 l13 c13 => lI w12 b10 0 fun n14 => lL w12 b10 1 fun a15 l15 c15 => lI w12 b10 2 fun n16 => lI w12 b10 3 fun n17 => lB w12 b10 4 fun t18 => lI w12 b10 5 fun n19 => lL w12 b10 6 fun a20 l20 c20 => newC [.int .i64 n14, .slice a15 l15 c15, .int .i64 n16, .int .i64 n17, .bool t18, .int .i64 n19, .slice a20 l20 c20] 111 (fun b21 w22 => cellH w22.heap b1 (o2 + 4) = some (.slice a13 l13 c13) ∧ ∃ a23 l23 c23, ∃ w24, (Builtin.append_ #[35, 35] 35 #[.slice a13 l13 c13, .slice (some ⟨b21, 0, none⟩) 1 1]).run Try.prog w22 = .ok (.slice a23 l23 c23) w24 ∧ stW b1 (o2 + 4) [.slice a23 l23 c23] (fun w25 => lL w25 b1 (o2 + 4) fun a26 l26 c26 => R (.returned (.int .i64 (IntKind.wrap .i64 (((l26 : Nat) : Int) - 1)))) w25) w24) w12) w11) w
def scr113 : Scr := (.q 2 (.q 11 (.q 7 .nil)))
theorem vc113 {b1 o2 n3 a4 l4 c4 n5 n6 t7 n8 a9 l9 c9} {R w} (h : V113 b1 o2 n3 a4 l4 c4 n5 n6 t7 n8 a9 l9 c9 R w) : Cl Try.prog 113 [.pointer (some ⟨b1, o2, none⟩), .agg #[.int .i64 n3, .slice a4 l4 c4, .int .i64 n5, .int .i64 n6, .bool t7, .int .i64 n8, .slice a9 l9 c9]] w R :=
  cl_of scr113 Try.func113 (by kernel_rfl) _ _ (by kernel_rfl) h
/-- spec.l1hex -/
def V169 (n1 : Int) (R : Rt) : Pred := fun w =>
  (cB (decide (n1 ≥ 48)) ((cB (decide (n1 ≤ 57)) (R (.returned (.int .i64 (IntKind.wrap .i64 (IntKind.wrap .u8 (n1 - 48))))) w) ((cB (decide (n1 ≥ 97)) ((cB (decide (n1 ≤ 102)) (R (.returned (.int .i64 (IntKind.wrap .i64 ((IntKind.wrap .i64 (IntKind.wrap .u8 (n1 - 97))) + 10)))) w) (R (.returned (.int .i64 (-1))) w))) (R (.returned (.int .i64 (-1))) w))))) ((cB (decide (n1 ≥ 97)) ((cB (decide (n1 ≤ 102)) (R (.returned (.int .i64 (IntKind.wrap .i64 ((IntKind.wrap .i64 (IntKind.wrap .u8 (n1 - 97))) + 10)))) w) (R (.returned (.int .i64 (-1))) w))) (R (.returned (.int .i64 (-1))) w))))
def scr169 : Scr := (.q 1 (.run [0,1,2] (.split 5 (.r [3,4,5] (.cond (.q 4 .nil) (.run [0,1,2] (.split 14 (.r [3,4,5] (.cond (.q 5 .nil) (.q 1 .nil))) (.r [3,4,5] (.lit (.q 1 .nil))))))) (.r [3,4,5] (.lit (.run [0,1,2] (.split 14 (.r [3,4,5] (.cond (.q 5 .nil) (.q 1 .nil))) (.r [3,4,5] (.lit (.q 1 .nil))))))))))
theorem vc169 {n1} {R w} (h : V169 n1 R w) : Cl Try.prog 169 [.int .u8 n1] w R :=
  cl_of scr169 Try.func169 (by kernel_rfl) _ _ (by kernel_rfl) h
/-- spec.l1range -/
def V165 (a1 : Option Addr) (l1 c1 : Nat) (n2 n3 : Int) (R : Rt) : Pred := fun w =>
  ∃ (I4 : Nat → Int → World → Prop), (∃ k6, I4 k6 n2 w) ∧ ∀ k5 (d8 : Nat → Value) n9 w7, I4 k5 n9 w7 → (cB (decide (n9 ≤ n3)) (ixS a1 l1 n9 fun b10 o11 => stW b10 (o11 + (Int.toNat n9) * 1) [.bool true] (fun w12 => (∃ m13, m13 < k5 ∧ I4 m13 (IntKind.wrap .i64 (n9 + 1)) w12)) w7) (R (.returned (.tuple #[])) w7))
def scr165 : Scr := (.q 2 (.loop (dr [(6, some (.int .i64))] [(8,8)]) (.q 3 (.cond (.q 4 (.q 3 .nil)) .nil))))
theorem vc165 {a1 l1 c1 n2 n3} {R w} (h : V165 a1 l1 c1 n2 n3 R w) : Cl Try.prog 165 [.slice a1 l1 c1, .int .i64 n2, .int .i64 n3] w R :=
  cl_of scr165 Try.func165 (by kernel_rfl) _ _ (by kernel_rfl) h
/-- spec.l1set -/
def V167 (a1 : Option Addr) (l1 c1 : Nat) (R : Rt) : Pred := fun w =>
  ∃ (I2 : Nat → Option Addr → Nat → Nat → Int → World → Prop), (∃ k4, I2 k4 none 0 0 0 w) ∧ ∀ k3 (d6 : Nat → Value) a7 l7 c7 n8 w5, I2 k3 a7 l7 c7 n8 w5 → (cB (decide (n8 < 256)) (ixS a1 l1 n8 fun b9 o10 => lB w5 b9 (o10 + (Int.toNat n8) * 1) fun t11 => (cB (!t11) ((∃ m12, m12 < k3 ∧ I2 m12 a7 l7 c7 (IntKind.wrap .i64 (n8 + 1)) w5)) ((cB (decide (((l7 : Nat) : Int) > 0)) (ixS a7 l7 (IntKind.wrap .i64 (((l7 : Nat) : Int) - 1)) fun b13 o14 => lI w5 b13 (o14 + (Int.toNat (IntKind.wrap .i64 (((l7 : Nat) : Int) - 1))) * 2 + 1) fun n15 => (cB (n15 == (IntKind.wrap .i64 (n8 - 1))) (ixS a7 l7 (IntKind.wrap .i64 (((l7 : Nat) : Int) - 1)) fun b16 o17 => stW b16 (o17 + (Int.toNat (IntKind.wrap .i64 (((l7 : Nat) : Int) - 1))) * 2 + 1) [.int .i64 n8] (fun w18 => (∃ m19, m19 < k3 ∧ I2 m19 a7 l7 c7 (IntKind.wrap .i64 (n8 + 1)) w18)) w5) (newC [.int .i64 n8, .int .i64 n8] 134 (fun b20 w21 => ∃ a22 l22 c22, ∃ w23, (Builtin.append_ #[108, 108] 108 #[.slice a7 l7 c7, .slice (some ⟨b20, 0, none⟩) 1 1]).run Try.prog w21 = .ok (.slice a22 l22 c22) w23 ∧ (∃ m24, m24 < k3 ∧ I2 m24 a22 l22 c22 (IntKind.wrap .i64 (n8 + 1)) w23)) w5))) (newC [.int .i64 n8, .int .i64 n8] 134 (fun b25 w26 => ∃ a27 l27 c27, ∃ w28, (Builtin.append_ #[108, 108] 108 #[.slice a7 l7 c7, .slice (some ⟨b25, 0, none⟩) 1 1]).run Try.prog w26 = .ok (.slice a27 l27 c27) w28 ∧ (∃ m29, m29 < k3 ∧ I2 m29 a27 l27 c27 (IntKind.wrap .i64 (n8 + 1)) w28)) w5))))) (R (.returned (.slice a7 l7 c7)) w5))
def scr167 : Scr := (.q 1 (.q 1 (.q 1 (.loop (dr [(3, some .slice), (4, some (.int .i64))] [(5,37)]) (.q 2 (.cond (.q 5 (.cond (.q 3 .nil) (.q 3 (.run [0,1,2] (.split 19 (.r [3,4,5,6,7,8,9,10,11,12] (.cond (.q 7 (.q 3 .nil)) (.q 7 (.q 3 .nil)))) (.r [3,4,5,6,7,8,9,10,11,12] (.lit (.q 7 (.q 3 .nil))))))))) (.q 2 .nil)))))))
theorem vc167 {a1 l1 c1} {R w} (h : V167 a1 l1 c1 R w) : Cl Try.prog 167 [.slice a1 l1 c1] w R :=
  cl_of scr167 Try.func167 (by kernel_rfl) _ _ (by kernel_rfl) h
/-- (*spec.l1R).number -/
def V168 (b1 o2 : Nat) (R : Rt) : Pred := fun w =>
  lI w b1 (o2 + 1) fun n3 => ∃ (I4 : Nat → Int → World → Prop), (∃ k6, I4 k6 0 w) ∧ ∀ k5 (d8 : Nat → Value) n9 w7, I4 k5 n9 w7 → drw (fun w10 => clB 78 ([.pointer (some ⟨b1, o2, none⟩)]) w10 R fun t11 w12 => (cB t11 (lS w12 b1 o2 fun s14 => lI w12 b1 (o2 + 1) fun n15 => (ixT s14 n15) ∧ (cB (decide ((byteAt s14 (Int.toNat n15)) ≥ 48)) (lS w12 b1 o2 fun s16 => lI w12 b1 (o2 + 1) fun n17 => (ixT s16 n17) ∧ (cB (decide ((byteAt s16 (Int.toNat n17)) ≤ 57)) (drw (fun w18 => lS w18 b1 o2 fun s19 => lI w18 b1 (o2 + 1) fun n20 => (ixT s19 n20) ∧ (cB (decide ((IntKind.wrap .i64 ((IntKind.wrap .i64 (n9 * 10)) + (IntKind.wrap .i64 (IntKind.wrap .u8 ((byteAt s19 (Int.toNat n20)) - 48))))) > 50)) (stW b1 (o2 + 1) [.int .i64 n3] (fun w21 => clU 79 ([.pointer (some ⟨b1, o2, none⟩)]) w21 R fun w22 => R (.returned (.int .i64 0)) w22) w18) (lI w18 b1 (o2 + 1) fun n24 => stW b1 (o2 + 1) [.int .i64 (IntKind.wrap .i64 (n24 + 1))] (fun w25 => (∃ m26, m26 < k5 ∧ I4 m26 (IntKind.wrap .i64 ((IntKind.wrap .i64 (n9 * 10)) + (IntKind.wrap .i64 (IntKind.wrap .u8 ((byteAt s19 (Int.toNat n20)) - 48))))) w25)) w18))) w12) (lI w12 b1 (o2 + 1) fun n27 => (cB (n27 == n3) (R (.returned (.int .i64 (-1))) w12) (R (.returned (.int .i64 n9)) w12))))) (lI w12 b1 (o2 + 1) fun n28 => (cB (n28 == n3) (R (.returned (.int .i64 (-1))) w12) (R (.returned (.int .i64 n9)) w12))))) (lI w12 b1 (o2 + 1) fun n29 => (cB (n29 == n3) (R (.returned (.int .i64 (-1))) w12) (R (.returned (.int .i64 n9)) w12))))) w7
def scr168 : Scr := (.q 1 (.q 1 (.q 5 (.loop (dr [(3, some (.int .i64))] [(2,1),(9,55)]) (.run [0,1,2] (.split 11 (.run [3,4,5,6,7,8,9,10,11,12,13,14] (.split 23 (.r [15,16,17,18,19,20,21,22,23,24,25] (.cond (.q 15 (.q 2 (.cond (.q 5 (.q 2 (.q 1 .nil))) (.q 8 .nil)))) (.q 6 (.cond (.q 1 .nil) (.q 2 .nil))))) (.r [15,16,17,18,19,20,21,22,23,24,25] (.lit (.q 6 (.cond (.q 1 .nil) (.q 2 .nil))))))) (.r [3,4,5,6,7,8,9,10,11,12,13,14,15,16,17,18,19,20,21,22,23,24,25] (.lit (.q 6 (.cond (.q 1 .nil) (.q 2 .nil)))))))))))
theorem vc168 {b1 o2} {R w} (h : V168 b1 o2 R w) : Cl Try.prog 168 [.pointer (some ⟨b1, o2, none⟩)] w R :=
  cl_of scr168 Try.func168 (by kernel_rfl) _ _ (by kernel_rfl) h
/-- (*spec.l1R).counts -/
def V150 (b1 o2 : Nat) (R : Rt) : Pred := fun w =>
  clI 168 ([.pointer (some ⟨b1, o2, none⟩)]) w R fun n3 w4 => (cB (decide (n3 < 0)) (clU 79 ([.pointer (some ⟨b1, o2, none⟩)]) w4 R fun w6 => R (.returned (.tuple #[.int .i64 0, .int .i64 0])) w6) (clB 112 ([.pointer (some ⟨b1, o2, none⟩), .int .u8 44]) w4 R fun t8 w9 => ∃ (J11 : Int → World → Prop), ((cB t8 (lI w9 b1 (o2 + 1) fun n12 => clI 168 ([.pointer (some ⟨b1, o2, none⟩)]) w9 R fun n13 w14 => lI w14 b1 (o2 + 2) fun n16 => (cB (decide (n16 < 0)) ((cB (decide (n13 ≥ 0)) ((cB (decide (n13 < n3)) (stW b1 (o2 + 1) [.int .i64 n12] (fun w17 => clU 79 ([.pointer (some ⟨b1, o2, none⟩)]) w17 R fun w18 => J11 n13 w18) w14) (J11 n13 w14))) (J11 n13 w14))) (J11 n13 w14))) (J11 n3 w9))) ∧ ∀ (d20 : Nat → Value) n21 w22, J11 n21 w22 → clB 112 ([.pointer (some ⟨b1, o2, none⟩), .int .u8 125]) w22 R fun t23 w24 => (cB (!t23) (clU 79 ([.pointer (some ⟨b1, o2, none⟩)]) w24 R fun w26 => R (.returned (.tuple #[.int .i64 n3, .int .i64 n21])) w26) (R (.returned (.tuple #[.int .i64 n3, .int .i64 n21])) w24))))
def scr150 : Scr := (.q 2 (.q 3 (.q 2 (.cond (.q 2 (.q 2 .nil)) (.q 2 (.q 2 (.cut (dr [(5, some (.int .i64))] [(6,1),(16,26)]) (.cond (.q 5 (.q 3 (.run [0,1,2,3,4,5] (.split 27 (.run [6,7,8,9] (.split 31 (.r [10,11,12,13] (.cond (.q 5 (.q 2 .nil)) .nil)) (.r [10,11,12,13] (.lit .nil)))) (.r [6,7,8,9,10,11,12,13] (.lit .nil)))))) .nil) (.q 3 (.cond (.q 2 (.q 4 .nil)) (.q 4 .nil))))))))))
theorem vc150 {b1 o2} {R w} (h : V150 b1 o2 R w) : Cl Try.prog 150 [.pointer (some ⟨b1, o2, none⟩)] w R :=
  cl_of scr150 Try.func150 (by kernel_rfl) _ _ (by kernel_rfl) h
/-- (*spec.l1R).escape -/
def V166 (b1 o2 : Nat) (a3 : Option Addr) (l3 c3 : Nat) (R : Rt) : Pred := fun w =>
  clB 78 ([.pointer (some ⟨b1, o2, none⟩)]) w R fun t4 w5 => (cB (!t4) (clU 79 ([.pointer (some ⟨b1, o2, none⟩)]) w5 R fun w7 => R (.returned (.tuple #[.int .i64 0, .bool false])) w7) (drw (fun w9 => lS w9 b1 o2 fun s10 => lI w9 b1 (o2 + 1) fun n11 => (ixT s10 n11) ∧ (cB ((byteAt s10 (Int.toNat n11)) == 100) (clU 165 ([.slice a3 l3 c3, .int .i64 48, .int .i64 57]) w9 R fun w12 => lI w12 b1 (o2 + 1) fun n14 => stW b1 (o2 + 1) [.int .i64 (IntKind.wrap .i64 (n14 + 1))] (fun w15 => R (.returned (.tuple #[.int .i64 0, .bool false])) w15) w12) ((cB ((byteAt s10 (Int.toNat n11)) == 119) (clU 165 ([.slice a3 l3 c3, .int .i64 48, .int .i64 57]) w9 R fun w16 => clU 165 ([.slice a3 l3 c3, .int .i64 65, .int .i64 90]) w16 R fun w18 => clU 165 ([.slice a3 l3 c3, .int .i64 97, .int .i64 122]) w18 R fun w20 => clU 165 ([.slice a3 l3 c3, .int .i64 95, .int .i64 95]) w20 R fun w22 => lI w22 b1 (o2 + 1) fun n24 => stW b1 (o2 + 1) [.int .i64 (IntKind.wrap .i64 (n24 + 1))] (fun w25 => R (.returned (.tuple #[.int .i64 0, .bool false])) w25) w22) ((cB ((byteAt s10 (Int.toNat n11)) == 115) (clU 165 ([.slice a3 l3 c3, .int .i64 9, .int .i64 10]) w9 R fun w26 => clU 165 ([.slice a3 l3 c3, .int .i64 13, .int .i64 13]) w26 R fun w28 => clU 165 ([.slice a3 l3 c3, .int .i64 32, .int .i64 32]) w28 R fun w30 => lI w30 b1 (o2 + 1) fun n32 => stW b1 (o2 + 1) [.int .i64 (IntKind.wrap .i64 (n32 + 1))] (fun w33 => R (.returned (.tuple #[.int .i64 0, .bool false])) w33) w30) ((cB ((byteAt s10 (Int.toNat n11)) == 110) ((cB ((byteAt s10 (Int.toNat n11)) == 116) (lI w9 b1 (o2 + 1) fun n34 => stW b1 (o2 + 1) [.int .i64 (IntKind.wrap .i64 (n34 + 1))] (fun w35 => ixS a3 l3 9 fun b36 o37 => stW b36 (o37 + 9) [.bool true] (fun w38 => R (.returned (.tuple #[.int .i64 9, .bool true])) w38) w35) w9) ((cB ((byteAt s10 (Int.toNat n11)) == 114) (lI w9 b1 (o2 + 1) fun n39 => stW b1 (o2 + 1) [.int .i64 (IntKind.wrap .i64 (n39 + 1))] (fun w40 => ixS a3 l3 13 fun b41 o42 => stW b41 (o42 + 13) [.bool true] (fun w43 => R (.returned (.tuple #[.int .i64 13, .bool true])) w43) w40) w9) (lI w9 b1 (o2 + 1) fun n44 => stW b1 (o2 + 1) [.int .i64 (IntKind.wrap .i64 (n44 + 1))] (fun w45 => ixS a3 l3 10 fun b46 o47 => stW b46 (o47 + 10) [.bool true] (fun w48 => R (.returned (.tuple #[.int .i64 10, .bool true])) w48) w45) w9))))) ((cB ((byteAt s10 (Int.toNat n11)) == 116) ((cB ((byteAt s10 (Int.toNat n11)) == 116) (lI w9 b1 (o2 + 1) fun n49 => stW b1 (o2 + 1) [.int .i64 (IntKind.wrap .i64 (n49 + 1))] (fun w50 => ixS a3 l3 9 fun b51 o52 => stW b51 (o52 + 9) [.bool true] (fun w53 => R (.returned (.tuple #[.int .i64 9, .bool true])) w53) w50) w9) ((cB ((byteAt s10 (Int.toNat n11)) == 114) (lI w9 b1 (o2 + 1) fun n54 => stW b1 (o2 + 1) [.int .i64 (IntKind.wrap .i64 (n54 + 1))] (fun w55 => ixS a3 l3 13 fun b56 o57 => stW b56 (o57 + 13) [.bool true] (fun w58 => R (.returned (.tuple #[.int .i64 13, .bool true])) w58) w55) w9) (lI w9 b1 (o2 + 1) fun n59 => stW b1 (o2 + 1) [.int .i64 (IntKind.wrap .i64 (n59 + 1))] (fun w60 => ixS a3 l3 10 fun b61 o62 => stW b61 (o62 + 10) [.bool true] (fun w63 => R (.returned (.tuple #[.int .i64 10, .bool true])) w63) w60) w9))))) ((cB ((byteAt s10 (Int.toNat n11)) == 114) ((cB ((byteAt s10 (Int.toNat n11)) == 116) (lI w9 b1 (o2 + 1) fun n64 => stW b1 (o2 + 1) [.int .i64 (IntKind.wrap .i64 (n64 + 1))] (fun w65 => ixS a3 l3 9 fun b66 o67 => stW b66 (o67 + 9) [.bool true] (fun w68 => R (.returned (.tuple #[.int .i64 9, .bool true])) w68) w65) w9) ((cB ((byteAt s10 (Int.toNat n11)) == 114) (lI w9 b1 (o2 + 1) fun n69 => stW b1 (o2 + 1) [.int .i64 (IntKind.wrap .i64 (n69 + 1))] (fun w70 => ixS a3 l3 13 fun b71 o72 => stW b71 (o72 + 13) [.bool true] (fun w73 => R (.returned (.tuple #[.int .i64 13, .bool true])) w73) w70) w9) (lI w9 b1 (o2 + 1) fun n74 => stW b1 (o2 + 1) [.int .i64 (IntKind.wrap .i64 (n74 + 1))] (fun w75 => ixS a3 l3 10 fun b76 o77 => stW b76 (o77 + 10) [.bool true] (fun w78 => R (.returned (.tuple #[.int .i64 10, .bool true])) w78) w75) w9))))) ((cB ((byteAt s10 (Int.toNat n11)) == 120) (lI w9 b1 (o2 + 1) fun n79 => stW b1 (o2 + 1) [.int .i64 (IntKind.wrap .i64 (n79 + 1))] (fun w80 => ∃ (I81 : Nat → Int → Int → World → Prop), (∃ k83, I81 k83 0 0 w80) ∧ ∀ k82 (d85 : Nat → Value) n86 n87 w84, I81 k82 n86 n87 w84 → (cB (decide (n87 < 2)) (drw (fun w88 => clB 78 ([.pointer (some ⟨b1, o2, none⟩)]) w88 R fun t89 w90 => (cB (!t89) (clU 79 ([.pointer (some ⟨b1, o2, none⟩)]) w90 R fun w92 => R (.returned (.tuple #[.int .i64 0, .bool false])) w92) (lS w90 b1 o2 fun s94 => lI w90 b1 (o2 + 1) fun n95 => (ixT s94 n95) ∧ clI 169 ([.int .u8 (byteAt s94 (Int.toNat n95))]) w90 R fun n96 w97 => (cB (decide (n96 < 0)) (clU 79 ([.pointer (some ⟨b1, o2, none⟩)]) w97 R fun w99 => R (.returned (.tuple #[.int .i64 0, .bool false])) w99) (drw (fun w101 => lS w101 b1 o2 fun s102 => lI w101 b1 (o2 + 1) fun n103 => (ixT s102 n103) ∧ clI 169 ([.int .u8 (byteAt s102 (Int.toNat n103))]) w101 R fun n104 w105 => lI w105 b1 (o2 + 1) fun n107 => stW b1 (o2 + 1) [.int .i64 (IntKind.wrap .i64 (n107 + 1))] (fun w108 => (∃ m109, m109 < k82 ∧ I81 m109 (IntKind.wrap .i64 ((IntKind.wrap .i64 (n86 * 16)) + n104)) (IntKind.wrap .i64 (n87 + 1)) w108)) w105) w97))))) w84) (ixS a3 l3 n86 fun b110 o111 => stW b110 (o111 + (Int.toNat n86) * 1) [.bool true] (fun w112 => R (.returned (.tuple #[.int .i64 n86, .bool true])) w112) w84))) w9) (∃ (J113 : Bool → World → Prop), ((cB (decide ((byteAt s10 (Int.toNat n11)) ≥ 97)) ((cB (decide ((byteAt s10 (Int.toNat n11)) ≤ 122)) (J113 true w9) ((cB (decide ((byteAt s10 (Int.toNat n11)) ≥ 65)) ((cB (decide ((byteAt s10 (Int.toNat n11)) ≤ 90)) (J113 true w9) ((cB (decide ((byteAt s10 (Int.toNat n11)) ≥ 48)) (J113 (decide ((byteAt s10 (Int.toNat n11)) ≤ 57)) w9) (J113 false w9))))) ((cB (decide ((byteAt s10 (Int.toNat n11)) ≥ 48)) (J113 (decide ((byteAt s10 (Int.toNat n11)) ≤ 57)) w9) (J113 false w9))))))) ((cB (decide ((byteAt s10 (Int.toNat n11)) ≥ 65)) ((cB (decide ((byteAt s10 (Int.toNat n11)) ≤ 90)) (J113 true w9) ((cB (decide ((byteAt s10 (Int.toNat n11)) ≥ 48)) (J113 (decide ((byteAt s10 (Int.toNat n11)) ≤ 57)) w9) (J113 false w9))))) ((cB (decide ((byteAt s10 (Int.toNat n11)) ≥ 48)) (J113 (decide ((byteAt s10 (Int.toNat n11)) ≤ 57)) w9) (J113 false w9))))))) ∧ ∀ (d114 : Nat → Value) t115 w116, J113 t115 w116 → (cB t115 (clU 79 ([.pointer (some ⟨b1, o2, none⟩)]) w116 R fun w117 => R (.returned (.tuple #[.int .i64 0, .bool false])) w117) ((cB (decide ((byteAt s10 (Int.toNat n11)) < 33)) (clU 79 ([.pointer (some ⟨b1, o2, none⟩)]) w116 R fun w119 => R (.returned (.tuple #[.int .i64 0, .bool false])) w119) ((cB (decide ((byteAt s10 (Int.toNat n11)) > 126)) (clU 79 ([.pointer (some ⟨b1, o2, none⟩)]) w116 R fun w121 => R (.returned (.tuple #[.int .i64 0, .bool false])) w121) (lI w116 b1 (o2 + 1) fun n123 => stW b1 (o2 + 1) [.int .i64 (IntKind.wrap .i64 (n123 + 1))] (fun w124 => ixS a3 l3 (IntKind.wrap .i64 (byteAt s10 (Int.toNat n11))) fun b125 o126 => stW b125 (o126 + (Int.toNat (IntKind.wrap .i64 (byteAt s10 (Int.toNat n11)))) * 1) [.bool true] (fun w127 => R (.returned (.tuple #[.int .i64 (IntKind.wrap .i64 (byteAt s10 (Int.toNat n11))), .bool true])) w127) w124) w116))))))))))))))))))))) w5))
def scr166 : Scr := (.q 2 (.q 3 (.cond (.q 2 (.q 2 .nil)) (.q 10 (.q 1 (.q 2 (.cond (.q 2 (.q 8 (.q 2 .nil))) (.q 2 (.cond (.q 2 (.q 2 (.q 2 (.q 2 (.q 8 (.q 2 .nil)))))) (.q 2 (.cond (.q 2 (.q 2 (.q 2 (.q 8 (.q 2 .nil))))) (.q 2 (.cond (.lit (.q 1 (.q 2 (.cond (.q 1 (.q 8 (.q 4 (.q 3 .nil)))) (.q 2 (.cond (.q 1 (.q 8 (.q 4 (.q 3 .nil)))) (.q 8 (.q 4 (.q 3 .nil))))))))) (.q 2 (.cond (.lit (.q 1 (.q 2 (.cond (.q 1 (.q 8 (.q 4 (.q 3 .nil)))) (.q 2 (.cond (.q 1 (.q 8 (.q 4 (.q 3 .nil)))) (.q 8 (.q 4 (.q 3 .nil))))))))) (.q 2 (.cond (.q 1 (.q 2 (.cond (.q 1 (.q 8 (.q 4 (.q 3 .nil)))) (.q 2 (.cond (.q 1 (.q 8 (.q 4 (.q 3 .nil)))) (.q 8 (.q 4 (.q 3 .nil)))))))) (.q 2 (.cond (.q 8 (.q 1 (.q 1 (.loop (dr [(8, some (.int .i64)), (9, some (.int .i64))] [(4,2),(122,42)]) (.q 2 (.cond (.run [0,1,2,3] (.split 129 (.r [4,5,6,7,8,9,10,11,12,13,14,15] (.lit (.q 2 (.q 2 .nil)))) (.r [4,5,6,7,8,9,10,11,12,13,14,15] (.cond (.q 2 (.q 2 .nil)) (.q 14 (.q 8 (.q 3 .nil))))))) (.q 4 (.q 3 .nil)))))))) (.cutS (dr [(10, some .bool)] [(26,22)]) (.run [0,1,2] (.split 28 (.run [3,4,5,6] (.split 32 (.r [7,8,9,10,11,12,13,14,15,16,17,18,19,20,21,22] .nil) (.run [7,8,9] (.split 35 (.run [10,11,12,13,14] (.split 40 (.r [15,16,17,18,19,20,21,22] .nil) (.run [15,16,17] (.split 43 (.r [18,19,20,21,22] .nil) (.r [18,19,20,21,22] .nil))))) (.run [10,11,12,13,14,15,16,17] (.split 43 (.r [18,19,20,21,22] .nil) (.r [18,19,20,21,22] .nil))))))) (.run [3,4,5,6,7,8,9] (.split 35 (.run [10,11,12,13,14] (.split 40 (.r [15,16,17,18,19,20,21,22] .nil) (.run [15,16,17] (.split 43 (.r [18,19,20,21,22] .nil) (.r [18,19,20,21,22] .nil))))) (.run [10,11,12,13,14,15,16,17] (.split 43 (.r [18,19,20,21,22] .nil) (.r [18,19,20,21,22] .nil))))))) (.run [0,1] (.split 49 (.r [2,3,4,5,6,7,8] (.lit (.q 2 (.q 2 .nil)))) (.run [2,3,4,5] (.split 53 (.r [6,7,8] (.lit (.q 2 (.q 2 .nil)))) (.r [6,7,8] (.cond (.q 2 (.q 2 .nil)) (.q 8 (.q 5 (.q 4 .nil)))))))))))))))))))))))))))))
theorem vc166 {b1 o2 a3 l3 c3} {R w} (h : V166 b1 o2 a3 l3 c3 R w) : Cl Try.prog 166 [.pointer (some ⟨b1, o2, none⟩), .slice a3 l3 c3] w R :=
  cl_of scr166 Try.func166 (by kernel_rfl) _ _ (by kernel_rfl) h
end Go.Proofs.Ytngbiaeliphdjaa.V
/- The reference's reader: its small functions. No statement of the seat is proved here. -/
namespace Go.Vc
open Go.RowKit
set_option linter.unusedVariables false
set_option linter.unusedSimpArgs false
theorem madeCells_one (z : Value) (n : Nat) : madeCells #[z] n = ⟨List.replicate n z⟩ := by
  apply Array.ext
  · simp [madeCells]
  · intro i h1 h2
    simp [madeCells, Nat.mod_one]
/-- A slice that is made: its cells are one value, again and again. -/
theorem make_in {P : Program} {t e : TypeId} {i : TypeInfo} {z : Value} (ht : P.underlying t = some (.slice e)) (hi : P.info? e = some i) (hz : i.zero = some z) {z1 : Value} (hz1 : z.cells = #[z1]) (hs : i.size = 1) {by_ : Nat} (hby : i.bytes = by_) (hb8 : by_ ≤ 100) (n : Nat) (hn : n ≤ 1000000000) (w : World) :
    ∃ w', (Instr.makeSlice t (.int .i64 n) (.int .i64 n)).run P w = .ok (.slice (some ⟨w.heap.size, 0, none⟩) n n) w' ∧ w'.heap.size = w.heap.size + 1 ∧ Blk w'.heap w.heap.size e (List.replicate n z1) ∧ Ext (fun _ => False) w w' := by
  have hbb : (i.bytes : Int) * (n : Int) ≤ 281474976710656 := by
    have h : i.bytes * n ≤ 281474976710656 := by
      have := Nat.mul_le_mul (show i.bytes ≤ 100 by omega) hn
      omega
    have h2 : ((i.bytes * n : Nat) : Int) ≤ 281474976710656 := by omega
    rwa [Int.natCast_mul] at h2
  have hr := run_make (P := P) w t e i z ht hi hz .i64 .i64 n n (by omega) (Int.le_refl _) hbb (by omega)
  refine ⟨_, hr, ?_, ?_, ?_⟩
  · exact size_newW w _
  · rw [hz1, hs, madeCells_one, Int.toNat_natCast, Nat.mul_one]
    exact Blk.new w e _
  · exact (Ext.refl _ w).vnew _
end Go.Vc
namespace Go.Proofs.Ytngbiaeliphdjaa.V
open Go.Vc Go.Proofs Go.RowKit
set_option linter.unusedVariables false
set_option linter.unusedSimpArgs false

theorem make256 (w : World) : ∃ w', (Instr.makeSlice 59 (.int .i64 256) (.int .i64 256)).run Try.prog w = .ok (.slice (some ⟨w.heap.size, 0, none⟩) 256 256) w' ∧ w'.heap.size = w.heap.size + 1 ∧ Blk w'.heap w.heap.size 4 (b256 fun _ => false) ∧ Ext (fun _ => False) w w' := by
  rw [b256_false]
  exact make_in (P := Try.prog) (t := 59) (e := 4) (i := Try.t4) (z := .bool false) (by kernel_rfl) (by kernel_rfl) (by kernel_rfl) (z1 := .bool false) rfl (by kernel_rfl) (by_ := 1) (by kernel_rfl) (by decide) 256 (by decide) w

/-- The reference's reader. -/
def Sd (w : World) (b : Nat) (s : ByteArray) (i : Nat) (bd : Int) (g : Nat) (a : Option Addr) (ln c : Nat) : Prop := Blk w.heap b 97 [.string s, .int .i64 i, .int .i64 bd, .int .i64 g, .slice a ln c]
theorem Sd.below {w w' : World} {b : Nat} {s : ByteArray} {i g : Nat} {bd : Int} {a : Option Addr} {ln c : Nat} (h : Sd w b s i bd g a ln c) (k : Below w.heap.size w w') : Sd w' b s i bd g a ln c := Blk.below h k
theorem Sd.mv {w : World} {b : Nat} {s : ByteArray} {i g : Nat} {bd : Int} {a : Option Addr} {ln c : Nat} (h : Sd w b s i bd g a ln c) {n : Int} {j : Nat} (hn : n = j) {K : World → Prop} (hK : ∀ w1, w1.heap.size = w.heap.size → Sd w1 b s j bd g a ln c → Ext (fun k => k = b) w w1 → K w1) :
    stW b (0 + 1) [.int .i64 n] K w := by
  subst hn
  exact stW_in h (by show 0 + 1 + 1 ≤ 5; decide) fun w1 s1 k1 e1 => hK w1 s1 k1 e1
section
variable {w : World} {b : Nat} {s : ByteArray} {i g : Nat} {a : Option Addr} {ln c : Nat}
theorem more_ok (h : Sd w b s i (-1) g a ln c) : Cl Try.prog 78 [.pointer (some ⟨b, 0, none⟩)] w (RetB (.bool (decide (i < s.size))) w) := by
  apply vc78
  unfold V78
  refine drw_in fun w1 q1 e1 => ?_
  have h1 := Blk.keep h e1 fun h => h
  have E := Ext.to (Below.refl _ _) e1 fun _ h => h.elim
  refine ⟨-1, h1.cell 2, fun _ => ⟨i, h1.cell 1, s, h1.cell 0, ?_, E⟩, fun g => ?_⟩
  · simp only [Int.ofNat_lt]
  · exact absurd (of_decide_eq_false g) (by decide)
theorem more_bad {n : Nat} (h : Sd w b s i n g a ln c) : Cl Try.prog 78 [.pointer (some ⟨b, 0, none⟩)] w (RetB (.bool false) w) := by
  apply vc78
  unfold V78
  refine drw_in fun w1 q1 e1 => ?_
  have h1 := Blk.keep h e1 fun h => h
  have E := Ext.to (Below.refl _ _) e1 fun _ h => h.elim
  refine ⟨n, h1.cell 2, fun g => ?_, fun _ => ⟨rfl, E⟩⟩
  have := of_decide_eq_true g; omega
theorem sfail_ok (h : Sd w b s i (-1) g a ln c) : Cl Try.prog 79 [.pointer (some ⟨b, 0, none⟩)] w (fun e w' => e = .returned (.tuple #[]) ∧ Sd w' b s i i g a ln c ∧ Ext (fun k => k = b) w w') := by
  apply vc79
  unfold V79
  refine ⟨-1, h.cell 2, fun _ => ⟨i, h.cell 1, stW_in h (by show 0 + 2 + 1 ≤ 5; decide) fun w1 s1 k1 e1 => ⟨rfl, k1, e1⟩⟩, fun g => ?_⟩
  exact absurd (of_decide_eq_false g) (by decide)
theorem sfail_bad {n : Nat} (h : Sd w b s i n g a ln c) : Cl Try.prog 79 [.pointer (some ⟨b, 0, none⟩)] w (RetB (.tuple #[]) w) := by
  apply vc79
  unfold V79
  refine ⟨n, h.cell 2, fun g => ?_, fun _ => ⟨rfl, Below.refl _ _⟩⟩
  have := of_decide_eq_true g; omega
theorem is_yes (h : Sd w b s i (-1) g a ln c) {ch : Nat} (hi : i < s.size) (hl : s.size ≤ 100000) (hc : at_ (L s) i = ch) {ch' : Int} (hch : ch' = ch) : Cl Try.prog 112 [.pointer (some ⟨b, 0, none⟩), .int .u8 ch'] w (fun e w' => e = .returned (.bool true) ∧ Sd w' b s (i + 1) (-1) g a ln c ∧ Ext (fun k => k = b) w w') := by
  subst hch
  apply vc112
  unfold V112
  refine drw_in fun w1 q1 e1 => ?_
  have h1 : Sd w1 b s i (-1) g a ln c := Blk.keep h e1 fun h => h
  refine (more_ok h1).ret fun w2 b2 => ⟨_, rfl, fun _ => ?_, fun g => ?_⟩
  · have h2 := h1.below b2
    refine ⟨s, h2.cell 0, i, h2.cell 1, ⟨by omega, by omega⟩, ?_⟩
    rw [byteI s (j := i) rfl, hc]
    refine ⟨fun _ => ⟨i, h2.cell 1, h2.mv (j := i + 1) (by rw [w64 (by omega)]; omega) fun w3 s3 h3 e3 => ⟨rfl, h3, ?_⟩⟩, fun g => ?_⟩
    · exact ((Ext.mono e1 fun _ _ h => h.elim).trans (Ext.of_below b2)).trans e3
    · simp at g
  · have := of_decide_eq_false g; omega
theorem is_no (h : Sd w b s i (-1) g a ln c) {ch : Nat} (hc : ¬ (i < s.size ∧ at_ (L s) i = ch)) {ch' : Int} (hch : ch' = ch) : Cl Try.prog 112 [.pointer (some ⟨b, 0, none⟩), .int .u8 ch'] w (RetB (.bool false) w) := by
  subst hch
  apply vc112
  unfold V112
  refine drw_in fun w1 q1 e1 => ?_
  have h1 : Sd w1 b s i (-1) g a ln c := Blk.keep h e1 fun h => h
  have E1 := Ext.to (Below.refl _ _) e1 fun _ h => h.elim
  refine (more_ok h1).ret fun w2 b2 => ⟨_, rfl, fun g => ?_, fun g => ⟨rfl, E1.vstep b2⟩⟩
  have g' := of_decide_eq_true g
  have h2 := h1.below b2
  refine ⟨s, h2.cell 0, i, h2.cell 1, ⟨by omega, by omega⟩, ?_⟩
  rw [byteI s (j := i) rfl]
  refine ⟨fun g => ?_, fun g => ⟨rfl, E1.vstep b2⟩⟩
  simp only [beq_iff_eq] at g
  omega
theorem is_bad {n : Nat} (h : Sd w b s i n g a ln c) (ch' : Int) : Cl Try.prog 112 [.pointer (some ⟨b, 0, none⟩), .int .u8 ch'] w (RetB (.bool false) w) := by
  apply vc112
  unfold V112
  refine drw_in fun w1 q1 e1 => ?_
  have h1 : Sd w1 b s i n g a ln c := Blk.keep h e1 fun h => h
  have E1 := Ext.to (Below.refl _ _) e1 fun _ h => h.elim
  refine (more_bad h1).ret fun w2 b2 => ⟨_, rfl, fun g => (by cases g), fun g => ⟨rfl, E1.vstep b2⟩⟩
end
/-- One digit. -/
theorem shex_ok (n : Nat) (hn : n < 256) {n' : Int} (h : n' = n) (w : World) : Cl Try.prog 169 [.int .u8 n'] w (RetB (.int .i64 (match hexv n with | some v => (v : Int) | none => -1)) w) := by
  subst h
  apply vc169
  unfold V169
  have B := Below.refl w.heap.size w
  have w1 : IntKind.wrap .i64 (IntKind.wrap .u8 ((n : Int) - 48)) = ((n : Int) - 48) % 256 := by rw [w8, w64 (by omega)]
  have w2 : IntKind.wrap .i64 (IntKind.wrap .i64 (IntKind.wrap .u8 ((n : Int) - 97)) + 10) = ((n : Int) - 97) % 256 + 10 := by rw [w8, w64 (n := ((n : Int) - 97) % 256) (by omega), w64 (by omega)]
  have r1 : 48 ≤ n → n ≤ 57 → RetB (.int .i64 (match hexv n with | some v => (v : Int) | none => -1)) w (.returned (.int .i64 (IntKind.wrap .i64 (IntKind.wrap .u8 ((n : Int) - 48))))) w := by
    intro h1 h2
    rw [show hexv n = some (n - 48) from by unfold hexv; rw [if_pos ⟨h1, h2⟩], w1]
    refine ⟨?_, B⟩
    show Ending.returned (.int .i64 _) = .returned (.int .i64 ((n - 48 : Nat) : Int))
    rw [show ((n : Int) - 48) % 256 = ((n - 48 : Nat) : Int) from by omega]
  have r2 : 97 ≤ n → n ≤ 102 → RetB (.int .i64 (match hexv n with | some v => (v : Int) | none => -1)) w (.returned (.int .i64 (IntKind.wrap .i64 (IntKind.wrap .i64 (IntKind.wrap .u8 ((n : Int) - 97)) + 10)))) w := by
    intro h1 h2
    rw [show hexv n = some (n - 87) from by unfold hexv; rw [if_neg (by omega), if_pos ⟨h1, h2⟩], w2]
    refine ⟨?_, B⟩
    show Ending.returned (.int .i64 _) = .returned (.int .i64 ((n - 87 : Nat) : Int))
    rw [show ((n : Int) - 97) % 256 + 10 = ((n - 87 : Nat) : Int) from by omega]
  have r3 : ¬ (48 ≤ n ∧ n ≤ 57) → ¬ (97 ≤ n ∧ n ≤ 102) → RetB (.int .i64 (match hexv n with | some v => (v : Int) | none => -1)) w (.returned (.int .i64 (-1))) w := by
    intro h1 h2
    rw [show hexv n = none from by unfold hexv; rw [if_neg h1, if_neg h2]]
    exact ⟨rfl, B⟩
  refine ⟨fun g1 => ⟨fun g2 => ?_, fun g2 => ⟨fun g3 => ⟨fun g4 => ?_, fun g4 => ?_⟩, fun g3 => ?_⟩⟩, fun g1 => ⟨fun g3 => ⟨fun g4 => ?_, fun g4 => ?_⟩, fun g3 => ?_⟩⟩
  all_goals try simp only [decide_eq_true_eq, decide_eq_false_iff_not] at g1
  all_goals try simp only [decide_eq_true_eq, decide_eq_false_iff_not] at g2
  all_goals try simp only [decide_eq_true_eq, decide_eq_false_iff_not] at g3
  all_goals try simp only [decide_eq_true_eq, decide_eq_false_iff_not] at g4
  · exact r1 (by omega) (by omega)
  · exact r2 (by omega) (by omega)
  all_goals first
    | exact r3 (by omega) (by omega)
    | exact r2 (by omega) (by omega)
/-- A row of bytes is put into a set. -/
theorem srange_ok {w : World} {k : Nat} {f : Nat → Bool} (h : Blk w.heap k 4 (b256 f)) (lo hi : Nat) (hh : hi < 256) {lo' hi' : Int} (e1 : lo' = lo) (e2 : hi' = hi) :
    Cl Try.prog 165 [.slice (some ⟨k, 0, none⟩) 256 256, .int .i64 lo', .int .i64 hi'] w (fun e w' => e = .returned (.tuple #[]) ∧ Blk w'.heap k 4 (b256 fun n => f n || inR [(lo, hi)] n) ∧ Ext (fun x => x = k) w w') := by
  subst e1 e2
  apply vc165
  unfold V165
  refine ⟨fun m j w' => ∃ i : Nat, j = i ∧ lo ≤ i ∧ (i ≤ hi + 1 ∨ i = lo) ∧ m = hi + 1 - i ∧ Blk w'.heap k 4 (b256 fun n => f n || decide (lo ≤ n ∧ n < i)) ∧ Ext (fun x => x = k) w w', ⟨_, lo, rfl, Nat.le_refl _, .inr rfl, rfl, ?_, Ext.refl _ _⟩, ?_⟩
  · rw [b256_ext (g := f) fun n _ => by rw [decide_eq_false (by omega), Bool.or_false]]; exact h
  rintro m d j w1 ⟨i, rfl, hl, hi2, rfl, hB, hE⟩
  refine ⟨fun g => ?_, fun g => ?_⟩
  · have g' : i ≤ hi := by have := of_decide_eq_true g; omega
    refine ⟨k, 0, ⟨rfl, by omega, by show (i : Int) < 256; omega⟩, ?_⟩
    dsimp only
    rw [show 0 + Int.toNat (i : Int) * 1 = i from by omega]
    refine stW_in hB (by rw [b256_length]; show i + 1 ≤ 256; omega) fun w2 s2 k2 e2 => ?_
    refine ⟨hi + 1 - (i + 1), by omega, i + 1, by rw [w64 (by omega)]; omega, by omega, .inl (by omega), rfl, ?_, hE.trans e2⟩
    have : segSet (b256 fun n => f n || decide (lo ≤ n ∧ n < i)) i [.bool true] = b256 fun n => f n || decide (lo ≤ n ∧ n < i + 1) := by
      show (b256 _).set i _ = _
      rw [b256_set]
      apply b256_ext
      intro n hn
      by_cases hni : n = i
      · subst hni; simp [hl]
      · rw [if_neg hni]; congr 1; apply decide_eq_decide.2; omega
    rw [this] at k2; exact k2
  · have g' : ¬ i ≤ hi := by have := of_decide_eq_false g; omega
    refine ⟨rfl, ?_, hE⟩
    rw [b256_ext (g := fun n => f n || decide (lo ≤ n ∧ n < i)) fun n _ => ?_]
    · exact hB
    · rw [inR_one]; congr 1; apply decide_eq_decide.2; omega
/-- One byte is put into a set. -/
theorem set_one (f : Nat → Bool) (v : Nat) : segSet (b256 f) v [.bool true] = b256 fun n => f n || inR [(v, v)] n := by
  show (b256 f).set v _ = _
  rw [b256_set]
  apply b256_ext
  intro n hn
  rw [inR_one]
  by_cases hni : n = v
  · subst hni; simp
  · rw [if_neg hni, decide_eq_false (by omega), Bool.or_false]
theorem st_one {w : World} {k v : Nat} {f : Nat → Bool} (h : Blk w.heap k 4 (b256 f)) (hv : v < 256) {o : Nat} (ho : o = v) {K : World → Prop} (hK : ∀ w', w'.heap.size = w.heap.size → Blk w'.heap k 4 (b256 fun n => f n || inR [(v, v)] n) → Ext (fun x => x = k) w w' → K w') : stW k o [.bool true] K w := by
  subst ho
  refine stW_in h (by rw [b256_length]; show o + 1 ≤ 256; omega) fun w2 s2 k2 e2 => hK w2 s2 ?_ e2
  rw [set_one] at k2; exact k2
/-- A set's rows. -/
theorem sset_ok {w : World} {k : Nat} {f : Nat → Bool} (h : Blk w.heap k 4 (b256 f)) :
    Cl Try.prog 167 [.slice (some ⟨k, 0, none⟩) 256 256] w (fun e w' => ∃ a c, e = .returned (.slice a (runs f).length c) ∧ Row w.heap.size w' 134 2 a (runs f).length c (rngC (runs f)) ∧ Below w.heap.size w w') := by
  apply vc167
  unfold V167
  have hbl := h.lt
  refine ⟨fun m a l c n w' => ∃ (i : Nat) (xs : List (Int × Int)), n = i ∧ m = 256 - i ∧ l = xs.length ∧ SetInv f i xs ∧ xs.length ≤ i ∧ i ≤ 256 ∧ Row w.heap.size w' 134 2 a l c (rngC xs) ∧ Below w.heap.size w w',
    ⟨_, 0, [], rfl, rfl, rfl, SetInv.init f, Nat.le_refl _, by omega, Row.nil _ _ (Nat.le_refl _), Below.refl _ _⟩, ?_⟩
  rintro m d a l c n w1 ⟨i, xs, rfl, rfl, rfl, hI, hx, hi, hR, hb⟩
  refine ⟨fun g => ?_, fun g => ?_⟩
  · have g' : i < 256 := by have := of_decide_eq_true g; omega
    have e1 : IntKind.wrap .i64 ((i : Int) + 1) = ((i + 1 : Nat) : Int) := by rw [w64 (by omega)]; omega
    refine ⟨k, 0, ⟨rfl, by omega, by show (i : Int) < 256; omega⟩, f i, ?_, fun g1 => ?_, fun g1 => ?_⟩
    · rw [(h.below hb).cell, show 0 + Int.toNat (i : Int) * 1 = i from by omega]; exact b256_get f i g'
    · have hf : f i = false := by simpa using g1
      exact ⟨256 - (i + 1), by omega, i + 1, xs, e1, rfl, rfl, hI.no g' hf, by omega, by omega, hR, hb⟩
    · have hf : f i = true := by simpa using g1
      have hnew : (∀ ys lo hi, xs = ys ++ [(lo, hi)] → hi ≠ (i : Int) - 1) → newC [.int .i64 (i : Int), .int .i64 (i : Int)] 134 (fun (b20 : Nat) (w21 : World) => ∃ (a22 : Option Addr), ∃ (l22 : Nat), ∃ (c22 : Nat), ∃ (w23 : World), (Builtin.append_ #[108, 108] 108 #[.slice a xs.length c, .slice (some ⟨b20, 0, none⟩) 1 1]).run Try.prog w21 = .ok (.slice a22 l22 c22) w23 ∧ (∃ (m24 : Nat), m24 < 256 - i ∧
          (fun (m : Nat) (a : Option Addr) (l c : Nat) (n : Int) (w' : World) => ∃ (i : Nat) (xs : List (Int × Int)), n = i ∧ m = 256 - i ∧ l = xs.length ∧ SetInv f i xs ∧ xs.length ≤ i ∧ i ≤ 256 ∧ Row w.heap.size w' 134 2 a l c (rngC xs) ∧ Below w.heap.size w w') m24 a22 l22 c22 (IntKind.wrap .i64 ((i : Int) + 1)) w23)) w1 := by
        intro hn
        obtain ⟨a3, c3, w3, r1, r2, r3⟩ := hR.app1 elemRng (ys := [.int .i64 (i : Int), .int .i64 (i : Int)]) (n := 1) rfl rfl (by omega) (by omega)
        refine ⟨a3, _, c3, w3, r1, 256 - (i + 1), by omega, i + 1, xs ++ [((i : Int), (i : Int))], e1, rfl, by simp, hI.new g' hf hn, by simp; omega, by omega, ?_, r3.step hb (Nat.le_refl _)⟩
        rw [rngC_append]; exact r2
      refine ⟨fun g2 => ?_, fun g2 => ?_⟩
      · have g2' : 0 < xs.length := by have := of_decide_eq_true g2; omega
        obtain ⟨ys, p, hxs⟩ : ∃ ys p, xs = ys ++ [p] := ⟨xs.dropLast, xs.getLast (by intro h; subst h; simp at g2'), (List.dropLast_concat_getLast _).symm⟩
        obtain ⟨lo, hi0⟩ := p
        subst hxs
        have hlen : (ys ++ [(lo, hi0)]).length = ys.length + 1 := by simp
        have ew : IntKind.wrap .i64 ((((ys ++ [(lo, hi0)]).length : Nat) : Int) - 1) = (ys.length : Int) := by rw [w64 (by omega)]; omega
        have ew2 : IntKind.wrap .i64 ((i : Int) - 1) = (i : Int) - 1 := w64 (by omega)
        rw [ew, ew2]
        obtain ⟨b9, cs, rfl, hB9, hc9, hN9, hat⟩ := hR.at (by omega)
        have hget : cellH w1.heap b9 (ys.length * 2 + 1) = some (.int .i64 hi0) := by
          rw [hat _ (by omega), rngC_append, List.getElem?_append_right (by rw [rngC_length]; omega), rngC_length]
          rw [show ys.length * 2 + 1 - ys.length * 2 = 1 from by omega]
          rfl
        refine ⟨b9, 0, ⟨rfl, by omega, by omega⟩, hi0, ?_, fun g3 => ?_, fun g3 => ?_⟩
        · rw [show 0 + Int.toNat (ys.length : Int) * 2 + 1 = ys.length * 2 + 1 from by omega]; exact hget
        · have g3' : hi0 = (i : Int) - 1 := by simpa using g3
          refine ⟨b9, 0, ⟨rfl, by omega, by omega⟩, ?_⟩
          dsimp only
          rw [show 0 + Int.toNat (ys.length : Int) * 2 + 1 = ys.length * 2 + 1 from by omega]
          refine hR.st (by omega) fun w2 hR2 e2 => ?_
          refine ⟨256 - (i + 1), by omega, i + 1, ys ++ [(lo, (i : Int))], e1, rfl, by simp, hI.on g' hf g3', by simp; omega, by omega, ?_, Ext.to hb e2 fun x hx => by omega⟩
          have hset : (rngC (ys ++ [(lo, hi0)])).set (ys.length * 2 + 1) (.int .i64 (i : Int)) = rngC (ys ++ [(lo, (i : Int))]) := by
            rw [rngC_append, rngC_append, List.set_append_right _ _ (by rw [rngC_length]; omega), rngC_length, show ys.length * 2 + 1 - ys.length * 2 = 1 from by omega]
            rfl
          rw [hset] at hR2; exact hR2
        · have g3' : hi0 ≠ (i : Int) - 1 := by simpa using g3
          refine hnew fun ys' lo' hi' e => ?_
          have e2 := List.append_inj_right' e rfl
          simp only [List.cons.injEq, Prod.mk.injEq, and_true] at e2
          omega
      · have g2' : xs = [] := by
          have := of_decide_eq_false g2
          cases xs with
          | nil => rfl
          | cons x r => simp only [List.length_cons] at this; omega
        subst g2'
        refine hnew fun ys lo hi e => ?_
        simp at e
  · have g' : i = 256 := by have := of_decide_eq_false g; omega
    subst g'
    have := hI.done
    subst this
    exact ⟨a, c, rfl, hR, hb⟩
end Go.Proofs.Ytngbiaeliphdjaa.V
/- Printed by vcgen.py, a program of this session: formulas of Go functions, each with the proof that it gives the function's contract. No statement of the seat is proved here. -/
namespace Go.Proofs.Ytngbiaeliphdjaa.V
open Go.Vc Go.Proofs
set_option linter.unusedVariables false
set_option maxRecDepth 100000
/-- (*spec.l2M).empty -/
def V153 (b1 o2 : Nat) (R : Rt) : Pred := fun w =>
  lS w b1 (o2 + 4) fun s3 => ∃ a4 l4 c4, ∃ w5, (Instr.makeSlice 59 (.int .i64 (IntKind.wrap .i64 (((ByteArray.size s3 : Nat) : Int) + 1))) (.int .i64 (IntKind.wrap .i64 (((ByteArray.size s3 : Nat) : Int) + 1)))).run Try.prog w = .ok (.slice a4 l4 c4) w5 ∧ newC [.slice a4 l4 c4, .slice none 0 0] 195 (fun b6 w7 => R (.returned (.pointer (some ⟨b6, 0, none⟩))) w7) w5
def scr153 : Scr := (.q 1 (.q 10 .nil))
theorem vc153 {b1 o2} {R w} (h : V153 b1 o2 R w) : Cl Try.prog 153 [.pointer (some ⟨b1, o2, none⟩)] w R :=
  cl_of scr153 Try.func153 (by kernel_rfl) _ _ (by kernel_rfl) h
/-- spec.l2in -/
def V154 (a1 : Option Addr) (l1 c1 : Nat) (n2 : Int) (R : Rt) : Pred := fun w =>
  ∃ (I3 : Nat → Int → World → Prop), (∃ k5, I3 k5 0 w) ∧ ∀ k4 (d7 : Nat → Value) n8 w6, I3 k4 n8 w6 → (cB (decide (n8 < ((l1 : Nat) : Int))) (ixS a1 l1 n8 fun b9 o10 => lI w6 b9 (o10 + (Int.toNat n8) * 2) fun n11 => lI w6 b9 (o10 + (Int.toNat n8) * 2 + 1) fun n12 => newC [.int .i64 0, .int .i64 0] 134 (fun b13 w14 => stW b13 0 [.int .i64 n11, .int .i64 n12] (fun w15 => lI w15 b13 0 fun n16 => (cB (decide ((IntKind.wrap .i64 n2) ≥ n16)) (lI w15 b13 1 fun n17 => (cB (decide ((IntKind.wrap .i64 n2) ≤ n17)) (R (.returned (.bool true)) w15) ((∃ m18, m18 < k4 ∧ I3 m18 (IntKind.wrap .i64 (n8 + 1)) w15)))) ((∃ m19, m19 < k4 ∧ I3 m19 (IntKind.wrap .i64 (n8 + 1)) w15)))) w14) w6) (R (.returned (.bool false)) w6))
def scr154 : Scr := (.q 1 (.q 3 (.loop (dr [(9, some (.int .i64))] [(4,1),(6,1),(10,16)]) (.q 1 (.cond (.q 4 (.run [0,1,2,3,4,5] (.split 18 (.r [6,7,8,9,10,11] (.cond (.q 1 .nil) (.q 2 .nil))) (.r [6,7,8,9,10,11] (.lit (.q 2 .nil)))))) (.q 1 .nil))))))
theorem vc154 {a1 l1 c1 n2} {R w} (h : V154 a1 l1 c1 n2 R w) : Cl Try.prog 154 [.slice a1 l1 c1, .int .u8 n2] w R :=
  cl_of scr154 Try.func154 (by kernel_rfl) _ _ (by kernel_rfl) h
/-- (*spec.l2L).add -/
def V155 (b1 o2 : Nat) (n3 : Int) (a4 : Option Addr) (l4 c4 : Nat) (R : Rt) : Pred := fun w =>
  lL w b1 o2 fun a5 l5 c5 => ixS a5 l5 n3 fun b6 o7 => lB w b6 (o7 + (Int.toNat n3) * 1) fun t8 => (cB (!t8) (lL w b1 o2 fun a9 l9 c9 => ixS a9 l9 n3 fun b10 o11 => stW b10 (o11 + (Int.toNat n3) * 1) [.bool true] (fun w12 => lL w12 b1 (o2 + 1) fun a13 l13 c13 => newC [.int .i64 n3, .slice a4 l4 c4] 150 (fun b14 w15 => ∃ a16 l16 c16, ∃ w17, (Builtin.append_ #[147, 147] 147 #[.slice a13 l13 c13, .slice (some ⟨b14, 0, none⟩) 1 1]).run Try.prog w15 = .ok (.slice a16 l16 c16) w17 ∧ stW b1 (o2 + 1) [.slice a16 l16 c16] (fun w18 => R (.returned (.tuple #[])) w18) w17) w12) w) (R (.returned (.tuple #[])) w))
def scr155 : Scr := (.q 8 (.cond (.q 7 (.q 13 .nil)) .nil))
theorem vc155 {b1 o2 n3 a4 l4 c4} {R w} (h : V155 b1 o2 n3 a4 l4 c4 R w) : Cl Try.prog 155 [.pointer (some ⟨b1, o2, none⟩), .int .i64 n3, .slice a4 l4 c4] w R :=
  cl_of scr155 Try.func155 (by kernel_rfl) _ _ (by kernel_rfl) h
/-- (*spec.l2M).none -/
def V156 (b1 o2 : Nat) (R : Rt) : Pred := fun w =>
  lI w b1 (o2 + 2) fun n3 => ∃ a4 l4 c4, ∃ w5, (Instr.makeSlice 27 (.int .i64 n3) (.int .i64 n3)).run Try.prog w = .ok (.slice a4 l4 c4) w5 ∧ ∃ (I6 : Nat → Int → World → Prop), (∃ k8, I6 k8 0 w5) ∧ ∀ k7 (d10 : Nat → Value) n11 w9, I6 k7 n11 w9 → (cB (decide (n11 < ((l4 : Nat) : Int))) (ixS a4 l4 n11 fun b12 o13 => stW b12 (o13 + (Int.toNat n11) * 2) [.int .i64 (-2)] (fun w14 => (∃ m15, m15 < k7 ∧ I6 m15 (IntKind.wrap .i64 (n11 + 1)) w14)) w9) (R (.returned (.slice a4 l4 c4)) w9))
def scr156 : Scr := (.q 1 (.q 7 (.q 3 (.loop (dr [(13, some (.int .i64))] [(4,1),(14,7)]) (.q 1 (.cond (.q 2 (.q 5 (.q 2 .nil))) (.q 2 .nil)))))))
theorem vc156 {b1 o2} {R w} (h : V156 b1 o2 R w) : Cl Try.prog 156 [.pointer (some ⟨b1, o2, none⟩)] w R :=
  cl_of scr156 Try.func156 (by kernel_rfl) _ _ (by kernel_rfl) h
/-- spec.l2over -/
def V157 (a1 : Option Addr) (l1 c1 : Nat) (a2 : Option Addr) (l2 c2 : Nat) (R : Rt) : Pred := fun w =>
  ∃ a3 l3 c3, ∃ w4, (Instr.makeSlice 27 (.int .i64 ((l1 : Nat) : Int)) (.int .i64 ((l1 : Nat) : Int))).run Try.prog w = .ok (.slice a3 l3 c3) w4 ∧ ∃ (I5 : Nat → Int → World → Prop), (∃ k7, I5 k7 0 w4) ∧ ∀ k6 (d9 : Nat → Value) n10 w8, I5 k6 n10 w8 → (cB (decide (n10 < ((l1 : Nat) : Int))) (ixS a1 l1 n10 fun b11 o12 => lI w8 b11 (o12 + (Int.toNat n10) * 2) fun n13 => lI w8 b11 (o12 + (Int.toNat n10) * 2 + 1) fun n14 => ixS a3 l3 n10 fun b15 o16 => stW b15 (o16 + (Int.toNat n10) * 2) [.int .i64 n13, .int .i64 n14] (fun w17 => ixS a2 l2 n10 fun b18 o19 => lI w17 b18 (o19 + (Int.toNat n10) * 2) fun n20 => (cB (n20 != (-2)) (ixS a2 l2 n10 fun b21 o22 => lI w17 b21 (o22 + (Int.toNat n10) * 2) fun n23 => lI w17 b21 (o22 + (Int.toNat n10) * 2 + 1) fun n24 => ixS a3 l3 n10 fun b25 o26 => stW b25 (o26 + (Int.toNat n10) * 2) [.int .i64 n23, .int .i64 n24] (fun w27 => (∃ m28, m28 < k6 ∧ I5 m28 (IntKind.wrap .i64 (n10 + 1)) w27)) w17) ((∃ m29, m29 < k6 ∧ I5 m29 (IntKind.wrap .i64 (n10 + 1)) w17)))) w8) (R (.returned (.slice a3 l3 c3)) w8))
def scr157 : Scr := (.q 1 (.q 4 (.q 3 (.loop (dr [(12, some (.int .i64))] [(6,1),(13,23)]) (.q 1 (.cond (.q 2 (.q 8 (.q 6 (.cond (.q 8 (.q 2 .nil)) (.q 2 .nil))))) (.q 2 .nil)))))))
theorem vc157 {a1 l1 c1 a2 l2 c2} {R w} (h : V157 a1 l1 c1 a2 l2 c2 R w) : Cl Try.prog 157 [.slice a1 l1 c1, .slice a2 l2 c2] w R :=
  cl_of scr157 Try.func157 (by kernel_rfl) _ _ (by kernel_rfl) h
/-- (*spec.l2M).then -/
def V158 (b1 o2 : Nat) (a3 : Option Addr) (l3 c3 : Nat) (n4 : Int) (R : Rt) : Pred := fun w =>
  clP 153 ([.pointer (some ⟨b1, o2, none⟩)]) w R fun b5 o6 w7 => ∃ (I9 : Nat → Int → World → Prop), (∃ k11, I9 k11 0 w7) ∧ ∀ k10 (d13 : Nat → Value) n14 w12, I9 k10 n14 w12 → (cB (decide (n14 < ((l3 : Nat) : Int))) (ixS a3 l3 n14 fun b15 o16 => lI w12 b15 (o16 + (Int.toNat n14) * 2) fun n17 => lL w12 b15 (o16 + (Int.toNat n14) * 2 + 1) fun a18 l18 c18 => newC [.int .i64 0, .slice none 0 0] 150 (fun b19 w20 => stW b19 0 [.int .i64 n17, .slice a18 l18 c18] (fun w21 => lI w21 b19 0 fun n22 => clL 121 ([.pointer (some ⟨b1, o2, none⟩), .int .i64 n4, .int .i64 n22]) w21 R fun a23 l23 c23 w24 => ∃ (I26 : Nat → Int → World → Prop), (∃ k28, I26 k28 0 w24) ∧ ∀ k27 (d30 : Nat → Value) n31 w29, I26 k27 n31 w29 → (cB (decide (n31 < ((l23 : Nat) : Int))) (ixS a23 l23 n31 fun b32 o33 => lI w29 b32 (o33 + (Int.toNat n31) * 2) fun n34 => lL w29 b32 (o33 + (Int.toNat n31) * 2 + 1) fun a35 l35 c35 => newC [.int .i64 0, .slice none 0 0] 150 (fun b36 w37 => stW b36 0 [.int .i64 n34, .slice a35 l35 c35] (fun w38 => drw (fun w39 => lL w39 b5 o6 fun a40 l40 c40 => lI w39 b36 0 fun n41 => ixS a40 l40 n41 fun b42 o43 => lB w39 b42 (o43 + (Int.toNat n41) * 1) fun t44 => (cB (!t44) (drw (fun w45 => lI w45 b36 0 fun n46 => lL w45 b19 1 fun a47 l47 c47 => lL w45 b36 1 fun a48 l48 c48 => clL 157 ([.slice a47 l47 c47, .slice a48 l48 c48]) w45 R fun a49 l49 c49 w50 => cellH w50.heap b36 0 = some (.int .i64 n46) ∧ clU 155 ([.pointer (some ⟨b5, o6, none⟩), .int .i64 n46, .slice a49 l49 c49]) w50 R fun w52 => (∃ m54, m54 < k27 ∧ I26 m54 (IntKind.wrap .i64 (n31 + 1)) w52)) w39) ((∃ m55, m55 < k27 ∧ I26 m55 (IntKind.wrap .i64 (n31 + 1)) w39)))) w38) w37) w29) ((∃ m56, m56 < k10 ∧ I9 m56 (IntKind.wrap .i64 (n14 + 1)) w29)))) w20) w12) (lL w12 b5 (o6 + 1) fun a57 l57 c57 => R (.returned (.slice a57 l57 c57)) w12))
def scr158 : Scr := (.q 1 (.q 3 (.q 3 (.loop (dr [(16, some (.int .i64))] [(9,1),(11,1),(17,33)]) (.q 1 (.cond (.q 4 (.q 7 (.loop (dr [(26, some (.int .i64))] [(11,1),(27,22)]) (.q 1 (.cond (.q 4 (.q 9 (.cond (.q 9 (.q 2 .nil)) (.q 2 .nil)))) (.q 2 .nil)))))) (.q 5 .nil)))))))
theorem vc158 {b1 o2 a3 l3 c3 n4} {R w} (h : V158 b1 o2 a3 l3 c3 n4 R w) : Cl Try.prog 158 [.pointer (some ⟨b1, o2, none⟩), .slice a3 l3 c3, .int .i64 n4] w R :=
  cl_of scr158 Try.func158 (by kernel_rfl) _ _ (by kernel_rfl) h
/-- (*spec.l2M).further -/
def V159 (b1 o2 : Nat) (n3 : Int) (a4 : Option Addr) (l4 c4 : Nat) (n5 n6 : Int) (t7 : Bool) (n8 : Int) (a9 : Option Addr) (l9 c9 : Nat) (n10 : Int) (a11 : Option Addr) (l11 c11 : Nat) (n12 : Int) (a13 : Option Addr) (l13 c13 b14 o15 : Nat) (R : Rt) : Pred := fun w =>
  newC [.int .i64 n3, .slice a4 l4 c4, .int .i64 n5, .int .i64 n6, .bool t7, .int .i64 n8, .slice a9 l9 c9] 111 (fun b16 w17 => newC [.int .i64 n10, .slice a11 l11 c11] 150 (fun b18 w19 => lI w19 b18 0 fun n20 => ixS a13 l13 (IntKind.wrap .i64 ((IntKind.wrap .i64 (n20 * 52)) + n12)) fun b21 o22 => lB w19 b21 (o22 + (Int.toNat (IntKind.wrap .i64 ((IntKind.wrap .i64 (n20 * 52)) + n12))) * 1) fun t23 => (cB t23 (R (.returned (.tuple #[])) w19) (ixS a13 l13 (IntKind.wrap .i64 ((IntKind.wrap .i64 (n20 * 52)) + n12)) fun b24 o25 => stW b24 (o25 + (Int.toNat (IntKind.wrap .i64 ((IntKind.wrap .i64 (n20 * 52)) + n12))) * 1) [.bool true] (fun w26 => lB w26 b16 4 fun t27 => ∃ (J28 : World → Prop), ((cB t27 (lI w26 b18 0 fun n29 => lL w26 b18 1 fun a30 l30 c30 => clU 155 ([.pointer (some ⟨b14, o15, none⟩), .int .i64 n29, .slice a30 l30 c30]) w26 R fun w31 => J28  w31) (J28  w26))) ∧ ∀ (d33 : Nat → Value)  w34, J28  w34 → (cB (decide (n12 > 0)) (∃ (J35 : Int → World → Prop), ((cB (decide (n12 > 50)) (J35 n12 w34) (J35 (IntKind.wrap .i64 (n12 - 1)) w34))) ∧ ∀ (d36 : Nat → Value) n37 w38, J35 n37 w38 → drw (fun w39 => lL w39 b16 6 fun a40 l40 c40 => ixS a40 l40 0 fun b41 o42 => lI w39 b41 o42 fun n43 => lI w39 b18 0 fun n44 => clL 121 ([.pointer (some ⟨b1, o2, none⟩), .int .i64 n43, .int .i64 n44]) w39 R fun a45 l45 c45 w46 => ∃ (I48 : Nat → Int → World → Prop), (∃ k50, I48 k50 0 w46) ∧ ∀ k49 (d52 : Nat → Value) n53 w51, I48 k49 n53 w51 → (cB (decide (n53 < ((l45 : Nat) : Int))) (ixS a45 l45 n53 fun b54 o55 => lI w51 b54 (o55 + (Int.toNat n53) * 2) fun n56 => lL w51 b54 (o55 + (Int.toNat n53) * 2 + 1) fun a57 l57 c57 => newC [.int .i64 0, .slice none 0 0] 150 (fun b58 w59 => stW b58 0 [.int .i64 n56, .slice a57 l57 c57] (fun w60 => lI w60 b58 0 fun n61 => lI w60 b18 0 fun n62 => (cB (decide (n61 > n62)) (drw (fun w63 => lI w63 b16 0 fun n64 => lL w63 b16 1 fun a65 l65 c65 => lI w63 b16 2 fun n66 => lI w63 b16 3 fun n67 => lB w63 b16 4 fun t68 => lI w63 b16 5 fun n69 => lL w63 b16 6 fun a70 l70 c70 => lI w63 b58 0 fun n71 => lL w63 b18 1 fun a72 l72 c72 => lL w63 b58 1 fun a73 l73 c73 => clL 157 ([.slice a72 l72 c72, .slice a73 l73 c73]) w63 R fun a74 l74 c74 w75 => cellH w75.heap b58 0 = some (.int .i64 n71) ∧ cellsAt w75.heap b16 0 [.int .i64 n64, .slice a65 l65 c65, .int .i64 n66, .int .i64 n67, .bool t68, .int .i64 n69, .slice a70 l70 c70] ∧ clU 159 ([.pointer (some ⟨b1, o2, none⟩), .agg #[.int .i64 n64, .slice a65 l65 c65, .int .i64 n66, .int .i64 n67, .bool t68, .int .i64 n69, .slice a70 l70 c70], .agg #[.int .i64 n71, .slice a74 l74 c74], .int .i64 n37, .slice a13 l13 c13, .pointer (some ⟨b14, o15, none⟩)]) w75 R fun w77 => (∃ m79, m79 < k49 ∧ I48 m79 (IntKind.wrap .i64 (n53 + 1)) w77)) w60) ((∃ m80, m80 < k49 ∧ I48 m80 (IntKind.wrap .i64 (n53 + 1)) w60)))) w59) w51) (lI w51 b18 0 fun n81 => lL w51 b18 1 fun a82 l82 c82 => clU 155 ([.pointer (some ⟨b14, o15, none⟩), .int .i64 n81, .slice a82 l82 c82]) w51 R fun w83 => R (.returned (.tuple #[])) w83))) w38) (lI w34 b18 0 fun n85 => lL w34 b18 1 fun a86 l86 c86 => clU 155 ([.pointer (some ⟨b14, o15, none⟩), .int .i64 n85, .slice a86 l86 c86]) w34 R fun w87 => R (.returned (.tuple #[])) w87))) w19))) w17) w
def scr159 : Scr := (.q 2 (.q 6 (.q 4 (.cond .nil (.q 4 (.q 2 (.cut (dr [] [(30,6)]) (.cond (.q 6 .nil) .nil) (.q 2 (.cond (.q 3 (.q 2 (.cut [(13, some (.int .i64)), (42, none)] (.cond (.q 2 .nil) .nil) (.r [0,1,2,3,4,5,6,9,7,8] (.loop (dr [(52, some (.int .i64))] [(15,1),(53,23)]) (.q 1 (.cond (.q 4 (.q 5 (.cond (.r [0,1,2,3,4,5,6,7,10,11,12,8,9,13] (.q 2 .nil)) (.q 2 .nil)))) (.q 6 .nil)))))))) (.q 6 .nil))))))))))
theorem vc159 {b1 o2 n3 a4 l4 c4 n5 n6 t7 n8 a9 l9 c9 n10 a11 l11 c11 n12 a13 l13 c13 b14 o15} {R w} (h : V159 b1 o2 n3 a4 l4 c4 n5 n6 t7 n8 a9 l9 c9 n10 a11 l11 c11 n12 a13 l13 c13 b14 o15 R w) : Cl Try.prog 159 [.pointer (some ⟨b1, o2, none⟩), .agg #[.int .i64 n3, .slice a4 l4 c4, .int .i64 n5, .int .i64 n6, .bool t7, .int .i64 n8, .slice a9 l9 c9], .agg #[.int .i64 n10, .slice a11 l11 c11], .int .i64 n12, .slice a13 l13 c13, .pointer (some ⟨b14, o15, none⟩)] w R :=
  cl_of scr159 Try.func159 (by kernel_rfl) _ _ (by kernel_rfl) h
/-- (*spec.l2M).work -/
def V138 (b1 o2 : Nat) (n3 n4 : Int) (R : Rt) : Pred := fun w =>
  lL w b1 (o2 + 3) fun a5 l5 c5 => ixS a5 l5 n3 fun b6 o7 => lI w b6 (o7 + (Int.toNat n3) * 7) fun n8 => lL w b6 (o7 + (Int.toNat n3) * 7 + 1) fun a9 l9 c9 => lI w b6 (o7 + (Int.toNat n3) * 7 + 2) fun n10 => lI w b6 (o7 + (Int.toNat n3) * 7 + 3) fun n11 => lB w b6 (o7 + (Int.toNat n3) * 7 + 4) fun t12 => lI w b6 (o7 + (Int.toNat n3) * 7 + 5) fun n13 => lL w b6 (o7 + (Int.toNat n3) * 7 + 6) fun a14 l14 c14 => newC [.int .i64 0, .slice none 0 0, .int .i64 0, .int .i64 0, .bool false, .int .i64 0, .slice none 0 0] 111 (fun b15 w16 => stW b15 0 [.int .i64 n8, .slice a9 l9 c9, .int .i64 n10, .int .i64 n11, .bool t12, .int .i64 n13, .slice a14 l14 c14] (fun w17 => clP 153 ([.pointer (some ⟨b1, o2, none⟩)]) w17 R fun b18 o19 w20 => lI w20 b15 0 fun n22 => (cB (n22 == 1) (drw (fun w23 => lS w23 b1 (o2 + 4) fun s24 => (cB (decide (n4 < ((ByteArray.size s24 : Nat) : Int))) (lL w23 b15 1 fun a25 l25 c25 => lS w23 b1 (o2 + 4) fun s26 => (ixT s26 n4) ∧ clB 154 ([.slice a25 l25 c25, .int .u8 (byteAt s26 (Int.toNat n4))]) w23 R fun t27 w28 => (cB t27 (clL 156 ([.pointer (some ⟨b1, o2, none⟩)]) w28 R fun a30 l30 c30 w31 => clU 155 ([.pointer (some ⟨b18, o19, none⟩), .int .i64 (IntKind.wrap .i64 (n4 + 1)), .slice a30 l30 c30]) w31 R fun w33 => lL w33 b18 (o19 + 1) fun a35 l35 c35 => R (.returned (.slice a35 l35 c35)) w33) (lL w28 b18 (o19 + 1) fun a36 l36 c36 => R (.returned (.slice a36 l36 c36)) w28))) (lL w23 b18 (o19 + 1) fun a37 l37 c37 => R (.returned (.slice a37 l37 c37)) w23))) w20) ((cB (n22 == 6) ((cB (n4 == 0) (clL 156 ([.pointer (some ⟨b1, o2, none⟩)]) w20 R fun a38 l38 c38 w39 => clU 155 ([.pointer (some ⟨b18, o19, none⟩), .int .i64 n4, .slice a38 l38 c38]) w39 R fun w41 => lL w41 b18 (o19 + 1) fun a43 l43 c43 => R (.returned (.slice a43 l43 c43)) w41) (lL w20 b18 (o19 + 1) fun a44 l44 c44 => R (.returned (.slice a44 l44 c44)) w20))) ((cB (n22 == 7) (lS w20 b1 (o2 + 4) fun s45 => (cB (n4 == ((ByteArray.size s45 : Nat) : Int)) (clL 156 ([.pointer (some ⟨b1, o2, none⟩)]) w20 R fun a46 l46 c46 w47 => clU 155 ([.pointer (some ⟨b18, o19, none⟩), .int .i64 n4, .slice a46 l46 c46]) w47 R fun w49 => lL w49 b18 (o19 + 1) fun a51 l51 c51 => R (.returned (.slice a51 l51 c51)) w49) (lL w20 b18 (o19 + 1) fun a52 l52 c52 => R (.returned (.slice a52 l52 c52)) w20))) ((cB (n22 == 5) (lL w20 b15 6 fun a53 l53 c53 => ixS a53 l53 0 fun b54 o55 => lI w20 b54 o55 fun n56 => clL 121 ([.pointer (some ⟨b1, o2, none⟩), .int .i64 n56, .int .i64 n4]) w20 R fun a57 l57 c57 w58 => ∃ (I60 : Nat → Int → World → Prop), (∃ k62, I60 k62 0 w58) ∧ ∀ k61 (d64 : Nat → Value) n65 w63, I60 k61 n65 w63 → (cB (decide (n65 < ((l57 : Nat) : Int))) (ixS a57 l57 n65 fun b66 o67 => lI w63 b66 (o67 + (Int.toNat n65) * 2) fun n68 => lL w63 b66 (o67 + (Int.toNat n65) * 2 + 1) fun a69 l69 c69 => newC [.int .i64 0, .slice none 0 0] 150 (fun b70 w71 => stW b70 0 [.int .i64 n68, .slice a69 l69 c69] (fun w72 => drw (fun w73 => lL w73 b70 1 fun a74 l74 c74 => clL 156 ([.pointer (some ⟨b1, o2, none⟩)]) w73 R fun a75 l75 c75 w76 => cellH w76.heap b70 1 = some (.slice a74 l74 c74) ∧ clL 157 ([.slice a74 l74 c74, .slice a75 l75 c75]) w76 R fun a78 l78 c78 w79 => lI w79 b15 5 fun n81 => lI w79 b70 0 fun n82 => ixS a78 l78 (IntKind.wrap .i64 (n81 - 1)) fun b83 o84 => stW b83 (o84 + (Int.toNat (IntKind.wrap .i64 (n81 - 1))) * 2) [.int .i64 n4, .int .i64 n82] (fun w85 => lI w85 b70 0 fun n86 => clU 155 ([.pointer (some ⟨b18, o19, none⟩), .int .i64 n86, .slice a78 l78 c78]) w85 R fun w87 => (∃ m89, m89 < k61 ∧ I60 m89 (IntKind.wrap .i64 (n65 + 1)) w87)) w79) w72) w71) w63) (lL w63 b18 (o19 + 1) fun a90 l90 c90 => R (.returned (.slice a90 l90 c90)) w63))) ((cB (n22 == 3) (lL w20 b15 6 fun a91 l91 c91 => ∃ (I92 : Nat → Int → World → Prop), (∃ k94, I92 k94 0 w20) ∧ ∀ k93 (d96 : Nat → Value) n97 w95, I92 k93 n97 w95 → (cB (decide (n97 < ((l91 : Nat) : Int))) (ixS a91 l91 n97 fun b98 o99 => lI w95 b98 (o99 + (Int.toNat n97) * 1) fun n100 => clL 121 ([.pointer (some ⟨b1, o2, none⟩), .int .i64 n100, .int .i64 n4]) w95 R fun a101 l101 c101 w102 => ∃ (I104 : Nat → Int → World → Prop), (∃ k106, I104 k106 0 w102) ∧ ∀ k105 (d108 : Nat → Value) n109 w107, I104 k105 n109 w107 → (cB (decide (n109 < ((l101 : Nat) : Int))) (ixS a101 l101 n109 fun b110 o111 => lI w107 b110 (o111 + (Int.toNat n109) * 2) fun n112 => lL w107 b110 (o111 + (Int.toNat n109) * 2 + 1) fun a113 l113 c113 => newC [.int .i64 0, .slice none 0 0] 150 (fun b114 w115 => stW b114 0 [.int .i64 n112, .slice a113 l113 c113] (fun w116 => lI w116 b114 0 fun n117 => lL w116 b114 1 fun a118 l118 c118 => clU 155 ([.pointer (some ⟨b18, o19, none⟩), .int .i64 n117, .slice a118 l118 c118]) w116 R fun w119 => (∃ m121, m121 < k105 ∧ I104 m121 (IntKind.wrap .i64 (n109 + 1)) w119)) w115) w107) ((∃ m122, m122 < k93 ∧ I92 m122 (IntKind.wrap .i64 (n97 + 1)) w107)))) (lL w95 b18 (o19 + 1) fun a123 l123 c123 => R (.returned (.slice a123 l123 c123)) w95))) ((cB (n22 == 4) (clL 156 ([.pointer (some ⟨b1, o2, none⟩)]) w20 R fun a124 l124 c124 w125 => newC [.int .i64 n4, .slice a124 l124 c124] 150 (fun b127 w128 => ∃ (I129 : Nat → Option Addr → Nat → Nat → Int → World → Prop), (∃ k131, I129 k131 (some ⟨b127, 0, none⟩) 1 1 0 w128) ∧ ∀ k130 (d133 : Nat → Value) a134 l134 c134 n135 w132, I129 k130 a134 l134 c134 n135 w132 → lI w132 b15 2 fun n136 => (cB (decide (n135 < n136)) (lL w132 b15 6 fun a137 l137 c137 => ixS a137 l137 0 fun b138 o139 => lI w132 b138 o139 fun n140 => clL 158 ([.pointer (some ⟨b1, o2, none⟩), .slice a134 l134 c134, .int .i64 n140]) w132 R fun a141 l141 c141 w142 => (∃ m144, m144 < k130 ∧ I129 m144 a141 l141 c141 (IntKind.wrap .i64 (n135 + 1)) w142)) (lS w132 b1 (o2 + 4) fun s145 => ∃ a146 l146 c146, ∃ w147, (Instr.makeSlice 59 (.int .i64 (IntKind.wrap .i64 ((IntKind.wrap .i64 (((ByteArray.size s145 : Nat) : Int) + 1)) * 52))) (.int .i64 (IntKind.wrap .i64 ((IntKind.wrap .i64 (((ByteArray.size s145 : Nat) : Int) + 1)) * 52)))).run Try.prog w132 = .ok (.slice a146 l146 c146) w147 ∧ lI w147 b15 3 fun n148 => (cB (decide (n148 ≥ 0)) (lI w147 b15 3 fun n149 => lI w147 b15 2 fun n150 => ∃ (I151 : Nat → Int → World → Prop), (∃ k153, I151 k153 0 w147) ∧ ∀ k152 (d155 : Nat → Value) n156 w154, I151 k152 n156 w154 → (cB (decide (n156 < ((l134 : Nat) : Int))) (ixS a134 l134 n156 fun b157 o158 => lI w154 b157 (o158 + (Int.toNat n156) * 2) fun n159 => lL w154 b157 (o158 + (Int.toNat n156) * 2 + 1) fun a160 l160 c160 => newC [.int .i64 0, .slice none 0 0] 150 (fun b161 w162 => stW b161 0 [.int .i64 n159, .slice a160 l160 c160] (fun w163 => lI w163 b15 0 fun n164 => lL w163 b15 1 fun a165 l165 c165 => lI w163 b15 2 fun n166 => lI w163 b15 3 fun n167 => lB w163 b15 4 fun t168 => lI w163 b15 5 fun n169 => lL w163 b15 6 fun a170 l170 c170 => lI w163 b161 0 fun n171 => lL w163 b161 1 fun a172 l172 c172 => clU 159 ([.pointer (some ⟨b1, o2, none⟩), .agg #[.int .i64 n164, .slice a165 l165 c165, .int .i64 n166, .int .i64 n167, .bool t168, .int .i64 n169, .slice a170 l170 c170], .agg #[.int .i64 n171, .slice a172 l172 c172], .int .i64 (IntKind.wrap .i64 (n149 - n150)), .slice a146 l146 c146, .pointer (some ⟨b18, o19, none⟩)]) w163 R fun w173 => (∃ m175, m175 < k152 ∧ I151 m175 (IntKind.wrap .i64 (n156 + 1)) w173)) w162) w154) (lL w154 b18 (o19 + 1) fun a176 l176 c176 => R (.returned (.slice a176 l176 c176)) w154))) (∃ (I177 : Nat → Int → World → Prop), (∃ k179, I177 k179 0 w147) ∧ ∀ k178 (d181 : Nat → Value) n182 w180, I177 k178 n182 w180 → (cB (decide (n182 < ((l134 : Nat) : Int))) (ixS a134 l134 n182 fun b183 o184 => lI w180 b183 (o184 + (Int.toNat n182) * 2) fun n185 => lL w180 b183 (o184 + (Int.toNat n182) * 2 + 1) fun a186 l186 c186 => newC [.int .i64 0, .slice none 0 0] 150 (fun b187 w188 => stW b187 0 [.int .i64 n185, .slice a186 l186 c186] (fun w189 => lI w189 b15 0 fun n190 => lL w189 b15 1 fun a191 l191 c191 => lI w189 b15 2 fun n192 => lI w189 b15 3 fun n193 => lB w189 b15 4 fun t194 => lI w189 b15 5 fun n195 => lL w189 b15 6 fun a196 l196 c196 => lI w189 b187 0 fun n197 => lL w189 b187 1 fun a198 l198 c198 => clU 159 ([.pointer (some ⟨b1, o2, none⟩), .agg #[.int .i64 n190, .slice a191 l191 c191, .int .i64 n192, .int .i64 n193, .bool t194, .int .i64 n195, .slice a196 l196 c196], .agg #[.int .i64 n197, .slice a198 l198 c198], .int .i64 51, .slice a146 l146 c146, .pointer (some ⟨b18, o19, none⟩)]) w189 R fun w199 => (∃ m201, m201 < k178 ∧ I177 m201 (IntKind.wrap .i64 (n182 + 1)) w199)) w188) w180) (lL w180 b18 (o19 + 1) fun a202 l202 c202 => R (.returned (.slice a202 l202 c202)) w180))))))) w125) (clL 156 ([.pointer (some ⟨b1, o2, none⟩)]) w20 R fun a203 l203 c203 w204 => newC [.int .i64 n4, .slice a203 l203 c203] 150 (fun b206 w207 => lL w207 b15 6 fun a208 l208 c208 => ∃ (I209 : Nat → Option Addr → Nat → Nat → Int → World → Prop), (∃ k211, I209 k211 (some ⟨b206, 0, none⟩) 1 1 0 w207) ∧ ∀ k210 (d213 : Nat → Value) a214 l214 c214 n215 w212, I209 k210 a214 l214 c214 n215 w212 → (cB (decide (n215 < ((l208 : Nat) : Int))) (ixS a208 l208 n215 fun b216 o217 => lI w212 b216 (o217 + (Int.toNat n215) * 1) fun n218 => clL 158 ([.pointer (some ⟨b1, o2, none⟩), .slice a214 l214 c214, .int .i64 n218]) w212 R fun a219 l219 c219 w220 => (∃ m222, m222 < k210 ∧ I209 m222 a219 l219 c219 (IntKind.wrap .i64 (n215 + 1)) w220)) (R (.returned (.slice a214 l214 c214)) w212))) w204))))))))))))) w16) w
def scr138 : Scr := (.q 1 (.q 10 (.q 3 (.q 2 (.q 2 (.cond (.run [0,1,2,3,4,5,6,7] (.split 64 (.r [8,9,10,11,12,13,14,15,16,17] (.cond (.q 6 (.q 5 .nil)) (.q 5 .nil))) (.r [8,9,10,11,12,13,14,15,16,17] (.lit (.q 5 .nil))))) (.q 2 (.cond (.q 2 (.cond (.q 5 (.q 5 .nil)) (.q 5 .nil))) (.q 2 (.cond (.q 7 (.cond (.q 5 (.q 5 .nil)) (.q 5 .nil))) (.q 2 (.cond (.q 9 (.loop (dr [(114, some (.int .i64))] [(10,2),(115,23)]) (.q 1 (.cond (.q 4 (.q 6 (.q 10 (.q 5 (.q 2 .nil))))) (.q 5 .nil))))) (.q 2 (.cond (.q 4 (.loop (dr [(143, some (.int .i64))] [(13,1),(15,1),(144,20)]) (.q 1 (.cond (.q 3 (.q 6 (.loop (dr [(152, some (.int .i64))] [(15,1),(153,10)]) (.q 1 (.cond (.q 4 (.q 6 (.q 2 .nil))) (.q 2 .nil)))))) (.q 5 .nil))))) (.q 2 (.cond (.q 6 (.q 1 (.loop (dr [(16, some .slice), (17, some (.int .i64))] [(171,13)]) (.q 4 (.cond (.q 8 (.q 3 .nil)) (.q 9 (.q 1 (.q 3 (.cond (.q 6 (.q 3 (.loop (dr [(202, some (.int .i64))] [(21,1),(203,11)]) (.q 1 (.cond (.q 4 (.q 7 (.q 2 .nil))) (.q 5 .nil)))))) (.q 3 (.loop (dr [(202, some (.int .i64))] [(21,1),(203,11)]) (.q 1 (.cond (.q 4 (.q 7 (.q 2 .nil))) (.q 5 .nil)))))))))))))) (.q 6 (.q 4 (.loop (dr [(22, some .slice), (45, some (.int .i64))] [(24,1),(46,8)]) (.q 1 (.cond (.q 3 (.q 5 (.q 2 .nil))) (.q 2 .nil))))))))))))))))))))))
theorem vc138 {b1 o2 n3 n4} {R w} (h : V138 b1 o2 n3 n4 R w) : Cl Try.prog 138 [.pointer (some ⟨b1, o2, none⟩), .int .i64 n3, .int .i64 n4] w R :=
  cl_of scr138 Try.func138 (by kernel_rfl) _ _ (by kernel_rfl) h
/-- (*spec.l2M).ends -/
def V121 (b1 o2 : Nat) (n3 n4 : Int) (R : Rt) : Pred := fun w =>
  lS w b1 (o2 + 4) fun s5 => lL w b1 (o2 + 5) fun a6 l6 c6 => ixS a6 l6 (IntKind.wrap .i64 ((IntKind.wrap .i64 (n3 * (IntKind.wrap .i64 (((ByteArray.size s5 : Nat) : Int) + 1)))) + n4)) fun b7 o8 => lB w b7 (o8 + (Int.toNat (IntKind.wrap .i64 ((IntKind.wrap .i64 (n3 * (IntKind.wrap .i64 (((ByteArray.size s5 : Nat) : Int) + 1)))) + n4))) * 1) fun t9 => (cB (!t9) (lL w b1 (o2 + 5) fun a10 l10 c10 => ixS a10 l10 (IntKind.wrap .i64 ((IntKind.wrap .i64 (n3 * (IntKind.wrap .i64 (((ByteArray.size s5 : Nat) : Int) + 1)))) + n4)) fun b11 o12 => stW b11 (o12 + (Int.toNat (IntKind.wrap .i64 ((IntKind.wrap .i64 (n3 * (IntKind.wrap .i64 (((ByteArray.size s5 : Nat) : Int) + 1)))) + n4))) * 1) [.bool true] (fun w13 => drw (fun w14 => lL w14 b1 (o2 + 6) fun a15 l15 c15 => clL 138 ([.pointer (some ⟨b1, o2, none⟩), .int .i64 n3, .int .i64 n4]) w14 R fun a16 l16 c16 w17 => cellH w17.heap b1 (o2 + 6) = some (.slice a15 l15 c15) ∧ ixS a15 l15 (IntKind.wrap .i64 ((IntKind.wrap .i64 (n3 * (IntKind.wrap .i64 (((ByteArray.size s5 : Nat) : Int) + 1)))) + n4)) fun b19 o20 => stW b19 (o20 + (Int.toNat (IntKind.wrap .i64 ((IntKind.wrap .i64 (n3 * (IntKind.wrap .i64 (((ByteArray.size s5 : Nat) : Int) + 1)))) + n4))) * 1) [.slice a16 l16 c16] (fun w21 => lL w21 b1 (o2 + 6) fun a22 l22 c22 => ixS a22 l22 (IntKind.wrap .i64 ((IntKind.wrap .i64 (n3 * (IntKind.wrap .i64 (((ByteArray.size s5 : Nat) : Int) + 1)))) + n4)) fun b23 o24 => lL w21 b23 (o24 + (Int.toNat (IntKind.wrap .i64 ((IntKind.wrap .i64 (n3 * (IntKind.wrap .i64 (((ByteArray.size s5 : Nat) : Int) + 1)))) + n4))) * 1) fun a25 l25 c25 => R (.returned (.slice a25 l25 c25)) w21) w17) w13) w) (lL w b1 (o2 + 6) fun a26 l26 c26 => ixS a26 l26 (IntKind.wrap .i64 ((IntKind.wrap .i64 (n3 * (IntKind.wrap .i64 (((ByteArray.size s5 : Nat) : Int) + 1)))) + n4)) fun b27 o28 => lL w b27 (o28 + (Int.toNat (IntKind.wrap .i64 ((IntKind.wrap .i64 (n3 * (IntKind.wrap .i64 (((ByteArray.size s5 : Nat) : Int) + 1)))) + n4))) * 1) fun a29 l29 c29 => R (.returned (.slice a29 l29 c29)) w))
def scr121 : Scr := (.q 1 (.q 11 (.q 8 (.cond (.q 7 (.q 11 (.q 8 .nil))) (.q 8 .nil)))))
theorem vc121 {b1 o2 n3 n4} {R w} (h : V121 b1 o2 n3 n4 R w) : Cl Try.prog 121 [.pointer (some ⟨b1, o2, none⟩), .int .i64 n3, .int .i64 n4] w R :=
  cl_of scr121 Try.func121 (by kernel_rfl) _ _ (by kernel_rfl) h
end Go.Proofs.Ytngbiaeliphdjaa.V
/- The reference's ends in memory; its small functions on them. No statement of the seat is proved here. -/
namespace Go.Vc
open Go.RowKit
set_option linter.unusedVariables false
set_option linter.unusedSimpArgs false
/-- A row of n cells, told by a function. -/
def rowN (n : Nat) (f : Nat → Value) : List Value := (List.range n).map f
theorem rowN_length (n : Nat) (f : Nat → Value) : (rowN n f).length = n := by simp [rowN]
theorem rowN_get {n : Nat} (f : Nat → Value) {i : Nat} (h : i < n) : (rowN n f)[i]? = some (f i) := by simp [rowN, h]
theorem rowN_ext {n : Nat} {f g : Nat → Value} (h : ∀ i, i < n → f i = g i) : rowN n f = rowN n g := by
  unfold rowN
  apply List.map_congr_left
  intro i hi
  exact h i (by simpa using hi)
theorem rowN_set (n : Nat) (f : Nat → Value) (i : Nat) (v : Value) : (rowN n f).set i v = rowN n (fun j => if j = i then v else f j) := by
  apply List.ext_getElem?
  intro k
  rw [List.getElem?_set, rowN_length]
  by_cases hk : k < n
  · rw [rowN_get _ hk, rowN_get _ hk]
    by_cases hik : i = k
    · subst hik; simp [hk]
    · rw [if_neg hik, if_neg (Ne.symm hik)]
  · rw [List.getElem?_eq_none (l := rowN n f) (by rw [rowN_length]; omega), List.getElem?_eq_none (l := rowN n _) (by rw [rowN_length]; omega)]
    split
    · rw [if_neg (by omega)]
    · rfl
theorem rowN_rep (n : Nat) (v : Value) : List.replicate n v = rowN n fun _ => v := by simp [rowN, List.map_const']
/-- A group's span as the reference keeps it: -2 for one that was left as it was. -/
def spS (g : Gr) (j : Nat) : Int := match g (j / 2 + 1) with
  | some p => if j % 2 = 0 then (p.1 : Int) else (p.2 : Int)
  | none => if j % 2 = 0 then -2 else 0
def sgC (G : Nat) (g : Gr) : List Value := rowN (2 * G) fun j => .int .i64 (spS g j)
theorem sgC_length (G : Nat) (g : Gr) : (sgC G g).length = G * 2 := by unfold sgC; rw [rowN_length]; omega
theorem madeCells_two (z : Value) (n : Nat) : madeCells #[z, z] (n * 2) = ⟨List.replicate (n * 2) z⟩ := by
  apply Array.ext
  · simp [madeCells]
  · intro i h1 h2
    have : i % 2 = 0 ∨ i % 2 = 1 := by omega
    rcases this with h | h <;> simp [madeCells, h]
theorem make_in2 {P : Program} {t e : TypeId} {i : TypeInfo} {z : Value} (ht : P.underlying t = some (.slice e)) (hi : P.info? e = some i) (hz : i.zero = some z) {z1 : Value} (hz1 : z.cells = #[z1, z1]) (hs : i.size = 2) {by_ : Nat} (hby : i.bytes = by_) (hb8 : by_ ≤ 100) (n : Nat) (hn : n ≤ 1000000000) (w : World) :
    ∃ w', (Instr.makeSlice t (.int .i64 n) (.int .i64 n)).run P w = .ok (.slice (some ⟨w.heap.size, 0, none⟩) n n) w' ∧ w'.heap.size = w.heap.size + 1 ∧ Blk w'.heap w.heap.size e (List.replicate (n * 2) z1) ∧ Ext (fun _ => False) w w' := by
  have hbb : (i.bytes : Int) * (n : Int) ≤ 281474976710656 := by
    have h : i.bytes * n ≤ 281474976710656 := by
      have := Nat.mul_le_mul (show i.bytes ≤ 100 by omega) hn
      omega
    have h2 : ((i.bytes * n : Nat) : Int) ≤ 281474976710656 := by omega
    rwa [Int.natCast_mul] at h2
  have hr := run_make (P := P) w t e i z ht hi hz .i64 .i64 n n (by omega) (Int.le_refl _) hbb (by omega)
  refine ⟨_, hr, size_newW w _, ?_, (Ext.refl _ w).vnew _⟩
  rw [hz1, hs, Int.toNat_natCast, madeCells_two]
  exact Blk.new w e _
abbrev G3 := Option Addr × Nat × Nat
def endC (e : Wy × G3) : List Value := [.int .i64 (e.1.1 : Int), .slice e.2.1 e.2.2.1 e.2.2.2]
def endsC (es : List (Wy × G3)) : List Value := es.flatMap endC
theorem endsC_append (l m : List (Wy × G3)) : endsC (l ++ m) = endsC l ++ endsC m := by simp [endsC]
theorem endsC_one (e : Wy × G3) : endsC [e] = endC e := by simp [endsC]
theorem endsC_length (l : List (Wy × G3)) : (endsC l).length = l.length * 2 := by
  induction l with
  | nil => rfl
  | cons b r ih => rw [show b :: r = [b] ++ r from rfl, endsC_append, List.length_append, ih, endsC_one]; simp [endC]; omega
theorem endsC_at : ∀ (l : List (Wy × G3)) (i : Nat) (h : i < l.length), (endsC l)[i * 2]? = some (.int .i64 (l[i].1.1 : Int)) ∧ (endsC l)[i * 2 + 1]? = some (.slice l[i].2.1 l[i].2.2.1 l[i].2.2.2)
  | x :: r, 0, h => ⟨rfl, rfl⟩
  | x :: r, i + 1, h => by
    have := endsC_at r i (by simpa using h)
    rw [show (i + 1) * 2 = i * 2 + 2 from by omega, show i * 2 + 2 + 1 = (i * 2 + 1) + 2 from by omega]
    exact this
end Go.Vc
namespace Go.Proofs.Ytngbiaeliphdjaa.V
open Go.Vc Go.Proofs Go.RowKit
set_option linter.unusedVariables false
set_option linter.unusedSimpArgs false
theorem elemEnd : Elem Try.prog 147 150 2 32 := ⟨by kernel_rfl, by kernel_rfl, by kernel_rfl, ⟨[.int .i64 0, .slice none 0 0], by kernel_rfl, rfl⟩⟩
theorem makeSpans (G : Nat) (hG : G ≤ 1000) (w : World) : ∃ w', (Instr.makeSlice 27 (.int .i64 G) (.int .i64 G)).run Try.prog w = .ok (.slice (some ⟨w.heap.size, 0, none⟩) G G) w' ∧ w'.heap.size = w.heap.size + 1 ∧ Blk w'.heap w.heap.size 31 (rowN (2 * G) fun _ => .int .i64 0) ∧ Ext (fun _ => False) w w' := by
  rw [show 2 * G = G * 2 from by omega, ← rowN_rep]
  exact make_in2 (P := Try.prog) (t := 27) (e := 31) (i := Try.t31) (z := .agg #[.int .i64 0, .int .i64 0]) (by kernel_rfl) (by kernel_rfl) (by kernel_rfl) (z1 := .int .i64 0) rfl (by kernel_rfl) (by_ := 16) (by kernel_rfl) (by decide) G (by omega) w
theorem makeBools (n : Nat) (hn : n ≤ 1000000) (w : World) : ∃ w', (Instr.makeSlice 59 (.int .i64 n) (.int .i64 n)).run Try.prog w = .ok (.slice (some ⟨w.heap.size, 0, none⟩) n n) w' ∧ w'.heap.size = w.heap.size + 1 ∧ Blk w'.heap w.heap.size 4 (rowN n fun _ => .bool false) ∧ Ext (fun _ => False) w w' := by
  rw [← rowN_rep]
  exact make_in (P := Try.prog) (t := 59) (e := 4) (i := Try.t4) (z := .bool false) (by kernel_rfl) (by kernel_rfl) (by kernel_rfl) (z1 := .bool false) rfl (by kernel_rfl) (by_ := 1) (by kernel_rfl) (by decide) n (by omega) w
theorem makeLists (n : Nat) (hn : n ≤ 1000000) (w : World) : ∃ w', (Instr.makeSlice 122 (.int .i64 n) (.int .i64 n)).run Try.prog w = .ok (.slice (some ⟨w.heap.size, 0, none⟩) n n) w' ∧ w'.heap.size = w.heap.size + 1 ∧ Blk w'.heap w.heap.size 147 (rowN n fun _ => .slice none 0 0) ∧ Ext (fun _ => False) w w' := by
  rw [← rowN_rep]
  exact make_in (P := Try.prog) (t := 122) (e := 147) (i := Try.t147) (z := .slice none 0 0) (by kernel_rfl) (by kernel_rfl) (by kernel_rfl) (z1 := .slice none 0 0) rfl (by kernel_rfl) (by_ := 24) (by kernel_rfl) (by decide) n (by omega) w
/-- The groups, none of them set. -/
theorem snone_ok {w : World} {b : Nat} {G : Nat} (hG : G ≤ 1000) (h2 : cellH w.heap b 2 = some (.int .i64 (G : Int))) :
    Cl Try.prog 156 [.pointer (some ⟨b, 0, none⟩)] w (fun e w' => ∃ k, e = .returned (.slice (some ⟨k, 0, none⟩) G G) ∧ w.heap.size ≤ k ∧ Vec w'.heap 31 2 (some ⟨k, 0, none⟩) G G (sgC G gNone) ∧ Below w.heap.size w w') := by
  apply vc156
  unfold V156
  obtain ⟨w5, hr, s5, k5, e5⟩ := makeSpans G hG w
  have B5 : Below w.heap.size w w5 := Ext.to (Below.refl _ _) e5 fun _ h => h.elim
  generalize hk : w.heap.size = k at *
  refine ⟨(G : Int), by rw [Nat.zero_add]; exact h2, _, _, _, w5, hr, fun m n w' => ∃ i : Nat, n = i ∧ i ≤ G ∧ m = G - i ∧ Blk w'.heap k 31 (rowN (2 * G) fun j => .int .i64 (if j < 2 * i ∧ j % 2 = 0 then -2 else 0)) ∧ Below w.heap.size w w', ⟨_, 0, rfl, by omega, rfl, ?_, by rw [hk]; exact B5⟩, ?_⟩
  · rw [rowN_ext (g := fun _ => .int .i64 0) fun j _ => by rw [if_neg (by omega)]]; exact k5
  rintro m d n w1 ⟨i, rfl, hi, rfl, k1, B1⟩
  refine ⟨fun g => ?_, fun g => ?_⟩
  · have g' : i < G := by have := of_decide_eq_true g; omega
    refine ⟨k, 0, ⟨rfl, by omega, by omega⟩, ?_⟩
    dsimp only
    rw [show 0 + Int.toNat (i : Int) * 2 = 2 * i from by omega]
    refine stW_in k1 (by rw [rowN_length]; show 2 * i + 1 ≤ 2 * G; omega) fun w2 s2 k2 e2 => ⟨G - (i + 1), by omega, i + 1, by rw [w64 (by omega)]; omega, by omega, rfl, ?_, Ext.to B1 e2 fun x hx => by omega⟩
    have : segSet (rowN (2 * G) fun j => .int .i64 (if j < 2 * i ∧ j % 2 = 0 then -2 else 0)) (2 * i) [.int .i64 (-2)] = rowN (2 * G) fun j => .int .i64 (if j < 2 * (i + 1) ∧ j % 2 = 0 then -2 else 0) := by
      show (rowN _ _).set (2 * i) _ = _
      rw [rowN_set]
      apply rowN_ext
      intro j hj
      by_cases h1 : j = 2 * i
      · rw [if_pos h1, if_pos (by omega)]
      · rw [if_neg h1]
        by_cases h2 : j < 2 * i ∧ j % 2 = 0
        · rw [if_pos h2, if_pos (by omega)]
        · rw [if_neg h2, if_neg (by omega)]
    rw [this] at k2; exact k2
  · have g' : i = G := by have := of_decide_eq_false g; omega
    subst g'
    have hc : (rowN (2 * i) fun j => .int .i64 (if j < 2 * i ∧ j % 2 = 0 then -2 else 0)) = sgC i gNone := by
      apply rowN_ext
      intro j hj
      unfold spS gNone
      by_cases h : j % 2 = 0
      · rw [if_pos ⟨hj, h⟩]; simp only [h, if_true]
      · rw [if_neg (fun h' => h h'.2)]; simp only [h, if_false]
    rw [hc] at k1
    exact ⟨k, rfl, by omega, ⟨sgC_length _ _, Nat.le_refl _, .inr ⟨k, _, rfl, k1, sgC_length _ _, List.take_of_length_le (by rw [sgC_length]; exact Nat.le_refl _)⟩⟩, hk ▸ B1⟩
/-- Groups as another way left them. -/
theorem sover_ok {w : World} {a1 a2 : Option Addr} {l1 l2 c1 c2 : Nat} {x y : Gr} {G : Nat} (hG : G ≤ 1000) (h1 : Vec w.heap 31 2 a1 l1 c1 (sgC G x)) (h2 : Vec w.heap 31 2 a2 l2 c2 (sgC G y)) :
    Cl Try.prog 157 [.slice a1 l1 c1, .slice a2 l2 c2] w (fun e w' => ∃ k, e = .returned (.slice (some ⟨k, 0, none⟩) G G) ∧ w.heap.size ≤ k ∧ Vec w'.heap 31 2 (some ⟨k, 0, none⟩) G G (sgC G (gOver x y)) ∧ Below w.heap.size w w') := by
  have hl1 : l1 = G := by have := h1.1; rw [sgC_length] at this; omega
  have hl2 : l2 = G := by have := h2.1; rw [sgC_length] at this; omega
  subst hl1
  subst hl2
  apply vc157
  unfold V157
  obtain ⟨w4, hr, s4, k4, e4⟩ := makeSpans l2 hG w
  have B4 : Below w.heap.size w w4 := Ext.to (Below.refl _ _) e4 fun _ h => h.elim
  generalize hk : w.heap.size = k at *
  refine ⟨_, _, _, w4, hr, fun m n w' => ∃ i : Nat, n = i ∧ i ≤ l2 ∧ m = l2 - i ∧ Blk w'.heap k 31 (rowN (2 * l2) fun j => .int .i64 (if j < 2 * i then spS (gOver x y) j else 0)) ∧ Below w.heap.size w w', ⟨_, 0, rfl, by omega, rfl, ?_, by rw [hk]; exact B4⟩, ?_⟩
  · rw [rowN_ext (g := fun _ => .int .i64 0) fun j _ => by rw [if_neg (by omega)]]; exact k4
  rintro m d n w8 ⟨i, rfl, hi, rfl, k8, B8⟩
  refine ⟨fun g => ?_, fun g => ?_⟩
  · have g' : i < l2 := by have := of_decide_eq_true g; omega
    have e0 : Int.toNat (i : Int) = i := by omega
    have e1 : IntKind.wrap .i64 ((i : Int) + 1) = ((i + 1 : Nat) : Int) := by rw [w64 (by omega)]; omega
    rw [e0, e1]
    have v1 := h1.keep (S := fun _ => False) (Ext.of_below B8) fun _ _ h => h
    have v2 := h2.keep (S := fun _ => False) (Ext.of_below B8) fun _ _ h => h
    obtain ⟨b1, rfl, hc1⟩ := v1.open (by omega)
    obtain ⟨b2, rfl, hc2⟩ := v2.open (by omega)
    have hb1 := h1.lt b1 rfl
    have hb2 := h2.lt b2 rfl
    have hx : ∀ o, o < 2 → cellH w8.heap b1 (0 + i * 2 + o) = some (.int .i64 (spS x (2 * i + o))) := fun o ho => by
      rw [Nat.zero_add, hc1 _ (by omega), show i * 2 + o = 2 * i + o from by omega]; exact rowN_get _ (by omega)
    have hy : ∀ {w' : World} o, o < 2 → (∀ q, cellH w'.heap b2 q = cellH w8.heap b2 q) → cellH w'.heap b2 (0 + i * 2 + o) = some (.int .i64 (spS y (2 * i + o))) := fun o ho hq => by
      rw [hq, Nat.zero_add, hc2 _ (by omega), show i * 2 + o = 2 * i + o from by omega]; exact rowN_get _ (by omega)
    have ev : (2 * i) / 2 = i ∧ (2 * i + 1) / 2 = i ∧ (2 * i) % 2 = 0 ∧ (2 * i + 1) % 2 ≠ 0 := by omega
    refine ⟨b1, 0, ⟨rfl, by omega, by omega⟩, _, hx 0 (by decide), _, hx 1 (by decide), k, 0, ⟨rfl, by omega, by omega⟩, ?_⟩
    refine stW_in k8 (by rw [rowN_length]; show 0 + i * 2 + 2 ≤ 2 * l2; omega) fun w17 s17 k17 e17 => ?_
    have hq17 : ∀ q, cellH w17.heap b2 q = cellH w8.heap b2 q := fun q => Ext.cellH e17 (by have := B8.size; omega) (by omega) q
    have B17 : Below w.heap.size w w17 := Ext.to B8 e17 fun z hz => by omega
    -- what two numbers become
    have hstep : ∀ (f : Nat → Value), (∀ j, j < 2 * i → f j = .int .i64 (spS (gOver x y) j)) → f (2 * i) = .int .i64 (spS (gOver x y) (2 * i)) → f (2 * i + 1) = .int .i64 (spS (gOver x y) (2 * i + 1)) → (∀ j, 2 * i + 1 < j → f j = .int .i64 0) → rowN (2 * l2) f = rowN (2 * l2) fun j => .int .i64 (if j < 2 * (i + 1) then spS (gOver x y) j else 0) := by
      intro f f1 f2 f3 f4
      apply rowN_ext
      intro j hj
      by_cases hj1 : j < 2 * (i + 1)
      · rw [if_pos hj1]
        by_cases hj2 : j < 2 * i
        · exact f1 j hj2
        · by_cases hj3 : j = 2 * i
          · subst hj3; exact f2
          · obtain rfl : j = 2 * i + 1 := by omega
            exact f3
      · rw [if_neg hj1]; exact f4 j (by omega)
    have hk17 : Blk w17.heap k 31 (rowN (2 * l2) fun j => if j = 2 * i + 1 then .int .i64 (spS x (2 * i + 1)) else if j = 2 * i then .int .i64 (spS x (2 * i)) else .int .i64 (if j < 2 * i then spS (gOver x y) j else 0)) := by
      have : segSet (rowN (2 * l2) fun j => .int .i64 (if j < 2 * i then spS (gOver x y) j else 0)) (0 + i * 2) [.int .i64 (spS x (2 * i + 0)), .int .i64 (spS x (2 * i + 1))] = rowN (2 * l2) fun j => if j = 2 * i + 1 then .int .i64 (spS x (2 * i + 1)) else if j = 2 * i then .int .i64 (spS x (2 * i)) else .int .i64 (if j < 2 * i then spS (gOver x y) j else 0) := by
        show ((rowN _ _).set (0 + i * 2) _).set (0 + i * 2 + 1) _ = _
        rw [rowN_set, rowN_set, show 0 + i * 2 = 2 * i from by omega]
        rfl
      rw [this] at k17; exact k17
    refine ⟨b2, 0, ⟨rfl, by omega, by omega⟩, _, hy 0 (by decide) hq17, fun g2 => ?_, fun g2 => ?_⟩
    · obtain ⟨p, hp⟩ : ∃ p, y (i + 1) = some p := by
        cases hyi : y (i + 1) with
        | some p => exact ⟨p, rfl⟩
        | none =>
          have h0 : spS y (2 * i + 0) = -2 := by unfold spS; simp only [Nat.add_zero, ev.1, hyi, ev.2.2.1, if_true]
          rw [h0] at g2; simp at g2
      refine ⟨b2, 0, ⟨rfl, by omega, by omega⟩, _, hy 0 (by decide) hq17, _, hy 1 (by decide) hq17, k, 0, ⟨rfl, by omega, by omega⟩, ?_⟩
      refine stW_in hk17 (by rw [rowN_length]; show 0 + i * 2 + 2 ≤ 2 * l2; omega) fun w27 s27 k27 e27 => ⟨l2 - (i + 1), by omega, i + 1, rfl, by omega, rfl, ?_, Ext.to B17 e27 fun z hz => by omega⟩
      have hs : ∀ f : Nat → Value, segSet (rowN (2 * l2) f) (0 + i * 2) [.int .i64 (spS y (2 * i + 0)), .int .i64 (spS y (2 * i + 1))] = rowN (2 * l2) fun j => if j = 2 * i + 1 then .int .i64 (spS y (2 * i + 1)) else if j = 2 * i then .int .i64 (spS y (2 * i)) else f j := by
        intro f
        show ((rowN _ _).set (0 + i * 2) _).set (0 + i * 2 + 1) _ = _
        rw [rowN_set, rowN_set, show 0 + i * 2 = 2 * i from by omega]
        rfl
      rw [hs, hstep] at k27
      · exact k27
      · intro j hj; rw [if_neg (by omega), if_neg (by omega), if_neg (by omega), if_neg (by omega), if_pos hj]
      · rw [if_neg (by omega), if_pos rfl]; unfold spS gOver; rw [ev.1, hp]; rfl
      · rw [if_pos rfl]; unfold spS gOver; rw [ev.2.1, hp]; rfl
      · intro j hj; rw [if_neg (by omega), if_neg (by omega), if_neg (by omega), if_neg (by omega), if_neg (by omega)]
    · have hp : y (i + 1) = none := by
        cases hyi : y (i + 1) with
        | none => rfl
        | some p =>
          have h0 : spS y (2 * i + 0) = (p.1 : Int) := by unfold spS; simp only [Nat.add_zero, ev.1, hyi, ev.2.2.1, if_true]
          rw [h0] at g2
          simp at g2
      refine ⟨l2 - (i + 1), by omega, i + 1, rfl, by omega, rfl, ?_, B17⟩
      rw [hstep] at hk17
      · exact hk17
      · intro j hj; rw [if_neg (by omega), if_neg (by omega), if_pos hj]
      · rw [if_neg (by omega), if_pos rfl]; unfold spS gOver; rw [ev.1, hp]; rfl
      · rw [if_pos rfl]; unfold spS gOver; rw [ev.2.1, hp]; rfl
      · intro j hj; rw [if_neg (by omega), if_neg (by omega), if_neg (by omega)]
  · have g' : i = l2 := by have := of_decide_eq_false g; omega
    subst g'
    rw [rowN_ext (g := fun j => .int .i64 (spS (gOver x y) j)) fun j hj => by rw [if_pos hj]] at k8
    exact ⟨k, rfl, by omega, ⟨sgC_length _ _, Nat.le_refl _, .inr ⟨k, _, rfl, k8, sgC_length _ _, List.take_of_length_le (by rw [rowN_length]; omega)⟩⟩, hk ▸ B8⟩
/-- Is the byte in the set? -/
theorem sin_ok {w : World} {a : Option Addr} {l c : Nat} {s : List (Int × Int)} (h : Vec w.heap 134 2 a l c (rngC s)) (hl : s.length ≤ 1000) (ch : Nat) (hc : ch < 256) {ch' : Int} (e : ch' = ch) :
    Cl Try.prog 154 [.slice a l c, .int .u8 ch'] w (RetB (.bool (inSet s ch)) w) := by
  subst e
  apply vc154
  unfold V154
  have hls : l = s.length := by have := h.1; rw [rngC_length] at this; omega
  subst hls
  rw [w64 (n := (ch : Int)) (by omega)]
  refine ⟨fun m n w' => ∃ (A B : List (Int × Int)), s = A ++ B ∧ n = A.length ∧ m = B.length ∧ inSet A ch = false ∧ Below w.heap.size w w', ⟨_, [], s, rfl, rfl, rfl, rfl, Below.refl _ _⟩, ?_⟩
  rintro m d n w1 ⟨A, B, hs, rfl, rfl, hA, hb⟩
  have hsl : s.length = A.length + B.length := by rw [hs]; simp
  have e0 : Int.toNat (A.length : Int) = A.length := by omega
  have e1 : IntKind.wrap .i64 ((A.length : Int) + 1) = ((A.length + 1 : Nat) : Int) := by rw [w64 (by omega)]; omega
  rw [e0, e1]
  refine ⟨fun g => ?_, fun g => ?_⟩
  · have g' : A.length < s.length := by have := of_decide_eq_true g; omega
    obtain ⟨x, B', rfl⟩ : ∃ x B', B = x :: B' := by
      cases B with
      | nil => simp only [List.length_nil] at hsl; omega
      | cons x B' => exact ⟨x, B', rfl⟩
    have hv := h.keep (S := fun _ => False) (Ext.of_below hb) fun _ _ h => h
    obtain ⟨b, rfl, hcell⟩ := hv.open (by omega)
    have hrg := rngC_at s A.length g'
    have hx : s[A.length] = x := by rw [List.getElem_of_eq hs]; simp
    rw [hx] at hrg
    refine ⟨b, 0, ⟨rfl, by omega, by omega⟩, x.1, by rw [Nat.zero_add, hcell _ (by omega)]; exact hrg.1, x.2, by rw [Nat.zero_add, hcell _ (by omega)]; exact hrg.2, ?_⟩
    refine newC_in fun w2 s2 k2 e2 => ?_
    refine stW_in k2 (by show 0 + 2 ≤ 2; decide) fun w3 s3 k3 e3 => ?_
    have B3 : Below w.heap.size w w3 := Ext.to (Ext.to hb e2 fun _ h => h.elim) e3 fun i hi => by have := hb.size; omega
    have hin : inSet (A ++ [x]) ch = (inSet A ch || (decide (x.1 ≤ (ch : Int)) && decide ((ch : Int) ≤ x.2))) := by simp [inSet]
    have hno : (decide (x.1 ≤ (ch : Int)) && decide ((ch : Int) ≤ x.2)) = false → ∃ m, m < B'.length + 1 ∧ ∃ (A' B'' : List (Int × Int)), s = A' ++ B'' ∧ ((A.length + 1 : Nat) : Int) = A'.length ∧ m = B''.length ∧ inSet A' ch = false ∧ Below w.heap.size w w3 := fun h =>
      ⟨B'.length, by omega, A ++ [x], B', by rw [hs]; simp, by simp, rfl, by rw [hin, hA, h]; rfl, B3⟩
    refine ⟨_, k3.cell 0, fun g9 => ⟨_, k3.cell 1, fun g10 => ?_, fun g10 => hno (by rw [g10, Bool.and_false])⟩, fun g9 => hno (by rw [show decide (x.1 ≤ (ch : Int)) = false from g9, Bool.false_and])⟩
    have : inSet s ch = true := by
      rw [hs]
      unfold inSet
      rw [List.any_append, List.any_cons, show decide (x.1 ≤ (ch : Int)) = true from g9, g10]
      simp
    rw [this]
    exact ⟨rfl, B3⟩
  · have g' : ¬ A.length < s.length := by have := of_decide_eq_false g; omega
    have : B = [] := by
      cases B with
      | nil => rfl
      | cons x r => simp only [List.length_cons] at hsl; omega
    subst this
    rw [List.append_nil] at hs
    subst hs
    rw [hA]
    exact ⟨rfl, hb⟩
end Go.Proofs.Ytngbiaeliphdjaa.V
/- The reference's machine in memory; its lists. No statement of the seat is proved here. -/
namespace Go.Proofs.Ytngbiaeliphdjaa.V
open Go.Vc Go.Proofs Go.RowKit
set_option linter.unusedVariables false
set_option linter.unusedSimpArgs false
/-- A machine: its block, its tables, its pattern's pieces, its text. -/
structure Sx where
  bm : Nat
  bd : Nat
  bl : Nat
  N : Nat
  P : Pat
  t : ByteArray
  pa : Option Addr
  pl : Nat
  pc : Nat
  rs : List Raw
def Sx.n (s : Sx) : Nat := (L s.t).length
def Sx.idx (s : Sx) (k i : Nat) : Nat := k * (s.n + 1) + i
def Sx.tot (s : Sx) : Nat := s.P.pieces.length * (s.n + 1)
def Sx.ends (s : Sx) (k i : Nat) : List Wy := endsP s.P.pieces (L s.t) k i
def Sx.sub (s : Sx) (k : Nat) : Nat → List Wy := s.ends ((s.P.pieces.getD k pSta).kids.getD 0 0).toNat
def Sx.more (s : Sx) (k : Nat) (left : Option Nat) (i : Nat) : List Wy := moreP (s.sub k) s.n (s.P.pieces.getD k pSta).lazy left i
theorem Sx.idx_lt (s : Sx) {k i : Nat} (hk : k < s.P.pieces.length) (hi : i ≤ s.n) : s.idx k i < s.tot := by
  unfold Sx.idx Sx.tot
  have : (k + 1) * (s.n + 1) ≤ s.P.pieces.length * (s.n + 1) := Nat.mul_le_mul_right _ hk
  rw [Nat.add_mul] at this
  omega
theorem Sx.idx_ge (s : Sx) {k i K : Nat} (hk : K ≤ k) : K * (s.n + 1) ≤ s.idx k i := by
  unfold Sx.idx
  have : K * (s.n + 1) ≤ k * (s.n + 1) := Nat.mul_le_mul_right _ hk
  omega
theorem Sx.idx_below (s : Sx) {k i K : Nat} (hk : k < K) (hi : i ≤ s.n) : s.idx k i < K * (s.n + 1) := by
  unfold Sx.idx
  have : (k + 1) * (s.n + 1) ≤ K * (s.n + 1) := Nat.mul_le_mul_right _ hk
  rw [Nat.add_mul] at this
  omega
theorem Sx.idx_inj (s : Sx) {k i k' i' : Nat} (hi : i ≤ s.n) (hi' : i' ≤ s.n) (h : s.idx k i = s.idx k' i') : k = k' ∧ i = i' := by
  rcases Nat.lt_trichotomy k k' with hk | hk | hk
  · have h1 := s.idx_below hk hi; have h2 := s.idx_ge (i := i') (Nat.le_refl k'); omega
  · subst hk; unfold Sx.idx at h; exact ⟨rfl, by omega⟩
  · have h1 := s.idx_below hk hi'; have h2 := s.idx_ge (i := i) (Nat.le_refl k); omega
/-- Groups in memory. -/
def GrAt (s : Sx) (X : Nat → Prop) (w : World) (g : G3) (x : Gr) : Prop := Vec w.heap 31 2 g.1 g.2.1 g.2.2 (sgC s.P.groups x) ∧ ∀ k, blkOf g.1 = some k → ¬ X k ∧ k ≠ s.bd ∧ k ≠ s.bl
/-- Ends in memory. -/
def EndsAt (s : Sx) (X : Nat → Prop) (w : World) (a : Option Addr) (l cp : Nat) (ws : List Wy) : Prop := ∃ es : List (Wy × G3), es.map (·.1) = ws ∧ Vec w.heap 150 2 a l cp (endsC es) ∧ (∀ e ∈ es, GrAt s X w e.2 e.1.2) ∧ ∀ k, blkOf a = some k → ¬ X k ∧ k ≠ s.bd ∧ k ≠ s.bl
theorem GrAt.grow {s : Sx} {X Y S : Nat → Prop} {w w' : World} {g : G3} {x : Gr} (h : GrAt s X w g x) (e : Ext S w w') (hS : ∀ x, S x → X x ∨ x = s.bd ∨ x = s.bl) (hY : ∀ x, Y x → X x ∨ w.heap.size ≤ x) : GrAt s Y w' g x :=
  ⟨h.1.keep e fun b hb hs => by
    have := h.2 b hb
    rcases hS b hs with h1 | h1 | h1
    · exact this.1 h1
    · exact this.2.1 h1
    · exact this.2.2 h1, fun k hk => ⟨fun hy => by
    rcases hY k hy with h1 | h1
    · exact (h.2 k hk).1 h1
    · have := h.1.lt k hk; omega, (h.2 k hk).2⟩⟩
theorem EndsAt.grow {s : Sx} {X Y S : Nat → Prop} {w w' : World} {a : Option Addr} {l cp : Nat} {ws : List Wy} (h : EndsAt s X w a l cp ws) (e : Ext S w w') (hS : ∀ x, S x → X x ∨ x = s.bd ∨ x = s.bl) (hY : ∀ x, Y x → X x ∨ w.heap.size ≤ x) : EndsAt s Y w' a l cp ws := by
  obtain ⟨es, h1, h2, h3, h4⟩ := h
  refine ⟨es, h1, h2.keep e fun b hb hs => ?_, fun x hx => (h3 x hx).grow e hS hY, fun k hk => ⟨fun hy => ?_, (h4 k hk).2⟩⟩
  · have := h4 b hb
    rcases hS b hs with h1 | h1 | h1
    · exact this.1 h1
    · exact this.2.1 h1
    · exact this.2.2 h1
  · rcases hY k hy with h1 | h1
    · exact (h4 k hk).1 h1
    · have := h2.lt k hk; omega
theorem GrAt.below {s : Sx} {X : Nat → Prop} {w w' : World} {g : G3} {x : Gr} (h : GrAt s X w g x) (e : Below w.heap.size w w') : GrAt s X w' g x := h.grow (S := fun _ => False) (Ext.of_below e) (fun _ h => h.elim) fun _ h => .inl h
theorem EndsAt.below {s : Sx} {X : Nat → Prop} {w w' : World} {a : Option Addr} {l cp : Nat} {ws : List Wy} (h : EndsAt s X w a l cp ws) (e : Below w.heap.size w w') : EndsAt s X w' a l cp ws := h.grow (S := fun _ => False) (Ext.of_below e) (fun _ h => h.elim) fun _ h => .inl h
theorem EndsAt.len {s : Sx} {X : Nat → Prop} {w : World} {a : Option Addr} {l cp : Nat} {ws : List Wy} (h : EndsAt s X w a l cp ws) : ws.length = l := by
  obtain ⟨es, h1, h2, _⟩ := h
  have := h2.1; rw [endsC_length] at this
  rw [← h1, List.length_map]; omega
/-- One end of a row. -/
theorem EndsAt.elem {s : Sx} {X : Nat → Prop} {w : World} {a : Option Addr} {l cp : Nat} {A B : List Wy} {x : Wy} (h : EndsAt s X w a l cp (A ++ x :: B)) :
    ∃ b g, a = some ⟨b, 0, none⟩ ∧ A.length < l ∧ cellH w.heap b (0 + A.length * 2) = some (.int .i64 (x.1 : Int)) ∧ cellH w.heap b (0 + A.length * 2 + 1) = some (.slice g.1 g.2.1 g.2.2) ∧ GrAt s X w g x.2 := by
  have hl := h.len
  have hl' : A.length < l := by rw [← hl]; simp
  obtain ⟨es, h1, h2, h3, h4⟩ := h
  have hel : es.length = l := by rw [← hl, ← h1, List.length_map]
  obtain ⟨b, rfl, hc⟩ := h2.open (by omega)
  have hi : A.length < es.length := by omega
  have hat := endsC_at es A.length hi
  have hx : es[A.length].1 = x := by
    have : (es.map (·.1))[A.length]'(by rw [List.length_map]; exact hi) = x := by rw [List.getElem_of_eq h1]; simp
    rw [List.getElem_map] at this
    exact this
  refine ⟨b, es[A.length].2, rfl, hl', by rw [Nat.zero_add, hc _ (by omega), hat.1, hx], by rw [Nat.zero_add, hc _ (by omega)]; exact hat.2, ?_⟩
  have := h3 _ (List.getElem_mem hi)
  rw [hx] at this
  exact this
def sltV (x : G3) : Value := .slice x.1 x.2.1 x.2.2
/-- The machine stands; what it holds of the pieces below K is right, and apart from X. -/
structure STab (s : Sx) (K : Nat) (X : Nat → Prop) (w : World) (d : Nat → Bool) (sl : Nat → G3) : Prop where
  mb : Blk w.heap s.bm 124 [.bool s.P.ok, .int .i64 (s.P.at_ : Int), .int .i64 (s.P.groups : Int), .slice s.pa s.pl s.pc, .string s.t, .slice (some ⟨s.bd, 0, none⟩) s.tot s.tot, .slice (some ⟨s.bl, 0, none⟩) s.tot s.tot]
  db : Blk w.heap s.bd 4 (rowN s.tot fun j => .bool (d j))
  lb : Blk w.heap s.bl 147 (rowN s.tot fun j => sltV (sl j))
  pcs : Pcs s.N w s.pa s.pl s.pc s.rs s.P.pieces
  ok : ∀ k i, k < K → k < s.P.pieces.length → i ≤ s.n → d (s.idx k i) = true → EndsAt s X w (sl (s.idx k i)).1 (sl (s.idx k i)).2.1 (sl (s.idx k i)).2.2 (s.ends k i)
  ne : s.bm ≠ s.bd ∧ s.bm ≠ s.bl ∧ s.bd ≠ s.bl ∧ s.bd ∉ blks s.pa s.rs ∧ s.bl ∉ blks s.pa s.rs
  priv : ∀ x, X x → x ≠ s.bm ∧ x ≠ s.bd ∧ x ≠ s.bl ∧ x ∉ blks s.pa s.rs ∧ x < w.heap.size
theorem STab.grow {s : Sx} {K : Nat} {X Y S : Nat → Prop} {w w' : World} {d : Nat → Bool} {sl : Nat → G3} (h : STab s K X w d sl) (e : Ext S w w') (hS : ∀ x, S x → X x) (hY : ∀ x, Y x → X x ∨ w.heap.size ≤ x) (hYl : ∀ x, Y x → x < w'.heap.size) : STab s K Y w' d sl := by
  have hp := h.priv
  have h1 := h.mb.lt
  have h2 := h.db.lt
  have h3 := h.lb.lt
  have hB := h.pcs.lt
  refine ⟨h.mb.keep e fun hs => (hp _ (hS _ hs)).1 rfl, h.db.keep e fun hs => (hp _ (hS _ hs)).2.1 rfl, h.lb.keep e fun hs => (hp _ (hS _ hs)).2.2.1 rfl, h.pcs.keep e fun k hk hs => (hp _ (hS _ hs)).2.2.2.1 hk, fun k i a1 a2 a3 a4 => (h.ok k i a1 a2 a3 a4).grow e (fun x hx => .inl (hS x hx)) hY, h.ne, fun x hx => ?_⟩
  rcases hY x hx with h4 | h4
  · have := hp x h4
    exact ⟨this.1, this.2.1, this.2.2.1, this.2.2.2.1, hYl x hx⟩
  · exact ⟨by omega, by omega, by omega, fun hk => by have := hB x hk; omega, hYl x hx⟩
theorem STab.below {s : Sx} {K : Nat} {X : Nat → Prop} {w w' : World} {d : Nat → Bool} {sl : Nat → G3} (h : STab s K X w d sl) (e : Below w.heap.size w w') : STab s K X w' d sl :=
  h.grow (S := fun _ => False) (Ext.of_below e) (fun _ h => h.elim) (fun _ h => .inl h) fun x hx => Nat.lt_of_lt_of_le (h.priv x hx).2.2.2.2 e.size
theorem STab.drop {s : Sx} {K : Nat} {X Y : Nat → Prop} {w : World} {d : Nat → Bool} {sl : Nat → G3} (h : STab s K X w d sl) (hY : ∀ x, Y x → X x) : STab s K Y w d sl :=
  h.grow (S := fun _ => False) (Ext.refl _ _) (fun _ h => h.elim) (fun x hx => .inl (hY x hx)) fun x hx => (h.priv x (hY x hx)).2.2.2.2
def Agr (s : Sx) (K : Nat) (d d' : Nat → Bool) (sl sl' : Nat → G3) : Prop := ∀ j, K * (s.n + 1) ≤ j → d' j = d j ∧ sl' j = sl j
theorem Agr.refl (s : Sx) (K : Nat) (d : Nat → Bool) (sl : Nat → G3) : Agr s K d d sl sl := fun _ _ => ⟨rfl, rfl⟩
theorem Agr.trans {s : Sx} {K : Nat} {d1 d2 d3 : Nat → Bool} {s1 s2 s3 : Nat → G3} (h : Agr s K d1 d2 s1 s2) (k : Agr s K d2 d3 s2 s3) : Agr s K d1 d3 s1 s3 := fun j hj => ⟨(k j hj).1.trans (h j hj).1, (k j hj).2.trans (h j hj).2⟩
/-- Ends, as a call gives them. -/
def ResE (s : Sx) (K : Nat) (X : Nat → Prop) (w : World) (d : Nat → Bool) (sl : Nat → G3) (ws : List Wy) : Ending → World → Prop := fun e w' => ∃ a l cp d' sl', e = .returned (.slice a l cp) ∧ EndsAt s X w' a l cp ws ∧ STab s K X w' d' sl' ∧ Agr s K d d' sl sl' ∧ Ext (fun x => x = s.bd ∨ x = s.bl) w w'
def EndsC (s : Sx) (k : Nat) : Prop := ∀ (K : Nat) (X : Nat → Prop) (w : World) (d : Nat → Bool) (sl : Nat → G3) (i : Nat), k < K → STab s K X w d sl → i ≤ s.n → Cl Try.prog 121 [.pointer (some ⟨s.bm, 0, none⟩), .int .i64 k, .int .i64 i] w (ResE s K X w d sl (s.ends k i))
/-! ### Lists -/
def seenS (n : Nat) (ws : List Wy) : List Value := rowN (n + 1) fun p => .bool (has ws p)
theorem seenS_set (n : Nat) (ws : List Wy) (x : Wy) : (seenS n ws).set x.1 (.bool true) = seenS n (ws ++ [x]) := by
  unfold seenS
  rw [rowN_set]
  apply rowN_ext
  intro p hp
  rw [has_append]
  by_cases h : p = x.1
  · subst h; simp [has]
  · rw [if_neg h]; simp [has, Ne.symm h]
/-- A list of ends that is gathered while the machine stands. -/
structure SL (s : Sx) (K : Nat) (X0 : Nat → Prop) (w0 : World) (b bs : Nat) (X : Nat → Prop) (w : World) (d : Nat → Bool) (sl : Nat → G3) (ws : List Wy) : Prop where
  sub : ∀ x, X0 x → X x
  mem : X b
  memS : X bs
  new : w0.heap.size ≤ b ∧ w0.heap.size ≤ bs ∧ b ≠ bs
  row : ∃ a l cp es, Blk w.heap b 195 [.slice (some ⟨bs, 0, none⟩) (s.n + 1) (s.n + 1), .slice a l cp] ∧ Blk w.heap bs 4 (seenS s.n ws) ∧ Vec w.heap 150 2 a l cp (endsC es) ∧ es.map (·.1) = ws ∧ (∀ k, blkOf a = some k → X k ∧ w0.heap.size ≤ k ∧ k ≠ b ∧ k ≠ bs) ∧ ∀ e ∈ es, GrAt s X w e.2 e.1.2
  fin : STab s K X w d sl
  ext : Ext (fun x => x = s.bd ∨ x = s.bl) w0 w
section
variable {s : Sx} {K : Nat} {X0 X : Nat → Prop} {w0 w w' : World} {b bs : Nat} {d d' : Nat → Bool} {sl sl' : Nat → G3} {ws : List Wy}
theorem SL.below (h : SL s K X0 w0 b bs X w d sl ws) (e : Below w.heap.size w w') : SL s K X0 w0 b bs X w' d sl ws := by
  obtain ⟨a, l, cp, es, h1, h2, h3, h4, h5, h6⟩ := h.row
  exact ⟨h.sub, h.mem, h.memS, h.new, ⟨a, l, cp, es, h1.below e, h2.below e, h3.keep (S := fun _ => False) (Ext.of_below e) (fun _ _ h => h), h4, h5, fun x hx => (h6 x hx).below e⟩, h.fin.below e, h.ext.trans (Ext.of_below e)⟩
theorem SL.call (h : SL s K X0 w0 b bs X w d sl ws) (hf : STab s K X w' d' sl') (e : Ext (fun x => x = s.bd ∨ x = s.bl) w w') : SL s K X0 w0 b bs X w' d' sl' ws := by
  obtain ⟨a, l, cp, es, h1, h2, h3, h4, h5, h6⟩ := h.row
  have hx : ∀ x, X x → ¬ (x = s.bd ∨ x = s.bl) := fun x hx h' => by
    have := h.fin.priv x hx
    rcases h' with h' | h'
    · exact this.2.1 h'
    · exact this.2.2.1 h'
  exact ⟨h.sub, h.mem, h.memS, h.new, ⟨a, l, cp, es, h1.keep e (hx _ h.mem), h2.keep e (hx _ h.memS), h3.keep e (fun k hk => hx k (h5 k hk).1), h4, h5, fun x hx => (h6 x hx).grow e (fun _ h => .inr h) fun _ h => .inl h⟩, hf, h.ext.trans e⟩
/-- Other private blocks change. -/
theorem SL.other {S : Nat → Prop} (h : SL s K X0 w0 b bs X w d sl ws) (e : Ext S w w') (hS : ∀ x, S x → X x ∧ w0.heap.size ≤ x ∧ x ≠ b ∧ x ≠ bs) (hr : ∀ a l cp, Blk w.heap b 195 [.slice (some ⟨bs, 0, none⟩) (s.n + 1) (s.n + 1), .slice a l cp] → ∀ k, blkOf a = some k → ¬ S k) : SL s K X0 w0 b bs X w' d sl ws := by
  obtain ⟨a, l, cp, es, h1, h2, h3, h4, h5, h6⟩ := h.row
  refine ⟨h.sub, h.mem, h.memS, h.new, ⟨a, l, cp, es, h1.keep e (fun h => (hS _ h).2.2.1 rfl), h2.keep e (fun h => (hS _ h).2.2.2 rfl), h3.keep e (hr a l cp h1), h4, h5, fun x hx => (h6 x hx).grow e (fun x hx => .inl (hS x hx).1) fun _ h => .inl h⟩, h.fin.grow e (fun x hx => (hS x hx).1) (fun _ h => .inl h) (fun x hx => Nat.lt_of_lt_of_le (h.fin.priv x hx).2.2.2.2 e.size), h.ext.step e fun i hi hs => by have := (hS i hs).2.1; omega⟩
/-- The list's row does not lie in a block. -/
def NotRow (w : World) (b q : Nat) : Prop := ∀ a l cp, cellH w.heap b 1 = some (.slice a l cp) → blkOf a ≠ some q
theorem SL.add (h : SL s K X0 w0 b bs X w d sl ws) {to : Nat} {x : Gr} {g : G3} (hg : GrAt s X w g x) (hto : to ≤ s.n) (hl : ws.length ≤ 1000) :
    Cl Try.prog 155 [.pointer (some ⟨b, 0, none⟩), .int .i64 to, .slice g.1 g.2.1 g.2.2] w (fun e w' => e = .returned (.tuple #[]) ∧ ∃ X', SL s K X0 w0 b bs X' w' d sl (addW ws (to, x)) ∧ Ext X w w' ∧ (∀ y, X' y → X y ∨ w.heap.size ≤ y) ∧ ∀ q, q < w.heap.size → q ≠ b → q ≠ bs → NotRow w b q → NotRow w' b q ∧ Ext (fun k => k ≠ q) w w' ∧ (X q → X' q)) := by
  obtain ⟨a, l, cp, es, h1, h2, h3, h4, h5, h6⟩ := h.row
  apply vc155
  unfold V155
  have hbl := h1.lt
  have hbsl := h2.lt
  have hsl := (h.ext).size
  have hesl : es.length = l := by have := h3.1; rw [endsC_length] at this; omega
  have hwl : ws.length = l := by rw [← h4, List.length_map, hesl]
  refine ⟨_, _, _, h1.cell 0, bs, 0, ⟨rfl, by omega, by omega⟩, has ws to, ?_, fun g1 => ?_, fun g1 => ?_⟩
  · rw [h2.cell, show 0 + Int.toNat (to : Int) * 1 = to from by omega]
    exact rowN_get _ (by omega)
  · have g1' : has ws to = false := by simpa using g1
    refine ⟨_, _, _, h1.cell 0, bs, 0, ⟨rfl, by omega, by omega⟩, ?_⟩
    dsimp only
    rw [show 0 + Int.toNat (to : Int) * 1 = to from by omega]
    refine stW_in h2 (by unfold seenS; rw [rowN_length]; show to + 1 ≤ s.n + 1; omega) fun w12 s12 k12 e12 => ?_
    have hset : segSet (seenS s.n ws) to [.bool true] = seenS s.n (ws ++ [(to, x)]) := seenS_set s.n ws (to, x)
    rw [hset] at k12
    have hb12 : Blk w12.heap b 195 _ := h1.keep e12 h.new.2.2
    have v12 : Vec w12.heap 150 2 a l cp (endsC es) := h3.keep e12 fun k hk hkb => (h5 k hk).2.2.2 hkb
    refine ⟨_, _, _, hb12.cell 1, newC_in fun w15 s15 k15 e15 => ?_⟩
    have k15' : Blk w15.heap w12.heap.size 150 (endC ((to, x), g)) := k15
    have v15 := v12.keep e15 fun _ _ h => h
    obtain ⟨a2, c2, w17, r1, r2, r3, r4⟩ := append_run (P := Try.prog) (T := 147) (T' := 147) (T'' := 147) elemEnd.und elemEnd.und elemEnd.size elemEnd.bytes (by rw [show zeroL Try.prog 150 = some _ from elemEnd.zero.choose_spec.1]; simp)
      (by rw [show zeroL Try.prog 150 = some _ from elemEnd.zero.choose_spec.1]; intro y hy; cases hy; exact elemEnd.zero.choose_spec.2) v15 (a' := some ⟨w12.heap.size, 0, none⟩) (n := 1) (c' := 1) (ys := endC ((to, x), g)) rfl rfl (.inr ⟨_, _, rfl, k15'.cellsAt (n := 2) rfl rfl⟩) (fun h => by cases h) (by omega) (by omega)
    refine ⟨a2, l + 1, c2, w17, r1, ?_⟩
    have E15 : Ext (fun k => k = bs) w w15 := e12.trans (Ext.mono e15 fun _ _ h => h.elim)
    have hb17 : Blk w17.heap b 195 _ := (hb12.keep e15 fun h => h).keep r3 fun hk => (h5 b hk).2.2.1 rfl
    have k17 := (k12.keep e15 fun h => h).keep r3 fun hk => (h5 bs hk).2.2.2 rfl
    refine stW_in hb17 (by show 0 + 1 + 1 ≤ 2; decide) fun w18 s18 k18 e18 => ?_
    have hE : Ext X w w18 := ((Ext.mono E15 fun k _ hk => by subst hk; exact h.memS).trans (Ext.mono r3 fun k _ hk => (h5 k hk).1)).trans (Ext.mono e18 fun k _ hk => by subst hk; exact h.mem)
    have hz15 := E15.size
    have hz12 := e12.size
    have hz17 := r3.size
    have ha2 : ∀ k, blkOf a2 = some k → (blkOf a = some k ∨ w.heap.size ≤ k) ∧ k ≠ b ∧ k ≠ bs ∧ w0.heap.size ≤ k := by
      intro k hk
      rcases r4 with rfl | rfl
      · exact ⟨.inl hk, (h5 k hk).2.2.1, (h5 k hk).2.2.2, (h5 k hk).2.1⟩
      · simp only [blkOf, Option.some.injEq] at hk; exact ⟨.inr (by omega), by omega, by omega, by omega⟩
    have hgr : ∀ {g : G3} {x : Gr}, GrAt s X w g x → GrAt s (fun y => X y ∨ (blkOf a2 = some y ∧ w.heap.size ≤ y)) w18 g x := fun hg => hg.grow hE (fun _ h => .inl h) fun y hy => by
      rcases hy with hy | hy
      · exact .inl hy
      · exact .inr hy.2
    have v18 := r2.keep e18 fun k hk hkb => (ha2 k hk).2.1 hkb
    refine ⟨rfl, fun y => X y ∨ (blkOf a2 = some y ∧ w.heap.size ≤ y), ⟨fun y hy => .inl (h.sub y hy), .inl h.mem, .inl h.memS, h.new, ⟨a2, l + 1, c2, es ++ [((to, x), g)], k18, ?_, ?_, ?_, fun k hk => ?_, fun e he => ?_⟩, h.fin.grow hE (fun _ h => h) (fun y hy => ?_) (fun y hy => ?_), ?_⟩, hE, fun y hy => ?_, fun q hq hqb hqs hnr => ⟨fun a' l' c' h' h'' => ?_, ?_, .inl⟩⟩
    · rw [show addW ws (to, x) = ws ++ [(to, x)] from by simp [addW, g1']]
      exact k17.keep e18 h.new.2.2.symm
    · rw [endsC_append, endsC_one]; exact v18
    · rw [show addW ws (to, x) = ws ++ [(to, x)] from by simp [addW, g1'], List.map_append, h4]; rfl
    · have := ha2 k hk
      refine ⟨?_, this.2.2.2, this.2.1, this.2.2.1⟩
      rcases this.1 with h7 | h7
      · exact .inl (h5 k h7).1
      · exact .inr ⟨hk, h7⟩
    · rcases List.mem_append.1 he with he | he
      · exact hgr (h6 e he)
      · rw [List.mem_singleton.1 he]; exact hgr hg
    · rcases hy with hy | hy
      · exact .inl hy
      · exact .inr hy.2
    · rcases hy with hy | hy
      · exact Nat.lt_of_lt_of_le (h.fin.priv y hy).2.2.2.2 hE.size
      · exact v18.lt y hy.1
    · refine h.ext.step (S := fun x => x = s.bd ∨ x = s.bl) (T := fun k => k = bs ∨ blkOf a = some k ∨ k = b) (((Ext.mono E15 fun k _ hk => .inl hk).trans (Ext.mono r3 fun k _ hk => .inr (.inl hk))).trans (Ext.mono e18 fun k _ hk => .inr (.inr hk))) fun i hi hk => ?_
      have hn := h.new
      rcases hk with rfl | hk | rfl
      · omega
      · have := (h5 i hk).2.1; omega
      · omega
    · rcases hy with hy | hy
      · exact .inl hy
      · exact .inr hy.2
    · have hc : cellH w18.heap b 1 = some (.slice a2 (l + 1) c2) := k18.cell 1
      rw [hc] at h'
      cases h'
      rcases (ha2 q h'').1 with h7 | h7
      · exact hnr _ _ _ (h1.cell 1) h7
      · omega
    · have hnq := hnr _ _ _ (h1.cell 1)
      exact ((Ext.mono E15 fun k _ hk => by subst hk; exact fun h => hqs h.symm).trans (Ext.mono r3 fun k _ hk => fun h => by subst h; exact hnq hk)).trans (Ext.mono e18 fun k _ hk => by subst hk; exact fun h => hqb h.symm)
  · refine ⟨rfl, X, ?_, Ext.refl _ _, fun y hy => .inl hy, fun q _ _ _ hnr => ⟨hnr, Ext.refl _ _, fun h => h⟩⟩
    have g1' : has ws to = true := by simpa using g1
    rw [addW_has (w := (to, x)) g1']
    exact h
/-- What was gathered is handed back. -/
theorem SL.res (h : SL s K X0 w0 b bs X w d sl ws) (hX0 : ∀ x, X0 x → x < w0.heap.size) (hm : s.bd < w0.heap.size ∧ s.bl < w0.heap.size) : ∃ a l cp, cellH w.heap b 1 = some (.slice a l cp) ∧ EndsAt s X0 w a l cp ws ∧ STab s K X0 w d sl := by
  obtain ⟨a, l, cp, es, h1, h2, h3, h4, h5, h6⟩ := h.row
  refine ⟨a, l, cp, h1.cell 1, ⟨es, h4, h3, fun e he => ?_, fun k hk => ⟨fun hx => ?_, ?_, ?_⟩⟩, h.fin.drop h.sub⟩
  · have := h6 e he
    exact ⟨this.1, fun k hk => ⟨fun hx => (this.2 k hk).1 (h.sub k hx), (this.2 k hk).2⟩⟩
  · have := hX0 k hx; have := (h5 k hk).2.1; omega
  · have := (h5 k hk).2.1; omega
  · have := (h5 k hk).2.1; omega
end
/-- A new list. -/
theorem sempty_ok {s : Sx} {K : Nat} {X0 : Nat → Prop} {w0 w : World} {d : Nat → Bool} {sl : Nat → G3} (h : STab s K X0 w d sl) (e0 : Ext (fun x => x = s.bd ∨ x = s.bl) w0 w) (hn : s.n ≤ 200) :
    Cl Try.prog 153 [.pointer (some ⟨s.bm, 0, none⟩)] w (fun e w' => ∃ b bs X, e = .returned (.pointer (some ⟨b, 0, none⟩)) ∧ SL s K X0 w0 b bs X w' d sl [] ∧ (∀ y, X y → X0 y ∨ w.heap.size ≤ y) ∧ Below w.heap.size w w') := by
  apply vc153
  unfold V153
  have hsz := size_L s.t
  have hnt : s.n = (L s.t).length := rfl
  have ew : IntKind.wrap .i64 ((s.t.size : Int) + 1) = ((s.n + 1 : Nat) : Int) := by rw [w64 (by omega)]; omega
  obtain ⟨w5, hr, s5, k5, e5⟩ := makeBools (s.n + 1) (by omega) w
  refine ⟨s.t, h.mb.cell 4, ?_⟩
  dsimp only
  rw [ew]
  refine ⟨_, _, _, w5, hr, newC_in fun w7 s7 k7 e7 => ?_⟩
  have B7 : Below w.heap.size w w7 := Ext.to (Ext.to (Below.refl _ _) e5 fun _ h => h.elim) e7 fun _ h => h.elim
  have k5' := k5.keep e7 fun h => h
  have hz := e0.size
  have hl1 := k5.lt
  have hl7 := k7.lt
  refine ⟨_, w.heap.size, fun y => X0 y ∨ y = w.heap.size ∨ y = w5.heap.size, rfl, ⟨fun _ h => .inl h, .inr (.inr rfl), .inr (.inl rfl), ⟨by omega, by omega, by omega⟩, ⟨none, 0, 0, [], k7, ?_, Vec.nil _ _ _, rfl, by simp [blkOf], by simp⟩, h.grow (S := fun _ => False) (Ext.of_below B7) (fun _ h => h.elim) (fun y hy => ?_) (fun y hy => ?_), e0.trans (Ext.of_below B7)⟩, fun y hy => ?_, B7⟩
  · unfold seenS
    rw [rowN_ext (g := fun _ => .bool false) fun p _ => by simp [has]]
    exact k5'
  · rcases hy with hy | rfl | rfl
    · exact .inl hy
    · exact .inr (Nat.le_refl _)
    · exact .inr (by omega)
  · rcases hy with hy | rfl | rfl
    · exact Nat.lt_of_lt_of_le (h.priv y hy).2.2.2.2 B7.size
    · omega
    · omega
  · rcases hy with hy | rfl | rfl
    · exact .inl hy
    · exact .inr (Nat.le_refl _)
    · exact .inr (by omega)
end Go.Proofs.Ytngbiaeliphdjaa.V
/- What then does in the reference's machine. No statement of the seat is proved here. -/
namespace Go.Proofs.Ytngbiaeliphdjaa.V
open Go.Vc Go.Proofs Go.RowKit
set_option linter.unusedVariables false
set_option linter.unusedSimpArgs false
theorem SL.seen {s : Sx} {K : Nat} {X0 X : Nat → Prop} {w0 w : World} {b bs : Nat} {d : Nat → Bool} {sl : Nat → G3} {ws : List Wy} (h : SL s K X0 w0 b bs X w d sl ws) {to : Nat} (hto : to ≤ s.n) : cellH w.heap b 0 = some (.slice (some ⟨bs, 0, none⟩) (s.n + 1) (s.n + 1)) ∧ cellH w.heap bs to = some (.bool (has ws to)) := by
  obtain ⟨a, l, cp, es, h1, h2, _⟩ := h.row
  refine ⟨h1.cell 0, ?_⟩
  rw [h2.cell]
  exact rowN_get _ (by omega)
theorem sthen_ok {s : Sx} {K k : Nat} {X : Nat → Prop} {w : World} {d : Nat → Bool} {sl : Nat → G3} {cur : List Wy} {a : Option Addr} {l cp : Nat} (hk : k < K) (hE : EndsC s k) (hF : STab s K X w d sl) (hcur : EndsAt s X w a l cp cur) (hcl : cur.length ≤ 1000) (hcb : ∀ x ∈ cur, x.1 ≤ s.n) (hn : s.n ≤ 200) (hG : s.P.groups ≤ 1000) (hnb : ∀ p, p ≤ s.n → ∀ x ∈ s.ends k p, x.1 ≤ s.n) (hnl : ∀ p, p ≤ s.n → (s.ends k p).length ≤ 1000) :
    Cl Try.prog 158 [.pointer (some ⟨s.bm, 0, none⟩), .slice a l cp, .int .i64 k] w (ResE s K X w d sl (thenP cur (s.ends k))) := by
  apply vc158
  unfold V158
  have hX0 : ∀ x, X x → x < w.heap.size := fun x hx => (hF.priv x hx).2.2.2.2
  have hbd := hF.db.lt
  have hbl := hF.lb.lt
  have hlen := hcur.len
  refine (sempty_ok hF (Ext.refl _ w) hn).use fun e w7 he => ?_
  obtain ⟨b5, bs, X7, rfl, S7, hX7, B7⟩ := he
  refine ⟨b5, 0, rfl, ?_⟩
  have c7 : EndsAt s X7 w7 a l cp cur := hcur.grow (S := fun _ => False) (Ext.of_below B7) (fun _ h => h.elim) hX7
  refine ⟨fun kk n w' => ∃ (A B : List Wy) (X' : Nat → Prop) (d' : Nat → Bool) (sl' : Nat → G3), cur = A ++ B ∧ n = A.length ∧ kk = B.length ∧ SL s K X w b5 bs X' w' d' sl' (addA [] (A.flatMap (ovL (s.ends k)))) ∧ EndsAt s X' w' a l cp cur ∧ Agr s K d d' sl sl', ⟨_, [], cur, _, _, _, rfl, rfl, rfl, S7, c7, Agr.refl _ _ _ _⟩, ?_⟩
  clear c7 S7 hX7 B7
  rintro kk dd n w10 ⟨A, B, X1, d1, sl1, hAB, rfl, rfl, S10, c10, G10⟩
  have hABl : cur.length = A.length + B.length := by rw [hAB]; simp
  have e0 : Int.toNat (A.length : Int) = A.length := by omega
  have e1 : IntKind.wrap .i64 ((A.length : Int) + 1) = ((A.length + 1 : Nat) : Int) := by rw [w64 (by omega)]; omega
  rw [e0, e1]
  have hbnd : ∀ (A' : List Wy), (∀ z ∈ A', z ∈ cur) → ∀ z ∈ A'.flatMap (ovL (s.ends k)), z.1 ≤ 200 := by
    intro A' hA' z hz
    simp only [List.mem_flatMap, ovL, List.mem_map] at hz
    obtain ⟨x, hx, b, hb, rfl⟩ := hz
    exact Nat.le_trans (hnb x.1 (hcb x (hA' x hx)) b hb) hn
  refine ⟨fun g => ?_, fun g => ?_⟩
  · have g' : A.length < l := by have := of_decide_eq_true g; omega
    obtain ⟨x, B', rfl⟩ : ∃ x B', B = x :: B' := by
      cases B with
      | nil => simp only [List.length_nil] at hABl; omega
      | cons x B' => exact ⟨x, B', rfl⟩
    have hxm : x ∈ cur := by rw [hAB]; simp
    have hxb := hcb x hxm
    have c10' := c10
    rw [hAB] at c10'
    obtain ⟨ba, gx, hba, _, hx1, hx2, gr10⟩ := c10'.elem
    refine ⟨ba, 0, ⟨hba, by omega, by omega⟩, _, hx1, _, _, _, hx2, ?_⟩
    refine newC_in fun w18 s18 k18 e18 => ?_
    generalize hb17 : w10.heap.size = b17 at *
    refine stW_in k18 (by show 0 + 2 ≤ 2; decide) fun w19 s19 k19 e19 => ?_
    have k19' : Blk w19.heap b17 150 [.int .i64 (x.1 : Int), .slice gx.1 gx.2.1 gx.2.2] := k19
    have B19 : Below w10.heap.size w10 w19 := Ext.to (Ext.to (Below.refl _ _) e18 fun _ h => h.elim) e19 fun i hi => by omega
    have S19 := S10.below B19
    have c19 := c10.below B19
    have gr19 := gr10.below B19
    have hz10 := S10.ext.size
    have hX17 : ¬ X1 b17 := fun h => by have := (S10.fin.priv b17 h).2.2.2.2; omega
    have hd17 : ¬ (b17 = s.bd ∨ b17 = s.bl) := by omega
    refine ⟨_, k19'.cell 0, ?_⟩
    refine (hE K X1 w19 d1 sl1 x.1 hk S19.fin hxb).use fun e w22 he => ?_
    obtain ⟨a21, l21, c21, d2, sl2, rfl, r22, f22, G22, e22⟩ := he
    refine ⟨a21, l21, c21, rfl, ?_⟩
    have S22 := S19.call f22 e22
    have c22 : EndsAt s X1 w22 a l cp cur := c19.grow e22 (fun _ h => .inr h) fun _ h => .inl h
    have gr22 : GrAt s X1 w22 gx x.2 := gr19.grow e22 (fun _ h => .inr h) fun _ h => .inl h
    have k22 := k19'.keep e22 hd17
    have hl21 := r22.len
    have hnl' := hnl x.1 hxb
    refine ⟨fun kk n w' => ∃ (C D : List Wy) (X2 : Nat → Prop), s.ends k x.1 = C ++ D ∧ n = C.length ∧ kk = D.length ∧ SL s K X w b5 bs X2 w' d2 sl2 (addA (addA [] (A.flatMap (ovL (s.ends k)))) (C.map (ovW x.2))) ∧ EndsAt s X2 w' a l cp cur ∧ EndsAt s X2 w' a21 l21 c21 (s.ends k x.1) ∧ GrAt s X2 w' gx x.2 ∧ Blk w'.heap b17 150 [.int .i64 (x.1 : Int), .slice gx.1 gx.2.1 gx.2.2] ∧ ¬ X2 b17, ⟨_, [], s.ends k x.1, X1, rfl, rfl, rfl, S22, c22, r22, gr22, k22, hX17⟩, ?_⟩
    have G2 := G10.trans G22
    clear k22 c22 S22 r22 f22 e22 hX17 c19 S19 B19 k19 k19' e19 s19 k18 e18 s18 hx1 hx2 c10' c10 S10 gr22 gr19 gr10 G22 G10
    rintro kk dd2 n w27 ⟨C, D, X2, hCD, rfl, rfl, S27, c27, r27, gr27, k27, hX27⟩
    have hCDl : (s.ends k x.1).length = C.length + D.length := by rw [hCD]; simp
    have e0' : Int.toNat (C.length : Int) = C.length := by omega
    have e1' : IntKind.wrap .i64 ((C.length : Int) + 1) = ((C.length + 1 : Nat) : Int) := by rw [w64 (by omega)]; omega
    rw [e0', e1']
    refine ⟨fun g2 => ?_, fun g2 => ?_⟩
    · have g2' : C.length < l21 := by have := of_decide_eq_true g2; omega
      obtain ⟨y, D', rfl⟩ : ∃ x B', D = x :: B' := by
        cases D with
        | nil => simp only [List.length_nil] at hCDl; omega
        | cons x B' => exact ⟨x, B', rfl⟩
      have hym : y ∈ s.ends k x.1 := by rw [hCD]; simp
      have hyb := hnb x.1 hxb y hym
      have r27' := r27
      rw [hCD] at r27'
      obtain ⟨br, gy, hbr, _, hy1, hy2, gry⟩ := r27'.elem
      refine ⟨br, 0, ⟨hbr, by omega, by omega⟩, _, hy1, _, _, _, hy2, ?_⟩
      refine newC_in fun w35 s35 k35 e35 => ?_
      generalize hb34 : w27.heap.size = b34 at *
      refine stW_in k35 (by show 0 + 2 ≤ 2; decide) fun w36 s36 k36 e36 => ?_
      have k36' : Blk w36.heap b34 150 [.int .i64 (y.1 : Int), .slice gy.1 gy.2.1 gy.2.2] := k36
      refine drw_in fun w37 q37 e37 => ?_
      have B37 : Below w27.heap.size w27 w37 := Ext.to (Ext.to (Ext.to (Below.refl _ _) e35 fun _ h => h.elim) e36 fun i hi => by omega) e37 fun _ h => h.elim
      have k37 := k36'.keep e37 fun h => h
      have S37 := S27.below B37
      have hbx : ∀ z ∈ addA (addA [] (A.flatMap (ovL (s.ends k)))) (C.map (ovW x.2)), z.1 ≤ 200 := by
        intro z hz
        rcases mem_addA hz with hz | hz
        · rcases mem_addA hz with hz | hz
          · cases hz
          · exact hbnd A (fun z hz => by rw [hAB]; exact List.mem_append_left _ hz) z hz
        · obtain ⟨b, hb, rfl⟩ := List.mem_map.1 hz
          exact Nat.le_trans (hnb x.1 hxb b (by rw [hCD]; exact List.mem_append_left _ hb)) hn
      have hsn := S37.seen hyb
      refine ⟨_, _, _, hsn.1, _, k37.cell 0, bs, 0, ⟨rfl, by omega, by omega⟩, _, by rw [show 0 + Int.toNat (y.1 : Int) * 1 = y.1 from by omega]; exact hsn.2, fun g3 => ?_, fun g3 => ?_⟩
      · refine drw_in fun w45 q45 e45 => ?_
        have B45 : Below w27.heap.size w27 w45 := Ext.to B37 e45 fun _ h => h.elim
        have k45 := k37.keep e45 fun h => h
        have kx45 := k27.below B45
        refine ⟨_, k45.cell 0, _, _, _, kx45.cell 1, _, _, _, k45.cell 1, ?_⟩
        refine (sover_ok hG (gr27.below B45).1 (gry.below B45).1).use fun e w50 he => ?_
        obtain ⟨q, rfl, hq, v50, b50⟩ := he
        refine ⟨_, _, _, rfl, (k45.below b50).cell 0, ?_⟩
        have B50 := B45.vstep b50
        have S50 := S27.below B50
        have hz45 := B45.size
        have gq : GrAt s X2 w50 (some ⟨q, 0, none⟩, s.P.groups, s.P.groups) (gOver x.2 y.2) := ⟨v50, fun j hj => by
          obtain rfl : q = j := by simpa [blkOf] using hj
          have h1 := S27.fin.db.lt
          have h2 := S27.fin.lb.lt
          exact ⟨fun h => by have := (S27.fin.priv q h).2.2.2.2; omega, by omega, by omega⟩⟩
        refine (S50.add (to := y.1) (x := gOver x.2 y.2) gq hyb ?_).use fun e w52 he => ?_
        · rw [← addA_append]
          refine Nat.le_trans (addA_short (n := 200) fun z hz => ?_) (by decide)
          rcases List.mem_append.1 hz with hz | hz
          · exact hbnd A (fun z hz => by rw [hAB]; exact List.mem_append_left _ hz) z hz
          · obtain ⟨b, hb, rfl⟩ := List.mem_map.1 hz
            exact Nat.le_trans (hnb x.1 hxb b (by rw [hCD]; exact List.mem_append_left _ hb)) hn
        obtain ⟨rfl, X3, S52, e52, hX3, _⟩ := he
        have hz50 := B50.size
        refine ⟨rfl, D'.length, by simp, C ++ [y], D', X3, by rw [hCD]; simp, by simp, rfl, ?_, (c27.below B50).grow e52 (fun _ h => .inl h) hX3, (r27.below B50).grow e52 (fun _ h => .inl h) hX3, (gr27.below B50).grow e52 (fun _ h => .inl h) hX3, (k27.below B50).keep e52 hX27, fun h => ?_⟩
        · rw [List.map_append, addA_append]; exact S52
        · rcases hX3 b17 h with h | h
          · exact hX27 h
          · have := k27.lt; omega
      · have g3' : has (addA (addA [] (A.flatMap (ovL (s.ends k)))) (C.map (ovW x.2))) y.1 = true := by simpa using g3
        refine ⟨D'.length, by simp, C ++ [y], D', X2, by rw [hCD]; simp, by simp, rfl, ?_, c27.below B37, r27.below B37, gr27.below B37, k27.below B37, hX27⟩
        rw [List.map_append, addA_append, List.map_cons, List.map_nil, addA_cons, addA_nil, addW_has (w := ovW x.2 y) g3']
        exact S37
    · have g2' : ¬ C.length < l21 := by have := of_decide_eq_false g2; omega
      have : D = [] := by
        cases D with
        | nil => rfl
        | cons x r => have := r27.len; simp only [List.length_cons] at hCDl; omega
      subst this
      rw [List.append_nil] at hCD
      refine ⟨B'.length, by simp, A ++ [x], B', X2, d2, sl2, by rw [hAB]; simp, by simp, rfl, ?_, c27, G2⟩
      rw [List.flatMap_append, addA_append, List.flatMap_cons, List.flatMap_nil, List.append_nil]
      unfold ovL at *
      rw [hCD]
      exact S27
  · have g' : ¬ A.length < l := by have := of_decide_eq_false g; omega
    have : B = [] := by
      cases B with
      | nil => rfl
      | cons x r => simp only [List.length_cons] at hABl; omega
    subst this
    rw [List.append_nil] at hAB
    subst hAB
    obtain ⟨a4, l4, c4, h1, h2, h3⟩ := S10.res (fun x hx => by have := hX0 x hx; omega) (by omega)
    exact ⟨a4, l4, c4, by rw [Nat.zero_add]; exact h1, a4, l4, c4, d1, sl1, rfl, h2, h3, G10, S10.ext⟩
end Go.Proofs.Ytngbiaeliphdjaa.V
/- Gathering, and the closures of the program's finder. No statement of the seat is proved here. -/
namespace Go.Proofs.Ytngbiaeliphdjaa.V
open Go.Vc Go.Proofs Go.RowKit
set_option linter.unusedVariables false
set_option linter.unusedSimpArgs false
/-- Blocks of a call's own that stay. -/
def Loc (c : Cx) (bs : List (Nat × TypeId × List Value)) (X : Nat → Prop) (w : World) : Prop := ∀ p ∈ bs, Blk w.heap p.1 p.2.1 p.2.2 ∧ ¬ X p.1 ∧ p.1 ≠ c.m
theorem Loc.below {c : Cx} {bs : List (Nat × TypeId × List Value)} {X : Nat → Prop} {w w' : World} (h : Loc c bs X w) (e : Below w.heap.size w w') : Loc c bs X w' := fun p hp => ⟨(h p hp).1.below e, (h p hp).2⟩
theorem Loc.call {c : Cx} {bs : List (Nat × TypeId × List Value)} {X : Nat → Prop} {w w' : World} (h : Loc c bs X w) (e : Ext (fun x => x = c.m) w w') : Loc c bs X w' := fun p hp => ⟨(h p hp).1.keep e (h p hp).2.2, (h p hp).2⟩
theorem Loc.grow {c : Cx} {bs : List (Nat × TypeId × List Value)} {X Y : Nat → Prop} {w w' : World} (h : Loc c bs X w) (e : Ext X w w') (hY : ∀ y, Y y → X y ∨ w.heap.size ≤ y) : Loc c bs Y w' := fun p hp => by
  have h1 := h p hp
  refine ⟨h1.1.keep e h1.2.1, fun hy => ?_, h1.2.2⟩
  rcases hY _ hy with h2 | h2
  · exact h1.2.1 h2
  · have := h1.1.lt; omega
theorem Loc.cons {c : Cx} {bs : List (Nat × TypeId × List Value)} {X : Nat → Prop} {w : World} {b : Nat} {e : TypeId} {cs : List Value} (h : Loc c bs X w) (k : Blk w.heap b e cs) (hx : ¬ X b) (hm : b ≠ c.m) : Loc c ((b, e, cs) :: bs) X w := fun p hp => by
  rcases List.mem_cons.1 hp with rfl | hp
  · exact ⟨k, hx, hm⟩
  · exact h p hp
theorem Loc.get {c : Cx} {bs : List (Nat × TypeId × List Value)} {X : Nat → Prop} {w : World} {b : Nat} {e : TypeId} {cs : List Value} (h : Loc c bs X w) (hm : (b, e, cs) ∈ bs) : Blk w.heap b e cs := (h _ hm).1
/-- All ways of a row are added. -/
theorem addall {c : Cx} {X X1 : Nat → Prop} {w0 w : World} {b : Nat} {ws S : List Wy} {a : Option Addr} {l cp : Nat} {bs : List (Nat × TypeId × List Value)} {K : World → Prop} {QQ : List PanicEntry → World → Prop} (SL : LSt c X w0 b X1 w ws) (r : WaysAt c X1 w a l cp S) (hS : S.length ≤ 1000) (hL : Loc c bs X1 w) {us : List Wy} (hws : ws = addA [] us) (hb : ∀ z ∈ us ++ S, z.1 ≤ 200)
    (hK : ∀ (X2 : Nat → Prop) (w' : World), LSt c X w0 b X2 w' (addA ws S) → Loc c bs X2 w' → K w') :
    ∃ (I111 : Nat → Int → World → Prop), (∃ (k113 : Nat), I111 k113 0 w) ∧ ∀ (k112 : Nat) (d115 : Nat → Value) (n116 : Int) (w114 : World), I111 k112 n116 w114 → (((decide ((n116 : Int) < ((l : Nat) : Int))) = true → ∃ (b117 : Nat) (o118 : Nat), ((a : Option Addr) = some ⟨b117, o118, none⟩ ∧ 0 ≤ (n116 : Int) ∧ (n116 : Int) < ((l : Nat) : Int)) ∧ ∃ (n119 : Int), cellH w114.heap b117 (o118 + (Int.toNat n116) * 21) = some (.int .i64 n119) ∧ ∃ (g120 : Nat → Int), intsAt w114.heap b117 (o118 + (Int.toNat n116) * 21 + 1) 20 g120 ∧ newC [.int .i64 0, .int .i64 0, .int .i64 0, .int .i64 0, .int .i64 0, .int .i64 0, .int .i64 0, .int .i64 0, .int .i64 0, .int .i64 0, .int .i64 0, .int .i64 0, .int .i64 0, .int .i64 0, .int .i64 0, .int .i64 0, .int .i64 0, .int .i64 0, .int .i64 0, .int .i64 0, .int .i64 0] 142 (fun (b121 : Nat) (w122 : World) => stW b121 0 [.int .i64 n119, .int .i64 (g120 0), .int .i64 (g120 1), .int .i64 (g120 2), .int .i64 (g120 3), .int .i64 (g120 4), .int .i64 (g120 5), .int .i64 (g120 6), .int .i64 (g120 7), .int .i64 (g120 8), .int .i64 (g120 9), .int .i64 (g120 10), .int .i64 (g120 11), .int .i64 (g120 12), .int .i64 (g120 13), .int .i64 (g120 14), .int .i64 (g120 15), .int .i64 (g120 16), .int .i64 (g120 17), .int .i64 (g120 18), .int .i64 (g120 19)] (fun (w123 : World) => ∃ (n124 : Int), cellH w123.heap b121 0 = some (.int .i64 n124) ∧ ∃ (g125 : Nat → Int), intsAt w123.heap b121 1 20 g125 ∧ Cl Try.prog 129 ([.pointer (some ⟨b, 0, none⟩), .agg #[.int .i64 n124, .int .i64 (g125 0), .int .i64 (g125 1), .int .i64 (g125 2), .int .i64 (g125 3), .int .i64 (g125 4), .int .i64 (g125 5), .int .i64 (g125 6), .int .i64 (g125 7), .int .i64 (g125 8), .int .i64 (g125 9), .int .i64 (g125 10), .int .i64 (g125 11), .int .i64 (g125 12), .int .i64 (g125 13), .int .i64 (g125 14), .int .i64 (g125 15), .int .i64 (g125 16), .int .i64 (g125 17), .int .i64 (g125 18), .int .i64 (g125 19)]]) w123 (retG (fun (r127 : Value) (w126 : World) => r127 = .tuple #[] ∧ (∃ (m128 : Nat), m128 < k112 ∧ I111 m128 (IntKind.wrap .i64 (n116 + 1)) w126)) QQ)) w122) w114) ∧ ((decide ((n116 : Int) < ((l : Nat) : Int))) = false → K  w114)) := by
  have hl := r.len
  refine ⟨fun k n w' => ∃ (A B : List Wy) (X2 : Nat → Prop), S = A ++ B ∧ n = A.length ∧ k = B.length ∧ LSt c X w0 b X2 w' (addA ws A) ∧ WaysAt c X2 w' a l cp S ∧ Loc c bs X2 w', ⟨_, [], S, X1, rfl, rfl, rfl, SL, r, hL⟩, ?_⟩
  clear SL r hL
  rintro k d n w1 ⟨A, B, X2, hAB, rfl, rfl, S1, r1, L1⟩
  have hABl : S.length = A.length + B.length := by rw [hAB]; simp
  have e0 : Int.toNat (A.length : Int) = A.length := by omega
  have e1 : IntKind.wrap .i64 ((A.length : Int) + 1) = ((A.length + 1 : Nat) : Int) := by rw [w64 (by omega)]; omega
  rw [e0, e1]
  refine ⟨fun g => ?_, fun g => ?_⟩
  · have g' : A.length < l := by have := of_decide_eq_true g; omega
    obtain ⟨x, B', rfl⟩ : ∃ x B', B = x :: B' := by
      cases B with
      | nil => simp at hABl; omega
      | cons x B' => exact ⟨x, B', rfl⟩
    have hxb : x.1 ≤ 200 := hb x (by rw [hAB]; simp)
    have r1' := r1
    rw [hAB] at r1'
    obtain ⟨ba, hba, _, hx1, hx2⟩ := r1'.elem
    refine ⟨ba, 0, ⟨hba, by omega, by omega⟩, _, hx1, _, hx2, ?_⟩
    refine newC_in fun w2 s2 k2 e2 => ?_
    refine copy_way k2 rfl x fun w3 s3 k3 e3 => ?_
    have B3 : Below w1.heap.size w1 w3 := Ext.to (Ext.to (Below.refl _ _) e2 fun _ h => h.elim) e3 fun i hi => by omega
    refine ⟨_, k3.way.1, _, k3.way.2, ?_⟩
    refine ((S1.below B3).add x hxb ?_).use fun e w4 he => ?_
    · rw [hws, ← addA_append]
      refine Nat.le_trans (addA_short (n := 200) fun z hz => hb z ?_) (by decide)
      rw [hAB]
      rcases List.mem_append.1 hz with hz | hz <;> simp [hz]
    obtain ⟨rfl, X3, S4, e4, hX3⟩ := he
    have hz3 := B3.size
    refine ⟨rfl, B'.length, by simp, A ++ [x], B', X3, by rw [hAB]; simp, by simp, rfl, ?_, (r1.below B3).grow e4 (fun _ h => .inl h) hX3, (L1.below B3).grow e4 hX3⟩
    rw [addA_append]; exact S4
  · have g' : ¬ A.length < l := by have := of_decide_eq_false g; omega
    have : B = [] := by
      cases B with
      | nil => rfl
      | cons x r => simp at hABl; omega
    subst this
    rw [List.append_nil] at hAB
    subst hAB
    exact hK X2 w1 S1 L1
/-! ### The closures -/
theorem clos132 {c : Cx} {X : Nat → Prop} {w : World} {k i b5 b102 : Nat} {kid : Int} (hk : kid = k) (h : WaysC c k) (hF : FInv c X w) (hi : i ≤ c.n) (h5 : cellH w.heap b5 0 = some (.pointer (some ⟨c.bf, 0, none⟩))) (h102 : cellH w.heap b102 0 = some (.int .i64 kid)) :
    Cl Try.prog 132 [.int .i64 i, .pointer (some ⟨b5, 0, none⟩), .pointer (some ⟨b102, 0, none⟩)] w (ResW c X w (c.ends k i)) := by
  subst hk
  apply vc132
  unfold V132
  refine ⟨_, _, h5, _, h102, (h X w i hF hi).use fun e w' he => ?_⟩
  obtain ⟨a, l, cp, rfl, h1, h2, h3⟩ := he
  exact ⟨a, l, cp, rfl, a, l, cp, rfl, h1, h2, h3⟩
theorem clos133 {c : Cx} {X : Nat → Prop} {w : World} {k i b5 b36 bk kl kc : Nat} {ka : Option Addr} {kid : Int} (hk : kid = k) (h : WaysC c k) (hF : FInv c X w) (hi : i ≤ c.n) (h5 : cellH w.heap b5 0 = some (.pointer (some ⟨c.bf, 0, none⟩))) (h36 : cellH w.heap b36 (0 + 6) = some (.slice ka kl kc)) (hka : ka = some ⟨bk, 0, none⟩) (hkl : kl = 1) (hb : cellH w.heap bk 0 = some (.int .i64 kid)) :
    Cl Try.prog 133 [.int .i64 i, .pointer (some ⟨b5, 0, none⟩), .pointer (some ⟨b36, 0, none⟩)] w (ResW c X w (c.ends k i)) := by
  subst hk
  apply vc133
  unfold V133
  refine drw_in fun w1 q1 e1 => ?_
  have B1 : Below w.heap.size w w1 := Ext.to (Below.refl _ _) e1 fun _ h => h.elim
  refine ⟨_, _, by rw [q1]; exact h5, _, _, _, by rw [q1]; exact h36, bk, 0, ⟨hka, by omega, by omega⟩, _, by rw [q1]; exact hb, (h X w1 i (hF.below B1) hi).use fun e w' he => ?_⟩
  obtain ⟨a, l, cp, rfl, h1, h2, h3⟩ := he
  exact ⟨a, l, cp, rfl, a, l, cp, rfl, h1, h2, (Ext.of_below B1).trans h3⟩
theorem clos134 {c : Cx} {X : Nat → Prop} {w : World} {k i b5 b7 b213 : Nat} {left : Option Nat} (h : MoreC c k) (hF : FInv c X w) (hi : i ≤ c.n) (hl : ∀ q, left = some q → q ≤ 50) (h5 : cellH w.heap b5 0 = some (.pointer (some ⟨c.bf, 0, none⟩))) (h7 : cellH w.heap b7 0 = some (.int .i64 k)) (h213 : cellH w.heap b213 0 = some (.int .i64 (leftI left))) :
    Cl Try.prog 134 [.int .i64 i, .pointer (some ⟨b5, 0, none⟩), .pointer (some ⟨b7, 0, none⟩), .pointer (some ⟨b213, 0, none⟩)] w (ResW c X w (c.more k left i)) := by
  apply vc134
  unfold V134
  refine ⟨_, _, h5, _, h7, _, h213, (h X w i left hF hi hl).use fun e w' he => ?_⟩
  obtain ⟨a, l, cp, rfl, h1, h2, h3⟩ := he
  exact ⟨a, l, cp, rfl, a, l, cp, rfl, h1, h2, h3⟩
/-! ### What the ends are -/
theorem ends_work (c : Cx) (k i : Nat) : c.ends k i = workP (fun k' p => if h : k' < k then c.ends k' p else []) (L c.t) (c.P.pieces.getD k pSta) i := by
  show endsP _ _ _ _ = _
  rw [endsP]
  rfl
theorem ends_set {c : Cx} {k i : Nat} (h : (c.P.pieces.getD k pSta).kind = 1) : c.ends k i = if i < (L c.t).length ∧ inSet (c.P.pieces.getD k pSta).set (at_ (L c.t) i) = true then [(i + 1, gNone)] else [] := by
  rw [ends_work]; unfold workP; rw [if_pos h]
theorem ends_start {c : Cx} {k i : Nat} (h : (c.P.pieces.getD k pSta).kind = 6) : c.ends k i = if i = 0 then [(i, gNone)] else [] := by
  rw [ends_work]; unfold workP; rw [if_neg (by omega), if_neg (by omega), if_neg (by omega), if_neg (by omega), if_neg (by omega), if_pos h]
theorem ends_end {c : Cx} {k i : Nat} (h : (c.P.pieces.getD k pSta).kind = 7) : c.ends k i = if i = (L c.t).length then [(i, gNone)] else [] := by
  rw [ends_work]; unfold workP; rw [if_neg (by omega), if_neg (by omega), if_neg (by omega), if_neg (by omega), if_neg (by omega), if_neg (by omega), if_pos h]
theorem ends_seq {c : Cx} {k i : Nat} (h : (c.P.pieces.getD k pSta).kind = 2) (hk : ∀ d ∈ (c.P.pieces.getD k pSta).kids, d.toNat < k) : c.ends k i = (c.P.pieces.getD k pSta).kids.foldl (fun cur d => thenP cur (c.ends d.toNat)) [(i, gNone)] := by
  rw [ends_work]; unfold workP; rw [if_neg (by omega), if_pos h]
  generalize (c.P.pieces.getD k pSta).kids = ks at hk
  generalize ([(i, gNone)] : List Wy) = cur
  induction ks generalizing cur with
  | nil => rfl
  | cons d r ih =>
    simp only [List.foldl_cons]
    rw [ih (fun d hd => hk d (List.mem_cons_of_mem _ hd))]
    have := hk d (List.mem_cons_self ..)
    congr 2
    funext p
    rw [dif_pos this]
theorem ends_alt {c : Cx} {k i : Nat} (h : (c.P.pieces.getD k pSta).kind = 3) (hk : ∀ d ∈ (c.P.pieces.getD k pSta).kids, d.toNat < k) : c.ends k i = addA [] ((c.P.pieces.getD k pSta).kids.flatMap fun d => c.ends d.toNat i) := by
  rw [ends_work]; unfold workP; rw [if_neg (by omega), if_neg (by omega), if_pos h]
  congr 1
  generalize (c.P.pieces.getD k pSta).kids = ks at hk
  induction ks with
  | nil => rfl
  | cons d r ih =>
    simp only [List.flatMap_cons]
    rw [ih (fun d hd => hk d (List.mem_cons_of_mem _ hd)), dif_pos (hk d (List.mem_cons_self ..))]
theorem sub_dif {c : Cx} {k d : Nat} (hd : d < k) : (fun p => if h : d < k then c.ends d p else []) = c.ends d := by funext p; rw [dif_pos hd]
theorem ends_group {c : Cx} {k i : Nat} {d : Int} (h : (c.P.pieces.getD k pSta).kind = 5) (hkd : (c.P.pieces.getD k pSta).kids = [d]) (hd : d.toNat < k) : c.ends k i = addA [] ((c.ends d.toNat i).map fun w => (w.1, gSet w.2 (c.P.pieces.getD k pSta).num.toNat (i, w.1))) := by
  rw [ends_work]; unfold workP; rw [if_neg (by omega), if_neg (by omega), if_neg (by omega), if_neg (by omega), if_pos h, hkd]
  simp only [List.getD_cons_zero]
  rw [dif_pos hd]
theorem ends_rep {c : Cx} {k i : Nat} {d : Int} (h : (c.P.pieces.getD k pSta).kind = 4) (hkd : (c.P.pieces.getD k pSta).kids = [d]) (hd : d.toNat < k) : c.ends k i = thenP (repP (c.ends d.toNat) (c.P.pieces.getD k pSta).min.toNat [(i, gNone)]) (c.more k (leftP (c.P.pieces.getD k pSta))) := by
  rw [ends_work]; unfold workP; rw [if_neg (by omega), if_neg (by omega), if_neg (by omega), if_pos h, hkd]
  simp only [List.getD_cons_zero]
  rw [sub_dif hd]
  have : c.sub k = c.ends d.toNat := by funext p; unfold Cx.sub; rw [hkd]; rfl
  unfold Cx.more
  rw [this]
  rfl
end Go.Proofs.Ytngbiaeliphdjaa.V
/- What further does in the reference's machine. No statement of the seat is proved here. -/
namespace Go.Proofs.Ytngbiaeliphdjaa.V
open Go.Vc Go.Proofs Go.RowKit
set_option linter.unusedVariables false
set_option linter.unusedSimpArgs false
/-- The same pattern and text, as the program's finder has them. -/
def Sx.cx (s : Sx) : Cx := ⟨s.bm, s.bd, s.N, s.P, s.t, s.pa, s.pl, s.pc, s.rs⟩
def Sx.ok (s : Sx) : Prop := CxOk s.cx
/-! ### The law -/
def decL (lf : Nat) : Option Nat := if lf = 51 then none else some lf
def lessL (lf : Nat) : Nat := if lf > 50 then lf else lf - 1
theorem decL_less {lf : Nat} (h0 : 0 < lf) (h : lf ≤ 51) : decL (lessL lf) = (decL lf).map (· - 1) := by
  unfold decL lessL
  by_cases h1 : lf = 51
  · subst h1; rfl
  · rw [if_neg (show ¬ lf > 50 from by omega), if_neg h1, if_neg (by omega)]; rfl
theorem decL_zero {lf : Nat} : decL lf = some 0 ↔ lf = 0 := by
  unfold decL
  split
  · constructor
    · intro h; cases h
    · omega
  · constructor
    · intro h; cases h; rfl
    · intro h; subst h; rfl
/-- What going on from one end gives, when a way led here. -/
def stepF (s : Sx) (k lf : Nat) (g : Gr) (i : Nat) (a : Wy) : List Wy := if i < a.1 then (s.more k (decL (lessL lf)) a.1).map (ovW (gOver g a.2)) else []
theorem ovW_ovW (g h : Gr) (x : Wy) : ovW g (ovW h x) = ovW (gOver g h) x := by
  unfold ovW
  simp only []
  rw [gOver_assoc]
theorem more_add {s : Sx} (ok : s.ok) (k lf i : Nat) (hl : lf ≤ 51) (hi : i ≤ s.n) (g : Gr) (ws : List Wy) : addA ws ((s.more k (decL lf) i).map (ovW g)) = addA ws ((if (s.P.pieces.getD k pSta).lazy then [(i, g)] else []) ++ (if lf = 0 then [] else (s.sub k i).flatMap (stepF s k lf g i)) ++ [(i, g)]) := by
  have h1 : s.more k (decL lf) i = addA [] ((if (s.P.pieces.getD k pSta).lazy then [(i, gNone)] else []) ++ (if decL lf = some 0 then [] else (s.sub k i).flatMap (stepM s.cx k (decL lf) i)) ++ [(i, gNone)]) := more_eq s.cx k (decL lf) i
  rw [h1, addA_dd (f := ovW g) fun _ => rfl]
  congr 1
  have hone : ovW g (i, gNone) = (i, g) := by unfold ovW; simp only []; rw [gOver_none]
  rw [List.map_append, List.map_append, List.map_cons, List.map_nil, hone]
  congr 2
  · split
    · rw [List.map_cons, List.map_nil, hone]
    · rfl
  · by_cases h0 : lf = 0
    · rw [if_pos h0, if_pos (decL_zero.2 h0)]; rfl
    · rw [if_neg h0, if_neg (fun h => h0 (decL_zero.1 h)), List.map_flatMap]
      have hs : ∀ a ∈ s.sub k i, (stepM s.cx k (decL lf) i a).map (ovW g) = stepF s k lf g i a := by
        intro a ha
        have hh : a.1 ≤ s.n := (CxOk.wok ok _ i hi a ha).hi
        unfold stepM stepF
        by_cases h2 : i < a.1
        · rw [if_pos ⟨h2, hh⟩, if_pos h2, List.map_map, decL_less (by omega) hl]
          apply List.map_congr_left
          intro x _
          exact ovW_ovW g a.2 x
        · rw [if_neg (fun h => h2 h.1), if_neg h2]; rfl
      generalize s.sub k i = l at hs
      induction l with
      | nil => rfl
      | cons x r ih =>
        simp only [List.flatMap_cons]
        rw [hs x (List.mem_cons_self ..), ih fun a ha => hs a (List.mem_cons_of_mem _ ha)]
/-- What was gone on from is gathered. -/
def Cmp (s : Sx) (k : Nat) (ws : List Wy) (sn : Nat → Bool) (i : Nat) : Prop := ∀ p lf, i ≤ p → p ≤ s.n → lf ≤ 51 → sn (p * 52 + lf) = true → ∀ x ∈ s.more k (decL lf) p, has ws x.1 = true
theorem has_mono {ws xs : List Wy} {p : Nat} (h : has ws p = true) : has (addA ws xs) p = true := by rw [has_addA, h, Bool.true_or]
/-! ### The memory -/
theorem NotRow.keep {S : Nat → Prop} {w w' : World} {b q : Nat} (h : NotRow w b q) (e : Ext S w w') (hb : ¬ S b) (hl : b < w.heap.size) : NotRow w' b q := fun a l cp hc => h a l cp (by rw [← Ext.cellH e hl hb]; exact hc)
def snC (s : Sx) (sn : Nat → Bool) : List Value := rowN ((s.n + 1) * 52) fun j => .bool (sn j)
/-- A list that is gathered, and where was gone on from. -/
structure SQ (s : Sx) (K : Nat) (X0 : Nat → Prop) (w0 : World) (b bs bq : Nat) (X : Nat → Prop) (w : World) (d : Nat → Bool) (sl : Nat → G3) (ws : List Wy) (sn : Nat → Bool) : Prop where
  l : SL s K X0 w0 b bs X w d sl ws
  mem : X bq
  new : w0.heap.size ≤ bq ∧ bq ≠ b ∧ bq ≠ bs
  blk : Blk w.heap bq 4 (snC s sn)
  nr : NotRow w b bq
section
variable {s : Sx} {K : Nat} {X0 X : Nat → Prop} {w0 w w' : World} {b bs bq : Nat} {d d' : Nat → Bool} {sl sl' : Nat → G3} {ws : List Wy} {sn : Nat → Bool}
theorem SQ.ltb (h : SQ s K X0 w0 b bs bq X w d sl ws sn) : b < w.heap.size := (h.l.fin.priv b h.l.mem).2.2.2.2
theorem SQ.below (h : SQ s K X0 w0 b bs bq X w d sl ws sn) (e : Below w.heap.size w w') : SQ s K X0 w0 b bs bq X w' d sl ws sn :=
  ⟨h.l.below e, h.mem, h.new, h.blk.below e, h.nr.keep (S := fun _ => False) (Ext.of_below e) (fun h => h) h.ltb⟩
theorem SQ.call (h : SQ s K X0 w0 b bs bq X w d sl ws sn) (hf : STab s K X w' d' sl') (e : Ext (fun x => x = s.bd ∨ x = s.bl) w w') : SQ s K X0 w0 b bs bq X w' d' sl' ws sn := by
  have hx : ∀ x, X x → ¬ (x = s.bd ∨ x = s.bl) := fun x hx h' => by
    have := h.l.fin.priv x hx
    rcases h' with h' | h'
    · exact this.2.1 h'
    · exact this.2.2.1 h'
  exact ⟨h.l.call hf e, h.mem, h.new, h.blk.keep e (hx _ h.mem), h.nr.keep e (hx _ h.l.mem) h.ltb⟩
theorem SQ.add (h : SQ s K X0 w0 b bs bq X w d sl ws sn) {to : Nat} {x : Gr} {g : G3} (hg : GrAt s X w g x) (hto : to ≤ s.n) (hl : ws.length ≤ 1000) :
    Cl Try.prog 155 [.pointer (some ⟨b, 0, none⟩), .int .i64 to, .slice g.1 g.2.1 g.2.2] w (fun e w' => e = .returned (.tuple #[]) ∧ ∃ X', SQ s K X0 w0 b bs bq X' w' d sl (addW ws (to, x)) sn ∧ Ext X w w' ∧ ∀ y, X' y → X y ∨ w.heap.size ≤ y) := by
  refine (h.l.add hg hto hl).use fun e w' he => ?_
  obtain ⟨rfl, X', S', e', hX', hq⟩ := he
  obtain ⟨n', eq', hm⟩ := hq bq h.blk.lt h.new.2.1 h.new.2.2 h.nr
  exact ⟨rfl, X', ⟨S', hm h.mem, h.new, h.blk.keep eq' fun h => h rfl, n'⟩, e', hX'⟩
theorem SQ.mark (h : SQ s K X0 w0 b bs bq X w d sl ws sn) {j : Nat} (hj : j < (s.n + 1) * 52) {K' : World → Prop} (hK : ∀ w', w'.heap.size = w.heap.size → Ext (fun k => k = bq) w w' → SQ s K X0 w0 b bs bq X w' d sl ws (fun i => if i = j then true else sn i) → K' w') : stW bq j [.bool true] K' w := by
  refine stW_in h.blk (by unfold snC; rw [rowN_length]; exact hj) fun w2 s2 k2 e2 => hK w2 s2 e2 ?_
  have hset : segSet (snC s sn) j [.bool true] = snC s fun i => if i = j then true else sn i := by
    show (snC s sn).set j _ = _
    unfold snC
    rw [rowN_set]
    apply rowN_ext
    intro i _
    by_cases hij : i = j
    · simp only [hij, if_true]
    · simp only [hij, if_false]
  rw [hset] at k2
  have hn := h.new
  refine ⟨h.l.other e2 (fun x hx => by subst hx; exact ⟨h.mem, hn.1, hn.2.1, hn.2.2⟩) (fun a l cp hb k hk hkq => ?_), h.mem, h.new, k2, h.nr.keep e2 (fun hb => hn.2.1 hb.symm) h.ltb⟩
  subst hkq
  exact h.nr a l cp (hb.cell 1) hk
end
end Go.Proofs.Ytngbiaeliphdjaa.V
/- What further does in the reference's machine: the walk. No statement of the seat is proved here. -/
namespace Go.Proofs.Ytngbiaeliphdjaa.V
open Go.Vc Go.Proofs Go.RowKit
set_option linter.unusedVariables false
set_option linter.unusedSimpArgs false
/-- Blocks of a call's own that stay. -/
def LocS (s : Sx) (bs : List (Nat × TypeId × List Value)) (X : Nat → Prop) (w : World) : Prop := ∀ p ∈ bs, Blk w.heap p.1 p.2.1 p.2.2 ∧ ¬ X p.1 ∧ p.1 ≠ s.bd ∧ p.1 ≠ s.bl
theorem LocS.grow {s : Sx} {bs : List (Nat × TypeId × List Value)} {X Y S : Nat → Prop} {w w' : World} (h : LocS s bs X w) (e : Ext S w w') (hS : ∀ x, S x → X x ∨ x = s.bd ∨ x = s.bl) (hY : ∀ y, Y y → X y ∨ w.heap.size ≤ y) : LocS s bs Y w' := fun p hp => by
  have h1 := h p hp
  refine ⟨h1.1.keep e fun hs => ?_, fun hy => ?_, h1.2.2⟩
  · rcases hS _ hs with h2 | h2 | h2
    · exact h1.2.1 h2
    · exact h1.2.2.1 h2
    · exact h1.2.2.2 h2
  · rcases hY _ hy with h2 | h2
    · exact h1.2.1 h2
    · have := h1.1.lt; omega
theorem LocS.below {s : Sx} {bs : List (Nat × TypeId × List Value)} {X : Nat → Prop} {w w' : World} (h : LocS s bs X w) (e : Below w.heap.size w w') : LocS s bs X w' := h.grow (S := fun _ => False) (Ext.of_below e) (fun _ h => h.elim) fun _ h => .inl h
theorem LocS.cons {s : Sx} {bs : List (Nat × TypeId × List Value)} {X : Nat → Prop} {w : World} {b : Nat} {e : TypeId} {cs : List Value} (h : LocS s bs X w) (k : Blk w.heap b e cs) (hx : ¬ X b) (hm : b ≠ s.bd ∧ b ≠ s.bl) : LocS s ((b, e, cs) :: bs) X w := fun p hp => by
  rcases List.mem_cons.1 hp with rfl | hp
  · exact ⟨k, hx, hm⟩
  · exact h p hp
theorem LocS.nil (s : Sx) (X : Nat → Prop) (w : World) : LocS s [] X w := fun p hp => by cases hp
theorem LocS.get {s : Sx} {bs : List (Nat × TypeId × List Value)} {X : Nat → Prop} {w : World} {b : Nat} {e : TypeId} {cs : List Value} (h : LocS s bs X w) (hm : (b, e, cs) ∈ bs) : Blk w.heap b e cs := (h _ hm).1
theorem STab.raw {s : Sx} {K : Nat} {X : Nat → Prop} {w : World} {d : Nat → Bool} {sl : Nat → G3} (h : STab s K X w d sl) {k : Nat} {r : Raw} (hr : s.rs[k]? = some r) : RawOk w r (s.P.pieces.getD k pSta) := by
  have h1 := h.pcs.len
  have h2 := h.pcs.len'
  have hk : k < s.P.pieces.length := by
    have := (List.getElem?_eq_some_iff.1 hr).1
    omega
  refine h.pcs.all k _ _ hr ?_
  rw [List.getD_eq_getElem?_getD, List.getElem?_eq_getElem hk]; rfl
/-- Ends that may be gathered. -/
def Gd (s : Sx) (ws : List Wy) : Prop := DD ws ∧ ∀ z ∈ ws, z.1 ≤ s.n
theorem Gd.nil (s : Sx) : Gd s [] := ⟨DD.nil, by simp⟩
theorem Gd.addA {s : Sx} {ws xs : List Wy} (h : Gd s ws) (hx : ∀ z ∈ xs, z.1 ≤ s.n) : Gd s (Go.Vc.addA ws xs) := ⟨DD.addA h.1, fun z hz => by
  rcases mem_addA hz with hz | hz
  · exact h.2 z hz
  · exact hx z hz⟩
theorem Gd.len {s : Sx} (ok : s.ok) {ws : List Wy} (h : Gd s ws) : ws.length ≤ 1000 := by
  have := h.1.short h.2
  have := CxOk.n200 ok
  have : s.cx.n = s.n := rfl
  omega
theorem Sx.ok.wok {s : Sx} (h : s.ok) (k i : Nat) (hi : i ≤ s.n) : ∀ w ∈ s.ends k i, WOk s.P.groups s.n i w := CxOk.wok h k i hi
theorem Sx.ok.mok {s : Sx} (h : s.ok) (k i : Nat) (left : Option Nat) (hi : i ≤ s.n) : ∀ w ∈ s.more k left i, WOk s.P.groups s.n i w := CxOk.mok h k i left hi
def FurR (s : Sx) (K k : Nat) (X0 : Nat → Prop) (w0 : World) (b bs bq : Nat) (X : Nat → Prop) (w : World) (d : Nat → Bool) (sl : Nat → G3) (ws : List Wy) (sn : Nat → Bool) (i lf : Nat) (g : Gr) : Ending → World → Prop := fun e w' => e = .returned (.tuple #[]) ∧ ∃ (X' : Nat → Prop) (d' : Nat → Bool) (sl' : Nat → G3) (sn' : Nat → Bool), SQ s K X0 w0 b bs bq X' w' d' sl' (addA ws ((s.more k (decL lf) i).map (ovW g))) sn' ∧ Cmp s k (addA ws ((s.more k (decL lf) i).map (ovW g))) sn' i ∧ (∀ j, j < i * 52 → sn' j = sn j) ∧ Ext (fun x => X x ∨ x = s.bd ∨ x = s.bl) w w' ∧ (∀ y, X' y → X y ∨ w.heap.size ≤ y) ∧ Agr s K d d' sl sl'
theorem further_ok {s : Sx} (ok : s.ok) {K k : Nat} {X0 : Nat → Prop} {w0 : World} {b bs bq : Nat} {kid : Int} {r : Raw} (hkid : (s.P.pieces.getD k pSta).kids = [kid]) (hk0 : (kid.toNat : Int) = kid) (hkK : kid.toNat < K) (hr : s.rs[k]? = some r) (hE : EndsC s kid.toNat) : ∀ (m : Nat) (X : Nat → Prop) (w : World) (d : Nat → Bool) (sl : Nat → G3) (ws : List Wy) (sn : Nat → Bool) (i lf : Nat) (g : Gr) (gx : G3), s.n - i = m → i ≤ s.n → lf ≤ 51 → SQ s K X0 w0 b bs bq X w d sl ws sn → GrAt s X w gx g → Cmp s k ws sn i → Gd s ws →
    Cl Try.prog 159 [.pointer (some ⟨s.bm, 0, none⟩), .agg #[.int .i64 r.kind, .slice r.sa r.sl r.sc, .int .i64 r.min, .int .i64 r.max, .bool r.lazy, .int .i64 r.num, .slice r.ka r.kl r.kc], .agg #[.int .i64 (i : Int), .slice gx.1 gx.2.1 gx.2.2], .int .i64 lf, .slice (some ⟨bq, 0, none⟩) ((s.n + 1) * 52) ((s.n + 1) * 52), .pointer (some ⟨b, 0, none⟩)] w (FurR s K k X0 w0 b bs bq X w d sl ws sn i lf g) := by
  intro m
  induction m using Nat.strongRecOn with
  | _ m ih =>
  intro X w d sl ws sn i lf g gx hm hi hlf hQ hg hC hws
  have hn200 : s.n ≤ 200 := CxOk.n200 ok
  have hg9 : s.P.groups ≤ 9 := CxOk.g9 ok
  apply vc159
  unfold V159
  have hbd := hQ.l.fin.db.lt
  have hbl := hQ.l.fin.lb.lt
  have hXl : ∀ x, X x → x < w.heap.size := fun x hx => (hQ.l.fin.priv x hx).2.2.2.2
  refine newC_in fun w17 s17 k17 e17 => ?_
  generalize hb16 : w.heap.size = b16 at *
  refine newC_in fun w19 s19 k19 e19 => ?_
  generalize hb18 : w17.heap.size = b18 at *
  have B19 : Below w.heap.size w w19 := Ext.to (Ext.to (Below.refl _ _) e17 fun _ h => h.elim) e19 fun _ h => h.elim
  have Q19 := hQ.below B19
  have g19 := hg.below B19
  have L19 : LocS s [(b16, 111, r.cells), (b18, 150, [.int .i64 (i : Int), .slice gx.1 gx.2.1 gx.2.2])] X w19 := by
    refine LocS.cons (LocS.cons (LocS.nil _ _ _) k19 (fun h => ?_) ⟨by omega, by omega⟩) (k17.keep e19 fun h => h) (fun h => ?_) ⟨by omega, by omega⟩
    · have := hXl _ h; omega
    · have := hXl _ h; omega
  generalize hbs : [(b16, 111, r.cells), (b18, 150, [Value.int .i64 (i : Int), .slice gx.1 gx.2.1 gx.2.2])] = lb at L19
  have m16 : (b16, 111, r.cells) ∈ lb := by rw [← hbs]; simp
  have m18 : (b18, 150, [.int .i64 (i : Int), .slice gx.1 gx.2.1 gx.2.2]) ∈ lb := by rw [← hbs]; simp
  have ej : IntKind.wrap .i64 (IntKind.wrap .i64 ((i : Int) * 52) + (lf : Int)) = ((i * 52 + lf : Nat) : Int) := by
    rw [w64 (n := (i : Int) * 52) (by omega), w64 (by omega)]; omega
  have hj : i * 52 + lf < (s.n + 1) * 52 := by omega
  have et : 0 + Int.toNat ((i * 52 + lf : Nat) : Int) * 1 = i * 52 + lf := by omega
  refine ⟨_, (L19.get m18).cell 0, ?_⟩
  dsimp only
  rw [ej]
  refine ⟨bq, 0, ⟨rfl, by omega, by omega⟩, sn (i * 52 + lf), ?_, fun g1 => ?_, fun g1 => ?_⟩
  · rw [et, Q19.blk.cell]
    exact rowN_get _ hj
  · refine ⟨rfl, X, d, sl, sn, ?_⟩
    have hsame : addA ws ((s.more k (decL lf) i).map (ovW g)) = ws := addA_has fun x hx => by
      obtain ⟨y, hy, rfl⟩ := List.mem_map.1 hx
      exact hC i lf (Nat.le_refl _) hi hlf g1 y hy
    rw [hsame]
    exact ⟨Q19, hC, fun _ _ => rfl, Ext.of_below B19, fun y hy => .inl hy, Agr.refl _ _ _ _⟩
  refine ⟨bq, 0, ⟨rfl, by omega, by omega⟩, ?_⟩
  dsimp only
  rw [et]
  refine Q19.mark hj fun w26 s26 e26 Q26 => ?_
  have L26 := L19.grow (Y := X) e26 (fun x hx => by subst hx; exact .inl hQ.mem) fun y hy => .inl hy
  have g26 : GrAt s X w26 gx g := g19.grow e26 (fun x hx => by subst hx; exact .inl hQ.mem) fun y hy => .inl hy
  have E26 : Ext (fun x => X x ∨ x = s.bd ∨ x = s.bl) w w26 := (Ext.of_below B19).trans (Ext.mono e26 fun x _ hx => by subst hx; exact .inl hQ.mem)
  generalize hsn1 : (fun j => if j = i * 52 + lf then true else sn j) = sn1 at Q26
  have C26 : Cmp s k ws sn1 (i + 1) := fun p q hp1 hp2 hq ht x hx => by
    refine hC p q (by omega) hp2 hq ?_ x hx
    rw [← hsn1] at ht
    simp only [] at ht
    rwa [if_neg (by omega)] at ht
  have hz26 : w.heap.size ≤ w26.heap.size := E26.size
  generalize hlz : (if (s.P.pieces.getD k pSta).lazy then [((i : Nat), g)] else [] : List Wy) = lz
  have hlzb : ∀ z ∈ lz, z.1 ≤ s.n := by
    intro z hz
    rw [← hlz] at hz
    split at hz
    · simp only [List.mem_singleton] at hz; subst hz; exact hi
    · cases hz
  have hone : ∀ z ∈ ([(i, g)] : List Wy), z.1 ≤ s.n := by
    intro z hz; simp only [List.mem_singleton] at hz; subst hz; exact hi
  have hmore := more_add ok k lf i hlf hi g ws
  rw [hlz] at hmore
  have hlr : r.lazy = (s.P.pieces.getD k pSta).lazy := (Q26.l.fin.raw hr).lazy
  refine ⟨_, (L26.get m16).cell 4, fun w' => ∃ X', SQ s K X0 w0 b bs bq X' w' d sl (addA ws lz) sn1 ∧ LocS s lb X' w' ∧ GrAt s X' w' gx g ∧ Ext (fun x => X x ∨ x = s.bd ∨ x = s.bl) w w' ∧ (∀ y, X' y → X y ∨ w.heap.size ≤ y), ⟨fun g2 => ?_, fun g2 => ?_⟩, ?_⟩
  · refine ⟨_, (L26.get m18).cell 0, _, _, _, (L26.get m18).cell 1, ?_⟩
    refine (Q26.add g26 hi (hws.len ok)).use fun e w31 he => ?_
    obtain ⟨rfl, X3, Q31, e31, hX3⟩ := he
    refine ⟨rfl, X3, ?_, L26.grow e31 (fun _ h => .inl h) hX3, g26.grow e31 (fun _ h => .inl h) hX3, E26.trans (Ext.mono e31 fun x _ hx => .inl hx), fun y hy => ?_⟩
    · rw [← hlz, if_pos (by rw [← hlr]; exact g2)]; exact Q31
    · rcases hX3 y hy with h | h
      · exact .inl h
      · exact .inr (by omega)
  · refine ⟨X, ?_, L26, g26, E26, fun y hy => .inl hy⟩
    rw [← hlz, if_neg (by rw [← hlr, g2]; decide)]; exact Q26
  clear L26 g26 E26 hz26 Q26 e26 s26 L19 g19 Q19 B19 e19 k19 s19 e17 k17 s17
  rintro d33 w34 ⟨X1, Q34, L34, g34, E34, hX1⟩
  have G34 : Gd s (addA ws lz) := hws.addA hlzb
  have hfin : ∀ {X' : Nat → Prop} {w' : World} {ws' : List Wy} {sn' : Nat → Bool} {d' : Nat → Bool} {sl' : Nat → G3}, SQ s K X0 w0 b bs bq X' w' d' sl' ws' sn' → LocS s lb X' w' → GrAt s X' w' gx g → Ext (fun x => X x ∨ x = s.bd ∨ x = s.bl) w w' → (∀ y, X' y → X y ∨ w.heap.size ≤ y) → Gd s ws' → addA ws' [(i, g)] = addA ws ((s.more k (decL lf) i).map (ovW g)) → (∀ p, has ws p = true → has ws' p = true) → Cmp s k ws' sn' (i + 1) → (∀ j, j < (i + 1) * 52 → sn' j = sn1 j) → Agr s K d d' sl sl' →
      ∃ (n81 : Int), cellH w'.heap b18 0 = some (.int .i64 n81) ∧ ∃ (a82 : Option Addr), ∃ (l82 : Nat), ∃ (c82 : Nat), cellH w'.heap b18 1 = some (.slice a82 l82 c82) ∧ Cl Try.prog 155 ([.pointer (some ⟨b, 0, none⟩), .int .i64 n81, .slice a82 l82 c82]) w' (retG (fun (r84 : Value) (w83 : World) => r84 = .tuple #[] ∧ FurR s K k X0 w0 b bs bq X w d sl ws sn i lf g (.returned (.tuple #[])) w83) (fun c1 w1' => FurR s K k X0 w0 b bs bq X w d sl ws sn i lf g (.panicked c1) w1')) := by
    intro X' w' ws' sn' d' sl' Q' L' g' E' hX' G' he' hmo C' hs' A'
    refine ⟨_, (L'.get m18).cell 0, _, _, _, (L'.get m18).cell 1, ?_⟩
    refine (Q'.add g' hi (G'.len ok)).use fun e w5 he => ?_
    obtain ⟨rfl, X5, Q5, e5, hX5⟩ := he
    rw [show addW ws' (i, g) = addA ws' [(i, g)] from rfl, he'] at Q5
    refine ⟨rfl, rfl, X5, d', sl', sn', Q5, fun p q hp1 hp2 hq ht x hx => ?_, fun j hj2 => ?_, E'.step (T := X') e5 fun y hy hX => ?_, fun y hy => ?_, A'⟩
    · by_cases hpi : p = i
      · subst hpi
        rw [hs' _ (by omega), ← hsn1] at ht
        simp only [] at ht
        by_cases hql : q = lf
        · subst hql
          rw [has_addA, has_map (f := ovW g) (fun _ => rfl), has_iff.2 ⟨x, hx, rfl⟩, Bool.or_true]
        · rw [if_neg (by omega)] at ht
          exact has_mono (hC p q hp1 hp2 hq ht x hx)
      · rw [← he']
        exact has_mono (C' p q (by omega) hp2 hq ht x hx)
    · rw [hs' j (by omega), ← hsn1]
      simp only []
      rw [if_neg (by omega)]
    · rcases hX' y hX with h | h
      · exact .inl h
      · omega
    · rcases hX5 y hy with h | h
      · exact hX' y h
      · exact .inr (Nat.le_trans E'.size h)
  refine ⟨fun g3 => ?_, fun g3 => ?_⟩
  rotate_left
  · have g3' : lf = 0 := by have := of_decide_eq_false g3; omega
    refine hfin Q34 L34 g34 E34 hX1 G34 ?_ (fun p hp => has_mono hp) (fun p q a1 a2 a3 a4 x hx => has_mono (C26 p q a1 a2 a3 a4 x hx)) (fun _ _ => rfl) (Agr.refl _ _ _ _)
    rw [hmore, if_pos g3', List.append_nil, addA_append]
  have g3' : 0 < lf := by have := of_decide_eq_true g3; omega
  refine ⟨fun n' w' => n' = (lessL lf : Nat) ∧ w' = w34, ⟨fun g4 => ⟨?_, rfl⟩, fun g4 => ⟨?_, rfl⟩⟩, ?_⟩
  · have : lf > 50 := by have := of_decide_eq_true g4; omega
    unfold lessL; rw [if_pos this]
  · have : ¬ lf > 50 := by have := of_decide_eq_false g4; omega
    unfold lessL; rw [if_neg this, w64 (by omega)]; omega
  rintro d36 n37 w38 ⟨rfl, rfl⟩
  refine drw_in fun w39 q39 e39 => ?_
  have B39 : Below w38.heap.size w38 w39 := Ext.to (Below.refl _ _) e39 fun _ h => h.elim
  have Q39 := Q34.below B39
  have L39 := L34.below B39
  have g39 := g34.below B39
  have E39 := E34.trans (Ext.of_below B39)
  have hlen1 : (s.P.pieces.getD k pSta).kids.length = 1 := by rw [hkid]; rfl
  have hkv := (Q39.l.fin.raw hr).kids
  rw [hkid] at hkv
  have hkl : r.kl = 1 := by have := hkv.1; rw [intC_length] at this; simp at this; omega
  obtain ⟨bk, hbk, hkc⟩ := hkv.open (by omega)
  refine ⟨_, _, _, (L39.get m16).cell 6, bk, 0, ⟨hbk, by omega, by omega⟩, kid, by rw [hkc 0 (by omega)]; rfl, _, (L39.get m18).cell 0, ?_⟩
  have hcall := hE K X1 w39 d sl i hkK Q39.l.fin hi
  rw [hk0] at hcall
  refine hcall.use fun e w46 he => ?_
  obtain ⟨a45, l45, c45, d1, sl1, rfl, r46, f46, A46, e46⟩ := he
  have hsub : s.sub k = s.ends kid.toNat := by funext p; unfold Sx.sub; rw [hkid]; rfl
  have Q46 := Q39.call f46 e46
  have L46 := L39.grow (Y := X1) e46 (fun _ h => .inr h) fun _ h => .inl h
  have g46 : GrAt s X1 w46 gx g := g39.grow e46 (fun _ h => .inr h) fun _ h => .inl h
  have E46 := E39.trans (Ext.mono e46 fun x _ hx => (.inr hx : X x ∨ x = s.bd ∨ x = s.bl))
  have hstepb : ∀ (A : List Wy), (∀ a ∈ A, a.1 ≤ s.n) → ∀ z ∈ A.flatMap (stepF s k lf g i), z.1 ≤ s.n := by
    intro A hA z hz
    obtain ⟨x, hx, hz⟩ := List.mem_flatMap.1 hz
    unfold stepF at hz
    split at hz
    · obtain ⟨y, hy, rfl⟩ := List.mem_map.1 hz
      exact (ok.mok k x.1 _ (hA x hx) y hy).hi
    · cases hz
  have hwk := ok.wok kid.toNat i hi
  refine ⟨a45, l45, c45, rfl, fun m' n' w' => ∃ (A B : List Wy) (X2 : Nat → Prop) (d2 : Nat → Bool) (sl2 : Nat → G3) (sn2 : Nat → Bool), s.ends kid.toNat i = A ++ B ∧ n' = A.length ∧ m' = B.length ∧ SQ s K X0 w0 b bs bq X2 w' d2 sl2 (addA (addA ws lz) (A.flatMap (stepF s k lf g i))) sn2 ∧ LocS s lb X2 w' ∧ GrAt s X2 w' gx g ∧ EndsAt s X2 w' a45 l45 c45 (s.ends kid.toNat i) ∧ Ext (fun x => X x ∨ x = s.bd ∨ x = s.bl) w w' ∧ (∀ y, X2 y → X y ∨ w.heap.size ≤ y) ∧ Cmp s k (addA (addA ws lz) (A.flatMap (stepF s k lf g i))) sn2 (i + 1) ∧ (∀ j, j < (i + 1) * 52 → sn2 j = sn1 j) ∧ Agr s K d d2 sl sl2, ⟨_, [], _, X1, d1, sl1, sn1, rfl, rfl, rfl, Q46, L46, g46, r46, E46, hX1, fun p q a1 a2 a3 a4 x hx => has_mono (has_mono (C26 p q a1 a2 a3 a4 x hx)), fun _ _ => rfl, A46⟩, ?_⟩
  have hl45 := r46.len
  clear Q46 L46 g46 r46 E46 hcall f46 e46 A46 hkc hkv L39 g39 E39 Q39 B39 e39 q39 Q34 L34 g34 E34 hX1
  rintro m' dd n' w51 ⟨A, B, X2, d2, sl2, sn2, hAB, rfl, rfl, Q51, L51, g51, r51, E51, hX2, C51, hs51, A51⟩
  have hABl : (s.ends kid.toNat i).length = A.length + B.length := by rw [hAB]; simp
  have hAb : ∀ a ∈ A, a.1 ≤ s.n := fun a ha => (hwk a (by rw [hAB]; exact List.mem_append_left _ ha)).hi
  have e0 : Int.toNat (A.length : Int) = A.length := by omega
  have hshort : (s.ends kid.toNat i).length ≤ 201 := CxOk.short ok kid.toNat i hi
  have e1 : IntKind.wrap .i64 ((A.length : Int) + 1) = ((A.length + 1 : Nat) : Int) := by rw [w64 (by omega)]; omega
  rw [e0, e1]
  refine ⟨fun g5 => ?_, fun g5 => ?_⟩
  · have g5' : A.length < l45 := by have := of_decide_eq_true g5; omega
    obtain ⟨x, B', rfl⟩ : ∃ x B', B = x :: B' := by
      cases B with
      | nil => simp only [List.length_nil] at hABl; omega
      | cons x B' => exact ⟨x, B', rfl⟩
    have hxm : x ∈ s.ends kid.toNat i := by rw [hAB]; simp
    have hxb := hwk x hxm
    have r51' := r51
    rw [hAB] at r51'
    obtain ⟨ba, ge, hba, _, hx1, hx2, ge51⟩ := r51'.elem
    refine ⟨ba, 0, ⟨hba, by omega, by omega⟩, _, hx1, _, _, _, hx2, ?_⟩
    have hz51 := E51.size
    refine newC_in fun w59 s59 k59 e59 => ?_
    generalize hb58 : w51.heap.size = b58 at *
    refine stW_in k59 (by show 0 + 2 ≤ 2; decide) fun w60 s60 k60 e60 => ?_
    have k60' : Blk w60.heap b58 150 [.int .i64 (x.1 : Int), .slice ge.1 ge.2.1 ge.2.2] := k60
    have B60 : Below w51.heap.size w51 w60 := Ext.to (Ext.to (Below.refl _ _) e59 fun _ h => h.elim) e60 fun i hi => by omega
    have L60 := L51.below B60
    have hX58 : ¬ X2 b58 := fun h => by have := (Q51.l.fin.priv b58 h).2.2.2.2; omega
    refine ⟨_, k60'.cell 0, _, (L60.get m18).cell 0, fun g6 => ?_, fun g6 => ?_⟩
    · have g6' : i < x.1 := by have := of_decide_eq_true g6; omega
      refine drw_in fun w63 q63 e63 => ?_
      have B63 : Below w51.heap.size w51 w63 := Ext.to B60 e63 fun _ h => h.elim
      have L63 := L51.below B63
      have k63 := k60'.keep e63 fun h => h
      have l16 := L63.get m16
      have l18 := L63.get m18
      refine ⟨_, l16.cell 0, _, _, _, l16.cell 1, _, l16.cell 2, _, l16.cell 3, _, l16.cell 4, _, l16.cell 5, _, _, _, l16.cell 6, _, k63.cell 0, _, _, _, l18.cell 1, _, _, _, k63.cell 1, ?_⟩
      refine (sover_ok (by omega) (g51.below B63).1 (ge51.below B63).1).use fun e w75 he => ?_
      obtain ⟨q, rfl, hq, v75, b75⟩ := he
      have B75 := B63.vstep b75
      have L75 := L51.below B75
      have k16 := L75.get m16
      have hz63 := B63.size
      have gq : GrAt s X2 w75 (some ⟨q, 0, none⟩, s.P.groups, s.P.groups) (gOver g x.2) := ⟨v75, fun j hj => by
        obtain rfl : q = j := by simpa [blkOf] using hj
        have h1 := Q51.l.fin.db.lt
        have h2 := Q51.l.fin.lb.lt
        exact ⟨fun h => by have := (Q51.l.fin.priv q h).2.2.2.2; omega, by omega, by omega⟩⟩
      refine ⟨_, _, _, rfl, (k63.below b75).cell 0, ⟨k16.cell 0, k16.cell 1, k16.cell 2, k16.cell 3, k16.cell 4, k16.cell 5, k16.cell 6, trivial⟩, ?_⟩
      have Q75 := Q51.below B75
      have G75 : Gd s (addA (addA ws lz) (A.flatMap (stepF s k lf g i))) := G34.addA (hstepb A hAb)
      have hless : lessL lf ≤ 51 := by unfold lessL; split <;> omega
      refine (ih (s.n - x.1) (by have := hxb.hi; omega) X2 w75 d2 sl2 _ sn2 x.1 (lessL lf) (gOver g x.2) _ rfl hxb.hi hless Q75 gq (fun p q a1 a2 a3 a4 y hy => C51 p q (by omega) a2 a3 a4 y hy) G75).use fun e w77 he => ?_
      obtain ⟨rfl, X3, d3, sl3, sn3, Q77, C77, hs77, E77, hX3, A77⟩ := he
      have hz75 := B75.size
      have hsnoc : addA (addA ws lz) ((A ++ [x]).flatMap (stepF s k lf g i)) = addA (addA (addA ws lz) (A.flatMap (stepF s k lf g i))) ((s.more k (decL (lessL lf)) x.1).map (ovW (gOver g x.2))) := by
        rw [List.flatMap_append, addA_append, List.flatMap_cons, List.flatMap_nil, List.append_nil]
        rw [show stepF s k lf g i x = (s.more k (decL (lessL lf)) x.1).map (ovW (gOver g x.2)) from by unfold stepF; rw [if_pos g6']]
      refine ⟨rfl, B'.length, by simp, A ++ [x], B', X3, d3, sl3, sn3, by rw [hAB]; simp, by simp, rfl, by rw [hsnoc]; exact Q77, L75.grow E77 (fun _ h => h) hX3, ((g51.below B75).grow E77 (fun _ h => h) hX3), ((r51.below B75).grow E77 (fun _ h => h) hX3), ?_, fun y hy => ?_, ?_, fun j hj2 => ?_, A51.trans A77⟩
      · refine (E51.trans (Ext.of_below B75)).step (T := fun x => X2 x ∨ x = s.bd ∨ x = s.bl) E77 fun y hy hX => ?_
        rcases hX with h | h
        · rcases hX2 y h with h | h
          · exact .inl h
          · omega
        · exact .inr h
      · rcases hX3 y hy with h | h
        · exact hX2 y h
        · exact .inr (by omega)
      · rw [hsnoc]
        intro p q a1 a2 a3 a4 y hy
        by_cases hpx : x.1 ≤ p
        · exact C77 p q hpx a2 a3 a4 y hy
        · rw [hs77 _ (by omega)] at a4
          exact has_mono (C51 p q a1 a2 a3 a4 y hy)
      · rw [hs77 j (by omega)]; exact hs51 j hj2
    · have g6' : ¬ i < x.1 := by have := of_decide_eq_false g6; omega
      have hsnoc : addA (addA ws lz) ((A ++ [x]).flatMap (stepF s k lf g i)) = addA (addA ws lz) (A.flatMap (stepF s k lf g i)) := by
        rw [List.flatMap_append, addA_append, List.flatMap_cons, List.flatMap_nil, List.append_nil]
        rw [show stepF s k lf g i x = [] from by unfold stepF; rw [if_neg g6']]
        rfl
      refine ⟨B'.length, by simp, A ++ [x], B', X2, d2, sl2, sn2, by rw [hAB]; simp, by simp, rfl, by rw [hsnoc]; exact Q51.below B60, L60, g51.below B60, r51.below B60, E51.trans (Ext.of_below B60), hX2, by rw [hsnoc]; exact C51, hs51, A51⟩
  · have g5' : ¬ A.length < l45 := by have := of_decide_eq_false g5; omega
    have : B = [] := by
      cases B with
      | nil => rfl
      | cons x r => simp only [List.length_cons] at hABl; omega
    subst this
    rw [List.append_nil] at hAB
    subst hAB
    refine hfin Q51 L51 g51 E51 hX2 (G34.addA (hstepb _ hAb)) ?_ (fun p hp => has_mono (has_mono hp)) C51 hs51 A51
    rw [hmore, if_neg (by omega), addA_append, addA_append, hsub]
end Go.Proofs.Ytngbiaeliphdjaa.V
/- What ways does in the program's finder. No statement of the seat is proved here. -/
namespace Go.Vc
set_option linter.unusedVariables false
theorem repP_snoc (sub : Nat → List Wy) : ∀ (q : Nat) (cur : List Wy), repP sub (q + 1) cur = thenP (repP sub q cur) sub
  | 0, cur => rfl
  | q + 1, cur => by
    show repP sub (q + 1) (thenP cur sub) = thenP (repP sub q (thenP cur sub)) sub
    exact repP_snoc sub q (thenP cur sub)
theorem repP_dd (sub : Nat → List Wy) : ∀ (q : Nat) (cur : List Wy), DD cur → DD (repP sub q cur)
  | 0, _, h => h
  | q + 1, _, _ => repP_dd sub q _ (thenP_dd _ _)
/-- A group is set in a way. -/
theorem way_set (x : Wy) (n i : Nat) (h : n < 10) : segSet (wayC x) (1 + n * 2) [.int .i64 (i : Int), .int .i64 (x.1 : Int)] = wayC (x.1, gSet x.2 n (i, x.1)) := by
  show ((wayC x).set (1 + n * 2) _).set (1 + n * 2 + 1) _ = _
  unfold wayC
  rw [show 1 + n * 2 = (n * 2) + 1 from by omega, show n * 2 + 1 + 1 = (n * 2 + 1) + 1 from rfl]
  rw [List.set_cons_succ, List.set_cons_succ, grC_set, grC_set]
  congr 1
  apply grC_ext
  intro j hj
  unfold spI gSet
  by_cases h1 : j = n * 2 + 1
  · rw [if_pos h1, show j / 2 = n from by omega]
    simp only [if_true]
    rw [if_neg (by omega)]
  · rw [if_neg h1]
    by_cases h2 : j = n * 2
    · rw [if_pos h2, show j / 2 = n from by omega]
      simp only [if_true]
      rw [if_pos (by omega)]
    · rw [if_neg h2]
      simp only [show ¬ j / 2 = n from by omega, if_false]
end Go.Vc
namespace Go.Proofs.Ytngbiaeliphdjaa.V
open Go.Vc Go.Proofs Go.RowKit
set_option linter.unusedVariables false
set_option linter.unusedSimpArgs false
theorem cur_lit {c : Cx} {X : Nat → Prop} {w w' : World} (hX : ∀ x, X x → x < w.heap.size) (hm : c.m < w.heap.size) {x : Wy} (k : Blk w'.heap w.heap.size 142 (wayC x)) : WaysAt c X w' (some ⟨w.heap.size, 0, none⟩) 1 1 [x] := by
  refine ⟨⟨by rw [waysC_length]; rfl, Nat.le_refl _, .inr ⟨_, _, rfl, k, by rw [wayC_length], ?_⟩⟩, fun q hq => ?_⟩
  · rw [waysC_one, List.take_of_length_le (by rw [wayC_length]; decide)]
  · simp only [blkOf, Option.some.injEq] at hq
    subst hq
    exact ⟨fun h => by have := hX _ h; omega, by omega⟩
theorem FInv.raw {c : Cx} {X : Nat → Prop} {w : World} (h : FInv c X w) {k : Nat} {r : Raw} (hr : c.rs[k]? = some r) : RawOk w r (c.P.pieces.getD k pSta) := by
  have h1 := h.pcs.len
  have h2 := h.pcs.len'
  have hk : k < c.P.pieces.length := by
    have := (List.getElem?_eq_some_iff.1 hr).1
    omega
  refine h.pcs.all k _ _ hr ?_
  rw [List.getD_eq_getElem?_getD, List.getElem?_eq_getElem hk]; rfl
theorem FInv.pieceAt {c : Cx} {X : Nat → Prop} {w : World} (h : FInv c X w) {k : Nat} (hk : k < c.P.pieces.length) :
    ∃ bp r, c.pa = some ⟨bp, 0, none⟩ ∧ k < c.pl ∧ c.rs[k]? = some r ∧ ∀ (Y : Nat → Prop) (w' : World), FInv c Y w' → ∀ o, o < 7 → cellH w'.heap bp (0 + k * 7 + o) = r.cells[o]? := by
  have h1 := h.pcs.len
  have h2 := h.pcs.len'
  obtain ⟨b, hb, hc⟩ := h.pcs.row.open (by omega)
  refine ⟨b, c.rs[k]'(by omega), hb, by omega, List.getElem?_eq_getElem (by omega), fun Y w' h' => ?_⟩
  obtain ⟨b', hb', hc'⟩ := h'.pcs.row.open (by omega)
  rw [hb] at hb'
  cases hb'
  exact raw_at hc' h1 (i := k) (by omega)
theorem seqf_ok {c : Cx} (ok : CxOk c) {i : Nat} : ∀ (ks : List Int) (cur : List Wy), (∀ w ∈ cur, WOk c.P.groups c.n i w) → ∀ w ∈ ks.foldl (fun cur d => thenP cur (c.ends d.toNat)) cur, WOk c.P.groups c.n i w
  | [], _, h => h
  | d :: r, cur, h => seqf_ok ok r _ (thenP_ok h fun p hp => ok.wok d.toNat p hp)
theorem seqf_dd {c : Cx} : ∀ (ks : List Int) (cur : List Wy), DD cur → DD (ks.foldl (fun cur d => thenP cur (c.ends d.toNat)) cur)
  | [], _, h => h
  | d :: r, cur, h => seqf_dd r _ (thenP_dd _ _)
theorem wok_le {G n i : Nat} {ws : List Wy} (h : ∀ w ∈ ws, WOk G n i w) : ∀ x ∈ ws, x.1 ≤ n := fun x hx => (h x hx).hi
theorem dd_len {n : Nat} {ws : List Wy} (hd : DD ws) (h : ∀ x ∈ ws, x.1 ≤ n) (hn : n ≤ 200) : ws.length ≤ 1000 := by have := hd.short h; omega
theorem dd_id {ws : List Wy} (h : DD ws) : addA [] ws = ws := by have := addA_DD (l := []) (xs := ws) (by simpa using h); simpa using this
theorem ways_ok {c : Cx} (ok : CxOk c) : ∀ k, k < c.P.pieces.length → WaysC c k := by
  intro k
  induction k using Nat.strongRecOn with
  | _ k ih =>
  intro hk X w i hF hi
  have hpk : c.P.pieces[k]? = some (c.P.pieces.getD k pSta) := by rw [List.getD_eq_getElem?_getD, List.getElem?_eq_getElem hk]; rfl
  have hpo := ok.wf k _ hpk
  have hsm := ok.small (c.P.pieces.getD k pSta) (List.mem_of_getElem? hpk)
  have hkidb : ∀ d ∈ (c.P.pieces.getD k pSta).kids, d.toNat < k ∧ (d.toNat : Int) = d := fun d hd => by have := hpo.kids d hd; omega
  have hsub : ∀ d ∈ (c.P.pieces.getD k pSta).kids, WaysC c d.toNat := fun d hd => ih d.toNat (hkidb d hd).1 (by have := (hkidb d hd).1; omega)
  apply vc114
  unfold V114
  have hX0 : ∀ x, X x → x < w.heap.size := fun x hx => (hF.priv x hx).2.2.2
  have hml := hF.memo.lt
  have hn200 := ok.n200
  have hlen482 := ok.len
  have hnt : c.n = (L c.t).length := rfl
  have hsz := size_L c.t
  refine newC_in fun w6 s6 k6 e6 => ?_
  generalize hb5 : w.heap.size = b5 at *
  refine newC_in fun w8 s8 k8 e8 => ?_
  generalize hb7 : w6.heap.size = b7 at *
  refine ⟨_, k8.cell 0, newC_in fun w11 s11 k11 e11 => ?_⟩
  generalize hb10 : w8.heap.size = b10 at *
  refine stW_in k11 (by show 0 + 3 ≤ 3; decide) fun w12 s12 k12 e12 => ?_
  have k12' : Blk w12.heap b10 159 [.int .i64 k, .int .i64 i, .int .i64 (-2)] := k12
  refine drw_in fun w13 q13 e13 => ?_
  have B13 : Below w.heap.size w w13 := Ext.to (Ext.to (Ext.to (Ext.to (Ext.to (Below.refl _ _) e6 fun _ h => h.elim) e8 fun _ h => h.elim) e11 fun _ h => h.elim) e12 fun i hi => by omega) e13 fun _ h => h.elim
  have kk13 := k12'.keep e13 fun h => h
  have k5 : Blk w13.heap b5 82 [.pointer (some ⟨c.bf, 0, none⟩)] := (((k6.keep e8 fun h => h).keep e11 fun h => h).keep e12 (by omega)).keep e13 fun h => h
  have k7 : Blk w13.heap b7 3 [.int .i64 k] := ((k8.keep e11 fun h => h).keep e12 (by omega)).keep e13 fun h => h
  have F13 := hF.below B13
  obtain ⟨a0, l0, c0, t0, hl1, hl2⟩ := memo_get F13 (Ext.refl _ _) (k : Int) (i : Int) (-2)
  refine ⟨_, _, k5.cell 0, some c.m, F13.fb.cell 5, _, kk13.cell 0, _, kk13.cell 1, _, kk13.cell 2, a0, l0, c0, t0, hl1, fun ht => ?_, fun ht => ?_⟩
  · exact ⟨a0, l0, c0, rfl, (hl2 ht).1 k i rfl rfl rfl, F13, Ext.of_below B13⟩
  clear hl1 hl2
  refine drw_in fun w22 q22 e22 => ?_
  have B22 : Below w13.heap.size w13 w22 := Ext.to (Below.refl _ _) e22 fun _ h => h.elim
  have F22 := F13.below B22
  obtain ⟨bp, r, hpa, hkpl, hrk, hcell⟩ := F22.pieceAt hk
  have e0 : Int.toNat (k : Int) = k := by omega
  have k5b := k5.below B22
  have k7b := k7.below B22
  refine ⟨_, _, k5b.cell 0, _, _, _, F22.fb.cell 3, _, k7b.cell 0, ?_⟩
  dsimp only
  rw [e0]
  refine ⟨bp, 0, ⟨hpa, by omega, by omega⟩, _, hcell X w22 F22 0 (by decide), _, _, _, hcell X w22 F22 1 (by decide), _, hcell X w22 F22 2 (by decide), _, hcell X w22 F22 3 (by decide), _, hcell X w22 F22 4 (by decide), _, hcell X w22 F22 5 (by decide), _, _, _, hcell X w22 F22 6 (by decide), ?_⟩
  refine newC_in fun w37 s37 k37 e37 => ?_
  generalize hb36 : w22.heap.size = b36 at *
  have B37 : Below w22.heap.size w22 w37 := Ext.to (Below.refl _ _) e37 fun _ h => h.elim
  have F37 := F22.below B37
  have k5c := k5b.below B37
  have k7c := k7b.below B37
  refine ⟨⟨hcell X w37 F37 0 (by decide), hcell X w37 F37 1 (by decide), hcell X w37 F37 2 (by decide), hcell X w37 F37 3 (by decide), hcell X w37 F37 4 (by decide), hcell X w37 F37 5 (by decide), hcell X w37 F37 6 (by decide), trivial⟩, k7c.cell 0, F37.fb.cell 3, k5c.cell 0, ?_⟩
  refine stW_in k37 (by show 0 + 7 ≤ 7; decide) fun w38 s38 k38 e38 => ?_
  have k38' : Blk w38.heap b36 111 r.cells := k38
  have B38 : Below w22.heap.size w22 w38 := Ext.to B37 e38 fun i hi => by omega
  have F38 := F22.below B38
  have hz13 := B13.size
  have hz22 := B22.size
  have E38 : Ext (fun x => x = c.m) w w38 := ((Ext.of_below B13).trans (Ext.of_below B22)).trans (Ext.of_below B38)
  have kk38 := (kk13.below B22).below B38
  have k5d := k5b.below B38
  have k7d := k7b.below B38
  refine newC_in fun w40 s40 k40 e40 => ?_
  have S40 := LSt.start F38 E38 k40 e40
  have L40 : Loc c [(b5, 82, [.pointer (some ⟨c.bf, 0, none⟩)]), (b7, 3, [.int .i64 k]), (b10, 159, [.int .i64 k, .int .i64 i, .int .i64 (-2)]), (b36, 111, r.cells)] (fun y => X y ∨ y = w38.heap.size) w40 := by
    have hx : ∀ y, w.heap.size ≤ y → y < w38.heap.size → ¬ (X y ∨ y = w38.heap.size) := fun y h1 h2 h => by
      rcases h with h | h
      · have := hX0 y h; omega
      · omega
    have l1 := k5d.lt
    have l2 := k7d.lt
    have l3 := kk38.lt
    have l4 := k38'.lt
    refine Loc.cons (Loc.cons (Loc.cons (Loc.cons (fun p hp => by cases hp) (k38'.keep e40 fun h => h) (hx _ (by omega) l4) (by omega)) (kk38.keep e40 fun h => h) (hx _ (by omega) l3) (by omega)) (k7d.keep e40 fun h => h) (hx _ (by omega) l2) (by omega)) (k5d.keep e40 fun h => h) (hx _ (by omega) l1) (by omega)
  generalize hb39 : w38.heap.size = b39 at *
  generalize hbs : [(b5, 82, [Value.pointer (some ⟨c.bf, 0, none⟩)]), (b7, 3, [.int .i64 k]), (b10, 159, [.int .i64 k, .int .i64 i, .int .i64 (-2)]), (b36, 111, r.cells)] = bs at L40
  have m5 : (b5, 82, [.pointer (some ⟨c.bf, 0, none⟩)]) ∈ bs := by rw [← hbs]; simp
  have m7 : (b7, 3, [.int .i64 k]) ∈ bs := by rw [← hbs]; simp
  have m10 : (b10, 159, [.int .i64 k, .int .i64 i, .int .i64 (-2)]) ∈ bs := by rw [← hbs]; simp
  have m36 : (b36, 111, r.cells) ∈ bs := by rw [← hbs]; simp
  clear k5d k7d kk38 e40 k40 s40 E38 F38 B38 k38' k38 e38 s38 k5c k7c F37 B37 e37 k37 s37 k5b k7b hcell F22 B22 e22 q22 k5 k7 kk13 B13 F13 e13 q13 k12' k12 e12 s12 k11 e11 s11 k8 e8 s8 k6 e6 s6
  have hrw : ∀ {Y : Nat → Prop} {w' : World}, FInv c Y w' → RawOk w' r (c.P.pieces.getD k pSta) := fun h => h.raw hrk
  have hr40 := hrw S40.fin
  have c36 := L40.get m36
  have c5 := L40.get m5
  refine ⟨_, c36.cell 0, fun w' => ∃ X', LSt c X w b39 X' w' (c.ends k i) ∧ Loc c bs X' w', ?_, ?_⟩
  rotate_left
  -- the end
  · rintro d w267 ⟨X', S', L'⟩
    refine drw_in fun w268 q268 e268 => ?_
    have B268 : Below w267.heap.size w267 w268 := Ext.to (Below.refl _ _) e268 fun _ h => h.elim
    have S'' := S'.below B268
    have L'' := L'.below B268
    obtain ⟨a1, l1, c1, w105, p1, p2, p3, p4⟩ := memo_put S'' (fun x hx => by have := hX0 x hx; omega) (by omega) (k : Int) (i : Int) (-2) fun _ _ _ _ h => good_ways h
    have d5 := L''.get m5
    have d10 := L''.get m10
    exact ⟨_, _, d5.cell 0, some c.m, S''.fin.fb.cell 5, _, d10.cell 0, _, d10.cell 1, _, d10.cell 2, a1, l1, c1, p1, w105, p2, a1, l1, c1, p3, p4⟩
  have hkind := hr40.kind
  have hJ1 : ∀ {X' : Nat → Prop} {w' : World} {ws : List Wy}, LSt c X w b39 X' w' ws → Loc c bs X' w' → ws = c.ends k i → ∃ X', LSt c X w b39 X' w' (c.ends k i) ∧ Loc c bs X' w' := fun h1 h2 h3 => ⟨_, h3 ▸ h1, h2⟩
  -- one way is added
  have hone : ∀ {X' : Nat → Prop} {w' : World} {ws : List Wy} {to : Nat} {to' : Int} {K : World → Prop} {QQ : List PanicEntry → World → Prop}, LSt c X w b39 X' w' ws → Loc c bs X' w' → ws.length ≤ 1000 → to ≤ 200 → to' = to → (∀ X2 w2, LSt c X w b39 X2 w2 (addW ws (to, gNone)) → Loc c bs X2 w2 → K w2) → Cl Try.prog 130 ([]) w' (retG (fun (r75 : Value) (w74 : World) => ∃ (g73 : Nat → Int), r75 = .agg #[.int .i64 (g73 0), .int .i64 (g73 1), .int .i64 (g73 2), .int .i64 (g73 3), .int .i64 (g73 4), .int .i64 (g73 5), .int .i64 (g73 6), .int .i64 (g73 7), .int .i64 (g73 8), .int .i64 (g73 9), .int .i64 (g73 10), .int .i64 (g73 11), .int .i64 (g73 12), .int .i64 (g73 13), .int .i64 (g73 14), .int .i64 (g73 15), .int .i64 (g73 16), .int .i64 (g73 17), .int .i64 (g73 18), .int .i64 (g73 19)] ∧ Cl Try.prog 129 ([.pointer (some ⟨b39, 0, none⟩), .agg #[.int .i64 to', .int .i64 (g73 0), .int .i64 (g73 1), .int .i64 (g73 2), .int .i64 (g73 3), .int .i64 (g73 4), .int .i64 (g73 5), .int .i64 (g73 6), .int .i64 (g73 7), .int .i64 (g73 8), .int .i64 (g73 9), .int .i64 (g73 10), .int .i64 (g73 11), .int .i64 (g73 12), .int .i64 (g73 13), .int .i64 (g73 14), .int .i64 (g73 15), .int .i64 (g73 16), .int .i64 (g73 17), .int .i64 (g73 18), .int .i64 (g73 19)]]) w74 (retG (fun (r77 : Value) (w76 : World) => r77 = .tuple #[] ∧ K  w76) QQ)) QQ) := by
    intro X' w' ws to to' K QQ S' L' hl' hto he hK
    subst he
    refine (none_ok w').ret fun w66 b66 => ⟨spI gNone, rfl, ?_⟩
    refine ((S'.below b66).add (to, gNone) hto hl').use fun e w68 he => ?_
    obtain ⟨rfl, X2, S68, e68, hX2⟩ := he
    exact ⟨rfl, hK X2 w68 S68 ((L'.below b66).grow e68 hX2)⟩
  refine ⟨fun g1 => ?_, fun g1 => ⟨fun g2 => ?_, fun g2 => ⟨fun g3 => ?_, fun g3 => ⟨fun g4 => ?_, fun g4 => ⟨fun g5 => ?_, fun g5 => ⟨fun g6 => ?_, fun g6 => ⟨fun g7 => ?_, fun g7 => ?_⟩⟩⟩⟩⟩⟩⟩
  all_goals try simp only [beq_iff_eq, beq_eq_false_iff_ne, ne_eq] at g1
  all_goals try simp only [beq_iff_eq, beq_eq_false_iff_ne, ne_eq] at g2
  all_goals try simp only [beq_iff_eq, beq_eq_false_iff_ne, ne_eq] at g3
  all_goals try simp only [beq_iff_eq, beq_eq_false_iff_ne, ne_eq] at g4
  all_goals try simp only [beq_iff_eq, beq_eq_false_iff_ne, ne_eq] at g5
  all_goals try simp only [beq_iff_eq, beq_eq_false_iff_ne, ne_eq] at g6
  all_goals try simp only [beq_iff_eq, beq_eq_false_iff_ne, ne_eq] at g7
  · -- a set
    have hk1 : (c.P.pieces.getD k pSta).kind = 1 := by omega
    have he := ends_set (i := i) hk1
    refine ⟨_, _, c5.cell 0, c.t, S40.fin.fb.cell 4, fun g => ?_, fun g => ?_⟩
    · have g' : i < c.t.size := by have := of_decide_eq_true g; omega
      have hat := at_lt (L c.t) i
      refine ⟨_, _, c5.cell 0, c.t, S40.fin.fb.cell 4, ⟨by omega, by omega⟩, _, _, _, c36.cell 1, ?_⟩
      rw [byteI c.t (j := i) rfl, w64 (n := (at_ (L c.t) i : Int)) (by omega)]
      have hsl : r.sl = (c.P.pieces.getD k pSta).set.length := by have := hr40.set.1; rw [rngC_length] at this; omega
      have hs256 := hsm.set
      refine ⟨fun m n w' => ∃ (A B : List (Int × Int)) (X' : Nat → Prop), (c.P.pieces.getD k pSta).set = A ++ B ∧ n = A.length ∧ m = B.length ∧ LSt c X w b39 X' w' (if inSet A (at_ (L c.t) i) = true then [(i + 1, gNone)] else []) ∧ Loc c bs X' w', ⟨_, [], _, _, rfl, rfl, rfl, S40, L40⟩, ?_⟩
      rintro m d n w53 ⟨A, B, X1, hAB, rfl, rfl, S53, L53⟩
      have hABl : (c.P.pieces.getD k pSta).set.length = A.length + B.length := by rw [hAB]; simp
      have e1 : Int.toNat (A.length : Int) = A.length := by omega
      have e2 : IntKind.wrap .i64 ((A.length : Int) + 1) = ((A.length + 1 : Nat) : Int) := by rw [w64 (by omega)]; omega
      rw [e1, e2]
      refine ⟨fun g8 => ?_, fun g8 => ?_⟩
      · have g8' : A.length < r.sl := by have := of_decide_eq_true g8; omega
        obtain ⟨x, B', rfl⟩ : ∃ x B', B = x :: B' := by
          cases B with
          | nil => simp only [List.length_nil] at hABl; omega
          | cons x B' => exact ⟨x, B', rfl⟩
        have hset := (hrw S53.fin).set
        obtain ⟨bs', hbs', hsc⟩ := hset.open (by omega)
        have hrg := rngC_at (c.P.pieces.getD k pSta).set A.length (by omega)
        have hx : (c.P.pieces.getD k pSta).set[A.length]'(by omega) = x := by rw [List.getElem_of_eq hAB]; simp
        rw [hx] at hrg
        refine ⟨bs', 0, ⟨hbs', by omega, by omega⟩, x.1, by rw [Nat.zero_add, hsc _ (by omega)]; exact hrg.1, x.2, by rw [Nat.zero_add, hsc _ (by omega)]; exact hrg.2, ?_⟩
        refine newC_in fun w61 s61 k61 e61 => ?_
        refine stW_in k61 (by show 0 + 2 ≤ 2; decide) fun w62 s62 k62 e62 => ?_
        have B62 : Below w53.heap.size w53 w62 := Ext.to (Ext.to (Below.refl _ _) e61 fun _ h => h.elim) e62 fun i hi => by omega
        have S62 := S53.below B62
        have L62 := L53.below B62
        have hin : inSet (A ++ [x]) (at_ (L c.t) i) = (inSet A (at_ (L c.t) i) || (decide (x.1 ≤ (at_ (L c.t) i : Int)) && decide ((at_ (L c.t) i : Int) ≤ x.2))) := by simp [inSet]
        have hlen1 : (if inSet A (at_ (L c.t) i) = true then [((i + 1 : Nat), gNone)] else [] : List Wy).length ≤ 1000 := by split <;> simp
        have hno : (decide (x.1 ≤ (at_ (L c.t) i : Int)) && decide ((at_ (L c.t) i : Int) ≤ x.2)) = false → ∃ m, m < B'.length + 1 ∧ ∃ (A' B'' : List (Int × Int)) (X' : Nat → Prop), (c.P.pieces.getD k pSta).set = A' ++ B'' ∧ ((A.length + 1 : Nat) : Int) = A'.length ∧ m = B''.length ∧ LSt c X w b39 X' w62 (if inSet A' (at_ (L c.t) i) = true then [(i + 1, gNone)] else []) ∧ Loc c bs X' w62 := fun h => by
          refine ⟨B'.length, by omega, A ++ [x], B', X1, by rw [hAB]; simp, by simp, rfl, ?_, L62⟩
          rw [hin, h, Bool.or_false]; exact S62
        refine ⟨_, k62.cell 0, fun g9 => ⟨_, k62.cell 1, fun g10 => ?_, fun g10 => hno (by rw [g10, Bool.and_false])⟩, fun g9 => hno (by rw [g9, Bool.false_and])⟩
        refine hone S62 L62 hlen1 (to := i + 1) (by omega) (by rw [w64 (by omega)]; omega) fun X2 w2 S2 L2 => ⟨B'.length, by simp, A ++ [x], B', X2, by rw [hAB]; simp, by simp, rfl, ?_, L2⟩
        rw [hin, g9, g10, Bool.and_true, Bool.or_true, if_pos rfl]
        have : addW (if inSet A (at_ (L c.t) i) = true then [((i + 1 : Nat), gNone)] else [] : List Wy) (i + 1, gNone) = [(i + 1, gNone)] := by
          split
          · simp [addW, has]
          · rfl
        rw [this] at S2
        exact S2
      · have g8' : ¬ A.length < r.sl := by have := of_decide_eq_false g8; omega
        have : B = [] := by
          cases B with
          | nil => rfl
          | cons x r => simp only [List.length_cons] at hABl; omega
        subst this
        rw [List.append_nil] at hAB
        refine hJ1 S53 L53 ?_
        rw [he, hAB]
        by_cases hc : inSet A (at_ (L c.t) i) = true
        · rw [if_pos hc, if_pos ⟨by omega, hc⟩]
        · rw [if_neg hc, if_neg fun h => hc h.2]
    · have g' : ¬ i < c.t.size := by have := of_decide_eq_false g; omega
      exact hJ1 S40 L40 (by rw [he, if_neg (by omega)])
  · -- the text's start
    have hk6 : (c.P.pieces.getD k pSta).kind = 6 := by omega
    have he := ends_start (i := i) hk6
    refine ⟨fun g => ?_, fun g => ?_⟩
    · have g' : i = 0 := by have : (i : Int) = 0 := by simpa using g
                            omega
      exact hone S40 L40 (by simp) (to := i) (by omega) rfl fun X2 w2 S2 L2 => hJ1 S2 L2 (by rw [he, if_pos g']; rfl)
    · have g' : i ≠ 0 := by have : ¬ (i : Int) = 0 := by simpa using g
                            omega
      exact hJ1 S40 L40 (by rw [he, if_neg g'])
  · -- the text's end
    have hk7 : (c.P.pieces.getD k pSta).kind = 7 := by omega
    have he := ends_end (i := i) hk7
    refine ⟨_, _, c5.cell 0, c.t, S40.fin.fb.cell 4, fun g => ?_, fun g => ?_⟩
    · have g' : i = c.t.size := by have : (i : Int) = c.t.size := by simpa using g
                                   omega
      exact hone S40 L40 (by simp) (to := i) (by omega) rfl fun X2 w2 S2 L2 => hJ1 S2 L2 (by rw [he, if_pos (by omega)]; rfl)
    · have g' : i ≠ c.t.size := by have : ¬ (i : Int) = c.t.size := by simpa using g
                                   omega
      exact hJ1 S40 L40 (by rw [he, if_neg (by omega)])
  · -- a sequence
    have hk2 : (c.P.pieces.getD k pSta).kind = 2 := by omega
    have he := ends_seq (i := i) hk2 fun d hd => (hkidb d hd).1
    have hkl121 := hsm.kids
    have hkl : r.kl = (c.P.pieces.getD k pSta).kids.length := by have := hr40.kids.1; rw [intC_length] at this; omega
    refine (none_ok w40).ret fun w87 b87 => ⟨spI gNone, rfl, newC_in fun w90 s90 k90 e90 => ?_⟩
    have k90' : Blk w90.heap w87.heap.size 142 (wayC (i, gNone)) := k90
    have S87 := S40.below b87
    have B90 : Below w87.heap.size w87 w90 := Ext.to (Below.refl _ _) e90 fun _ h => h.elim
    have S90 := S87.below B90
    have L90 := (L40.below b87).below B90
    have cu := cur_lit (c := c) (fun x hx => (S87.fin.priv x hx).2.2.2) S87.fin.memo.lt k90'
    generalize w87.heap.size = b89 at *
    refine ⟨r.ka, r.kl, r.kc, (L90.get m36).cell 6, fun m a l cp n w' => ∃ (A B : List Int) (X' : Nat → Prop), (c.P.pieces.getD k pSta).kids = A ++ B ∧ n = A.length ∧ m = B.length ∧ LSt c X w b39 X' w' [] ∧ Loc c bs X' w' ∧ WaysAt c X' w' a l cp (A.foldl (fun cur d => thenP cur (c.ends d.toNat)) [(i, gNone)]), ⟨_, [], _, _, rfl, rfl, rfl, S90, L90, cu⟩, ?_⟩
    clear cu L90 S90 B90 S87 k90' e90 k90 s90
    rintro m d a l cp n w95 ⟨A, B, X1, hAB, rfl, rfl, S95, L95, c95⟩
    have hABl : (c.P.pieces.getD k pSta).kids.length = A.length + B.length := by rw [hAB]; simp
    have e1 : Int.toNat (A.length : Int) = A.length := by omega
    have e2 : IntKind.wrap .i64 ((A.length : Int) + 1) = ((A.length + 1 : Nat) : Int) := by rw [w64 (by omega)]; omega
    rw [e1, e2]
    have hwk : ∀ w ∈ ([(i, gNone)] : List Wy), WOk c.P.groups c.n i w := fun w hw => by simp only [List.mem_singleton] at hw; subst hw; exact .one (Nat.le_refl _) hi
    have hcok := wok_le (seqf_ok ok (i := i) A [(i, gNone)] hwk)
    have hclen := dd_len (seqf_dd (c := c) A [(i, gNone)] (.one _)) hcok hn200
    refine ⟨fun g => ?_, fun g => ?_⟩
    · have g' : A.length < r.kl := by have := of_decide_eq_true g; omega
      obtain ⟨x, B', rfl⟩ : ∃ x B', B = x :: B' := by
        cases B with
        | nil => simp only [List.length_nil] at hABl; omega
        | cons x B' => exact ⟨x, B', rfl⟩
      have hxm : x ∈ (c.P.pieces.getD k pSta).kids := by rw [hAB]; simp
      have hkv := (hrw S95.fin).kids
      obtain ⟨bk, hbk, hkc⟩ := hkv.open (by omega)
      have hia := intC_at (c.P.pieces.getD k pSta).kids A.length (by omega)
      have hx : (c.P.pieces.getD k pSta).kids[A.length]'(by omega) = x := by rw [List.getElem_of_eq hAB]; simp
      rw [hx] at hia
      refine ⟨bk, 0, ⟨hbk, by omega, by omega⟩, x, by rw [Nat.zero_add, Nat.mul_one, hkc _ (by omega)]; exact hia, ?_⟩
      refine newC_in fun w103 s103 k103 e103 => ?_
      generalize hb102 : w95.heap.size = b102 at *
      refine stW_in k103 (by show 0 + 1 ≤ 1; decide) fun w104 s104 k104 e104 => ?_
      have k104' : Blk w104.heap b102 3 [.int .i64 x] := k104
      have B104 : Below w95.heap.size w95 w104 := Ext.to (Ext.to (Below.refl _ _) e103 fun _ h => h.elim) e104 fun i hi => by omega
      have S104 := S95.below B104
      have L104 := L95.below B104
      have c104 := c95.below B104
      have hm102 : b102 ≠ c.m := by have := S95.fin.memo.lt; omega
      refine ⟨_, _, (L104.get m5).cell 0, ?_⟩
      refine (then_ok (next := c.ends x.toNat) S104.fin c104 hclen hcok hn200 (fun p hp => wok_le (ok.wok x.toNat p hp)) (fun p hp => Nat.le_trans (ok.short x.toNat p hp) (by decide)) fun X' w' p hp hF' E' => ?_).use fun e w108 he => ?_
      · exact clos132 (hkidb x hxm).2.symm (hsub x hxm) hF' hp ((L104.call E').get m5 |>.cell 0) ((k104'.keep E' hm102).cell 0)
      · obtain ⟨a7, l7, c7, rfl, r7, f7, e7⟩ := he
        refine ⟨a7, l7, c7, rfl, B'.length, by simp, A ++ [x], B', X1, by rw [hAB]; simp, by simp, rfl, S104.call f7 e7, L104.call e7, ?_⟩
        rw [List.foldl_append]; exact r7
    · have g' : ¬ A.length < r.kl := by have := of_decide_eq_false g; omega
      have : B = [] := by
        cases B with
        | nil => rfl
        | cons x r => simp only [List.length_cons] at hABl; omega
      subst this
      rw [List.append_nil] at hAB
      rw [← hAB, ← he] at c95 hcok hclen
      refine addall S95 c95 hclen L95 (us := []) rfl (fun z hz => Nat.le_trans (hcok z (by simpa using hz)) hn200) fun X2 w2 S2 L2 => hJ1 S2 L2 ?_
      exact dd_id (endsP_dd _ _ _ _)
  · -- alternatives
    have hk3 : (c.P.pieces.getD k pSta).kind = 3 := by omega
    have he := ends_alt (i := i) hk3 fun d hd => (hkidb d hd).1
    have hkl121 := hsm.kids
    have hkl : r.kl = (c.P.pieces.getD k pSta).kids.length := by have := hr40.kids.1; rw [intC_length] at this; omega
    refine ⟨r.ka, r.kl, r.kc, c36.cell 6, fun m n w' => ∃ (A B : List Int) (X' : Nat → Prop), (c.P.pieces.getD k pSta).kids = A ++ B ∧ n = A.length ∧ m = B.length ∧ LSt c X w b39 X' w' (addA [] (A.flatMap fun d => c.ends d.toNat i)) ∧ Loc c bs X' w', ⟨_, [], _, _, rfl, rfl, rfl, S40, L40⟩, ?_⟩
    rintro m d n w133 ⟨A, B, X1, hAB, rfl, rfl, S133, L133⟩
    have hABl : (c.P.pieces.getD k pSta).kids.length = A.length + B.length := by rw [hAB]; simp
    have e1 : Int.toNat (A.length : Int) = A.length := by omega
    have e2 : IntKind.wrap .i64 ((A.length : Int) + 1) = ((A.length + 1 : Nat) : Int) := by rw [w64 (by omega)]; omega
    rw [e1, e2]
    refine ⟨fun g => ?_, fun g => ?_⟩
    · have g' : A.length < r.kl := by have := of_decide_eq_true g; omega
      obtain ⟨x, B', rfl⟩ : ∃ x B', B = x :: B' := by
        cases B with
        | nil => simp only [List.length_nil] at hABl; omega
        | cons x B' => exact ⟨x, B', rfl⟩
      have hxm : x ∈ (c.P.pieces.getD k pSta).kids := by rw [hAB]; simp
      have hkv := (hrw S133.fin).kids
      obtain ⟨bk, hbk, hkc⟩ := hkv.open (by omega)
      have hia := intC_at (c.P.pieces.getD k pSta).kids A.length (by omega)
      have hx : (c.P.pieces.getD k pSta).kids[A.length]'(by omega) = x := by rw [List.getElem_of_eq hAB]; simp
      rw [hx] at hia
      refine ⟨bk, 0, ⟨hbk, by omega, by omega⟩, x, by rw [Nat.zero_add, Nat.mul_one, hkc _ (by omega)]; exact hia, ?_⟩
      refine ⟨_, _, (L133.get m5).cell 0, ?_⟩
      have hcall := hsub x hxm X1 w133 i S133.fin hi
      rw [(hkidb x hxm).2] at hcall
      refine hcall.use fun e w142 he => ?_
      obtain ⟨a1, l1, c1, rfl, r1, f1, e1⟩ := he
      refine ⟨a1, l1, c1, rfl, ?_⟩
      refine addall (S133.call f1 e1) r1 (Nat.le_trans (ok.short x.toNat i hi) (by decide)) (L133.call e1) rfl (fun z hz => ?_) fun X2 w2 S2 L2 => ⟨B'.length, by simp, A ++ [x], B', X2, by rw [hAB]; simp, by simp, rfl, ?_, L2⟩
      · refine Nat.le_trans ?_ hn200
        rcases List.mem_append.1 hz with hz | hz
        · simp only [List.mem_flatMap] at hz
          obtain ⟨y, _, hz⟩ := hz
          exact (ok.wok y.toNat i hi z hz).hi
        · exact (ok.wok x.toNat i hi z hz).hi
      · rw [List.flatMap_append, addA_append, List.flatMap_cons, List.flatMap_nil, List.append_nil]; exact S2
    · have g' : ¬ A.length < r.kl := by have := of_decide_eq_false g; omega
      have : B = [] := by
        cases B with
        | nil => rfl
        | cons x r => simp only [List.length_cons] at hABl; omega
      subst this
      rw [List.append_nil] at hAB
      exact hJ1 S133 L133 (by rw [he, hAB])
  · -- a group
    have hk5 : (c.P.pieces.getD k pSta).kind = 5 := by omega
    obtain ⟨kid, hkid⟩ := hpo.one (.inr hk5)
    have hxm : kid ∈ (c.P.pieces.getD k pSta).kids := by rw [hkid]; simp
    have he := ends_group (i := i) hk5 hkid (hkidb kid hxm).1
    have hnum := hpo.num hk5
    have hg9 := ok.g9
    have hkl : r.kl = 1 := by have := hr40.kids.1; rw [intC_length, hkid] at this; simp at this; omega
    refine drw_in fun w163 q163 e163 => ?_
    have B163 : Below w40.heap.size w40 w163 := Ext.to (Below.refl _ _) e163 fun _ h => h.elim
    have S163 := S40.below B163
    have L163 := L40.below B163
    have hkv := (hrw S163.fin).kids
    rw [hkid] at hkv
    obtain ⟨bk, hbk, hkc⟩ := hkv.open (by omega)
    refine ⟨_, _, (L163.get m5).cell 0, _, _, _, (L163.get m36).cell 6, bk, 0, ⟨hbk, by omega, by omega⟩, kid, by rw [hkc 0 (by omega)]; rfl, ?_⟩
    have hcall := hsub kid hxm _ w163 i S163.fin hi
    rw [(hkidb kid hxm).2] at hcall
    refine hcall.use fun e w171 he' => ?_
    obtain ⟨a1, l1, c1, rfl, r1, f1, e1⟩ := he'
    refine ⟨a1, l1, c1, rfl, ?_⟩
    have hl1 := r1.len
    have hsh := ok.short kid.toNat i hi
    have hnn : ((c.P.pieces.getD k pSta).num.toNat : Int) = (c.P.pieces.getD k pSta).num := by omega
    refine ⟨fun m n w' => ∃ (A B : List Wy) (X' : Nat → Prop), c.ends kid.toNat i = A ++ B ∧ n = A.length ∧ m = B.length ∧ LSt c X w b39 X' w' (addA [] (A.map fun w => (w.1, gSet w.2 (c.P.pieces.getD k pSta).num.toNat (i, w.1)))) ∧ Loc c bs X' w' ∧ WaysAt c X' w' a1 l1 c1 (c.ends kid.toNat i), ⟨_, [], _, _, rfl, rfl, rfl, S163.call f1 e1, L163.call e1, r1⟩, ?_⟩
    clear r1 f1 e1 hcall hkc hbk hkv L163 S163 B163 e163 q163
    rintro m d n w176 ⟨A, B, X1, hAB, rfl, rfl, S176, L176, r176⟩
    have hABl : (c.ends kid.toNat i).length = A.length + B.length := by rw [hAB]; simp
    have e1 : Int.toNat (A.length : Int) = A.length := by omega
    have e2 : IntKind.wrap .i64 ((A.length : Int) + 1) = ((A.length + 1 : Nat) : Int) := by rw [w64 (by omega)]; omega
    rw [e1, e2]
    refine ⟨fun g => ?_, fun g => ?_⟩
    · have g' : A.length < l1 := by have := of_decide_eq_true g; omega
      obtain ⟨x, B', rfl⟩ : ∃ x B', B = x :: B' := by
        cases B with
        | nil => simp only [List.length_nil] at hABl; omega
        | cons x B' => exact ⟨x, B', rfl⟩
      have hxb := ok.wok kid.toNat i hi x (by rw [hAB]; simp)
      have hxhi := hxb.hi
      have r176' := r176
      rw [hAB] at r176'
      obtain ⟨ba, hba, _, hx1, hx2⟩ := r176'.elem
      refine ⟨ba, 0, ⟨hba, by omega, by omega⟩, _, hx1, _, hx2, ?_⟩
      refine newC_in fun w184 s184 k184 e184 => ?_
      generalize hb183 : w176.heap.size = b183 at *
      refine copy_way k184 rfl x fun w185 s185 k185 e185 => ?_
      have B185 : Below w176.heap.size w176 w185 := Ext.to (Ext.to (Below.refl _ _) e184 fun _ h => h.elim) e185 fun i hi => by omega
      have L185 := L176.below B185
      have hrn : r.num = (c.P.pieces.getD k pSta).num := hr40.num
      refine ⟨_, (L185.get m36).cell 5, _, k185.way.1, ⟨by omega, by omega⟩, ?_⟩
      rw [hrn, ← hnn, Int.toNat_natCast]
      refine stW_in k185 (by rw [wayC_length]; show 1 + (c.P.pieces.getD k pSta).num.toNat * 2 + 2 ≤ 21; omega) fun w188 s188 k188 e188 => ?_
      rw [way_set x _ i (by omega)] at k188
      have B188 : Below w176.heap.size w176 w188 := Ext.to B185 e188 fun i hi => by omega
      refine ⟨_, k188.way.1, _, k188.way.2, ?_⟩
      have hz188 := B188.size
      refine ((S176.below B188).add (x.1, gSet x.2 (c.P.pieces.getD k pSta).num.toNat (i, x.1)) (by show x.1 ≤ 200; omega) ?_).use fun e w191 he' => ?_
      · refine Nat.le_trans (addA_short (n := 200) fun z hz => ?_) (by decide)
        obtain ⟨y, hy, rfl⟩ := List.mem_map.1 hz
        exact Nat.le_trans (ok.wok kid.toNat i hi y (by rw [hAB]; exact List.mem_append_left _ hy)).hi hn200
      obtain ⟨rfl, X2, S191, e191, hX2⟩ := he'
      refine ⟨rfl, B'.length, by simp, A ++ [x], B', X2, by rw [hAB]; simp, by simp, rfl, ?_, (L176.below B188).grow e191 hX2, (r176.below B188).grow e191 (fun _ h => .inl h) hX2⟩
      rw [List.map_append, addA_append]; exact S191
    · have g' : ¬ A.length < l1 := by have := of_decide_eq_false g; omega
      have : B = [] := by
        cases B with
        | nil => rfl
        | cons x r => simp only [List.length_cons] at hABl; omega
      subst this
      rw [List.append_nil] at hAB
      exact hJ1 S176 L176 (by rw [he, hAB])
  · -- a repetition
    have hk4 : (c.P.pieces.getD k pSta).kind = 4 := by omega
    obtain ⟨kid, hkid⟩ := hpo.one (.inl hk4)
    have hxm : kid ∈ (c.P.pieces.getD k pSta).kids := by rw [hkid]; simp
    have he := ends_rep (i := i) hk4 hkid (hkidb kid hxm).1
    have hrep := hpo.rep hk4
    have hmore := fmore_ok ok hk hk4 fun k' hk' => ih k' hk' (by omega)
    have hkl : r.kl = 1 := by have := hr40.kids.1; rw [intC_length, hkid] at this; simp at this; omega
    have hmin : r.min = (c.P.pieces.getD k pSta).min := hr40.min
    have hmax : r.max = (c.P.pieces.getD k pSta).max := hr40.max
    generalize hmn : (c.P.pieces.getD k pSta).min = mn at *
    generalize hmx : (c.P.pieces.getD k pSta).max = mx at *
    have hleft : leftP (c.P.pieces.getD k pSta) = if mx < 0 then none else some (mx - mn).toNat := by unfold leftP; rw [hmx, hmn]
    have hl50 : ∀ q, leftP (c.P.pieces.getD k pSta) = some q → q ≤ 50 := by
      intro q hq
      rw [hleft] at hq
      split at hq
      · cases hq
      · cases hq; omega
    have hwk : ∀ w ∈ ([(i, gNone)] : List Wy), WOk c.P.groups c.n i w := fun w hw => by simp only [List.mem_singleton] at hw; subst hw; exact .one (Nat.le_refl _) hi
    have hrok : ∀ q, ∀ x ∈ repP (c.ends kid.toNat) q [(i, gNone)], x.1 ≤ c.n := fun q => wok_le (repP_ok (fun p hp => ok.wok kid.toNat p hp) q hwk)
    have hrlen : ∀ q, (repP (c.ends kid.toNat) q [(i, gNone)]).length ≤ 1000 := fun q => dd_len (repP_dd _ q _ (.one _)) (hrok q) hn200
    -- the last part
    have hlast : ∀ {w' : World} {X' : Nat → Prop} {b213 : Nat} {a : Option Addr} {l cp : Nat} {K : World → Prop} {QQ : List PanicEntry → World → Prop}, LSt c X w b39 X' w' [] → Loc c bs X' w' → b213 ≠ c.m → Blk w'.heap b213 3 [.int .i64 (leftI (leftP (c.P.pieces.getD k pSta)))] → WaysAt c X' w' a l cp (repP (c.ends kid.toNat) mn.toNat [(i, gNone)]) → (∀ X2 w2, LSt c X w b39 X2 w2 (c.ends k i) → Loc c bs X2 w2 → K w2) → ∃ (b220 : Nat), ∃ (o221 : Nat), cellH w'.heap b5 0 = some (.pointer (some ⟨b220, o221, none⟩)) ∧ Cl Try.prog 131 ([.pointer (some ⟨b220, o221, none⟩), .slice a l cp, .func (.func 134) #[] #[.pointer (some ⟨b5, 0, none⟩), .pointer (some ⟨b7, 0, none⟩), .pointer (some ⟨b213, 0, none⟩)]]) w' (retG (fun (r224 : Value) (w223 : World) => ∃ (a222 : Option Addr), ∃ (l222 : Nat), ∃ (c222 : Nat), r224 = .slice a222 l222 c222 ∧ ∃ (I225 : Nat → Int → World → Prop), (∃ (k227 : Nat), I225 k227 0 w223) ∧ ∀ (k226 : Nat) (d229 : Nat → Value) (n230 : Int) (w228 : World), I225 k226 n230 w228 → (((decide ((n230 : Int) < ((l222 : Nat) : Int))) = true → ∃ (b231 : Nat) (o232 : Nat), ((a222 : Option Addr) = some ⟨b231, o232, none⟩ ∧ 0 ≤ (n230 : Int) ∧ (n230 : Int) < ((l222 : Nat) : Int)) ∧ ∃ (n233 : Int), cellH w228.heap b231 (o232 + (Int.toNat n230) * 21) = some (.int .i64 n233) ∧ ∃ (g234 : Nat → Int), intsAt w228.heap b231 (o232 + (Int.toNat n230) * 21 + 1) 20 g234 ∧ newC [.int .i64 0, .int .i64 0, .int .i64 0, .int .i64 0, .int .i64 0, .int .i64 0, .int .i64 0, .int .i64 0, .int .i64 0, .int .i64 0, .int .i64 0, .int .i64 0, .int .i64 0, .int .i64 0, .int .i64 0, .int .i64 0, .int .i64 0, .int .i64 0, .int .i64 0, .int .i64 0, .int .i64 0] 142 (fun (b235 : Nat) (w236 : World) => stW b235 0 [.int .i64 n233, .int .i64 (g234 0), .int .i64 (g234 1), .int .i64 (g234 2), .int .i64 (g234 3), .int .i64 (g234 4), .int .i64 (g234 5), .int .i64 (g234 6), .int .i64 (g234 7), .int .i64 (g234 8), .int .i64 (g234 9), .int .i64 (g234 10), .int .i64 (g234 11), .int .i64 (g234 12), .int .i64 (g234 13), .int .i64 (g234 14), .int .i64 (g234 15), .int .i64 (g234 16), .int .i64 (g234 17), .int .i64 (g234 18), .int .i64 (g234 19)] (fun (w237 : World) => ∃ (n238 : Int), cellH w237.heap b235 0 = some (.int .i64 n238) ∧ ∃ (g239 : Nat → Int), intsAt w237.heap b235 1 20 g239 ∧ Cl Try.prog 129 ([.pointer (some ⟨b39, 0, none⟩), .agg #[.int .i64 n238, .int .i64 (g239 0), .int .i64 (g239 1), .int .i64 (g239 2), .int .i64 (g239 3), .int .i64 (g239 4), .int .i64 (g239 5), .int .i64 (g239 6), .int .i64 (g239 7), .int .i64 (g239 8), .int .i64 (g239 9), .int .i64 (g239 10), .int .i64 (g239 11), .int .i64 (g239 12), .int .i64 (g239 13), .int .i64 (g239 14), .int .i64 (g239 15), .int .i64 (g239 16), .int .i64 (g239 17), .int .i64 (g239 18), .int .i64 (g239 19)]]) w237 (retG (fun (r241 : Value) (w240 : World) => r241 = .tuple #[] ∧ (∃ (m242 : Nat), m242 < k226 ∧ I225 m242 (IntKind.wrap .i64 (n230 + 1)) w240)) QQ)) w236) w228) ∧ ((decide ((n230 : Int) < ((l222 : Nat) : Int))) = false → K  w228))) QQ) := by
      intro w' X' b213 a l cp K QQ S' L' hm213 k213 r' hK
      refine ⟨_, _, (L'.get m5).cell 0, ?_⟩
      refine (then_ok (next := c.more k (leftP (c.P.pieces.getD k pSta))) S'.fin r' (hrlen _) (hrok _) hn200 (fun p hp => wok_le (ok.mok k p _ hp)) (fun p hp => Nat.le_trans (ok.mshort k p _ hp) (by decide)) fun X'' w'' p hp hF' E' => ?_).use fun e w2 he' => ?_
      · exact clos134 hmore hF' hp hl50 ((L'.call E').get m5 |>.cell 0) ((L'.call E').get m7 |>.cell 0) ((k213.keep E' hm213).cell 0)
      · obtain ⟨a7, l7, c7, rfl, r7, f7, e7⟩ := he'
        refine ⟨a7, l7, c7, rfl, ?_⟩
        rw [← he] at r7
        have hek : ∀ z ∈ c.ends k i, z.1 ≤ c.n := wok_le (ok.wok k i hi)
        refine addall (S'.call f7 e7) r7 (Nat.le_trans (ok.short k i hi) (by decide)) (L'.call e7) (us := []) rfl (fun z hz => Nat.le_trans (hek z (by simpa using hz)) hn200) fun X2 w3 S2 L2 => hK X2 w3 ?_ L2
        have hid : addA [] (c.ends k i) = c.ends k i := dd_id (endsP_dd _ _ _ _)
        rw [hid] at S2
        exact S2
    refine (none_ok w40).ret fun w195 b195 => ⟨spI gNone, rfl, newC_in fun w198 s198 k198 e198 => ?_⟩
    have k198' : Blk w198.heap w195.heap.size 142 (wayC (i, gNone)) := k198
    have S195 := S40.below b195
    have B198 : Below w195.heap.size w195 w198 := Ext.to (Below.refl _ _) e198 fun _ h => h.elim
    have S198 := S195.below B198
    have L198 := (L40.below b195).below B198
    have cu := cur_lit (c := c) (fun x hx => (S195.fin.priv x hx).2.2.2) S195.fin.memo.lt k198'
    generalize w195.heap.size = b197 at *
    refine ⟨r.min, (L198.get m36).cell 2, fun m a l cp n w' => ∃ (q : Nat) (X' : Nat → Prop), n = q ∧ q ≤ mn.toNat ∧ m = mn.toNat - q ∧ LSt c X w b39 X' w' [] ∧ Loc c bs X' w' ∧ WaysAt c X' w' a l cp (repP (c.ends kid.toNat) q [(i, gNone)]), ⟨_, 0, _, rfl, by omega, rfl, S198, L198, cu⟩, ?_⟩
    clear cu L198 S198 B198 S195 k198' e198 k198 s198
    rintro m d a l cp n w203 ⟨q, X1, rfl, hq, rfl, S203, L203, c203⟩
    rw [hmin]
    refine ⟨fun g => ?_, fun g => ?_⟩
    · have g' : (q : Int) < mn := of_decide_eq_true g
      have e2 : IntKind.wrap .i64 ((q : Int) + 1) = ((q + 1 : Nat) : Int) := by rw [w64 (by omega)]; omega
      rw [e2]
      refine ⟨_, _, (L203.get m5).cell 0, ?_⟩
      refine (then_ok (next := c.ends kid.toNat) S203.fin c203 (hrlen q) (hrok q) hn200 (fun p hp => wok_le (ok.wok kid.toNat p hp)) (fun p hp => Nat.le_trans (ok.short kid.toNat p hp) (by decide)) fun X' w' p hp hF' E' => ?_).use fun e w2 he' => ?_
      · have hkv := (hrw hF').kids
        rw [hkid] at hkv
        obtain ⟨bk, hbk, hkc⟩ := hkv.open (by omega)
        exact clos133 (hkidb kid hxm).2.symm (hsub kid hxm) hF' hp ((L203.call E').get m5 |>.cell 0) ((L203.call E').get m36 |>.cell 6) hbk hkl (by rw [hkc 0 (by omega)]; rfl)
      · obtain ⟨a7, l7, c7, rfl, r7, f7, e7⟩ := he'
        refine ⟨a7, l7, c7, rfl, mn.toNat - (q + 1), by omega, q + 1, X1, rfl, by omega, rfl, S203.call f7 e7, L203.call e7, ?_⟩
        rw [repP_snoc]; exact r7
    · have g' : ¬ (q : Int) < mn := of_decide_eq_false g
      obtain rfl : q = mn.toNat := by omega
      refine newC_in fun w214 s214 k214 e214 => ?_
      generalize hb213 : w203.heap.size = b213 at *
      refine stW_in k214 (by show 0 + 1 ≤ 1; decide) fun w215 s215 k215 e215 => ?_
      have k215' : Blk w215.heap b213 3 [.int .i64 (-1)] := k215
      have B215 : Below w203.heap.size w203 w215 := Ext.to (Ext.to (Below.refl _ _) e214 fun _ h => h.elim) e215 fun i hi => by omega
      have hm213 : b213 ≠ c.m := by have := S203.fin.memo.lt; omega
      refine ⟨r.max, ((L203.below B215).get m36).cell 3, ?_⟩
      rw [hmax]
      refine ⟨fun g2 => ?_, fun g2 => ?_⟩
      · have g2' := of_decide_eq_true g2
        refine ⟨r.max, ((L203.below B215).get m36).cell 3, r.min, ((L203.below B215).get m36).cell 2, ?_⟩
        dsimp only
        rw [hmax, hmin, w64 (n := mx - mn) (by omega)]
        refine stW_in k215' (by show 0 + 1 ≤ 1; decide) fun w219 s219 k219 e219 => ?_
        have B219 : Below w203.heap.size w203 w219 := Ext.to B215 e219 fun i hi => by omega
        refine hlast (S203.below B219) (L203.below B219) hm213 ?_ (c203.below B219) fun X2 w2 S2 L2 => ⟨X2, S2, L2⟩
        rw [hleft, if_neg (by omega)]
        show Blk w219.heap b213 3 [.int .i64 (((mx - mn).toNat : Nat) : Int)]
        rw [show (((mx - mn).toNat : Nat) : Int) = mx - mn from by omega]
        exact k219
      · have g2' := of_decide_eq_false g2
        refine hlast (S203.below B215) (L203.below B215) hm213 ?_ (c203.below B215) fun X2 w2 S2 L2 => ⟨X2, S2, L2⟩
        rw [hleft, if_pos (by omega)]
        exact k215'
  · -- nothing else
    have := hpo.kind
    omega
end Go.Proofs.Ytngbiaeliphdjaa.V
/- What ends does in the reference's machine, told what work does. No statement of the seat is proved here. -/
namespace Go.Proofs.Ytngbiaeliphdjaa.V
open Go.Vc Go.Proofs Go.RowKit
set_option linter.unusedVariables false
set_option linter.unusedSimpArgs false
theorem vec_blk {h : Array Obj} {e : TypeId} {sz : Nat} {b l : Nat} {xs : List Value} (hv : Vec h e sz (some ⟨b, 0, none⟩) l l xs) : Blk h b e xs := by
  obtain ⟨h1, h2, h3⟩ := hv
  rcases h3 with ⟨h3, _⟩ | ⟨b', cs, hb', hB, h6, h7⟩
  · cases h3
  obtain rfl : b = b' := by injection hb' with hb'; injection hb'
  rw [List.take_of_length_le (by omega)] at h7
  subst h7; exact hB
theorem blk_vec {h : Array Obj} {e : TypeId} {sz : Nat} {b l : Nat} {xs : List Value} (hl : xs.length = l * sz) (hb : Blk h b e xs) : Vec h e sz (some ⟨b, 0, none⟩) l l xs :=
  ⟨hl, Nat.le_refl _, .inr ⟨b, xs, rfl, hb, hl, List.take_of_length_le (by omega)⟩⟩
theorem sgC_set (G : Nat) (x : Gr) (num i to : Nat) (h1 : 1 ≤ num) : segSet (sgC G x) ((num - 1) * 2) [.int .i64 (i : Int), .int .i64 (to : Int)] = sgC G (gSet x num (i, to)) := by
  show ((sgC G x).set ((num - 1) * 2) _).set ((num - 1) * 2 + 1) _ = _
  unfold sgC
  rw [rowN_set, rowN_set]
  apply rowN_ext
  intro j hj
  unfold spS gSet
  by_cases h2 : j = (num - 1) * 2 + 1
  · rw [if_pos h2]
    have e1 : j / 2 + 1 = num := by omega
    have e2 : ¬ j % 2 = 0 := by omega
    simp only [e1, e2, if_true, if_false]
  · rw [if_neg h2]
    by_cases h3 : j = (num - 1) * 2
    · rw [if_pos h3]
      have e1 : j / 2 + 1 = num := by omega
      have e2 : j % 2 = 0 := by omega
      simp only [e1, e2, if_true]
    · rw [if_neg h3]
      have e1 : ¬ j / 2 + 1 = num := by omega
      simp only [e1, if_false]
/-- One end, in a row of its own. -/
theorem one_at {s : Sx} {X : Nat → Prop} {w : World} {b i : Nat} {g : G3} {x : Gr} (k : Blk w.heap b 150 [.int .i64 (i : Int), .slice g.1 g.2.1 g.2.2]) (hg : GrAt s X w g x) (hx : ¬ X b) (hb : b ≠ s.bd ∧ b ≠ s.bl) : EndsAt s X w (some ⟨b, 0, none⟩) 1 1 [(i, x)] := by
  refine ⟨[((i, x), g)], rfl, ?_, fun e he => ?_, fun q hq => ?_⟩
  · rw [endsC_one]
    exact blk_vec (l := 1) rfl k
  · rw [List.mem_singleton.1 he]; exact hg
  · simp only [blkOf, Option.some.injEq] at hq
    subst hq
    exact ⟨hx, hb⟩
/-- Groups in a block of their own. -/
theorem gr_new {s : Sx} {X : Nat → Prop} {w w' : World} {b : Nat} {x : Gr} (hX : ∀ y, X y → y < w.heap.size) (hb : s.bd < w.heap.size ∧ s.bl < w.heap.size) (hq : w.heap.size ≤ b) (v : Vec w'.heap 31 2 (some ⟨b, 0, none⟩) s.P.groups s.P.groups (sgC s.P.groups x)) : GrAt s X w' (some ⟨b, 0, none⟩, s.P.groups, s.P.groups) x :=
  ⟨v, fun j hj => by
    obtain rfl : b = j := by simpa [blkOf] using hj
    exact ⟨fun h => by have := hX b h; omega, by omega, by omega⟩⟩
def WorkC (s : Sx) (k : Nat) : Prop := ∀ (X : Nat → Prop) (w : World) (d : Nat → Bool) (sl : Nat → G3) (i : Nat), STab s k X w d sl → i ≤ s.n → Cl Try.prog 138 [.pointer (some ⟨s.bm, 0, none⟩), .int .i64 k, .int .i64 i] w (ResE s k X w d sl (s.ends k i))
theorem idxI (s : Sx) (ok : s.ok) {k i : Nat} (hk : k < s.P.pieces.length) (hi : i ≤ s.n) : IntKind.wrap .i64 (IntKind.wrap .i64 ((k : Int) * IntKind.wrap .i64 ((s.t.size : Int) + 1)) + (i : Int)) = ((s.idx k i : Nat) : Int) := by
  have hsz := size_L s.t
  have hnt : s.n = (L s.t).length := rfl
  have hn200 : s.n ≤ 200 := CxOk.n200 ok
  have hlen : s.P.pieces.length ≤ 482 := CxOk.len ok
  have h1 : k * (s.n + 1) ≤ 482 * 201 := Nat.mul_le_mul (by omega) (by omega)
  rw [w64 (n := (s.t.size : Int) + 1) (by omega), show (s.t.size : Int) + 1 = ((s.n + 1 : Nat) : Int) from by omega, ← Int.natCast_mul]
  rw [w64 (n := ((k * (s.n + 1) : Nat) : Int)) (by omega), w64 (by omega)]
  unfold Sx.idx
  omega
theorem ends_of_work {s : Sx} (ok : s.ok) {k : Nat} (hk : k < s.P.pieces.length) (hW : WorkC s k) : EndsC s k := by
  intro K X w d sl i hK hF hi
  apply vc121
  unfold V121
  have hlt := s.idx_lt hk hi
  have hII := idxI s ok hk hi
  have hbd := hF.db.lt
  have hbl := hF.lb.lt
  have hne := hF.ne
  generalize hj : s.idx k i = j at *
  have et : ∀ o, 0 + Int.toNat ((j : Nat) : Int) * 1 + o * 0 = j := fun o => by omega
  have et0 : 0 + Int.toNat ((j : Nat) : Int) * 1 = j := by omega
  refine ⟨s.t, hF.mb.cell 4, _, _, _, hF.mb.cell 5, ?_⟩
  rw [hII, ]
  refine ⟨s.bd, 0, ⟨rfl, by omega, by omega⟩, d j, ?_, fun g => ?_, fun g => ?_⟩
  · rw [et0, hF.db.cell]; exact rowN_get _ hlt
  rotate_left
  · have g' : d j = true := by simpa using g
    have he := hF.ok k i hK hk hi (by rw [hj]; exact g')
    rw [hj] at he
    refine ⟨_, _, _, hF.mb.cell 6, s.bl, 0, ⟨rfl, by omega, by omega⟩, (sl j).1, (sl j).2.1, (sl j).2.2, ?_, _, _, _, d, sl, rfl, he, hF, Agr.refl _ _ _ _, Ext.refl _ _⟩
    rw [et0, hF.lb.cell]; exact rowN_get _ hlt
  have g' : d j = false := by simpa using g
  refine ⟨_, _, _, hF.mb.cell 5, s.bd, 0, ⟨rfl, by omega, by omega⟩, ?_⟩
  dsimp only
  rw [et0]
  refine stW_in hF.db (by rw [rowN_length]; exact hlt) fun w13 s13 k13 e13 => ?_
  rw [show segSet (rowN s.tot fun j => .bool (d j)) j [.bool true] = rowN s.tot fun x => if x = j then .bool true else .bool (d x) from rowN_set _ _ _ _] at k13
  rw [rowN_ext (g := fun x => .bool (if x = j then true else d x)) fun x _ => by split <;> rfl] at k13
  refine drw_in fun w14 q14 e14 => ?_
  have k14 := k13.keep e14 fun h => h
  have E14 : Ext (fun x => x = s.bd ∨ x = s.bl) w w14 := (Ext.mono e13 fun x _ h => .inl h).trans (Ext.mono e14 fun _ _ h => h.elim)
  have hX14 : ∀ x, X x → ¬ (x = s.bd ∨ x = s.bl) := fun x hx h => by
    have := hF.priv x hx
    rcases h with h | h
    · exact this.2.1 h
    · exact this.2.2.1 h
  have hz14 := E14.size
  have F14 : STab s k X w14 (fun x => if x = j then true else d x) sl := by
    refine ⟨hF.mb.keep E14 (by omega), k14, (hF.lb.keep e13 fun h => hne.2.2.1 h.symm).keep e14 (fun h => h), hF.pcs.keep E14 fun q hq h => ?_, fun k' i' a1 a2 a3 a4 => ?_, hF.ne, fun x hx => ?_⟩
    · rcases h with rfl | rfl
      · exact hne.2.2.2.1 hq
      · exact hne.2.2.2.2 hq
    · have := s.idx_below (K := k) a1 a3
      have h2 := s.idx_ge (i := i) (Nat.le_refl k)
      rw [hj] at h2
      rw [if_neg (by omega)] at a4
      exact (hF.ok k' i' (by omega) a2 a3 a4).grow E14 (fun x h => .inr h) fun x h => .inl h
    · have := hF.priv x hx
      exact ⟨this.1, this.2.1, this.2.2.1, this.2.2.2.1, by omega⟩
  refine ⟨_, _, _, F14.mb.cell 6, ?_⟩
  refine (hW X w14 _ sl i F14 hi).use fun e w17 he => ?_
  obtain ⟨a, l, cp, d2, sl2, rfl, r17, F17, A17, e17⟩ := he
  refine ⟨a, l, cp, rfl, F17.mb.cell 6, s.bl, 0, ⟨rfl, by omega, by omega⟩, ?_⟩
  dsimp only
  rw [et0]
  refine stW_in F17.lb (by rw [rowN_length]; exact hlt) fun w21 s21 k21 e21 => ?_
  rw [show segSet (rowN s.tot fun j => sltV (sl2 j)) j [.slice a l cp] = rowN s.tot fun x => if x = j then .slice a l cp else sltV (sl2 x) from rowN_set _ _ _ _] at k21
  rw [rowN_ext (g := fun x => sltV (if x = j then (a, l, cp) else sl2 x)) fun x _ => by split <;> rfl] at k21
  have E21 : Ext (fun x => x = s.bd ∨ x = s.bl) w17 w21 := Ext.mono e21 fun x _ h => .inr h
  have r21 := r17.grow E21 (fun x h => .inr h) fun x h => .inl (h : X x)
  have E : Ext (fun x => x = s.bd ∨ x = s.bl) w w21 := (E14.trans e17).trans E21
  have hz := E.size
  have hz17 := E21.size
  have hm17 := F17.mb.lt
  have hgej : k * (s.n + 1) ≤ j := by rw [← hj]; exact s.idx_ge (Nat.le_refl k)
  have F21 : STab s K X w21 d2 (fun x => if x = j then (a, l, cp) else sl2 x) := by
    refine ⟨F17.mb.keep E21 (by omega), F17.db.keep e21 hne.2.2.1, k21, F17.pcs.keep E21 fun q hq h => ?_, fun k' i' a1 a2 a3 a4 => ?_, hF.ne, fun x hx => ?_⟩
    · rcases h with rfl | rfl
      · exact hne.2.2.2.1 hq
      · exact hne.2.2.2.2 hq
    · by_cases hkk : s.idx k' i' = j
      · rw [if_pos hkk]
        rw [← hj] at hkk
        obtain ⟨rfl, rfl⟩ := s.idx_inj a3 hi hkk
        exact r21
      · rw [if_neg hkk]
        by_cases hlow : k' < k
        · exact (F17.ok k' i' hlow a2 a3 a4).grow E21 (fun x h => .inr h) fun x h => .inl h
        · have hge := s.idx_ge (i := i') (Nat.not_lt.1 hlow)
          have hA := A17 _ hge
          rw [hA.2]
          rw [hA.1] at a4
          simp only [] at a4
          rw [if_neg hkk] at a4
          exact (hF.ok k' i' a1 a2 a3 a4).grow E (fun x h => .inr h) fun x h => .inl h
    · have := F17.priv x hx
      exact ⟨this.1, this.2.1, this.2.2.1, this.2.2.2.1, by omega⟩
  refine ⟨_, _, _, F21.mb.cell 6, s.bl, 0, ⟨rfl, by omega, by omega⟩, a, l, cp, ?_, a, l, cp, d2, _, rfl, r21, F21, fun x hx => ?_, E⟩
  · rw [et0, k21.cell]
    have := rowN_get (fun x => sltV (if x = j then (a, l, cp) else sl2 x)) hlt
    rw [this]
    simp only [if_true]
    rfl
  · have h1 : s.idx k i < K * (s.n + 1) := s.idx_below hK hi
    rw [hj] at h1
    have hkK : k * (s.n + 1) ≤ K * (s.n + 1) := Nat.mul_le_mul_right _ (Nat.le_of_lt hK)
    have hA := A17 x (by omega)
    refine ⟨?_, ?_⟩
    · rw [hA.1]; simp only []; rw [if_neg (by omega)]
    · simp only []; rw [if_neg (by omega)]; exact hA.2
end Go.Proofs.Ytngbiaeliphdjaa.V

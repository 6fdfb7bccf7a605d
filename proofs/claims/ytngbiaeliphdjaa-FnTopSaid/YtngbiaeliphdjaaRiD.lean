/- Parts of a proof, put together: definitions, formulas of Go functions and lemmas. No statement of the seat is proved here. -/
import Derived.Defers
import Derived.Recover
import Derived.Test.YtngbiaeliphdjaaProg
import Derived.Test.YtngbiaeliphdjaaRiC
set_option maxHeartbeats 4000000
/- What work does in the reference's machine. No statement of the seat is proved here. -/
namespace Go.Proofs.Ytngbiaeliphdjaa.V
open Go.Vc Go.Proofs Go.RowKit
set_option linter.unusedVariables false
set_option linter.unusedSimpArgs false
theorem STab.pieceAt {s : Sx} {K : Nat} {X : Nat → Prop} {w : World} {d : Nat → Bool} {sl : Nat → G3} (h : STab s K X w d sl) {k : Nat} (hk : k < s.P.pieces.length) :
    ∃ bp r, s.pa = some ⟨bp, 0, none⟩ ∧ k < s.pl ∧ s.rs[k]? = some r ∧ ∀ o, o < 7 → cellH w.heap bp (0 + k * 7 + o) = r.cells[o]? := by
  have h1 := h.pcs.len
  have h2 := h.pcs.len'
  obtain ⟨b, hb, hc⟩ := h.pcs.row.open (by omega)
  exact ⟨b, s.rs[k]'(by omega), hb, by omega, List.getElem?_eq_getElem (by omega), raw_at hc h1 (i := k) (by omega)⟩
/-- What was gathered is what a call gives. -/
theorem SL.done {s : Sx} {K : Nat} {X0 X : Nat → Prop} {w0 w : World} {b bs : Nat} {d d' : Nat → Bool} {sl sl' : Nat → G3} {ws : List Wy} (h : SL s K X0 w0 b bs X w d' sl' ws) (hX0 : ∀ x, X0 x → x < w0.heap.size) (hm : s.bd < w0.heap.size ∧ s.bl < w0.heap.size) (A : Agr s K d d' sl sl') :
    ∃ (a : Option Addr) (l c : Nat), cellH w.heap b (0 + 1) = some (.slice a l c) ∧ ResE s K X0 w0 d sl ws (.returned (.slice a l c)) w := by
  obtain ⟨a, l, c, h1, h2, h3⟩ := h.res hX0 hm
  exact ⟨a, l, c, by rw [Nat.zero_add]; exact h1, a, l, c, d', sl', rfl, h2, h3, A, h.ext⟩
/-- All ends of a row are added. -/
theorem addallS {s : Sx} (ok : s.ok) {K : Nat} {X0 X1 : Nat → Prop} {w0 w1 : World} {b bs : Nat} {d : Nat → Bool} {sl : Nat → G3} {ws S : List Wy} {a : Option Addr} {l cp : Nat} {lb : List (Nat × TypeId × List Value)} {KK : World → Prop} {QQ : List PanicEntry → World → Prop} (h : SL s K X0 w0 b bs X1 w1 d sl ws) (r : EndsAt s X1 w1 a l cp S) (hS : S.length ≤ 1000) (hL : LocS s lb X1 w1) (hws : Gd s ws) (hb : ∀ z ∈ S, z.1 ≤ s.n)
    (hK : ∀ (X2 : Nat → Prop) (w' : World), SL s K X0 w0 b bs X2 w' d sl (addA ws S) → LocS s lb X2 w' → KK w') :
    ∃ (I104 : Nat → Int → World → Prop), (∃ (k106 : Nat), I104 k106 0 w1) ∧ ∀ (k105 : Nat) (d108 : Nat → Value) (n109 : Int) (w107 : World), I104 k105 n109 w107 → (((decide ((n109 : Int) < ((l : Nat) : Int))) = true → ∃ (b110 : Nat) (o111 : Nat), ((a : Option Addr) = some ⟨b110, o111, none⟩ ∧ 0 ≤ (n109 : Int) ∧ (n109 : Int) < ((l : Nat) : Int)) ∧ ∃ (n112 : Int), cellH w107.heap b110 (o111 + (Int.toNat n109) * 2) = some (.int .i64 n112) ∧ ∃ (a113 : Option Addr), ∃ (l113 : Nat), ∃ (c113 : Nat), cellH w107.heap b110 (o111 + (Int.toNat n109) * 2 + 1) = some (.slice a113 l113 c113) ∧ newC [.int .i64 0, .slice none 0 0] 150 (fun (b114 : Nat) (w115 : World) => stW b114 0 [.int .i64 n112, .slice a113 l113 c113] (fun (w116 : World) => ∃ (n117 : Int), cellH w116.heap b114 0 = some (.int .i64 n117) ∧ ∃ (a118 : Option Addr), ∃ (l118 : Nat), ∃ (c118 : Nat), cellH w116.heap b114 1 = some (.slice a118 l118 c118) ∧ Cl Try.prog 155 ([.pointer (some ⟨b, 0, none⟩), .int .i64 n117, .slice a118 l118 c118]) w116 (retG (fun (r120 : Value) (w119 : World) => r120 = .tuple #[] ∧ (∃ (m121 : Nat), m121 < k105 ∧ I104 m121 (IntKind.wrap .i64 (n109 + 1)) w119)) QQ)) w115) w107) ∧ ((decide ((n109 : Int) < ((l : Nat) : Int))) = false → KK w107)) := by
  have hl := r.len
  refine ⟨fun k n w' => ∃ (A B : List Wy) (X2 : Nat → Prop), S = A ++ B ∧ n = A.length ∧ k = B.length ∧ SL s K X0 w0 b bs X2 w' d sl (addA ws A) ∧ EndsAt s X2 w' a l cp S ∧ LocS s lb X2 w', ⟨_, [], S, X1, rfl, rfl, rfl, h, r, hL⟩, ?_⟩
  clear h r hL
  rintro k dd n w2 ⟨A, B, X2, hAB, rfl, rfl, S2, r2, L2⟩
  have hABl : S.length = A.length + B.length := by rw [hAB]; simp
  have e0 : Int.toNat (A.length : Int) = A.length := by omega
  have e1 : IntKind.wrap .i64 ((A.length : Int) + 1) = ((A.length + 1 : Nat) : Int) := by rw [w64 (by omega)]; omega
  rw [e0, e1]
  refine ⟨fun g => ?_, fun g => ?_⟩
  · have g' : A.length < l := by have := of_decide_eq_true g; omega
    obtain ⟨x, B', rfl⟩ : ∃ x B', B = x :: B' := by
      cases B with
      | nil => simp only [List.length_nil] at hABl; omega
      | cons x B' => exact ⟨x, B', rfl⟩
    have hxb : x.1 ≤ s.n := hb x (by rw [hAB]; simp)
    have r2' := r2
    rw [hAB] at r2'
    obtain ⟨ba, gx, hba, _, hx1, hx2, hg⟩ := r2'.elem
    refine ⟨ba, 0, ⟨hba, by omega, by omega⟩, _, hx1, _, _, _, hx2, ?_⟩
    refine newC_in fun w3 s3 k3 e3 => ?_
    refine stW_in k3 (by show 0 + 2 ≤ 2; decide) fun w4 s4 k4 e4 => ?_
    have k4' : Blk w4.heap w2.heap.size 150 [.int .i64 (x.1 : Int), .slice gx.1 gx.2.1 gx.2.2] := k4
    have B4 : Below w2.heap.size w2 w4 := Ext.to (Ext.to (Below.refl _ _) e3 fun _ h => h.elim) e4 fun i hi => by omega
    refine ⟨_, k4'.cell 0, _, _, _, k4'.cell 1, ?_⟩
    have G2 : Gd s (addA ws A) := hws.addA fun z hz => hb z (by rw [hAB]; exact List.mem_append_left _ hz)
    refine ((S2.below B4).add (hg.below B4) hxb (G2.len ok)).use fun e w5 he => ?_
    obtain ⟨rfl, X3, S5, e5, hX3, _⟩ := he
    refine ⟨rfl, B'.length, by simp, A ++ [x], B', X3, by rw [hAB]; simp, by simp, rfl, ?_, (r2.below B4).grow e5 (fun _ h => .inl h) hX3, (L2.below B4).grow e5 (fun _ h => .inl h) hX3⟩
    rw [addA_append]; exact S5
  · have g' : ¬ A.length < l := by have := of_decide_eq_false g; omega
    have : B = [] := by
      cases B with
      | nil => rfl
      | cons x r => simp only [List.length_cons] at hABl; omega
    subst this
    rw [List.append_nil] at hAB
    subst hAB
    exact hK X2 w2 S2 L2
/-- A list, and a table of where was gone on from, still empty. -/
theorem SL.withSeen {s : Sx} {K : Nat} {X0 X : Nat → Prop} {w0 w w' : World} {b bs : Nat} {d : Nat → Bool} {sl : Nat → G3} {ws : List Wy} (h : SL s K X0 w0 b bs X w d sl ws) (e : Ext (fun _ => False) w w') (hs : w'.heap.size = w.heap.size + 1) (k : Blk w'.heap w.heap.size 4 (rowN ((s.n + 1) * 52) fun _ => .bool false)) :
    SQ s K X0 w0 b bs w.heap.size (fun y => X y ∨ y = w.heap.size) w' d sl ws (fun _ => false) := by
  have B : Below w.heap.size w w' := Ext.to (Below.refl _ _) e fun _ h => h.elim
  obtain ⟨a, l, cp, es, h1, h2, h3, h4, h5, h6⟩ := h.row
  have hbl := h1.lt
  have hbsl := h2.lt
  have hz := h.ext.size
  have hF : STab s K (fun y => X y ∨ y = w.heap.size) w' d sl := h.fin.grow (S := fun _ => False) e (fun _ h => h.elim) (fun y hy => by
    rcases hy with hy | rfl
    · exact .inl hy
    · exact .inr (Nat.le_refl _)) fun y hy => by
    rcases hy with hy | rfl
    · have := (h.fin.priv y hy).2.2.2.2; omega
    · omega
  refine ⟨⟨fun y hy => .inl (h.sub y hy), .inl h.mem, .inl h.memS, h.new, ⟨a, l, cp, es, h1.below B, h2.below B, h3.keep (S := fun _ => False) e fun _ _ h => h, h4, fun q hq => ⟨.inl (h5 q hq).1, (h5 q hq).2⟩, fun x hx => (h6 x hx).grow (S := fun _ => False) e (fun _ h => h.elim) fun y hy => ?_⟩, hF, h.ext.trans (Ext.of_below B)⟩, .inr rfl, ⟨hz, by omega, by omega⟩, k, fun a' l' c' hc hq => ?_⟩
  · rcases hy with hy | rfl
    · exact .inl hy
    · exact .inr (Nat.le_refl _)
  · have h1' : cellH w'.heap b 1 = some (.slice a l cp) := (h1.below B).cell 1
    rw [h1'] at hc
    cases hc
    have := h3.lt _ hq
    omega
/-- A repetition goes on from every end of a row. -/
theorem goOn {s : Sx} (ok : s.ok) {K k : Nat} {X0 X1 : Nat → Prop} {w0 w1 : World} {b bs bq b15 : Nat} {kid : Int} {r : Raw} {d0 d : Nat → Bool} {sl0 sl : Nat → G3} {S : List Wy} {a : Option Addr} {l cp : Nat} {lf : Nat} {left' : Int} {KK : World → Prop} {QQ : List PanicEntry → World → Prop} (hkid : (s.P.pieces.getD k pSta).kids = [kid]) (hk0 : (kid.toNat : Int) = kid) (hkK : kid.toNat < K) (hr : s.rs[k]? = some r) (hE : EndsC s kid.toNat) (hlf : lf ≤ 51) (hle : left' = (lf : Nat))
    (h : SQ s K X0 w0 b bs bq X1 w1 d sl [] (fun _ => false)) (rS : EndsAt s X1 w1 a l cp S) (hS : S.length ≤ 1000) (hL : LocS s [(b15, 111, r.cells)] X1 w1) (hb : ∀ z ∈ S, z.1 ≤ s.n) (hA : Agr s K d0 d sl0 sl)
    (hK : ∀ (X2 : Nat → Prop) (w' : World) (d' : Nat → Bool) (sl' : Nat → G3) (sn' : Nat → Bool), SQ s K X0 w0 b bs bq X2 w' d' sl' (thenP S (s.more k (decL lf))) sn' → Agr s K d0 d' sl0 sl' → KK w') :
    ∃ (I151 : Nat → Int → World → Prop), (∃ (k153 : Nat), I151 k153 0 w1) ∧ ∀ (k152 : Nat) (d155 : Nat → Value) (n156 : Int) (w154 : World), I151 k152 n156 w154 → (((decide ((n156 : Int) < ((l : Nat) : Int))) = true → ∃ (b157 : Nat) (o158 : Nat), ((a : Option Addr) = some ⟨b157, o158, none⟩ ∧ 0 ≤ (n156 : Int) ∧ (n156 : Int) < ((l : Nat) : Int)) ∧ ∃ (n159 : Int), cellH w154.heap b157 (o158 + (Int.toNat n156) * 2) = some (.int .i64 n159) ∧ ∃ (a160 : Option Addr), ∃ (l160 : Nat), ∃ (c160 : Nat), cellH w154.heap b157 (o158 + (Int.toNat n156) * 2 + 1) = some (.slice a160 l160 c160) ∧ newC [.int .i64 0, .slice none 0 0] 150 (fun (b161 : Nat) (w162 : World) => stW b161 0 [.int .i64 n159, .slice a160 l160 c160] (fun (w163 : World) => ∃ (n164 : Int), cellH w163.heap b15 0 = some (.int .i64 n164) ∧ ∃ (a165 : Option Addr), ∃ (l165 : Nat), ∃ (c165 : Nat), cellH w163.heap b15 1 = some (.slice a165 l165 c165) ∧ ∃ (n166 : Int), cellH w163.heap b15 2 = some (.int .i64 n166) ∧ ∃ (n167 : Int), cellH w163.heap b15 3 = some (.int .i64 n167) ∧ ∃ (t168 : Bool), cellH w163.heap b15 4 = some (.bool t168) ∧ ∃ (n169 : Int), cellH w163.heap b15 5 = some (.int .i64 n169) ∧ ∃ (a170 : Option Addr), ∃ (l170 : Nat), ∃ (c170 : Nat), cellH w163.heap b15 6 = some (.slice a170 l170 c170) ∧ ∃ (n171 : Int), cellH w163.heap b161 0 = some (.int .i64 n171) ∧ ∃ (a172 : Option Addr), ∃ (l172 : Nat), ∃ (c172 : Nat), cellH w163.heap b161 1 = some (.slice a172 l172 c172) ∧ Cl Try.prog 159 ([.pointer (some ⟨s.bm, 0, none⟩), .agg #[.int .i64 n164, .slice a165 l165 c165, .int .i64 n166, .int .i64 n167, .bool t168, .int .i64 n169, .slice a170 l170 c170], .agg #[.int .i64 n171, .slice a172 l172 c172], .int .i64 left', .slice (some ⟨bq, 0, none⟩) ((s.n + 1) * 52) ((s.n + 1) * 52), .pointer (some ⟨b, 0, none⟩)]) w163 (retG (fun (r174 : Value) (w173 : World) => r174 = .tuple #[] ∧ (∃ (m175 : Nat), m175 < k152 ∧ I151 m175 (IntKind.wrap .i64 (n156 + 1)) w173)) QQ)) w162) w154) ∧ ((decide ((n156 : Int) < ((l : Nat) : Int))) = false → KK w154)) := by
  subst hle
  have hl := rS.len
  refine ⟨fun m n w' => ∃ (A B : List Wy) (X2 : Nat → Prop) (d2 : Nat → Bool) (sl2 : Nat → G3) (sn2 : Nat → Bool), S = A ++ B ∧ n = A.length ∧ m = B.length ∧ SQ s K X0 w0 b bs bq X2 w' d2 sl2 (addA [] (A.flatMap (ovL (s.more k (decL lf))))) sn2 ∧ Cmp s k (addA [] (A.flatMap (ovL (s.more k (decL lf))))) sn2 0 ∧ EndsAt s X2 w' a l cp S ∧ LocS s [(b15, 111, r.cells)] X2 w' ∧ Agr s K d0 d2 sl0 sl2, ⟨_, [], S, X1, _, _, _, rfl, rfl, rfl, h, (by intro p q _ _ _ h; cases h), rS, hL, hA⟩, ?_⟩
  clear h rS hL hA
  rintro m dd n w2 ⟨A, B, X2, d2, sl2, sn2, hAB, rfl, rfl, Q2, C2, r2, L2, A2⟩
  have hABl : S.length = A.length + B.length := by rw [hAB]; simp
  have e0 : Int.toNat (A.length : Int) = A.length := by omega
  have e1 : IntKind.wrap .i64 ((A.length : Int) + 1) = ((A.length + 1 : Nat) : Int) := by rw [w64 (by omega)]; omega
  rw [e0, e1]
  refine ⟨fun g => ?_, fun g => ?_⟩
  · have g' : A.length < l := by have := of_decide_eq_true g; omega
    obtain ⟨x, B', rfl⟩ : ∃ x B', B = x :: B' := by
      cases B with
      | nil => simp only [List.length_nil] at hABl; omega
      | cons x B' => exact ⟨x, B', rfl⟩
    have hxb : x.1 ≤ s.n := hb x (by rw [hAB]; simp)
    have r2' := r2
    rw [hAB] at r2'
    obtain ⟨ba, gx, hba, _, hx1, hx2, hg⟩ := r2'.elem
    refine ⟨ba, 0, ⟨hba, by omega, by omega⟩, _, hx1, _, _, _, hx2, ?_⟩
    refine newC_in fun w3 s3 k3 e3 => ?_
    refine stW_in k3 (by show 0 + 2 ≤ 2; decide) fun w4 s4 k4 e4 => ?_
    have k4' : Blk w4.heap w2.heap.size 150 [.int .i64 (x.1 : Int), .slice gx.1 gx.2.1 gx.2.2] := k4
    have B4 : Below w2.heap.size w2 w4 := Ext.to (Ext.to (Below.refl _ _) e3 fun _ h => h.elim) e4 fun i hi => by omega
    have L4 := L2.below B4
    have p4 := L4.get (List.mem_cons_self ..)
    refine ⟨_, p4.cell 0, _, _, _, p4.cell 1, _, p4.cell 2, _, p4.cell 3, _, p4.cell 4, _, p4.cell 5, _, _, _, p4.cell 6, _, k4'.cell 0, _, _, _, k4'.cell 1, ?_⟩
    have G2 : Gd s (addA [] (A.flatMap (ovL (s.more k (decL lf))))) := (Gd.nil s).addA fun z hz => by
      obtain ⟨y, hy, hz⟩ := List.mem_flatMap.1 hz
      obtain ⟨v, hv, rfl⟩ := List.mem_map.1 hz
      exact (ok.mok k y.1 _ (hb y (by rw [hAB]; exact List.mem_append_left _ hy)) v hv).hi
    refine (further_ok ok hkid hk0 hkK hr hE (s.n - x.1) X2 w4 d2 sl2 _ sn2 x.1 lf x.2 gx rfl hxb hlf (Q2.below B4) (hg.below B4) (fun p q a1 a2 a3 a4 y hy => C2 p q (Nat.zero_le _) a2 a3 a4 y hy) G2).use fun e w5 he => ?_
    obtain ⟨rfl, X3, d3, sl3, sn3, Q5, C5, hs5, E5, hX3, A5⟩ := he
    have hsnoc : addA [] ((A ++ [x]).flatMap (ovL (s.more k (decL lf)))) = addA (addA [] (A.flatMap (ovL (s.more k (decL lf))))) ((s.more k (decL lf) x.1).map (ovW x.2)) := by
      rw [List.flatMap_append, addA_append, List.flatMap_cons, List.flatMap_nil, List.append_nil]; rfl
    refine ⟨rfl, B'.length, by simp, A ++ [x], B', X3, d3, sl3, sn3, by rw [hAB]; simp, by simp, rfl, by rw [hsnoc]; exact Q5, ?_, (r2.below B4).grow E5 (fun _ h => h) hX3, L4.grow E5 (fun _ h => h) hX3, A2.trans A5⟩
    rw [hsnoc]
    intro p q a1 a2 a3 a4 y hy
    by_cases hpx : x.1 ≤ p
    · exact C5 p q hpx a2 a3 a4 y hy
    · rw [hs5 _ (by omega)] at a4
      exact has_mono (C2 p q a1 a2 a3 a4 y hy)
  · have g' : ¬ A.length < l := by have := of_decide_eq_false g; omega
    have : B = [] := by
      cases B with
      | nil => rfl
      | cons x r => simp only [List.length_cons] at hABl; omega
    subst this
    rw [List.append_nil] at hAB
    subst hAB
    exact hK X2 w2 d2 sl2 sn2 Q2 A2
end Go.Proofs.Ytngbiaeliphdjaa.V
/- What work and ends do in the reference's machine. No statement of the seat is proved here. -/
namespace Go.Proofs.Ytngbiaeliphdjaa.V
open Go.Vc Go.Proofs Go.RowKit
set_option linter.unusedVariables false
set_option linter.unusedSimpArgs false
theorem Sx.ends_dd (s : Sx) (k i : Nat) : DD (s.ends k i) := endsP_dd _ _ _ _
theorem work_ok {s : Sx} (ok : s.ok) {k : Nat} (hk : k < s.P.pieces.length) (hsub : ∀ d ∈ (s.P.pieces.getD k pSta).kids, EndsC s d.toNat) : WorkC s k := by
  intro X w d sl i hF hi
  have hpk : s.P.pieces[k]? = some (s.P.pieces.getD k pSta) := by rw [List.getD_eq_getElem?_getD, List.getElem?_eq_getElem hk]; rfl
  have hpo := CxOk.wf ok k _ hpk
  have hsm := CxOk.small ok (s.P.pieces.getD k pSta) (List.mem_of_getElem? hpk)
  have hkidb : ∀ d ∈ (s.P.pieces.getD k pSta).kids, d.toNat < k ∧ (d.toNat : Int) = d := fun d hd => by have := hpo.kids d hd; omega
  have hn200 : s.n ≤ 200 := CxOk.n200 ok
  have hg9 : s.P.groups ≤ 9 := CxOk.g9 ok
  have hlen482 : s.P.pieces.length ≤ 482 := CxOk.len ok
  have hnt : s.n = (L s.t).length := rfl
  have hsz := size_L s.t
  have hX0 : ∀ x, X x → x < w.heap.size := fun x hx => (hF.priv x hx).2.2.2.2
  have hbdl : s.bd < w.heap.size ∧ s.bl < w.heap.size := ⟨hF.db.lt, hF.lb.lt⟩
  apply vc138
  unfold V138
  obtain ⟨bp, r, hpa, hkpl, hrk, hcell⟩ := hF.pieceAt hk
  have e0 : Int.toNat (k : Int) = k := by omega
  refine ⟨_, _, _, hF.mb.cell 3, ?_⟩
  rw [e0]
  refine ⟨bp, 0, ⟨hpa, by omega, by omega⟩, _, hcell 0 (by decide), _, _, _, hcell 1 (by decide), _, hcell 2 (by decide), _, hcell 3 (by decide), _, hcell 4 (by decide), _, hcell 5 (by decide), _, _, _, hcell 6 (by decide), ?_⟩
  refine newC_in fun w16 s16 k16 e16 => ?_
  generalize hb15 : w.heap.size = b15 at *
  refine stW_in k16 (by show 0 + 7 ≤ 7; decide) fun w17 s17 k17 e17 => ?_
  have k17' : Blk w17.heap b15 111 r.cells := k17
  have B17 : Below w.heap.size w w17 := Ext.to (Ext.to (Below.refl _ _) e16 fun _ h => h.elim) e17 fun i hi => by omega
  have F17 := hF.below B17
  refine (sempty_ok F17 (Ext.of_below B17) hn200).use fun e w20 he => ?_
  obtain ⟨b, bs, X20, rfl, S20, hX20, B20⟩ := he
  refine ⟨b, 0, rfl, ?_⟩
  have hz17 := B17.size
  have hX15 : ¬ X20 b15 := fun h => by
    rcases hX20 b15 h with h | h
    · have := hX0 _ h; omega
    · omega
  have L20 : LocS s [(b15, 111, r.cells)] X20 w20 := LocS.cons (LocS.nil _ _ _) (k17'.below B20) hX15 ⟨by omega, by omega⟩
  have hrw : ∀ {Y : Nat → Prop} {w' : World} {d' : Nat → Bool} {sl' : Nat → G3}, STab s k Y w' d' sl' → RawOk w' r (s.P.pieces.getD k pSta) := fun h => h.raw hrk
  have hr20 := hrw S20.fin
  have m15 : (b15, 111, r.cells) ∈ [(b15, 111, r.cells)] := List.mem_cons_self ..
  have c15 := L20.get m15
  clear hcell hpa B20 hX20 F17 B17 k17' k17 e17 s17 k16 e16 s16
  have hXl : ∀ {Y : Nat → Prop} {w' : World} {d' : Nat → Bool} {sl' : Nat → G3}, STab s k Y w' d' sl' → (∀ y, Y y → y < w'.heap.size) ∧ s.bd < w'.heap.size ∧ s.bl < w'.heap.size := fun h => ⟨fun y hy => (h.priv y hy).2.2.2.2, h.db.lt, h.lb.lt⟩
  have hfin : ∀ {X' : Nat → Prop} {w' : World} {d' : Nat → Bool} {sl' : Nat → G3} {ws : List Wy}, SL s k X w b bs X' w' d' sl' ws → Agr s k d d' sl sl' → ws = s.ends k i → ∃ (a : Option Addr), ∃ (l : Nat), ∃ (c : Nat), cellH w'.heap b (0 + 1) = some (.slice a l c) ∧ ResE s k X w d sl (s.ends k i) (.returned (.slice a l c)) w' := by
    intro X' w' d' sl' ws S' A' he
    subst he
    exact S'.done (fun x hx => by have := hX0 x hx; omega) ⟨by omega, by omega⟩ A'
  have hA0 : Agr s k d d sl sl := Agr.refl _ _ _ _
  -- one end is added
  have hone : ∀ {to : Nat} {to' : Int} {w' : World} {KK : World → Prop} {QQ : List PanicEntry → World → Prop}, SL s k X w b bs X20 w' d sl [] → to ≤ s.n → to' = to → (∀ X2 w2, SL s k X w b bs X2 w2 d sl [(to, gNone)] → KK w2) → Cl Try.prog 156 ([.pointer (some ⟨s.bm, 0, none⟩)]) w' (retG (fun (r32 : Value) (w31 : World) => ∃ (a30 : Option Addr), ∃ (l30 : Nat), ∃ (c30 : Nat), r32 = .slice a30 l30 c30 ∧ Cl Try.prog 155 ([.pointer (some ⟨b, 0, none⟩), .int .i64 to', .slice a30 l30 c30]) w31 (retG (fun (r34 : Value) (w33 : World) => r34 = .tuple #[] ∧ KK w33) QQ)) QQ) := by
    intro to to' w' KK QQ S' hto he hK
    subst he
    refine (snone_ok (by omega) (S'.fin.mb.cell 2)).use fun e w3 he => ?_
    obtain ⟨q, rfl, hq, v3, b3⟩ := he
    have hl := hXl S'.fin
    have gq := gr_new (s := s) (w' := w3) hl.1 hl.2 hq v3
    refine ⟨_, _, _, rfl, ?_⟩
    refine ((S'.below b3).add gq hto (by simp)).use fun e w5 he => ?_
    obtain ⟨rfl, X2, S5, _, _, _⟩ := he
    exact ⟨rfl, hK X2 w5 S5⟩
  have hkind := hr20.kind
  refine ⟨_, c15.cell 0, fun g1 => ?_, fun g1 => ⟨fun g2 => ?_, fun g2 => ⟨fun g3 => ?_, fun g3 => ⟨fun g4 => ?_, fun g4 => ⟨fun g5 => ?_, fun g5 => ⟨fun g6 => ?_, fun g6 => ?_⟩⟩⟩⟩⟩⟩
  all_goals try simp only [beq_iff_eq, beq_eq_false_iff_ne, ne_eq] at g1
  all_goals try simp only [beq_iff_eq, beq_eq_false_iff_ne, ne_eq] at g2
  all_goals try simp only [beq_iff_eq, beq_eq_false_iff_ne, ne_eq] at g3
  all_goals try simp only [beq_iff_eq, beq_eq_false_iff_ne, ne_eq] at g4
  all_goals try simp only [beq_iff_eq, beq_eq_false_iff_ne, ne_eq] at g5
  all_goals try simp only [beq_iff_eq, beq_eq_false_iff_ne, ne_eq] at g6
  · -- a set
    have hk1 : (s.P.pieces.getD k pSta).kind = 1 := by omega
    have he : s.ends k i = _ := ends_set (c := s.cx) (i := i) hk1
    change s.ends k i = if i < (L s.t).length ∧ inSet (s.P.pieces.getD k pSta).set (at_ (L s.t) i) = true then [(i + 1, gNone)] else [] at he
    refine drw_in fun w23 q23 e23 => ?_
    have B23 : Below w20.heap.size w20 w23 := Ext.to (Below.refl _ _) e23 fun _ h => h.elim
    have S23 := S20.below B23
    have L23 := L20.below B23
    refine ⟨s.t, S23.fin.mb.cell 4, fun g => ?_, fun g => ?_⟩
    · have g' : i < s.t.size := by have := of_decide_eq_true g; omega
      have hat := at_lt (L s.t) i
      refine ⟨_, _, _, (L23.get m15).cell 1, s.t, S23.fin.mb.cell 4, ⟨by omega, by omega⟩, ?_⟩
      rw [byteI s.t (j := i) rfl]
      refine (sin_ok (hrw S23.fin).set (by have := hsm.set; omega) (at_ (L s.t) i) hat rfl).ret fun w28 b28 => ⟨_, rfl, fun g8 => ?_, fun g8 => ?_⟩
      · refine hone (S23.below b28) (to := i + 1) (by omega) (by rw [w64 (by omega)]; omega) fun X2 w2 S2 => hfin S2 hA0 ?_
        rw [he, if_pos ⟨by omega, g8⟩]
      · exact hfin (S23.below b28) hA0 (by rw [he, if_neg (fun h => by rw [g8] at h; exact Bool.noConfusion h.2)])
    · have g' : ¬ i < s.t.size := by have := of_decide_eq_false g; omega
      exact hfin S23 hA0 (by rw [he, if_neg (by omega)])
  · -- the text's start
    have hk6 : (s.P.pieces.getD k pSta).kind = 6 := by omega
    have he : s.ends k i = _ := ends_start (c := s.cx) (i := i) hk6
    refine ⟨fun g => ?_, fun g => ?_⟩
    · have g' : i = 0 := by have : (i : Int) = 0 := by simpa using g
                            omega
      exact hone S20 hi rfl fun X2 w2 S2 => hfin S2 hA0 (by rw [he, if_pos g'])
    · have g' : i ≠ 0 := by have : ¬ (i : Int) = 0 := by simpa using g
                            omega
      exact hfin S20 hA0 (by rw [he, if_neg g'])
  · -- the text's end
    have hk7 : (s.P.pieces.getD k pSta).kind = 7 := by omega
    have he : s.ends k i = _ := ends_end (c := s.cx) (i := i) hk7
    change s.ends k i = if i = (L s.t).length then [(i, gNone)] else [] at he
    refine ⟨s.t, S20.fin.mb.cell 4, fun g => ?_, fun g => ?_⟩
    · have g' : i = s.t.size := by have : (i : Int) = s.t.size := by simpa using g
                                   omega
      exact hone S20 hi rfl fun X2 w2 S2 => hfin S2 hA0 (by rw [he, if_pos (by omega)])
    · have g' : i ≠ s.t.size := by have : ¬ (i : Int) = s.t.size := by simpa using g
                                   omega
      exact hfin S20 hA0 (by rw [he, if_neg (by omega)])
  · -- a group
    have hk5 : (s.P.pieces.getD k pSta).kind = 5 := by omega
    obtain ⟨kid, hkid⟩ := hpo.one (.inr hk5)
    have hxm : kid ∈ (s.P.pieces.getD k pSta).kids := by rw [hkid]; simp
    have he : s.ends k i = addA [] ((s.ends kid.toNat i).map fun w => (w.1, gSet w.2 (s.P.pieces.getD k pSta).num.toNat (i, w.1))) := ends_group (c := s.cx) (i := i) hk5 hkid (hkidb kid hxm).1
    have hnum := hpo.num hk5
    change 1 ≤ _ ∧ _ ≤ (s.P.groups : Int) at hnum
    have hkl : r.kl = 1 := by have := hr20.kids.1; rw [intC_length, hkid] at this; simp at this; omega
    have hkv := hr20.kids
    rw [hkid] at hkv
    obtain ⟨bk, hbk, hkc⟩ := hkv.open (by omega)
    refine ⟨_, _, _, c15.cell 6, bk, 0, ⟨hbk, by omega, by omega⟩, kid, by rw [hkc 0 (by omega)]; rfl, ?_⟩
    have hcall := hsub kid hxm k X20 w20 d sl i (hkidb kid hxm).1 S20.fin hi
    rw [(hkidb kid hxm).2] at hcall
    refine hcall.use fun e w58 he' => ?_
    obtain ⟨a1, l1, c1, d1, sl1, rfl, r1, f1, A1, e1⟩ := he'
    refine ⟨a1, l1, c1, rfl, ?_⟩
    have hl1 := r1.len
    have hsh : (s.ends kid.toNat i).length ≤ 201 := CxOk.short ok kid.toNat i hi
    have hnn : ((s.P.pieces.getD k pSta).num.toNat : Int) = (s.P.pieces.getD k pSta).num := by omega
    have hrn : r.num = (s.P.pieces.getD k pSta).num := hr20.num
    generalize hnu : (s.P.pieces.getD k pSta).num.toNat = nu at *
    refine ⟨fun m n w' => ∃ (A B : List Wy) (X' : Nat → Prop), s.ends kid.toNat i = A ++ B ∧ n = A.length ∧ m = B.length ∧ SL s k X w b bs X' w' d1 sl1 (addA [] (A.map fun w => (w.1, gSet w.2 nu (i, w.1)))) ∧ LocS s [(b15, 111, r.cells)] X' w' ∧ EndsAt s X' w' a1 l1 c1 (s.ends kid.toNat i), ⟨_, [], _, _, rfl, rfl, rfl, S20.call f1 e1, L20.grow e1 (fun _ h => .inr h) (fun _ h => .inl h), r1⟩, ?_⟩
    clear r1 f1 e1 hcall hkc hbk hkv
    rintro m dd n w63 ⟨A, B, X1, hAB, rfl, rfl, S63, L63, r63⟩
    have hABl : (s.ends kid.toNat i).length = A.length + B.length := by rw [hAB]; simp
    have e1 : Int.toNat (A.length : Int) = A.length := by omega
    have e2 : IntKind.wrap .i64 ((A.length : Int) + 1) = ((A.length + 1 : Nat) : Int) := by rw [w64 (by omega)]; omega
    rw [e1, e2]
    refine ⟨fun g => ?_, fun g => ?_⟩
    · have g' : A.length < l1 := by have := of_decide_eq_true g; omega
      obtain ⟨x, B', rfl⟩ : ∃ x B', B = x :: B' := by
        cases B with
        | nil => simp only [List.length_nil] at hABl; omega
        | cons x B' => exact ⟨x, B', rfl⟩
      have hxb := ok.wok kid.toNat i hi x (by rw [hAB]; simp)
      have hxhi := hxb.hi
      have r63' := r63
      rw [hAB] at r63'
      obtain ⟨ba, gx, hba, _, hx1, hx2, hg⟩ := r63'.elem
      refine ⟨ba, 0, ⟨hba, by omega, by omega⟩, _, hx1, _, _, _, hx2, ?_⟩
      refine newC_in fun w71 s71 k71 e71 => ?_
      refine stW_in k71 (by show 0 + 2 ≤ 2; decide) fun w72 s72 k72 e72 => ?_
      refine drw_in fun w73 q73 e73 => ?_
      have k73 : Blk w73.heap w63.heap.size 150 [.int .i64 (x.1 : Int), .slice gx.1 gx.2.1 gx.2.2] := Blk.keep (show Blk w72.heap w63.heap.size 150 [.int .i64 (x.1 : Int), .slice gx.1 gx.2.1 gx.2.2] from k72) e73 fun h => h
      have B73 : Below w63.heap.size w63 w73 := Ext.to (Ext.to (Ext.to (Below.refl _ _) e71 fun _ h => h.elim) e72 fun i hi => by omega) e73 fun _ h => h.elim
      refine ⟨_, _, _, k73.cell 1, ?_⟩
      have S73 := S63.below B73
      refine (snone_ok (by omega) (S73.fin.mb.cell 2)).use fun e w76 he' => ?_
      obtain ⟨q, rfl, hq, v76, b76⟩ := he'
      refine ⟨_, _, _, rfl, (k73.below b76).cell 1, ?_⟩
      refine (sover_ok (by omega) ((hg.below B73).below b76).1 v76).use fun e w79 he' => ?_
      obtain ⟨q2, rfl, hq2, v79, b79⟩ := he'
      have B79 := (B73.vstep b76).vstep b79
      have L79 := L63.below B79
      have S79 := S63.below B79
      refine ⟨_, _, _, rfl, _, (L79.get m15).cell 5, _, ((k73.below b76).below b79).cell 0, ?_⟩
      rw [gOver_none] at v79
      have kq := vec_blk v79
      have hz1 := B73.size
      have hz2 := b76.size
      have hz3 := b79.size
      have ew : IntKind.wrap .i64 (r.num - 1) = ((nu - 1 : Nat) : Int) := by rw [hrn, w64 (by omega)]; omega
      rw [ew]
      refine ⟨q2, 0, ⟨rfl, by omega, by omega⟩, ?_⟩
      dsimp only
      rw [show 0 + Int.toNat ((nu - 1 : Nat) : Int) * 2 = (nu - 1) * 2 from by omega]
      refine stW_in kq (by rw [sgC_length]; show (nu - 1) * 2 + 2 ≤ _; omega) fun w85 s85 k85 e85 => ?_
      rw [sgC_set _ _ nu i x.1 (by omega)] at k85
      have B85 : Below w63.heap.size w63 w85 := Ext.to B79 e85 fun j hj => by omega
      have k85' : Blk w85.heap w63.heap.size 150 [.int .i64 (x.1 : Int), .slice gx.1 gx.2.1 gx.2.2] := ((k73.below b76).below b79).keep e85 (by have := k73.lt; omega)
      have hl := hXl S63.fin
      have gq := gr_new (s := s) (w' := w85) (x := gSet x.2 nu (i, x.1)) hl.1 hl.2 (b := q2) (by omega) (blk_vec (sgC_length _ _) k85)
      refine ⟨_, k85'.cell 0, ?_⟩
      have G2 : Gd s (addA [] (A.map fun w => (w.1, gSet w.2 nu (i, w.1)))) := (Gd.nil s).addA fun z hz => by
        obtain ⟨y, hy, rfl⟩ := List.mem_map.1 hz
        exact (ok.wok kid.toNat i hi y (by rw [hAB]; exact List.mem_append_left _ hy)).hi
      refine ((S63.below B85).add gq hxhi (G2.len ok)).use fun e w87 he' => ?_
      obtain ⟨rfl, X2, S87, e87, hX2, _⟩ := he'
      refine ⟨rfl, B'.length, by simp, A ++ [x], B', X2, by rw [hAB]; simp, by simp, rfl, ?_, (L63.below B85).grow e87 (fun _ h => .inl h) hX2, (r63.below B85).grow e87 (fun _ h => .inl h) hX2⟩
      rw [List.map_append, addA_append]; exact S87
    · have g' : ¬ A.length < l1 := by have := of_decide_eq_false g; omega
      have : B = [] := by
        cases B with
        | nil => rfl
        | cons x r => simp only [List.length_cons] at hABl; omega
      subst this
      rw [List.append_nil] at hAB
      exact hfin S63 A1 (by rw [he, hAB])
  · -- alternatives
    have hk3 : (s.P.pieces.getD k pSta).kind = 3 := by omega
    have he : s.ends k i = addA [] ((s.P.pieces.getD k pSta).kids.flatMap fun d => s.ends d.toNat i) := ends_alt (c := s.cx) (i := i) hk3 fun d hd => (hkidb d hd).1
    have hkl121 := hsm.kids
    have hkl : r.kl = (s.P.pieces.getD k pSta).kids.length := by have := hr20.kids.1; rw [intC_length] at this; omega
    refine ⟨r.ka, r.kl, r.kc, c15.cell 6, fun m n w' => ∃ (A B : List Int) (X' : Nat → Prop) (d' : Nat → Bool) (sl' : Nat → G3), (s.P.pieces.getD k pSta).kids = A ++ B ∧ n = A.length ∧ m = B.length ∧ SL s k X w b bs X' w' d' sl' (addA [] (A.flatMap fun d => s.ends d.toNat i)) ∧ LocS s [(b15, 111, r.cells)] X' w' ∧ Agr s k d d' sl sl', ⟨_, [], _, _, _, _, rfl, rfl, rfl, S20, L20, hA0⟩, ?_⟩
    rintro m dd n w95 ⟨A, B, X1, d1, sl1, hAB, rfl, rfl, S95, L95, A95⟩
    have hABl : (s.P.pieces.getD k pSta).kids.length = A.length + B.length := by rw [hAB]; simp
    have e1 : Int.toNat (A.length : Int) = A.length := by omega
    have e2 : IntKind.wrap .i64 ((A.length : Int) + 1) = ((A.length + 1 : Nat) : Int) := by rw [w64 (by omega)]; omega
    rw [e1, e2]
    refine ⟨fun g => ?_, fun g => ?_⟩
    · have g' : A.length < r.kl := by have := of_decide_eq_true g; omega
      obtain ⟨x, B', rfl⟩ : ∃ x B', B = x :: B' := by
        cases B with
        | nil => simp only [List.length_nil] at hABl; omega
        | cons x B' => exact ⟨x, B', rfl⟩
      have hxm : x ∈ (s.P.pieces.getD k pSta).kids := by rw [hAB]; simp
      have hkv := (hrw S95.fin).kids
      obtain ⟨bk, hbk, hkc⟩ := hkv.open (by omega)
      have hia := intC_at (s.P.pieces.getD k pSta).kids A.length (by omega)
      have hx : (s.P.pieces.getD k pSta).kids[A.length]'(by omega) = x := by rw [List.getElem_of_eq hAB]; simp
      rw [hx] at hia
      refine ⟨bk, 0, ⟨hbk, by omega, by omega⟩, x, by rw [Nat.zero_add, Nat.mul_one, hkc _ (by omega)]; exact hia, ?_⟩
      have hcall := hsub x hxm k X1 w95 d1 sl1 i (hkidb x hxm).1 S95.fin hi
      rw [(hkidb x hxm).2] at hcall
      refine hcall.use fun e w102 he' => ?_
      obtain ⟨a1, l1, c1, d2, sl2, rfl, r1, f1, A2, e1⟩ := he'
      refine ⟨a1, l1, c1, rfl, ?_⟩
      have G2 : Gd s (addA [] (A.flatMap fun d => s.ends d.toNat i)) := (Gd.nil s).addA fun z hz => by
        obtain ⟨y, _, hz⟩ := List.mem_flatMap.1 hz
        exact (ok.wok y.toNat i hi z hz).hi
      refine addallS ok (S95.call f1 e1) r1 (Nat.le_trans (CxOk.short ok x.toNat i hi) (by decide)) (L95.grow (Y := X1) e1 (fun _ h => .inr h) fun _ h => .inl h) G2 (fun z hz => (ok.wok x.toNat i hi z hz).hi) fun X2 w2 S2 L2 => ⟨B'.length, by simp, A ++ [x], B', X2, d2, sl2, by rw [hAB]; simp, by simp, rfl, ?_, L2, A95.trans A2⟩
      rw [List.flatMap_append, addA_append, List.flatMap_cons, List.flatMap_nil, List.append_nil]; exact S2
    · have g' : ¬ A.length < r.kl := by have := of_decide_eq_false g; omega
      have : B = [] := by
        cases B with
        | nil => rfl
        | cons x r => simp only [List.length_cons] at hABl; omega
      subst this
      rw [List.append_nil] at hAB
      exact hfin S95 A95 (by rw [he, hAB])
  · -- a repetition
    have hk4 : (s.P.pieces.getD k pSta).kind = 4 := by omega
    obtain ⟨kid, hkid⟩ := hpo.one (.inl hk4)
    have hxm : kid ∈ (s.P.pieces.getD k pSta).kids := by rw [hkid]; simp
    have hkd := hkidb kid hxm
    have he : s.ends k i = thenP (repP (s.ends kid.toNat) (s.P.pieces.getD k pSta).min.toNat [(i, gNone)]) (s.more k (leftP (s.P.pieces.getD k pSta))) := ends_rep (c := s.cx) (i := i) hk4 hkid hkd.1
    have hrep := hpo.rep hk4
    have hmin : r.min = (s.P.pieces.getD k pSta).min := hr20.min
    have hmax : r.max = (s.P.pieces.getD k pSta).max := hr20.max
    have hkl : r.kl = 1 := by have := hr20.kids.1; rw [intC_length, hkid] at this; simp at this; omega
    generalize hmn : (s.P.pieces.getD k pSta).min = mn at *
    generalize hmx : (s.P.pieces.getD k pSta).max = mx at *
    have hleft : leftP (s.P.pieces.getD k pSta) = if mx < 0 then none else some (mx - mn).toNat := by unfold leftP; rw [hmx, hmn]
    have hwk : ∀ w ∈ ([(i, gNone)] : List Wy), WOk s.P.groups s.n i w := fun w hw => by simp only [List.mem_singleton] at hw; subst hw; exact .one (Nat.le_refl _) hi
    have hrok : ∀ q, ∀ x ∈ repP (s.ends kid.toNat) q [(i, gNone)], x.1 ≤ s.n := fun q => wok_le (repP_ok (fun p hp => ok.wok kid.toNat p hp) q hwk)
    have hrlen : ∀ q, (repP (s.ends kid.toNat) q [(i, gNone)]).length ≤ 1000 := fun q => dd_len (repP_dd _ q _ (.one _)) (hrok q) hn200
    refine (snone_ok (by omega) (S20.fin.mb.cell 2)).use fun e w125 he' => ?_
    obtain ⟨q, rfl, hq, v125, b125⟩ := he'
    have hl := hXl S20.fin
    have gq := gr_new (s := s) (w' := w125) hl.1 hl.2 hq v125
    refine ⟨_, _, _, rfl, newC_in fun w128 s128 k128 e128 => ?_⟩
    have B128' : Below w125.heap.size w125 w128 := Ext.to (Below.refl _ _) e128 fun _ h => h.elim
    have B128 := b125.vstep B128'
    have hz := b125.size
    have cu : EndsAt s X20 w128 (some ⟨w125.heap.size, 0, none⟩) 1 1 [(i, gNone)] := one_at k128 (gq.below B128') (fun h => by have := hl.1 _ h; omega) ⟨by omega, by omega⟩
    refine ⟨fun m a l cp n w' => ∃ (q : Nat) (d' : Nat → Bool) (sl' : Nat → G3), n = q ∧ q ≤ mn.toNat ∧ m = mn.toNat - q ∧ SL s k X w b bs X20 w' d' sl' [] ∧ LocS s [(b15, 111, r.cells)] X20 w' ∧ Agr s k d d' sl sl' ∧ EndsAt s X20 w' a l cp (repP (s.ends kid.toNat) q [(i, gNone)]), ⟨_, 0, _, _, rfl, Nat.zero_le _, rfl, S20.below B128, L20.below B128, hA0, cu⟩, ?_⟩
    clear cu B128 B128' e128 k128 s128 gq v125 b125 hz hl hq
    rintro m dd a l cp n w132 ⟨q, d1, sl1, rfl, hq, rfl, S132, L132, A132, r132⟩
    have e2 : IntKind.wrap .i64 ((q : Int) + 1) = ((q + 1 : Nat) : Int) := by rw [w64 (by omega)]; omega
    refine ⟨_, (L132.get m15).cell 2, fun g => ?_, fun g => ?_⟩
    · have g' : (q : Int) < mn := by have := of_decide_eq_true g; omega
      have hkv := (hrw S132.fin).kids
      rw [hkid] at hkv
      obtain ⟨bk, hbk, hkc⟩ := hkv.open (by omega)
      refine ⟨_, _, _, (L132.get m15).cell 6, bk, 0, ⟨hbk, by omega, by omega⟩, kid, by rw [hkc 0 (by omega)]; rfl, ?_⟩
      have hcall := sthen_ok (k := kid.toNat) hkd.1 (hsub kid hxm) S132.fin r132 (hrlen q) (hrok q) hn200 (by omega) (fun p hp => wok_le (ok.wok kid.toNat p hp)) (fun p hp => Nat.le_trans (CxOk.short ok kid.toNat p hp) (by decide))
      rw [hkd.2] at hcall
      refine hcall.use fun e w142 he' => ?_
      obtain ⟨a1, l1, c1, d2, sl2, rfl, r1, f1, A2, e1⟩ := he'
      refine ⟨a1, l1, c1, rfl, mn.toNat - (q + 1), by omega, q + 1, d2, sl2, e2, by omega, rfl, S132.call f1 e1, L132.grow e1 (fun _ h => .inr h) (fun _ h => .inl h), A132.trans A2, ?_⟩
      rw [repP_snoc]; exact r1
    · have g' : q = mn.toNat := by have := of_decide_eq_false g; omega
      subst g'
      have ez : IntKind.wrap .i64 ((IntKind.wrap .i64 (((ByteArray.size s.t : Nat) : Int) + 1)) * 52) = (((s.n + 1) * 52 : Nat) : Int) := by
        rw [w64 (n := ((ByteArray.size s.t : Nat) : Int) + 1) (by omega), w64 (by omega)]; omega
      refine ⟨s.t, S132.fin.mb.cell 4, ?_⟩
      dsimp only
      rw [ez]
      obtain ⟨w147, hr147, s147, k147, e147⟩ := makeBools ((s.n + 1) * 52) (by omega) w132
      have Q147 := S132.withSeen e147 s147 k147
      have B147 : Below w132.heap.size w132 w147 := Ext.to (Below.refl _ _) e147 fun _ h => h.elim
      have hY : ∀ y, (X20 y ∨ y = w132.heap.size) → X20 y ∨ w132.heap.size ≤ y := fun y hy => by
        rcases hy with h | h
        · exact .inl h
        · exact .inr (by omega)
      have L147 := L132.grow (Y := fun y => X20 y ∨ y = w132.heap.size) (S := fun _ => False) e147 (fun _ h => h.elim) hY
      have r147 := r132.grow (Y := fun y => X20 y ∨ y = w132.heap.size) (S := fun _ => False) e147 (fun _ h => h.elim) hY
      refine ⟨_, _, _, w147, hr147, _, (L147.get m15).cell 3, fun g2 => ?_, fun g2 => ?_⟩
      · have g2' : 0 ≤ mx := by have : r.max ≥ 0 := of_decide_eq_true g2
                                omega
        have hl2 : decL (mx - mn).toNat = leftP (s.P.pieces.getD k pSta) := by
          rw [hleft, if_neg (by omega)]
          unfold decL
          rw [if_neg (by omega)]
        refine ⟨_, (L147.get m15).cell 3, _, (L147.get m15).cell 2, ?_⟩
        refine goOn ok hkid hkd.2 hkd.1 hrk (hsub kid hxm) (lf := (mx - mn).toNat) (by omega) (by rw [hmin, hmax, w64 (by omega)]; omega) Q147 r147 (hrlen _) L147 (hrok _) A132 fun X2 w' d' sl' sn' Q' A' => ?_
        rw [hl2, ← he] at Q'
        exact hfin Q'.l A' rfl
      · have g2' : ¬ 0 ≤ mx := by have : ¬ r.max ≥ 0 := of_decide_eq_false g2
                                  omega
        have hl2 : decL 51 = leftP (s.P.pieces.getD k pSta) := by
          rw [hleft, if_pos (by omega)]
          rfl
        refine goOn ok hkid hkd.2 hkd.1 hrk (hsub kid hxm) (lf := 51) (by omega) rfl Q147 r147 (hrlen _) L147 (hrok _) A132 fun X2 w' d' sl' sn' Q' A' => ?_
        rw [hl2, ← he] at Q'
        exact hfin Q'.l A' rfl
  · -- a sequence
    have hk2 : (s.P.pieces.getD k pSta).kind = 2 := by have := hpo.kind; omega
    have he : s.ends k i = (s.P.pieces.getD k pSta).kids.foldl (fun cur d => thenP cur (s.ends d.toNat)) [(i, gNone)] := ends_seq (c := s.cx) (i := i) hk2 fun d hd => (hkidb d hd).1
    have hkl121 := hsm.kids
    have hkl : r.kl = (s.P.pieces.getD k pSta).kids.length := by have := hr20.kids.1; rw [intC_length] at this; omega
    refine (snone_ok (by omega) (S20.fin.mb.cell 2)).use fun e w125 he' => ?_
    obtain ⟨q, rfl, hq, v125, b125⟩ := he'
    have hl := hXl S20.fin
    have gq := gr_new (s := s) (w' := w125) hl.1 hl.2 hq v125
    refine ⟨_, _, _, rfl, newC_in fun w128 s128 k128 e128 => ?_⟩
    have B128' : Below w125.heap.size w125 w128 := Ext.to (Below.refl _ _) e128 fun _ h => h.elim
    have B128 := b125.vstep B128'
    have hz := b125.size
    have cu : EndsAt s X20 w128 (some ⟨w125.heap.size, 0, none⟩) 1 1 [(i, gNone)] := one_at k128 (gq.below B128') (fun h => by have := hl.1 _ h; omega) ⟨by omega, by omega⟩
    have L128 := L20.below B128
    refine ⟨r.ka, r.kl, r.kc, (L128.get m15).cell 6, fun m a l cp n w' => ∃ (A B : List Int) (d' : Nat → Bool) (sl' : Nat → G3), (s.P.pieces.getD k pSta).kids = A ++ B ∧ n = A.length ∧ m = B.length ∧ SL s k X w b bs X20 w' d' sl' [] ∧ Agr s k d d' sl sl' ∧ EndsAt s X20 w' a l cp (A.foldl (fun cur d => thenP cur (s.ends d.toNat)) [(i, gNone)]), ⟨_, [], _, _, _, rfl, rfl, rfl, S20.below B128, hA0, cu⟩, ?_⟩
    clear cu L128 B128 B128' e128 k128 s128 gq v125 b125 hz hl hq
    rintro m dd a l cp n w132 ⟨A, B, d1, sl1, hAB, rfl, rfl, S132, A132, r132⟩
    have hABl : (s.P.pieces.getD k pSta).kids.length = A.length + B.length := by rw [hAB]; simp
    have e1 : Int.toNat (A.length : Int) = A.length := by omega
    have e2 : IntKind.wrap .i64 ((A.length : Int) + 1) = ((A.length + 1 : Nat) : Int) := by rw [w64 (by omega)]; omega
    rw [e1, e2]
    have hwk : ∀ w ∈ ([(i, gNone)] : List Wy), WOk s.P.groups s.n i w := fun w hw => by simp only [List.mem_singleton] at hw; subst hw; exact .one (Nat.le_refl _) hi
    have hcok : ∀ x ∈ A.foldl (fun cur d => thenP cur (s.ends d.toNat)) [(i, gNone)], x.1 ≤ s.n := wok_le (seqf_ok (c := s.cx) ok (i := i) A [(i, gNone)] hwk)
    have hclen := dd_len (seqf_dd (c := s.cx) A [(i, gNone)] (.one _)) hcok hn200
    refine ⟨fun g => ?_, fun g => ?_⟩
    · have g' : A.length < r.kl := by have := of_decide_eq_true g; omega
      obtain ⟨x, B', rfl⟩ : ∃ x B', B = x :: B' := by
        cases B with
        | nil => simp only [List.length_nil] at hABl; omega
        | cons x B' => exact ⟨x, B', rfl⟩
      have hxm : x ∈ (s.P.pieces.getD k pSta).kids := by rw [hAB]; simp
      have hkv := (hrw S132.fin).kids
      obtain ⟨bk, hbk, hkc⟩ := hkv.open (by omega)
      have hia := intC_at (s.P.pieces.getD k pSta).kids A.length (by omega)
      have hx : (s.P.pieces.getD k pSta).kids[A.length]'(by omega) = x := by rw [List.getElem_of_eq hAB]; simp
      rw [hx] at hia
      refine ⟨bk, 0, ⟨hbk, by omega, by omega⟩, x, by rw [Nat.zero_add, Nat.mul_one, hkc _ (by omega)]; exact hia, ?_⟩
      have hcall := sthen_ok (k := x.toNat) (hkidb x hxm).1 (hsub x hxm) S132.fin r132 hclen hcok hn200 (by omega) (fun p hp => wok_le (ok.wok x.toNat p hp)) (fun p hp => Nat.le_trans (CxOk.short ok x.toNat p hp) (by decide))
      rw [(hkidb x hxm).2] at hcall
      refine hcall.use fun e w142 he' => ?_
      obtain ⟨a1, l1, c1, d2, sl2, rfl, r1, f1, A2, e1⟩ := he'
      refine ⟨a1, l1, c1, rfl, B'.length, by simp, A ++ [x], B', d2, sl2, by rw [hAB]; simp, by simp, rfl, S132.call f1 e1, A132.trans A2, ?_⟩
      rw [List.foldl_append]; exact r1
    · have g' : ¬ A.length < r.kl := by have := of_decide_eq_false g; omega
      have : B = [] := by
        cases B with
        | nil => rfl
        | cons x r => simp only [List.length_cons] at hABl; omega
      subst this
      rw [List.append_nil] at hAB
      rw [← hAB, ← he] at r132
      exact ⟨_, _, _, d1, sl1, rfl, r132.grow (S := fun _ => False) (Ext.refl _ _) (fun _ h => h.elim) fun y hy => .inl (S132.sub y hy), S132.fin.drop S132.sub, A132, S132.ext⟩
/-- What ends does. -/
theorem ends_ok {s : Sx} (ok : s.ok) : ∀ k, k < s.P.pieces.length → EndsC s k := by
  intro k
  induction k using Nat.strongRecOn with
  | _ k ih =>
  intro hk
  have hpk : s.P.pieces[k]? = some (s.P.pieces.getD k pSta) := by rw [List.getD_eq_getElem?_getD, List.getElem?_eq_getElem hk]; rfl
  have hpo := CxOk.wf ok k _ hpk
  exact ends_of_work ok hk (work_ok ok hk fun d hd => ih d.toNat (by have := hpo.kids d hd; omega) (by have := hpo.kids d hd; omega))
end Go.Proofs.Ytngbiaeliphdjaa.V
/- The two matchers give the same ways. No statement of the seat is proved here. -/
namespace Go.Proofs.Ytngbiaeliphdjaa.V
open Go.Vc Go.Proofs Go.RowKit
set_option linter.unusedVariables false
set_option linter.unusedSimpArgs false
/-- A matcher that stands in memory. -/
structure Mach where
  b : Nat
  inv : (Nat → Prop) → World → Prop
  mods : Nat → Prop
  P : Pat
  t : ByteArray
structure MachOk (M : Mach) : Prop where
  grow : ∀ {X Y S : Nat → Prop} {w w' : World}, M.inv X w → Ext S w w' → (∀ x, S x → X x) → (∀ x, Y x → X x ∨ w.heap.size ≤ x) → (∀ x, Y x → x < w'.heap.size) → M.inv Y w'
  text : ∀ {X : Nat → Prop} {w : World}, M.inv X w → cellH w.heap M.b (0 + 4) = some (.string M.t)
  priv : ∀ {X : Nat → Prop} {w : World} {x : Nat}, M.inv X w → X x → x < w.heap.size ∧ ¬ M.mods x
  modlt : ∀ {X : Nat → Prop} {w : World} {x : Nat}, M.inv X w → M.mods x → x < w.heap.size
  pt : PtOk M.P (L M.t)
theorem MachOk.below {M : Mach} (ok : MachOk M) {X : Nat → Prop} {w w' : World} (h : M.inv X w) (e : Below w.heap.size w w') : M.inv X w' :=
  ok.grow (S := fun _ => False) h (Ext.of_below e) (fun _ h => h.elim) (fun _ h => .inl h) fun x hx => Nat.lt_of_lt_of_le (ok.priv h hx).1 e.size
def RetMsM (M : Mach) (X : Nat → Prop) (w : World) (ms : List Mt) : Ending → World → Prop := fun e w' => ∃ a l c es, e = .returned (.slice a l c) ∧ Ms w.heap.size w' a l c es ∧ es.map (·.1) = ms ∧ M.inv X w' ∧ Ext M.mods w w'
/-- One match more. -/
theorem Ms_app {N : Nat} {w : World} {a : Option Addr} {l c : Nat} {es : List ME} (h : Ms N w a l c es) (hN : N ≤ w.heap.size) {e : ME} (he : MOk w e) (hd : ∀ k ∈ mblk e, k ∉ mblks a es ∧ N ≤ k) (hl : l ≤ 1000) {K : Option Addr → Nat → Nat → World → Prop}
    (hK : ∀ (a2 : Option Addr) (c2 : Nat) (w' : World), Ms N w' a2 (l + 1) c2 (es ++ [e]) → Ext (fun k => k ∈ ob a) w w' → (∀ k, blkOf a2 = some k → blkOf a = some k ∨ w.heap.size ≤ k) → K a2 (l + 1) c2 w') :
    newC (mC e) 29 (fun (b : Nat) (w1 : World) => ∃ (a2 : Option Addr), ∃ (l2 : Nat), ∃ (c2 : Nat), ∃ (w2 : World), (Builtin.append_ #[25, 25] 25 #[.slice a l c, .slice (some ⟨b, 0, none⟩) 1 1]).run Try.prog w1 = .ok (.slice a2 l2 c2) w2 ∧ K a2 l2 c2 w2) w := by
  refine newC_in fun w1 s1 k1 E1 => ?_
  obtain ⟨a2, c2, w', h1, h2, h3, h4⟩ := append_run (P := Try.prog) (T := 25) (T' := 25) (T'' := 25) elemMt.und elemMt.und elemMt.size elemMt.bytes (by rw [show zeroL Try.prog 29 = some _ from elemMt.zero.choose_spec.1]; simp)
    (by rw [show zeroL Try.prog 29 = some _ from elemMt.zero.choose_spec.1]; intro y hy; cases hy; exact elemMt.zero.choose_spec.2) (h.row.keep E1 fun _ _ h => h) (a' := some ⟨w.heap.size, 0, none⟩) (n := 1) (c' := 1) (ys := mC e) rfl rfl (.inr ⟨_, _, rfl, k1.cellsAt (n := 4) rfl rfl⟩) (fun h => by cases h) (by omega) (by omega)
  have E2 : Ext (fun k => k ∈ ob a) w w' := (Ext.mono E1 fun _ _ h => h.elim).trans (Ext.mono h3 fun k _ hk => mem_ob.2 hk)
  have hnd := List.nodup_append.1 h.nodup
  have hsz := E2.size
  have hblk : ∀ k, blkOf a2 = some k → blkOf a = some k ∨ w.heap.size ≤ k := by
    intro k hk
    rcases h4 with rfl | rfl
    · exact .inl hk
    · simp only [blkOf, Option.some.injEq] at hk; exact .inr (by omega)
  refine ⟨a2, l + 1, c2, w', h1, hK a2 c2 w' ⟨by rw [msC_append, msC_one]; exact h2, by simp [h.len], fun x hx => ?_, ?_, fun k hk => ?_⟩ E2 hblk⟩
  · rcases List.mem_append.1 hx with hx | hx
    · exact (h.all x hx).keep E2 fun k hk hka => hnd.2.2 k hka k (List.mem_flatMap.2 ⟨x, hx, hk⟩) rfl
    · rw [List.mem_singleton.1 hx]
      exact he.keep E2 fun k hk hka => (hd k hk).1 (List.mem_append_left _ hka)
  · unfold mblks
    rw [List.flatMap_append, List.flatMap_cons, List.flatMap_nil, List.append_nil, List.nodup_append]
    refine ⟨by unfold ob; cases blkOf a2 <;> simp, ?_, ?_⟩
    · rw [List.nodup_append]
      refine ⟨hnd.2.1, by unfold mblk ob; cases blkOf e.2.1 <;> simp, ?_⟩
      intro x hx y hy hxy
      subst hxy
      exact (hd x hy).1 (List.mem_append_right _ hx)
    · intro x hx y hy hxy
      subst hxy
      rcases hblk x (mem_ob.1 hx) with hx | hx
      · rcases List.mem_append.1 hy with hy | hy
        · exact hnd.2.2 x (mem_ob.2 hx) x hy rfl
        · exact (hd x hy).1 (List.mem_append_left _ (mem_ob.2 hx))
      · rcases List.mem_append.1 hy with hy | hy
        · have := h.lt x (List.mem_append_right _ hy); omega
        · have := he.lt x hy; omega
  · unfold mblks at hk
    rw [List.flatMap_append, List.flatMap_cons, List.flatMap_nil, List.append_nil] at hk
    rcases List.mem_append.1 hk with hk | hk
    · rcases hblk k (mem_ob.1 hk) with h5 | h5
      · exact h.low k (List.mem_append_left _ (mem_ob.2 h5))
      · omega
    · rcases List.mem_append.1 hk with hk | hk
      · exact h.low k (List.mem_append_right _ hk)
      · exact (hd k hk).2
/-! ### The program's -/
def machI (c : Cx) : Mach := ⟨c.bf, FInv c, fun x => x = c.m, c.P, c.t⟩
theorem PtOk.cx {c : Cx} (h : PtOk c.P (L c.t)) : CxOk c := ⟨h.wf, h.g9, h.len, h.n200, h.small⟩
theorem machI_ok {c : Cx} (h : PtOk c.P (L c.t)) : MachOk (machI c) :=
  ⟨fun h e hS hY hl => FInv.grow h e hS hY hl, fun h => FInv.fb h |>.cell 4, fun h hx => ⟨(FInv.priv h _ hx).2.2.2, (FInv.priv h _ hx).2.1⟩, fun h hm => by subst hm; exact (FInv.memo h).lt, h⟩
theorem spI_span (g : Gr) (j : Nat) : spanP g j = (spI g (2 * (j + 1)), spI g (2 * (j + 1) + 1)) := by
  unfold spanP spI
  rw [show 2 * (j + 1) / 2 = j + 1 from by omega, show (2 * (j + 1) + 1) / 2 = j + 1 from by omega]
  have e1 : 2 * (j + 1) % 2 = 0 := by omega
  have e2 : ¬ (2 * (j + 1) + 1) % 2 = 0 := by omega
  cases g (j + 1) with
  | none => rfl
  | some p => simp only [e1, e2, if_true, if_false]
theorem rangeMap_succ {α : Type} (f : Nat → α) (j : Nat) : (List.range (j + 1)).map f = (List.range j).map f ++ [f j] := by rw [List.range_succ, List.map_append]; rfl
theorem fromI_ok {c : Cx} (h : PtOk c.P (L c.t)) {X : Nat → Prop} {w : World} {i : Nat} (hF : FInv c X w) (hi : i ≤ c.n) : Cl Try.prog 80 [.pointer (some ⟨c.bf, 0, none⟩), .int .i64 i] w (RetMsM (machI c) X w (waysP c.P (L c.t) i)) := by
  have ok := PtOk.cx h
  apply vc80
  unfold V80
  have hsz := size_L c.t
  have hnt : c.n = (L c.t).length := rfl
  have hn200 := h.n200
  have hpos := h.pos
  have hlen := h.len
  have hg9 := h.g9
  have hpl := hF.pcs.len'
  refine ⟨fun g => by have := of_decide_eq_true g; omega, fun _ => ⟨c.t, hF.fb.cell 4, fun g => by have := of_decide_eq_true g; omega, fun _ => ⟨_, _, _, hF.fb.cell 3, ?_⟩⟩⟩
  have ek : IntKind.wrap .i64 ((c.pl : Int) - 1) = ((c.P.pieces.length - 1 : Nat) : Int) := by rw [w64 (by omega)]; omega
  dsimp only
  rw [ek]
  refine (ways_ok ok (c.P.pieces.length - 1) (by omega) X w i hF hi).use fun e w7 he => ?_
  obtain ⟨a6, l6, c6, rfl, r7, F7, E7⟩ := he
  refine ⟨a6, l6, c6, rfl, ?_⟩
  have hl6 := r7.len
  have hshort := ok.short (c.P.pieces.length - 1) i hi
  have hwl : (waysP c.P (L c.t) i) = (c.ends (c.P.pieces.length - 1) i).map (mtP c.P.groups i) := rfl
  rw [hwl]
  generalize c.ends (c.P.pieces.length - 1) i = S at *
  have hz7 := E7.size
  refine ⟨fun k a l cp n w' => ∃ (A B : List Wy) (es : List ME), S = A ++ B ∧ n = A.length ∧ k = B.length ∧ Ms w7.heap.size w' a l cp es ∧ es.map (·.1) = A.map (mtP c.P.groups i) ∧ Below w7.heap.size w7 w', ⟨_, [], S, [], rfl, rfl, rfl, Ms.nil _ _, rfl, Below.refl _ _⟩, ?_⟩
  rintro k d a l cp n w12 ⟨A, B, es, hAB, rfl, rfl, M12, hes, B12⟩
  have hABl : S.length = A.length + B.length := by rw [hAB]; simp
  have e0 : Int.toNat (A.length : Int) = A.length := by omega
  have e1 : IntKind.wrap .i64 ((A.length : Int) + 1) = ((A.length + 1 : Nat) : Int) := by rw [w64 (by omega)]; omega
  rw [e0, e1]
  have hll : l = A.length := by have h1 := M12.len; have h2 := congrArg List.length hes; simp only [List.length_map] at h2; omega
  refine ⟨fun g => ?_, fun g => ?_⟩
  · have g' : A.length < l6 := by have := of_decide_eq_true g; omega
    obtain ⟨x, B', rfl⟩ : ∃ x B', B = x :: B' := by
      cases B with
      | nil => simp only [List.length_nil] at hABl; omega
      | cons x B' => exact ⟨x, B', rfl⟩
    have r12 := r7.below B12
    have F12 := F7.below B12
    rw [hAB] at r12
    obtain ⟨ba, hba, _, hx1, hx2⟩ := r12.elem
    refine ⟨ba, 0, ⟨hba, by omega, by omega⟩, _, hx1, _, hx2, ?_⟩
    refine newC_in fun w21 s21 k21 e21 => ?_
    generalize hb20 : w12.heap.size = b20 at *
    refine copy_way k21 rfl x fun w22 s22 k22 e22 => ?_
    refine ⟨_, k22.way.1, newC_in fun w25 s25 k25 e25 => ?_⟩
    generalize hb24 : w22.heap.size = b24 at *
    refine stW_in k25 (by show 0 + 4 ≤ 4; decide) fun w26 s26 k26 e26 => ?_
    have k26' : Blk w26.heap b24 29 [.bool true, .int .i64 (i : Int), .int .i64 (x.1 : Int), .slice none 0 0] := k26
    have hz12 := B12.size
    have B26 : Below w12.heap.size w12 w26 := Ext.to (Ext.to (Ext.to (Ext.to (Below.refl _ _) e21 fun _ h => h.elim) e22 fun i hi => by omega) e25 fun _ h => h.elim) e26 fun i hi => by omega
    have k20 : Blk w26.heap b20 142 (wayC x) := (k22.keep e25 fun h => h).keep e26 (by omega)
    refine ⟨fun m n w' => ∃ (j : Nat) (a : Option Addr) (l cp : Nat), n = ((j + 1 : Nat) : Int) ∧ j ≤ c.P.groups ∧ m = c.P.groups - j ∧ l = j ∧ Blk w'.heap b24 29 [.bool true, .int .i64 (i : Int), .int .i64 (x.1 : Int), .slice a l cp] ∧ Row w26.heap.size w' 31 2 a l cp (rngC ((List.range j).map (spanP x.2))) ∧ Ext (fun k => k = b24) w26 w', ⟨_, 0, none, 0, 0, rfl, Nat.zero_le _, rfl, rfl, k26', Row.nil _ _ (Nat.le_refl _), Ext.refl _ _⟩, ?_⟩
    rintro m d n w30 ⟨j, ag, lg, cg, rfl, hj, rfl, rfl, k30, R30, E30⟩
    have e2 : IntKind.wrap .i64 (((lg + 1 : Nat) : Int) + 1) = ((lg + 1 + 1 : Nat) : Int) := by rw [w64 (by omega)]; omega
    have k20' := k20.keep E30 (by omega)
    have B30 : Below w12.heap.size w12 w30 := Ext.to B26 E30 fun i hi => by omega
    have F30 := F12.below B30
    refine ⟨_, F30.fb.cell 2, fun g2 => ?_, fun g2 => ?_⟩
    · have g2' : lg + 1 ≤ c.P.groups := by have := of_decide_eq_true g2; omega
      refine drw_in fun w34 q34 e34 => ?_
      have k34 := k30.keep e34 fun h => h
      have k20'' := k20'.keep e34 fun h => h
      have R34 := R30.keep e34 fun _ _ h => h
      have e3 : Int.toNat ((lg + 1 : Nat) : Int) = lg + 1 := by omega
      rw [e3]
      have hway := k20''.way.2
      have hc1 : cellH w34.heap b20 (1 + (lg + 1) * 2) = some (.int .i64 (spI x.2 (2 * (lg + 1)))) := by
        have := hway ((lg + 1) * 2) (by omega)
        rw [show 2 * (lg + 1) = (lg + 1) * 2 from by omega]; exact this
      have hc2 : cellH w34.heap b20 (1 + (lg + 1) * 2 + 1) = some (.int .i64 (spI x.2 (2 * (lg + 1) + 1))) := by
        have := hway ((lg + 1) * 2 + 1) (by omega)
        rw [show 2 * (lg + 1) + 1 = (lg + 1) * 2 + 1 from by omega]; exact this
      have hg : rngC ((List.range (lg + 1)).map (spanP x.2)) = rngC ((List.range lg).map (spanP x.2)) ++ [.int .i64 (spI x.2 (2 * (lg + 1))), .int .i64 (spI x.2 (2 * (lg + 1) + 1))] := by
        rw [rangeMap_succ, rngC_append, spI_span]; rfl
      refine ⟨_, _, _, k34.cell 3, ⟨by omega, by omega⟩, _, hc1, _, hc2, newC_in fun w39 s39 k39 e39 => ⟨(k34.keep e39 fun h => h).cell 3, ?_⟩⟩
      obtain ⟨a2, c2, w41, q1, q2, q3⟩ := (R34.keep e39 fun _ _ h => h).app elemSpan (n := 1) (c' := 1) (a' := some ⟨w34.heap.size, 0, none⟩) rfl rfl (.inr ⟨_, _, rfl, k39.cellsAt (n := 2) rfl rfl⟩) (by omega) (by omega)
      refine ⟨a2, lg + 1, c2, w41, q1, ?_⟩
      have hl24 := k26'.lt
      have k41 := (k34.keep e39 fun h => h).keep q3 (by omega)
      refine stW_in k41 (by show 3 + 1 ≤ 4; decide) fun w42 s42 k42 e42 => ⟨c.P.groups - (lg + 1), by omega, lg + 1, a2, lg + 1, c2, e2, by omega, rfl, rfl, k42, ?_, ?_⟩
      · rw [hg]
        exact q2.keep e42 fun b hb h => by omega
      · have E39 : Ext (fun k => k = b24) w26 w39 := (E30.trans (Ext.mono e34 fun _ _ h => h.elim)).trans (Ext.mono e39 fun _ _ h => h.elim)
        exact (E39.step q3 fun i h1 h2 => by omega).trans e42
    · have g2' : lg = c.P.groups := by have : ¬ (((lg + 1 : Nat) : Int) ≤ c.P.groups) := of_decide_eq_false g2
                                       omega
      subst g2'
      refine ⟨_, k30.cell 0, _, k30.cell 1, _, k30.cell 2, _, _, _, k30.cell 3, ?_⟩
      have M30 := M12.below (w' := w30) B30
      have hz30 := B30.size
      have hz26 := E30.size
      have hl24 := k26'.lt
      refine Ms_app (e := (mtP c.P.groups i x, (ag, c.P.groups, cg))) M30 (by omega) R30.1 (fun k hk => ?_) (by omega) fun a2 c2 w51 M51 E51 hb51 => ⟨B'.length, by simp, A ++ [x], B', es ++ [(mtP c.P.groups i x, (ag, c.P.groups, cg))], by rw [hAB]; simp, by simp, rfl, M51, by rw [List.map_append, hes]; simp, ?_⟩
      · have := R30.2.1 k (mem_ob.1 hk)
        refine ⟨fun h => ?_, by omega⟩
        have := M12.lt k h
        omega
      · exact Ext.to (B12.vstep B30) E51 fun i hi => M12.low i (List.mem_append_left _ hi)
  · have g' : ¬ A.length < l6 := by have := of_decide_eq_false g; omega
    have : B = [] := by
      cases B with
      | nil => rfl
      | cons x r => simp only [List.length_cons] at hABl; omega
    subst this
    rw [List.append_nil] at hAB
    subst hAB
    exact ⟨a, l, cp, es, rfl, M12.mono hz7, hes, F7.below B12, E7.trans (Ext.of_below B12)⟩
end Go.Proofs.Ytngbiaeliphdjaa.V
/- The reference's matcher gives the same ways. No statement of the seat is proved here. -/
namespace Go.Proofs.Ytngbiaeliphdjaa.V
open Go.Vc Go.Proofs Go.RowKit
set_option linter.unusedVariables false
set_option linter.unusedSimpArgs false
def machS (s : Sx) : Mach := ⟨s.bm, fun X w => ∃ d sl, STab s s.P.pieces.length X w d sl, fun x => x = s.bd ∨ x = s.bl, s.P, s.t⟩
theorem PtOk.sx {s : Sx} (h : PtOk s.P (L s.t)) : s.ok := ⟨h.wf, h.g9, h.len, h.n200, h.small⟩
theorem machS_ok {s : Sx} (h : PtOk s.P (L s.t)) : MachOk (machS s) :=
  ⟨fun ⟨d, sl, h⟩ e hS hY hl => ⟨d, sl, h.grow e hS hY hl⟩, fun ⟨d, sl, h⟩ => h.mb.cell 4, fun ⟨d, sl, h⟩ hx => ⟨(h.priv _ hx).2.2.2.2, fun hm => by
    rcases hm with hm | hm
    · exact (h.priv _ hx).2.1 hm
    · exact (h.priv _ hx).2.2.1 hm⟩, fun ⟨d, sl, h⟩ hm => by
    rcases hm with rfl | rfl
    · exact h.db.lt
    · exact h.lb.lt, h⟩
theorem spS_span (g : Gr) (j : Nat) : spanP g j = if spS g (2 * j) = -2 then (-1, -1) else (spS g (2 * j), spS g (2 * j + 1)) := by
  unfold spanP spS
  rw [show 2 * j / 2 = j from by omega, show (2 * j + 1) / 2 = j from by omega]
  have e1 : 2 * j % 2 = 0 := by omega
  have e2 : ¬ (2 * j + 1) % 2 = 0 := by omega
  cases g (j + 1) with
  | none => simp only [e1, if_true]
  | some p =>
    simp only [e1, e2, if_true, if_false]
    rw [if_neg (by omega)]
theorem waysS_ok {s : Sx} (h : PtOk s.P (L s.t)) {X : Nat → Prop} {w : World} {d0 : Nat → Bool} {sl0 : Nat → G3} {i : Nat} (hF : STab s s.P.pieces.length X w d0 sl0) (hi : i ≤ s.n) : Cl Try.prog 88 [.pointer (some ⟨s.bm, 0, none⟩), .int .i64 i] w (RetMsM (machS s) X w (waysP s.P (L s.t) i)) := by
  have ok := PtOk.sx h
  apply vc88
  unfold V88
  have hsz := size_L s.t
  have hnt : s.n = (L s.t).length := rfl
  have hn200 := h.n200
  have hpos := h.pos
  have hlen := h.len
  have hg9 := h.g9
  have hpl := hF.pcs.len'
  refine ⟨_, _, _, hF.mb.cell 3, ?_⟩
  have ek : IntKind.wrap .i64 ((s.pl : Int) - 1) = ((s.P.pieces.length - 1 : Nat) : Int) := by rw [w64 (by omega)]; omega
  dsimp only
  rw [ek]
  refine (ends_ok ok (s.P.pieces.length - 1) (by omega) s.P.pieces.length X w d0 sl0 i (by omega) hF hi).use fun e w7 he => ?_
  obtain ⟨a6, l6, c6, d1, sl1, rfl, r7, F7, _, E7⟩ := he
  refine ⟨a6, l6, c6, rfl, ?_⟩
  have hl6 := r7.len
  have hshort : (s.ends (s.P.pieces.length - 1) i).length ≤ 201 := CxOk.short ok (s.P.pieces.length - 1) i hi
  have hwl : (waysP s.P (L s.t) i) = (s.ends (s.P.pieces.length - 1) i).map (mtP s.P.groups i) := rfl
  rw [hwl]
  generalize s.ends (s.P.pieces.length - 1) i = S at *
  have hz7 := E7.size
  refine ⟨fun k a l cp n w' => ∃ (A B : List Wy) (es : List ME), S = A ++ B ∧ n = A.length ∧ k = B.length ∧ Ms w7.heap.size w' a l cp es ∧ es.map (·.1) = A.map (mtP s.P.groups i) ∧ Below w7.heap.size w7 w', ⟨_, [], S, [], rfl, rfl, rfl, Ms.nil _ _, rfl, Below.refl _ _⟩, ?_⟩
  rintro k d a l cp n w12 ⟨A, B, es, hAB, rfl, rfl, M12, hes, B12⟩
  have hABl : S.length = A.length + B.length := by rw [hAB]; simp
  have e0 : Int.toNat (A.length : Int) = A.length := by omega
  have e1 : IntKind.wrap .i64 ((A.length : Int) + 1) = ((A.length + 1 : Nat) : Int) := by rw [w64 (by omega)]; omega
  rw [e0, e1]
  have hll : l = A.length := by have h1 := M12.len; have h2 := congrArg List.length hes; simp only [List.length_map] at h2; omega
  refine ⟨fun g => ?_, fun g => ?_⟩
  · have g' : A.length < l6 := by have := of_decide_eq_true g; omega
    obtain ⟨x, B', rfl⟩ : ∃ x B', B = x :: B' := by
      cases B with
      | nil => simp only [List.length_nil] at hABl; omega
      | cons x B' => exact ⟨x, B', rfl⟩
    have r12 := r7.below B12
    rw [hAB] at r12
    obtain ⟨ba, gx, hba, _, hx1, hx2, gr12⟩ := r12.elem
    refine ⟨ba, 0, ⟨hba, by omega, by omega⟩, _, hx1, _, _, _, hx2, ?_⟩
    refine newC_in fun w21 s21 k21 e21 => ?_
    generalize hb20 : w12.heap.size = b20 at *
    refine stW_in k21 (by show 0 + 2 ≤ 2; decide) fun w22 s22 k22 e22 => ?_
    have k22' : Blk w22.heap b20 150 [.int .i64 (x.1 : Int), .slice gx.1 gx.2.1 gx.2.2] := k22
    refine ⟨_, k22'.cell 0, newC_in fun w25 s25 k25 e25 => ?_⟩
    generalize hb24 : w22.heap.size = b24 at *
    refine stW_in k25 (by show 0 + 4 ≤ 4; decide) fun w26 s26 k26 e26 => ?_
    have k26' : Blk w26.heap b24 29 [.bool true, .int .i64 (i : Int), .int .i64 (x.1 : Int), .slice none 0 0] := k26
    have hz12 := B12.size
    have B26 : Below w12.heap.size w12 w26 := Ext.to (Ext.to (Ext.to (Ext.to (Below.refl _ _) e21 fun _ h => h.elim) e22 fun i hi => by omega) e25 fun _ h => h.elim) e26 fun i hi => by omega
    have k20 : Blk w26.heap b20 150 [.int .i64 (x.1 : Int), .slice gx.1 gx.2.1 gx.2.2] := (k22'.keep e25 fun h => h).keep e26 (by omega)
    have hgl : gx.2.1 = s.P.groups := by have := gr12.1.1; rw [sgC_length] at this; omega
    refine ⟨_, _, _, k20.cell 1, fun m n w' => ∃ (j : Nat) (a : Option Addr) (l cp : Nat), n = (j : Int) ∧ j ≤ s.P.groups ∧ m = s.P.groups - j ∧ l = j ∧ Blk w'.heap b24 29 [.bool true, .int .i64 (i : Int), .int .i64 (x.1 : Int), .slice a l cp] ∧ Row w26.heap.size w' 31 2 a l cp (rngC ((List.range j).map (spanP x.2))) ∧ Ext (fun k => k = b24) w26 w', ⟨_, 0, none, 0, 0, rfl, Nat.zero_le _, rfl, rfl, k26', Row.nil _ _ (Nat.le_refl _), Ext.refl _ _⟩, ?_⟩
    rintro m d n w30 ⟨j, ag, lg, cg, rfl, hj, rfl, rfl, k30, R30, E30⟩
    have e2 : IntKind.wrap .i64 ((lg : Int) + 1) = ((lg + 1 : Nat) : Int) := by rw [w64 (by omega)]; omega
    have B30 : Below w12.heap.size w12 w30 := Ext.to B26 E30 fun i hi => by omega
    have hz30 := B30.size
    have hz26 := E30.size
    have hl24 := k26'.lt
    have e3 : Int.toNat (lg : Int) = lg := by omega
    rw [e3]
    refine ⟨fun g2 => ?_, fun g2 => ?_⟩
    · have g2' : lg < s.P.groups := by have := of_decide_eq_true g2; omega
      have gr30 := gr12.1.keep (S := fun _ => False) (Ext.of_below B30) fun _ _ h => h
      obtain ⟨bg, hbg, hgc⟩ := gr30.open (by omega)
      have hc1 : cellH w30.heap bg (0 + lg * 2) = some (.int .i64 (spS x.2 (2 * lg))) := by
        rw [Nat.zero_add, hgc _ (by omega), show lg * 2 = 2 * lg from by omega]; exact rowN_get _ (by omega)
      have hc2 : cellH w30.heap bg (0 + lg * 2 + 1) = some (.int .i64 (spS x.2 (2 * lg + 1))) := by
        rw [Nat.zero_add, hgc _ (by omega), show lg * 2 + 1 = 2 * lg + 1 from by omega]; exact rowN_get _ (by omega)
      refine ⟨bg, 0, ⟨hbg, by omega, by omega⟩, _, hc1, _, hc2, ?_⟩
      refine newC_in fun w38 s38 k38 e38 => ?_
      generalize hb37 : w30.heap.size = b37 at *
      refine stW_in k38 (by show 0 + 2 ≤ 2; decide) fun w39 s39 k39 e39 => ?_
      have k39' : Blk w39.heap b37 31 [.int .i64 (spS x.2 (2 * lg)), .int .i64 (spS x.2 (2 * lg + 1))] := k39
      have B39 : Below w30.heap.size w30 w39 := Ext.to (Ext.to (Below.refl _ _) e38 fun _ h => h.elim) e39 fun i hi => by omega
      -- a span is appended
      have happ : ∀ {w41 : World} {p : Int × Int} {cs : List Value}, Below w30.heap.size w30 w41 → spanP x.2 lg = p → newC [.int .i64 p.1, .int .i64 p.2] 31 (fun (b45 : Nat) (w46 : World) => ∃ (a47 : Option Addr), ∃ (l47 : Nat), ∃ (c47 : Nat), ∃ (w48 : World), (Builtin.append_ #[27, 27] 27 #[.slice ag lg cg, .slice (some ⟨b45, 0, none⟩) 1 1]).run Try.prog w46 = .ok (.slice a47 l47 c47) w48 ∧ stW b24 3 [.slice a47 l47 c47] (fun (w49 : World) => (∃ (m50 : Nat), m50 < s.P.groups - lg ∧ ∃ (j : Nat) (a : Option Addr) (l cp : Nat), (IntKind.wrap .i64 ((lg : Int) + 1)) = (j : Int) ∧ j ≤ s.P.groups ∧ m50 = s.P.groups - j ∧ l = j ∧ Blk w49.heap b24 29 [.bool true, .int .i64 (i : Int), .int .i64 (x.1 : Int), .slice a l cp] ∧ Row w26.heap.size w49 31 2 a l cp (rngC ((List.range j).map (spanP x.2))) ∧ Ext (fun k => k = b24) w26 w49)) w48) w41 := by
        intro w41 p cs B41 hp
        refine newC_in fun w46 s46 k46 e46 => ?_
        have B46 : Below w30.heap.size w30 w46 := Ext.to B41 e46 fun _ h => h.elim
        obtain ⟨a2, c2, w48, q1, q2, q3⟩ := (R30.below B46).app elemSpan (n := 1) (c' := 1) (a' := some ⟨w41.heap.size, 0, none⟩) (ys := [.int .i64 p.1, .int .i64 p.2]) rfl rfl (.inr ⟨_, _, rfl, k46.cellsAt (n := 2) rfl rfl⟩) (by omega) (by omega)
        have k48 := (k30.below B46).keep q3 (by omega)
        refine ⟨a2, lg + 1, c2, w48, q1, stW_in k48 (by show 3 + 1 ≤ 4; decide) fun w49 s49 k49 e49 => ⟨s.P.groups - (lg + 1), by omega, lg + 1, a2, lg + 1, c2, e2, by omega, rfl, rfl, k49, ?_, ?_⟩⟩
        · rw [rangeMap_succ, rngC_append, hp]
          exact q2.keep e49 fun b hb h => by omega
        · exact ((E30.trans (Ext.of_below B46)).step q3 fun i h1 h2 => by omega).trans e49
      refine ⟨_, k39'.cell 0, fun g3 => ?_, fun g3 => ?_⟩
      · have g3' : spS x.2 (2 * lg) = -2 := by simpa using g3
        refine stW_in k39' (by show 0 + 2 ≤ 2; decide) fun w41 s41 k41 e41 => ?_
        have k41' : Blk w41.heap b37 31 [.int .i64 (-1), .int .i64 (-1)] := k41
        have B41 : Below w30.heap.size w30 w41 := Ext.to B39 e41 fun i hi => by omega
        refine ⟨_, _, _, (k30.below B41).cell 3, _, k41'.cell 0, _, k41'.cell 1, ?_⟩
        exact happ (p := (-1, -1)) (cs := []) B41 (by rw [spS_span, if_pos g3'])
      · have g3' : ¬ spS x.2 (2 * lg) = -2 := by simpa using g3
        refine ⟨_, _, _, (k30.below B39).cell 3, _, k39'.cell 0, _, k39'.cell 1, ?_⟩
        exact happ (p := (spS x.2 (2 * lg), spS x.2 (2 * lg + 1))) (cs := []) B39 (by rw [spS_span, if_neg g3'])
    · have g2' : lg = s.P.groups := by have := of_decide_eq_false g2
                                       omega
      subst g2'
      refine ⟨_, k30.cell 0, _, k30.cell 1, _, k30.cell 2, _, _, _, k30.cell 3, ?_⟩
      have M30 := M12.below (w' := w30) B30
      refine Ms_app (e := (mtP s.P.groups i x, (ag, s.P.groups, cg))) M30 (by omega) R30.1 (fun k hk => ?_) (by omega) fun a2 c2 w51 M51 E51 hb51 => ⟨B'.length, by simp, A ++ [x], B', es ++ [(mtP s.P.groups i x, (ag, s.P.groups, cg))], by rw [hAB]; simp, by simp, rfl, M51, by rw [List.map_append, hes]; simp, ?_⟩
      · have := R30.2.1 k (mem_ob.1 hk)
        refine ⟨fun h => ?_, by omega⟩
        have := M12.lt k h
        omega
      · exact Ext.to (B12.vstep B30) E51 fun i hi => M12.low i (List.mem_append_left _ hi)
  · have g' : ¬ A.length < l6 := by have := of_decide_eq_false g; omega
    have : B = [] := by
      cases B with
      | nil => rfl
      | cons x r => simp only [List.length_cons] at hABl; omega
    subst this
    rw [List.append_nil] at hAB
    subst hAB
    exact ⟨a, l, cp, es, rfl, M12.mono hz7, hes, ⟨d1, sl1, F7.below B12⟩, E7.trans (Ext.of_below B12)⟩
end Go.Proofs.Ytngbiaeliphdjaa.V
/- Finding, and all that is found, on a matcher that stands in memory. No statement of the seat is proved here. -/
namespace Go.Proofs.Ytngbiaeliphdjaa.V
open Go.Vc Go.Proofs Go.RowKit
set_option linter.unusedVariables false
set_option linter.unusedSimpArgs false
def RetMM (M : Mach) (X : Nat → Prop) (w : World) (m : Mt) : Ending → World → Prop := fun e w' => ∃ g : G3', e = .returned (.agg ⟨mC (m, g)⟩) ∧ MOk w' (m, g) ∧ (∀ k, blkOf g.1 = some k → w.heap.size ≤ k) ∧ M.inv X w' ∧ Ext M.mods w w'
theorem seg4 {z : List Value} (hz : z.length = 4) (a b c d : Value) : segSet z 0 [a, b, c, d] = [a, b, c, d] := by
  rw [segSet_eq _ _ _ (by rw [hz]; show 0 + 4 ≤ 4; decide), List.drop_of_length_le (by rw [hz]; show 4 ≤ 0 + 4; decide)]
  simp
theorem findLoop {M : Mach} (ok : MachOk M) {f : FuncId} (hf : ∀ (X : Nat → Prop) (w : World) (i : Nat), M.inv X w → i ≤ (L M.t).length → Cl Try.prog f [.pointer (some ⟨M.b, 0, none⟩), .int .i64 i] w (RetMsM M X w (waysP M.P (L M.t) i))) {X : Nat → Prop} {w0 w1 : World} {b : Nat} (h : M.inv X w0) (hb : w0.heap.size ≤ b) {z : List Value} (hz : z.length = 4) (k1 : Blk w1.heap b 29 z) (B1 : Below w0.heap.size w0 w1) {i : Nat} {R : Ending → World → Prop} (hR : ∀ e w', RetMM M X w0 (findP M.P (L M.t) i) e w' → R e w') :
    ∃ (I6 : Nat → Int → World → Prop), (∃ (k8 : Nat), I6 k8 (i : Int) w1) ∧ ∀ (k7 : Nat) (d10 : Nat → Value) (n11 : Int) (w9 : World), I6 k7 n11 w9 → ∃ (s12 : ByteArray), cellH w9.heap M.b (0 + 4) = some (.string s12) ∧ (((decide ((n11 : Int) ≤ ((ByteArray.size s12 : Nat) : Int))) = true → Cl Try.prog f ([.pointer (some ⟨M.b, 0, none⟩), .int .i64 n11]) w9 (retG (fun (r15 : Value) (w14 : World) => ∃ (a13 : Option Addr), ∃ (l13 : Nat), ∃ (c13 : Nat), r15 = .slice a13 l13 c13 ∧ (((decide ((((l13 : Nat) : Int) : Int) > 0)) = true → ∃ (b16 : Nat) (o17 : Nat), ((a13 : Option Addr) = some ⟨b16, o17, none⟩ ∧ 0 ≤ (0 : Int) ∧ (0 : Int) < ((l13 : Nat) : Int)) ∧ ∃ (t18 : Bool), cellH w14.heap b16 o17 = some (.bool t18) ∧ ∃ (n19 : Int), cellH w14.heap b16 (o17 + 1) = some (.int .i64 n19) ∧ ∃ (n20 : Int), cellH w14.heap b16 (o17 + 2) = some (.int .i64 n20) ∧ ∃ (a21 : Option Addr), ∃ (l21 : Nat), ∃ (c21 : Nat), cellH w14.heap b16 (o17 + 3) = some (.slice a21 l21 c21) ∧ stW b 0 [.bool t18, .int .i64 n19, .int .i64 n20, .slice a21 l21 c21] (fun (w22 : World) => ∃ (t23 : Bool), cellH w22.heap b 0 = some (.bool t23) ∧ ∃ (n24 : Int), cellH w22.heap b 1 = some (.int .i64 n24) ∧ ∃ (n25 : Int), cellH w22.heap b 2 = some (.int .i64 n25) ∧ ∃ (a26 : Option Addr), ∃ (l26 : Nat), ∃ (c26 : Nat), cellH w22.heap b 3 = some (.slice a26 l26 c26) ∧ R (.returned (.agg #[.bool t23, .int .i64 n24, .int .i64 n25, .slice a26 l26 c26])) w22) w14) ∧ ((decide ((((l13 : Nat) : Int) : Int) > 0)) = false → (∃ (m27 : Nat), m27 < k7 ∧ I6 m27 (IntKind.wrap .i64 (n11 + 1)) w14)))) (fun c1 w1' => R (.panicked c1) w1'))) ∧ ((decide ((n11 : Int) ≤ ((ByteArray.size s12 : Nat) : Int))) = false → stW b 0 [.bool false, .int .i64 0, .int .i64 0, .slice none 0 0] (fun (w28 : World) => ∃ (t29 : Bool), cellH w28.heap b 0 = some (.bool t29) ∧ ∃ (n30 : Int), cellH w28.heap b 1 = some (.int .i64 n30) ∧ ∃ (n31 : Int), cellH w28.heap b 2 = some (.int .i64 n31) ∧ ∃ (a32 : Option Addr), ∃ (l32 : Nat), ∃ (c32 : Nat), cellH w28.heap b 3 = some (.slice a32 l32 c32) ∧ R (.returned (.agg #[.bool t29, .int .i64 n30, .int .i64 n31, .slice a32 l32 c32])) w28) w9)) := by
  have hsz := size_L M.t
  have hn200 := ok.pt.n200
  have hlb := k1.lt
  have h1 : M.inv (fun x => X x ∨ x = b) w1 := ok.grow (S := fun _ => False) h (Ext.of_below B1) (fun _ h => h.elim) (fun x hx => by
    rcases hx with hx | rfl
    · exact .inl hx
    · exact .inr hb) fun x hx => by
    rcases hx with hx | rfl
    · exact Nat.lt_of_lt_of_le (ok.priv h hx).1 B1.size
    · exact hlb
  have hmods : ¬ M.mods b := (ok.priv h1 (.inr rfl)).2
  have hback : ∀ {w' w'' : World}, M.inv (fun x => X x ∨ x = b) w' → Ext (fun x => x = b) w' w'' → M.inv X w'' := fun h' e => ok.grow h' e (fun x hx => .inr hx) (fun x hx => .inl (.inl hx)) fun x hx => Nat.lt_of_lt_of_le (ok.priv h' (.inl hx)).1 e.size
  refine ⟨fun k n w' => ∃ j : Nat, n = j ∧ k = (L M.t).length + 1 - j ∧ findP M.P (L M.t) i = findP M.P (L M.t) j ∧ Blk w'.heap b 29 z ∧ M.inv (fun x => X x ∨ x = b) w' ∧ Ext M.mods w0 w', ⟨_, i, rfl, rfl, rfl, k1, h1, Ext.of_below B1⟩, ?_⟩
  rintro k d n w2 ⟨j, rfl, rfl, hj, k2, i2, E2⟩
  refine ⟨M.t, ok.text i2, fun g => ?_, fun g => ?_⟩
  · have g' : j ≤ (L M.t).length := by have := of_decide_eq_true g; omega
    refine (hf _ w2 j i2 g').use fun e w3 he => ?_
    obtain ⟨a, l, c, es, rfl, M3, hes, i3, E3⟩ := he
    have hl := M3.len
    have hz2 := E2.size
    have hz3 := E3.size
    have k3 := k2.keep E3 hmods
    refine ⟨a, l, c, rfl, fun g2 => ?_, fun g2 => ?_⟩
    · have g2' : 0 < l := by have := of_decide_eq_true g2; omega
      obtain ⟨e, es', rfl⟩ : ∃ x B', es = x :: B' := by
        cases es with
        | nil => simp only [List.length_nil] at hl; omega
        | cons x B' => exact ⟨x, B', rfl⟩
      obtain ⟨ba, hba, hc⟩ := M3.cells (i := 0) (by simp)
      refine ⟨ba, 0, ⟨hba, by omega, by omega⟩, _, hc 0 (by decide), _, hc 1 (by decide), _, hc 2 (by decide), _, _, _, hc 3 (by decide), ?_⟩
      refine stW_in k3 (by rw [hz]; show 0 + 4 ≤ 4; decide) fun w4 s4 k4 e4 => ?_
      have k4' : Blk w4.heap b 29 (mC e) := by
        rw [seg4 hz] at k4
        exact k4
      have hfe : findP M.P (L M.t) i = e.1 := by
        rw [List.map_cons] at hes
        rw [hj, findP, if_pos g', ← hes]
      refine ⟨_, k4'.cell 0, _, k4'.cell 1, _, k4'.cell 2, _, _, _, k4'.cell 3, hR _ _ ⟨e.2, by rw [hfe]; rfl, ?_, fun q hq => ?_, hback i3 e4, (E2.trans E3).step e4 fun q hq hqb => by omega⟩⟩
      · rw [hfe]
        refine (M3.all e (List.mem_cons_self ..)).keep e4 fun q hq hqb => ?_
        have h1 := M3.low q (mem_mblks (List.mem_cons_self ..) hq)
        have h2 := k2.lt
        omega
      · have := M3.low q (mem_mblks (List.mem_cons_self ..) (mem_ob.2 hq)); omega
    · have g2' : l = 0 := by have := of_decide_eq_false g2; omega
      have : es = [] := by cases es with
        | nil => rfl
        | cons x r => simp only [List.length_cons] at hl; omega
      subst this
      refine ⟨(L M.t).length + 1 - (j + 1), by omega, j + 1, by rw [w64 (by omega)]; omega, rfl, ?_, k3, i3, E2.trans E3⟩
      rw [hj, findP, if_pos g', ← hes]
      rfl
  · have g' : ¬ j ≤ (L M.t).length := by have := of_decide_eq_false g; omega
    refine stW_in k2 (by rw [hz]; show 0 + 4 ≤ 4; decide) fun w4 s4 k4 e4 => ?_
    have k4' : Blk w4.heap b 29 [.bool false, .int .i64 0, .int .i64 0, .slice none 0 0] := by
      rw [seg4 hz] at k4
      exact k4
    have hm : findP M.P (L M.t) i = mt0 := by rw [hj, findP, if_neg g']
    exact ⟨_, k4'.cell 0, _, k4'.cell 1, _, k4'.cell 2, _, _, _, k4'.cell 3, hR _ _ ⟨(none, 0, 0), by rw [hm]; rfl, by rw [hm]; exact Vec.nil _ _ _, (by intro q hq; cases hq), hback i2 e4, E2.step e4 fun q hq hqb => by omega⟩⟩
theorem allLoopS {M : Mach} (ok : MachOk M) {f : FuncId} (hf : ∀ (X : Nat → Prop) (w : World) (i : Nat), M.inv X w → i ≤ (L M.t).length → Cl Try.prog f [.pointer (some ⟨M.b, 0, none⟩), .int .i64 i] w (RetMM M X w (findP M.P (L M.t) i))) {X : Nat → Prop} {w1 : World} (h : M.inv X w1) {R : Ending → World → Prop} (hR : ∀ e w', RetMsM M X w1 (allP M.P (L M.t) 0) e w' → R e w') :
    ∃ (I3 : Nat → Option Addr → Nat → Nat → Int → World → Prop), (∃ (k5 : Nat), I3 k5 none 0 0 0 w1) ∧ ∀ (k4 : Nat) (d7 : Nat → Value) (a8 : Option Addr) (l8 : Nat) (c8 : Nat) (n9 : Int) (w6 : World), I3 k4 a8 l8 c8 n9 w6 → ∃ (s10 : ByteArray), cellH w6.heap M.b (0 + 4) = some (.string s10) ∧ (((decide ((n9 : Int) ≤ ((ByteArray.size s10 : Nat) : Int))) = true → Cl Try.prog f ([.pointer (some ⟨M.b, 0, none⟩), .int .i64 n9]) w6 (retG (fun (r16 : Value) (w15 : World) => ∃ (t11 : Bool), ∃ (n12 : Int), ∃ (n13 : Int), ∃ (a14 : Option Addr), ∃ (l14 : Nat), ∃ (c14 : Nat), r16 = .agg #[.bool t11, .int .i64 n12, .int .i64 n13, .slice a14 l14 c14] ∧ newC [.bool false, .int .i64 0, .int .i64 0, .slice none 0 0] 29 (fun (b17 : Nat) (w18 : World) => stW b17 0 [.bool t11, .int .i64 n12, .int .i64 n13, .slice a14 l14 c14] (fun (w19 : World) => ∃ (t20 : Bool), cellH w19.heap b17 0 = some (.bool t20) ∧ (((!t20) = true → R (.returned (.slice a8 l8 c8)) w19) ∧ ((!t20) = false → ∃ (t21 : Bool), cellH w19.heap b17 0 = some (.bool t21) ∧ ∃ (n22 : Int), cellH w19.heap b17 1 = some (.int .i64 n22) ∧ ∃ (n23 : Int), cellH w19.heap b17 2 = some (.int .i64 n23) ∧ ∃ (a24 : Option Addr), ∃ (l24 : Nat), ∃ (c24 : Nat), cellH w19.heap b17 3 = some (.slice a24 l24 c24) ∧ newC [.bool t21, .int .i64 n22, .int .i64 n23, .slice a24 l24 c24] 29 (fun (b25 : Nat) (w26 : World) => ∃ (a27 : Option Addr), ∃ (l27 : Nat), ∃ (c27 : Nat), ∃ (w28 : World), (Builtin.append_ #[25, 25] 25 #[.slice a8 l8 c8, .slice (some ⟨b25, 0, none⟩) 1 1]).run Try.prog w26 = .ok (.slice a27 l27 c27) w28 ∧ ∃ (n29 : Int), cellH w28.heap b17 2 = some (.int .i64 n29) ∧ ∃ (n30 : Int), cellH w28.heap b17 2 = some (.int .i64 n30) ∧ ∃ (n31 : Int), cellH w28.heap b17 1 = some (.int .i64 n31) ∧ ((((n30 : Int) == n31) = true → (∃ (m32 : Nat), m32 < k4 ∧ I3 m32 a27 l27 c27 (IntKind.wrap .i64 (n29 + 1)) w28)) ∧ (((n30 : Int) == n31) = false → (∃ (m33 : Nat), m33 < k4 ∧ I3 m33 a27 l27 c27 n29 w28)))) w19))) w18) w15) (fun c1 w1' => R (.panicked c1) w1'))) ∧ ((decide ((n9 : Int) ≤ ((ByteArray.size s10 : Nat) : Int))) = false → R (.returned (.slice a8 l8 c8)) w6)) := by
  have hsz := size_L M.t
  have hn200 := ok.pt.n200
  have hall := ok.pt.allLen
  refine ⟨fun k a l c n w' => ∃ (j : Nat) (es : List ME), n = j ∧ k = (L M.t).length + 1 - j ∧ j ≤ (L M.t).length + 1 ∧ Ms w1.heap.size w' a l c es ∧ allP M.P (L M.t) 0 = es.map (·.1) ++ allP M.P (L M.t) j ∧ M.inv (fun x => X x ∨ blkOf a = some x) w' ∧ Ext M.mods w1 w', ⟨_, 0, [], rfl, rfl, Nat.zero_le _, Ms.nil _ _, rfl, ?_, Ext.refl _ _⟩, ?_⟩
  · exact ok.grow (S := fun _ => False) h (Ext.refl _ _) (fun _ h => h.elim) (fun x hx => by
      rcases hx with hx | hx
      · exact .inl hx
      · cases hx) fun x hx => by
      rcases hx with hx | hx
      · exact (ok.priv h hx).1
      · cases hx
  rintro k d a l c n w2 ⟨j, es, rfl, rfl, hjn, M2, hes, i2, E2⟩
  have hend : ∀ {w' : World}, Below w2.heap.size w2 w' → allP M.P (L M.t) 0 = es.map (·.1) → R (.returned (.slice a l c)) w' := fun B he =>
    hR _ _ ⟨a, l, c, es, rfl, M2.below B, he.symm, ok.grow (S := fun _ => False) i2 (Ext.of_below B) (fun _ h => h.elim) (fun x hx => .inl (.inl hx)) (fun x hx => Nat.lt_of_lt_of_le (ok.priv i2 (.inl hx)).1 B.size), E2.trans (Ext.of_below B)⟩
  refine ⟨M.t, ok.text i2, fun g => ?_, fun g => ?_⟩
  · have g' : j ≤ (L M.t).length := by have := of_decide_eq_true g; omega
    refine (hf _ w2 j i2 g').use fun e w3 he => ?_
    obtain ⟨gx, rfl, hg, hgn, i3, E3⟩ := he
    have hz2 := E2.size
    have hz3 := E3.size
    have hlow : ∀ k ∈ ob a, w1.heap.size ≤ k := fun k hk => M2.low k (List.mem_append_left _ hk)
    have M3 : Ms w1.heap.size w3 a l c es := M2.keep E3 fun k hk hm => by
      by_cases hkw : k < w1.heap.size
      · have := M2.low k hk; omega
      · have := ok.modlt h hm; omega
    refine ⟨_, _, _, gx.1, gx.2.1, gx.2.2, rfl, ?_⟩
    generalize hm : findP M.P (L M.t) j = m at *
    refine newC_in fun w4 s4 k4 e4 => ?_
    refine stW_in k4 (by show 0 + 4 ≤ 4; decide) fun w5 s5 k5 e5 => ?_
    have k5' : Blk w5.heap w3.heap.size 29 (mC (m, gx)) := k5
    have B5 : Below w3.heap.size w3 w5 := Ext.to (Ext.to (Below.refl _ _) e4 fun _ h => h.elim) e5 fun i hi => by omega
    refine ⟨m.ok, k5'.cell 0, fun g2 => ?_, fun g2 => ?_⟩
    · have g2' : m.ok = false := by simpa using g2
      have hno : allP M.P (L M.t) 0 = es.map (·.1) := by rw [hes, allP_no (by rw [hm]; exact g2'), List.append_nil]
      exact hR _ _ ⟨a, l, c, es, rfl, M3.below B5, hno.symm, ok.grow (S := fun _ => False) i3 (Ext.of_below B5) (fun _ h => h.elim) (fun x hx => .inl (.inl hx)) (fun x hx => Nat.lt_of_lt_of_le (ok.priv i3 (.inl hx)).1 B5.size), (E2.trans E3).trans (Ext.of_below B5)⟩
    · have g2' : (findP M.P (L M.t) j).ok = true := by rw [hm]; simpa using g2
      have hfo := ok.pt.findOk g2'
      have hnx := ok.pt.next g2'
      rw [ok.pt.all_step g' g2', hm] at hes
      rw [hm] at hfo hnx
      have hto := hfo.2.hi
      have hlo := hfo.2.lo
      have hlen : l ≤ 200 := by
        have h1 := M2.len
        have h2 := congrArg List.length hes
        simp only [List.length_append, List.length_map, List.length_cons] at h2
        omega
      refine ⟨_, k5'.cell 0, _, k5'.cell 1, _, k5'.cell 2, _, _, _, k5'.cell 3, ?_⟩
      have hz5 := B5.size
      refine Ms_app (e := (m, gx)) (M3.below B5) (by omega) (hg.below B5) (fun k hk => ?_) (by omega) fun a2 c2 w6 M6 E6 hb6 => ?_
      · have h1 := hgn k (mem_ob.1 hk)
        refine ⟨fun h => ?_, by omega⟩
        have := M2.lt k h
        omega
      have k6 : Blk w6.heap w3.heap.size 29 (mC (m, gx)) := k5'.keep E6 fun h => by have := M3.lt _ (List.mem_append_left _ h); omega
      have E36 : Ext (fun k => k ∈ ob a) w3 w6 := (Ext.of_below B5).trans E6
      have hz6 := E6.size
      have i6 : M.inv (fun x => X x ∨ blkOf a2 = some x) w6 := ok.grow i3 E36 (fun x hx => .inr (mem_ob.1 hx)) (fun x hx => by
        rcases hx with hx | hx
        · exact .inl (.inl hx)
        · rcases hb6 x hx with h | h
          · exact .inl (.inr h)
          · exact .inr (by omega)) fun x hx => by
        rcases hx with hx | hx
        · have := (ok.priv i3 (.inl hx)).1; have := E36.size; omega
        · exact M6.row.lt x hx
      have E16 : Ext M.mods w1 w6 := (E2.trans E3).step E36 fun k hk hka => by have := hlow k hka; omega
      have hnx2 : nextM m ≤ (L M.t).length + 1 := by unfold nextM; split <;> omega
      have fin : ∀ {n' : Int}, n' = ((nextM m : Nat) : Int) → ∃ (m32 : Nat), m32 < (L M.t).length + 1 - j ∧ ∃ (j : Nat) (es : List ME), n' = j ∧ m32 = (L M.t).length + 1 - j ∧ j ≤ (L M.t).length + 1 ∧ Ms w1.heap.size w6 a2 (l + 1) c2 es ∧ allP M.P (L M.t) 0 = es.map (·.1) ++ allP M.P (L M.t) j ∧ M.inv (fun x => X x ∨ blkOf a2 = some x) w6 ∧ Ext M.mods w1 w6 := fun he => ⟨(L M.t).length + 1 - nextM m, by omega, nextM m, es ++ [(m, gx)], he, rfl, hnx2, M6, by rw [hes]; simp, i6, E16⟩
      refine ⟨_, k6.cell 2, _, k6.cell 2, _, k6.cell 1, fun g3 => ?_, fun g3 => ?_⟩
      · have g3' : m.fr = m.to := by have : ((m.to : Nat) : Int) = m.fr := by simpa using g3
                                     omega
        refine fin ?_
        show IntKind.wrap .i64 ((m.to : Int) + 1) = _
        unfold nextM
        rw [if_pos g3', w64 (by omega)]
        omega
      · have g3' : ¬ m.fr = m.to := by have : ¬ ((m.to : Nat) : Int) = m.fr := by simpa using g3
                                       omega
        refine fin ?_
        unfold nextM
        rw [if_neg g3']
  · have g' : ¬ j ≤ (L M.t).length := by have := of_decide_eq_false g; omega
    exact hend (Below.refl _ _) (by rw [hes, allP_end g', List.append_nil])
theorem allLoopI {M : Mach} (ok : MachOk M) {f : FuncId} (hf : ∀ (X : Nat → Prop) (w : World) (i : Nat), M.inv X w → i ≤ (L M.t).length → Cl Try.prog f [.pointer (some ⟨M.b, 0, none⟩), .int .i64 i] w (RetMM M X w (findP M.P (L M.t) i))) {X : Nat → Prop} {w1 : World} (h : M.inv X w1) {R : Ending → World → Prop} (hR : ∀ e w', RetMsM M X w1 (allP M.P (L M.t) 0) e w' → R e w') :
    ∃ (I8 : Nat → Option Addr → Nat → Nat → Int → World → Prop), (∃ (k10 : Nat), I8 k10 none 0 0 0 w1) ∧ ∀ (k9 : Nat) (d12 : Nat → Value) (a13 : Option Addr) (l13 : Nat) (c13 : Nat) (n14 : Int) (w11 : World), I8 k9 a13 l13 c13 n14 w11 → (((decide ((n14 : Int) ≤ ((ByteArray.size M.t : Nat) : Int))) = true → Cl Try.prog f ([.pointer (some ⟨M.b, 0, none⟩), .int .i64 n14]) w11 (retG (fun (r20 : Value) (w19 : World) => ∃ (t15 : Bool), ∃ (n16 : Int), ∃ (n17 : Int), ∃ (a18 : Option Addr), ∃ (l18 : Nat), ∃ (c18 : Nat), r20 = .agg #[.bool t15, .int .i64 n16, .int .i64 n17, .slice a18 l18 c18] ∧ newC [.bool false, .int .i64 0, .int .i64 0, .slice none 0 0] 29 (fun (b21 : Nat) (w22 : World) => stW b21 0 [.bool t15, .int .i64 n16, .int .i64 n17, .slice a18 l18 c18] (fun (w23 : World) => ∃ (t24 : Bool), cellH w23.heap b21 0 = some (.bool t24) ∧ (((!t24) = true → R (.returned (.slice a13 l13 c13)) w23) ∧ ((!t24) = false → ∃ (t25 : Bool), cellH w23.heap b21 0 = some (.bool t25) ∧ ∃ (n26 : Int), cellH w23.heap b21 1 = some (.int .i64 n26) ∧ ∃ (n27 : Int), cellH w23.heap b21 2 = some (.int .i64 n27) ∧ ∃ (a28 : Option Addr), ∃ (l28 : Nat), ∃ (c28 : Nat), cellH w23.heap b21 3 = some (.slice a28 l28 c28) ∧ newC [.bool t25, .int .i64 n26, .int .i64 n27, .slice a28 l28 c28] 29 (fun (b29 : Nat) (w30 : World) => ∃ (a31 : Option Addr), ∃ (l31 : Nat), ∃ (c31 : Nat), ∃ (w32 : World), (Builtin.append_ #[25, 25] 25 #[.slice a13 l13 c13, .slice (some ⟨b29, 0, none⟩) 1 1]).run Try.prog w30 = .ok (.slice a31 l31 c31) w32 ∧ ∃ (n33 : Int), cellH w32.heap b21 2 = some (.int .i64 n33) ∧ ∃ (n34 : Int), cellH w32.heap b21 1 = some (.int .i64 n34) ∧ ∃ (n35 : Int), cellH w32.heap b21 2 = some (.int .i64 n35) ∧ ((((n34 : Int) == n35) = true → (∃ (m36 : Nat), m36 < k9 ∧ I8 m36 a31 l31 c31 (IntKind.wrap .i64 (n33 + 1)) w32)) ∧ (((n34 : Int) == n35) = false → (∃ (m37 : Nat), m37 < k9 ∧ I8 m37 a31 l31 c31 n33 w32)))) w23))) w22) w19) (fun c1 w1' => R (.panicked c1) w1'))) ∧ ((decide ((n14 : Int) ≤ ((ByteArray.size M.t : Nat) : Int))) = false → R (.returned (.slice a13 l13 c13)) w11)) := by
  have hsz := size_L M.t
  have hn200 := ok.pt.n200
  have hall := ok.pt.allLen
  refine ⟨fun k a l c n w' => ∃ (j : Nat) (es : List ME), n = j ∧ k = (L M.t).length + 1 - j ∧ j ≤ (L M.t).length + 1 ∧ Ms w1.heap.size w' a l c es ∧ allP M.P (L M.t) 0 = es.map (·.1) ++ allP M.P (L M.t) j ∧ M.inv (fun x => X x ∨ blkOf a = some x) w' ∧ Ext M.mods w1 w', ⟨_, 0, [], rfl, rfl, Nat.zero_le _, Ms.nil _ _, rfl, ?_, Ext.refl _ _⟩, ?_⟩
  · exact ok.grow (S := fun _ => False) h (Ext.refl _ _) (fun _ h => h.elim) (fun x hx => by
      rcases hx with hx | hx
      · exact .inl hx
      · cases hx) fun x hx => by
      rcases hx with hx | hx
      · exact (ok.priv h hx).1
      · cases hx
  rintro k d a l c n w2 ⟨j, es, rfl, rfl, hjn, M2, hes, i2, E2⟩
  have hend : ∀ {w' : World}, Below w2.heap.size w2 w' → allP M.P (L M.t) 0 = es.map (·.1) → R (.returned (.slice a l c)) w' := fun B he =>
    hR _ _ ⟨a, l, c, es, rfl, M2.below B, he.symm, ok.grow (S := fun _ => False) i2 (Ext.of_below B) (fun _ h => h.elim) (fun x hx => .inl (.inl hx)) (fun x hx => Nat.lt_of_lt_of_le (ok.priv i2 (.inl hx)).1 B.size), E2.trans (Ext.of_below B)⟩
  refine ⟨fun g => ?_, fun g => ?_⟩
  · have g' : j ≤ (L M.t).length := by have := of_decide_eq_true g; omega
    refine (hf _ w2 j i2 g').use fun e w3 he => ?_
    obtain ⟨gx, rfl, hg, hgn, i3, E3⟩ := he
    have hz2 := E2.size
    have hz3 := E3.size
    have hlow : ∀ k ∈ ob a, w1.heap.size ≤ k := fun k hk => M2.low k (List.mem_append_left _ hk)
    have M3 : Ms w1.heap.size w3 a l c es := M2.keep E3 fun k hk hm => by
      by_cases hkw : k < w1.heap.size
      · have := M2.low k hk; omega
      · have := ok.modlt h hm; omega
    refine ⟨_, _, _, gx.1, gx.2.1, gx.2.2, rfl, ?_⟩
    generalize hm : findP M.P (L M.t) j = m at *
    refine newC_in fun w4 s4 k4 e4 => ?_
    refine stW_in k4 (by show 0 + 4 ≤ 4; decide) fun w5 s5 k5 e5 => ?_
    have k5' : Blk w5.heap w3.heap.size 29 (mC (m, gx)) := k5
    have B5 : Below w3.heap.size w3 w5 := Ext.to (Ext.to (Below.refl _ _) e4 fun _ h => h.elim) e5 fun i hi => by omega
    refine ⟨m.ok, k5'.cell 0, fun g2 => ?_, fun g2 => ?_⟩
    · have g2' : m.ok = false := by simpa using g2
      have hno : allP M.P (L M.t) 0 = es.map (·.1) := by rw [hes, allP_no (by rw [hm]; exact g2'), List.append_nil]
      exact hR _ _ ⟨a, l, c, es, rfl, M3.below B5, hno.symm, ok.grow (S := fun _ => False) i3 (Ext.of_below B5) (fun _ h => h.elim) (fun x hx => .inl (.inl hx)) (fun x hx => Nat.lt_of_lt_of_le (ok.priv i3 (.inl hx)).1 B5.size), (E2.trans E3).trans (Ext.of_below B5)⟩
    · have g2' : (findP M.P (L M.t) j).ok = true := by rw [hm]; simpa using g2
      have hfo := ok.pt.findOk g2'
      have hnx := ok.pt.next g2'
      rw [ok.pt.all_step g' g2', hm] at hes
      rw [hm] at hfo hnx
      have hto := hfo.2.hi
      have hlo := hfo.2.lo
      have hlen : l ≤ 200 := by
        have h1 := M2.len
        have h2 := congrArg List.length hes
        simp only [List.length_append, List.length_map, List.length_cons] at h2
        omega
      refine ⟨_, k5'.cell 0, _, k5'.cell 1, _, k5'.cell 2, _, _, _, k5'.cell 3, ?_⟩
      have hz5 := B5.size
      refine Ms_app (e := (m, gx)) (M3.below B5) (by omega) (hg.below B5) (fun k hk => ?_) (by omega) fun a2 c2 w6 M6 E6 hb6 => ?_
      · have h1 := hgn k (mem_ob.1 hk)
        refine ⟨fun h => ?_, by omega⟩
        have := M2.lt k h
        omega
      have k6 : Blk w6.heap w3.heap.size 29 (mC (m, gx)) := k5'.keep E6 fun h => by have := M3.lt _ (List.mem_append_left _ h); omega
      have E36 : Ext (fun k => k ∈ ob a) w3 w6 := (Ext.of_below B5).trans E6
      have hz6 := E6.size
      have i6 : M.inv (fun x => X x ∨ blkOf a2 = some x) w6 := ok.grow i3 E36 (fun x hx => .inr (mem_ob.1 hx)) (fun x hx => by
        rcases hx with hx | hx
        · exact .inl (.inl hx)
        · rcases hb6 x hx with h | h
          · exact .inl (.inr h)
          · exact .inr (by omega)) fun x hx => by
        rcases hx with hx | hx
        · have := (ok.priv i3 (.inl hx)).1; have := E36.size; omega
        · exact M6.row.lt x hx
      have E16 : Ext M.mods w1 w6 := (E2.trans E3).step E36 fun k hk hka => by have := hlow k hka; omega
      have hnx2 : nextM m ≤ (L M.t).length + 1 := by unfold nextM; split <;> omega
      have fin : ∀ {n' : Int}, n' = ((nextM m : Nat) : Int) → ∃ (m32 : Nat), m32 < (L M.t).length + 1 - j ∧ ∃ (j : Nat) (es : List ME), n' = j ∧ m32 = (L M.t).length + 1 - j ∧ j ≤ (L M.t).length + 1 ∧ Ms w1.heap.size w6 a2 (l + 1) c2 es ∧ allP M.P (L M.t) 0 = es.map (·.1) ++ allP M.P (L M.t) j ∧ M.inv (fun x => X x ∨ blkOf a2 = some x) w6 ∧ Ext M.mods w1 w6 := fun he => ⟨(L M.t).length + 1 - nextM m, by omega, nextM m, es ++ [(m, gx)], he, rfl, hnx2, M6, by rw [hes]; simp, i6, E16⟩
      refine ⟨_, k6.cell 2, _, k6.cell 1, _, k6.cell 2, fun g3 => ?_, fun g3 => ?_⟩
      · have g3' : m.fr = m.to := by have : ((m.fr : Nat) : Int) = m.to := by simpa using g3
                                     omega
        refine fin ?_
        show IntKind.wrap .i64 ((m.to : Int) + 1) = _
        unfold nextM
        rw [if_pos g3', w64 (by omega)]
        omega
      · have g3' : ¬ m.fr = m.to := by have : ¬ ((m.fr : Nat) : Int) = m.to := by simpa using g3
                                       omega
        refine fin ?_
        unfold nextM
        rw [if_neg g3']
  · have g' : ¬ j ≤ (L M.t).length := by have := of_decide_eq_false g; omega
    exact hend (Below.refl _ _) (by rw [hes, allP_end g', List.append_nil])
end Go.Proofs.Ytngbiaeliphdjaa.V
/- put, number, counts in the program's reader. No statement of the seat is proved here. -/
namespace Go.Proofs.Ytngbiaeliphdjaa.V
open Go.Vc Go.Proofs Go.RowKit
set_option linter.unusedVariables false
set_option linter.unusedSimpArgs false

structure PSt (N : Nat) (w : World) (b : Nat) (s : ByteArray) (i g : Nat) (dp : Int) (a : Option Addr) (ln c : Nat) (rs : List Raw) (ps : List Pc) : Prop where
  rd : Rd w b s i g dp a ln c
  pcs : Pcs N w a ln c rs ps
  lt : b < N
  hN : N ≤ w.heap.size
theorem PSt.notb {N : Nat} {w : World} {b : Nat} {s : ByteArray} {i g : Nat} {dp : Int} {a : Option Addr} {ln c : Nat} {rs : List Raw} {ps : List Pc} (h : PSt N w b s i g dp a ln c rs ps) : b ∉ blks a rs := fun hb => by have := h.pcs.low b hb; have := h.lt; omega
theorem PSt.below {N : Nat} {w w' : World} {b : Nat} {s : ByteArray} {i g : Nat} {dp : Int} {a : Option Addr} {ln c : Nat} {rs : List Raw} {ps : List Pc} (h : PSt N w b s i g dp a ln c rs ps) (k : Below w.heap.size w w') : PSt N w' b s i g dp a ln c rs ps :=
  ⟨h.rd.below k, h.pcs.below k, h.lt, Nat.le_trans h.hN k.size⟩
/-- The reader's own block alone has changed. -/
theorem PSt.upd {N : Nat} {w w' : World} {b : Nat} {s : ByteArray} {i g i' g' : Nat} {dp dp' : Int} {a : Option Addr} {ln c : Nat} {rs : List Raw} {ps : List Pc} (h : PSt N w b s i g dp a ln c rs ps) (e : Ext (fun k => k = b) w w') (hr : Rd w' b s i' g' dp' a ln c) : PSt N w' b s i' g' dp' a ln c rs ps :=
  ⟨hr, h.pcs.keep e fun k hk hb => by subst hb; exact h.notb hk, h.lt, Nat.le_trans h.hN e.size⟩
theorem PSt.other {S : Nat → Prop} {N : Nat} {w w' : World} {b : Nat} {s : ByteArray} {i g : Nat} {dp : Int} {a : Option Addr} {ln c : Nat} {rs : List Raw} {ps : List Pc} (h : PSt N w b s i g dp a ln c rs ps) (e : Ext S w w') (hb : ¬ S b) (hs : ∀ k ∈ blks a rs, ¬ S k) : PSt N w' b s i g dp a ln c rs ps :=
  ⟨Blk.keep h.rd e hb, h.pcs.keep e hs, h.lt, Nat.le_trans h.hN e.size⟩

/-- What put leaves. -/
def PutR (N : Nat) (w : World) (b : Nat) (s : ByteArray) (i g : Nat) (dp : Int) (a : Option Addr) (ln : Nat) (rs : List Raw) (ps : List Pc) (r : Raw) (p : Pc) : Ending → World → Prop := fun e w' =>
  e = .returned (.int .i64 ln) ∧ ∃ a2 c2, PSt N w' b s i g dp a2 (ln + 1) c2 (rs ++ [r]) (ps ++ [p]) ∧ Ext (fun k => k = b ∨ k ∈ blks a rs) w w' ∧ ∀ k ∈ blks a2 (rs ++ [r]), k ∈ blks a rs ∨ k ∈ r.blocks ∨ w.heap.size ≤ k
theorem put_ok {N : Nat} {w : World} {b : Nat} {s : ByteArray} {i g : Nat} {dp : Int} {a : Option Addr} {ln c : Nat} {rs : List Raw} {ps : List Pc} (h : PSt N w b s i g dp a ln c rs ps) {r : Raw} {p : Pc} (hr : RawOk w r p) (hb : r.blocks.Nodup) (hd : ∀ k ∈ r.blocks, k ∉ blks a rs ∧ N ≤ k) (hl : ln ≤ 1000) :
    Cl Try.prog 110 [.pointer (some ⟨b, 0, none⟩), .agg ⟨r.cells⟩] w (PutR N w b s i g dp a ln rs ps r p) := by
  have hbl := h.rd.lt
  refine vc110 (n3 := r.kind) (a4 := r.sa) (l4 := r.sl) (c4 := r.sc) (n5 := r.min) (n6 := r.max) (t7 := r.lazy) (n8 := r.num) (a9 := r.ka) (l9 := r.kl) (c9 := r.kc) ?_
  unfold V110
  refine newC_in fun w1 s1 k1 e1 => ?_
  refine drw_in fun w2 q2 e2 => ?_
  have E2 : Below w.heap.size w w2 := Ext.to (Ext.to (Below.refl _ _) e1 fun _ h => h.elim) e2 fun _ h => h.elim
  have h2 := h.below E2
  have k2 : Blk w2.heap w.heap.size 111 r.cells := k1.keep e2 fun h => h
  have r2 : RawOk w2 r p := hr.keep (S := fun _ => False) (Ext.of_below E2) fun _ _ h => h
  refine ⟨a, ln, c, h2.rd.cell 4, _, k2.cell 0, _, _, _, k2.cell 1, _, k2.cell 2, _, k2.cell 3, _, k2.cell 4, _, k2.cell 5, _, _, _, k2.cell 6, ?_⟩
  obtain ⟨a2, c2, w3, p1, p2, p3, p4⟩ := Pcs_app h2.pcs h2.hN r2 hb hd hl
  refine ⟨?_, a2, ln + 1, c2, w3, p1, ?_⟩
  · exact (Blk.vnew h2.rd _).cell 4
  have hob : ∀ k, k ∈ ob a → k ∈ blks a rs := fun k hk => List.mem_append_left _ hk
  have hR3 : Rd w3 b s i g dp a ln c := Blk.keep h2.rd p3 fun hk => h2.notb (hob _ hk)
  refine stW_in hR3 (by show 0 + 4 + 1 ≤ 5; decide) fun w4 s4 k4 e4 => ?_
  have hR4 : Rd w4 b s i g dp a2 (ln + 1) c2 := k4
  have hz := E2.size
  have hz3 := p3.size
  have hblk : ∀ k ∈ blks a2 (rs ++ [r]), k ∈ blks a rs ∨ k ∈ r.blocks ∨ w2.heap.size ≤ k := by
    intro k hk
    simp only [blks, List.flatMap_append, List.mem_append, List.flatMap_cons, List.flatMap_nil, List.append_nil] at hk ⊢
    rcases hk with hk | hk | hk
    · rcases p4 with rfl | rfl
      · exact .inl (.inl hk)
      · right; right; rw [mem_ob] at hk; simp [blkOf] at hk; omega
    · exact .inl (.inr hk)
    · exact .inr (.inl hk)
  refine ⟨_, _, _, hR4.cell 4, ?_, a2, c2, ⟨hR4, p2.keep e4 fun k hk hkb => ?_, h.lt, by have := h.hN; omega⟩, ?_, ?_⟩
  · rw [show IntKind.wrap .i64 ((((ln + 1 : Nat) : Int)) - 1) = (ln : Int) from by rw [w64 (by omega)]; omega]
  · subst hkb
    rcases hblk k hk with h1 | h1 | h1
    · exact h.notb h1
    · have := (hd k h1).2; have := h.lt; omega
    · omega
  · exact ((Ext.of_below E2).trans (Ext.mono p3 fun k _ hk => .inr (hob k hk))).trans (Ext.mono e4 fun k _ hk => .inl hk)
  · intro k hk
    rcases hblk k hk with h1 | h1 | h1
    · exact .inl h1
    · exact .inr (.inl h1)
    · exact .inr (.inr (by omega))

/-! ### Numbers -/
theorem min_run (x y : Int) (w : World) : (Builtin.min_ #[3, 3] 3 #[.int .i64 x, .int .i64 y]).run Try.prog w = .ok (.int .i64 (if y < x then y else x)) w := by simp [Builtin.min_, Builtin.min2]
theorem number_ok {w : World} {b : Nat} {s : ByteArray} {i g : Nat} {dp : Int} {a : Option Addr} {ln c : Nat} (h : Rd w b s i g dp a ln c) (hs : s.size ≤ 120) (hi : i ≤ s.size) :
    Cl Try.prog 148 [.pointer (some ⟨b, 0, none⟩)] w (fun e w' => Ext (fun k => k = b) w w' ∧ match numP (L s) i with | .bad n => e = PanicB n | .ok (j, v) => e = .returned (.int .i64 (v : Int)) ∧ Rd w' b s j g dp a ln c ∧ j ≤ s.size) := by
  apply vc148
  unfold V148
  have hsz := size_L s
  refine ⟨i, h.cell 1, ?_⟩
  unfold numP
  by_cases hl : i < s.size
  case neg =>
    refine (need_bad h hl).use fun e w1 he => ?_
    obtain ⟨rfl, b1⟩ := he
    refine ⟨Ext.of_below b1, ?_⟩
    rw [if_pos (by omega), ← hsz]; rfl
  rw [if_neg (by omega)]
  refine (need_ret h hl).ret fun w1 b1 => ⟨_, rfl, ?_⟩
  have h1 := h.below b1
  have E1 : Ext (fun k => k = b) w w1 := Ext.of_below b1
  have hbad : (at_ (L s) i < 48 ∨ 57 < at_ (L s) i) → ∀ F : Value → World → Prop, ∃ n8 : Int, cellH w1.heap b (0 + 1) = some (.int .i64 n8) ∧ Cl Try.prog 76 [.pointer (some ⟨b, 0, none⟩), .int .i64 n8] w1 (retG F
        (fun c1 w' => Ext (fun k => k = b) w w' ∧ match (if at_ (L s) i < 48 ∨ 57 < at_ (L s) i then Pr.bad i else if 50 < (digP (L s) i 0).2 then .bad i else .ok (digP (L s) i 0)) with | .bad n => Ending.panicked c1 = PanicB n | .ok (j, v) => Ending.panicked c1 = .returned (.int .i64 (v : Int)) ∧ Rd w' b s j g dp a ln c ∧ j ≤ s.size)) := by
    intro n1 F
    refine ⟨_, h1.cell 1, (fail_ok b i rfl w1).use fun e w3 he => ?_⟩
    obtain ⟨rfl, rfl⟩ := he
    refine ⟨E1, ?_⟩
    rw [if_pos n1]; rfl
  refine ⟨fun w' => Rd w' b s i g dp a ln c ∧ Ext (fun k => k = b) w w' ∧ 48 ≤ at_ (L s) i ∧ at_ (L s) i ≤ 57, ⟨fun g1 => hbad (.inl (by have := of_decide_eq_true g1; omega)) _, fun g1 => ⟨fun g2 => hbad (.inr (by have := of_decide_eq_true g2; omega)) _, fun g2 => ⟨h1, E1, by have := of_decide_eq_false g1; omega, by have := of_decide_eq_false g2; omega⟩⟩⟩, ?_⟩
  rintro - w2 ⟨h2, E2, hd1, hd2⟩
  rw [if_neg (by omega)]
  refine ⟨fun k n w' => ∃ (j v : Nat), n = v ∧ v ≤ 1000 ∧ j ≤ s.size ∧ k = s.size - j ∧ digP (L s) j v = digP (L s) i 0 ∧ Rd w' b s j g dp a ln c ∧ Ext (fun k => k = b) w w', ⟨_, i, 0, rfl, by omega, hi, rfl, rfl, h2, E2⟩, ?_⟩
  rintro k d n w3 ⟨j, v, rfl, hv, hj, rfl, hdig, h3, E3⟩
  refine drw_in fun w4 q4 e4 => ?_
  have h4 : Rd w4 b s j g dp a ln c := Blk.keep h3 e4 fun h => h
  have E4 : Ext (fun k => k = b) w w4 := E3.trans (Ext.mono e4 fun _ _ h => h.elim)
  refine (end_ok h4).ret fun w5 b5 => ⟨_, rfl, ?_⟩
  have h5 := h4.below b5
  have E5 : Ext (fun k => k = b) w w5 := E4.trans (Ext.of_below b5)
  -- the end of the digits
  have hout : digP (L s) j v = (j, v) → ((decide ((v : Int) > 50)) = true → Cl Try.prog 76 [.pointer (some ⟨b, 0, none⟩), .int .i64 (i : Int)] w5 (retG (fun (r32 : Value) (w31 : World) => r32 = .tuple #[] ∧ (Ext (fun k => k = b) w w31 ∧ match (if 50 < (digP (L s) i 0).2 then Pr.bad i else .ok (digP (L s) i 0)) with | .bad n => Ending.returned (.int .i64 (v : Int)) = PanicB n | .ok (j, v1) => Ending.returned (.int .i64 (v : Int)) = .returned (.int .i64 (v1 : Int)) ∧ Rd w31 b s j g dp a ln c ∧ j ≤ s.size))
        (fun c1 w' => Ext (fun k => k = b) w w' ∧ match (if 50 < (digP (L s) i 0).2 then Pr.bad i else .ok (digP (L s) i 0)) with | .bad n => Ending.panicked c1 = PanicB n | .ok (j, v1) => Ending.panicked c1 = .returned (.int .i64 (v1 : Int)) ∧ Rd w' b s j g dp a ln c ∧ j ≤ s.size))) ∧
      ((decide ((v : Int) > 50)) = false → (Ext (fun k => k = b) w w5 ∧ match (if 50 < (digP (L s) i 0).2 then Pr.bad i else .ok (digP (L s) i 0)) with | .bad n => Ending.returned (.int .i64 (v : Int)) = PanicB n | .ok (j, v1) => Ending.returned (.int .i64 (v : Int)) = .returned (.int .i64 (v1 : Int)) ∧ Rd w5 b s j g dp a ln c ∧ j ≤ s.size)) := by
    intro hd
    rw [← hdig, hd]
    refine ⟨fun g1 => ?_, fun g1 => ?_⟩
    · have g1' := of_decide_eq_true g1
      refine (fail_ok b i rfl w5).use fun e w6 he => ?_
      obtain ⟨rfl, rfl⟩ := he
      refine ⟨E5, ?_⟩
      rw [if_pos (show 50 < v by omega)]; rfl
    · have g1' := of_decide_eq_false g1
      refine ⟨E5, ?_⟩
      rw [if_neg (show ¬ 50 < v by omega)]
      exact ⟨rfl, h5, hj⟩
  refine ⟨fun g1 => ?_, fun g1 => ?_⟩
  · have g1' : j < s.size := by
      have : decide (s.size ≤ j) = false := by simpa using g1
      have := of_decide_eq_false this; omega
    refine ⟨s, h5.cell 0, j, h5.cell 1, ⟨by omega, by omega⟩, ?_⟩
    rw [byteI s (j := j) rfl]
    refine ⟨fun g2 => ?_, fun g2 => ?_⟩
    · have g2' := of_decide_eq_true g2
      refine ⟨s, h5.cell 0, j, h5.cell 1, ⟨by omega, by omega⟩, ?_⟩
      rw [byteI s (j := j) rfl]
      refine ⟨fun g3 => ?_, fun g3 => ?_⟩
      · have g3' := of_decide_eq_true g3
        refine drw_in fun w6 q6 e6 => ?_
        have h6 : Rd w6 b s j g dp a ln c := Blk.keep h5 e6 fun h => h
        refine ⟨s, h6.cell 0, j, h6.cell 1, ⟨by omega, by omega⟩, ?_⟩
        rw [byteI s (j := j) rfl]
        refine ⟨_, min_run _ _ _, j, h6.cell 1, ?_⟩
        refine h6.mv (j := j + 1) (by rw [w64 (by omega)]; omega) fun w7 s7 h7 e7 => ?_
        have hw : IntKind.wrap .i64 (IntKind.wrap .i64 (10 * (v : Int)) + IntKind.wrap .i64 (IntKind.wrap .u8 ((at_ (L s) j : Int) - 48))) = ((10 * v + (at_ (L s) j - 48) : Nat) : Int) := by
          rw [w8, w64 (n := 10 * (v : Int)) (by omega), w64 (n := ((at_ (L s) j : Int) - 48) % 256) (by omega), w64 (by omega)]; omega
        rw [hw]
        refine ⟨s.size - (j + 1), by omega, j + 1, Nat.min 1000 (10 * v + (at_ (L s) j - 48)), ?_, Nat.min_le_left _ _, by omega, rfl, ?_, h7, (E5.trans (Ext.mono e6 fun _ _ h => h.elim)).trans e7⟩
        · have : Nat.min 1000 (10 * v + (at_ (L s) j - 48)) = if 10 * v + (at_ (L s) j - 48) < 1000 then 10 * v + (at_ (L s) j - 48) else 1000 := by
            show min _ _ = _
            split <;> omega
          rw [this]
          split <;> split <;> omega
        · rw [← hdig]; conv => rhs; rw [digP]
          rw [dif_pos ⟨by omega, by omega, by omega⟩]
      · have g3' := of_decide_eq_false g3
        exact hout (by rw [digP, dif_neg (by omega)])
    · have g2' := of_decide_eq_false g2
      exact hout (by rw [digP, dif_neg (by omega)])
  · have g1' : ¬ j < s.size := by
      have : decide (s.size ≤ j) = true := by simpa using g1
      have := of_decide_eq_true this; omega
    exact hout (by rw [digP, dif_neg (by omega)])
end Go.Proofs.Ytngbiaeliphdjaa.V
/- counts in the program's reader. No statement of the seat is proved here. -/
namespace Go.Proofs.Ytngbiaeliphdjaa.V
open Go.Vc Go.Proofs Go.RowKit
set_option linter.unusedVariables false
set_option linter.unusedSimpArgs false

/-- What a reading function leaves. -/
def ResI (N : Nat) (w : World) (b : Nat) (s : ByteArray) (dp : Int) (B : List Nat) (r : Pr (St × Int)) : Ending → World → Prop := fun e w' => match r with
  | .bad n => e = PanicB n ∧ Ext (fun k => k = b ∨ k ∈ B) w w'
  | .ok ((j, g, out), x) => e = .returned (.int .i64 x) ∧ ∃ a ln c rs, PSt N w' b s j g dp a ln c rs out ∧ Step b B w w' (blks a rs)
theorem ResI.bad {N : Nat} {w w' : World} {b : Nat} {s : ByteArray} {dp : Int} {B : List Nat} {r : Pr (St × Int)} {n : Nat} (hr : r = .bad n) (e : Ext (fun k => k = b ∨ k ∈ B) w w') : ResI N w b s dp B r (PanicB n) w' := by subst hr; exact ⟨rfl, e⟩

/-- Lazy or not. -/
def lazP (l : Bytes) (j : Nat) (a b : Int) : Pr (Nat × Option (Int × Int × Bool)) := if j < l.length ∧ at_ l j = 63 then .ok (j + 1, some (a, b, true)) else .ok (j, some (a, b, false))
theorem cntP_eq (l : Bytes) (i : Nat) : cntP l i = if l.length ≤ i then .ok (i, none)
  else if at_ l i = 42 then lazP l (i + 1) 0 (-1)
  else if at_ l i = 43 then lazP l (i + 1) 1 (-1)
  else if at_ l i = 63 then lazP l (i + 1) 0 1
  else if at_ l i = 123 then match braP l (i + 1) with
    | .bad e => .bad e
    | .ok (j, a, b) => lazP l j a b
  else .ok (i, none) := rfl

theorem counts_ok {N : Nat} {w : World} {b : Nat} {s : ByteArray} {i g : Nat} {dp : Int} {a : Option Addr} {ln c : Nat} {rs : List Raw} {ps : List Pc} (h : PSt N w b s i g dp a ln c rs ps) (hs : s.size ≤ 120) (hi : i ≤ s.size) (hl : ln ≤ 1000) (x : Int) :
    Cl Try.prog 127 [.pointer (some ⟨b, 0, none⟩), .int .i64 x] w (ResI N w b s dp (blks a rs) (cntR (L s) i g ps x)) := by
  apply vc127
  unfold V127
  have hsz := size_L s
  have hlen' := h.pcs.len'
  have hB := h.pcs.lt
  have hbl := h.rd.lt
  refine (end_ok h.rd).ret fun w1 b1 => ⟨_, rfl, fun g1 => ?_, fun g1 => ?_⟩
  · have g1' := of_decide_eq_true g1
    unfold cntR
    rw [cntP_eq, if_pos (by omega)]
    exact ⟨rfl, a, ln, c, rs, h.below b1, Step.of_below b1⟩
  have g1' := of_decide_eq_false g1
  have h1 := h.below b1
  refine newC_in fun w2 s2 k7 e2 => ?_
  have z1 := b1.size
  generalize hb7 : w1.heap.size = b7 at *
  refine newC_in fun w3 s3 k9 e3 => ?_
  generalize hb9 : w2.heap.size = b9 at *
  refine stW_in k9 (by show 0 + 7 ≤ 7; decide) fun w4 s4 k9' e4 => ?_
  let cs (m1 m2 : Int) (z : Bool) : List Value := [.int .i64 4, .slice none 0 0, .int .i64 m1, .int .i64 m2, .bool z, .int .i64 0, .slice (some ⟨b7, 0, none⟩) 1 1]
  -- what is kept all along
  let Q (w' : World) (j : Nat) (m1 m2 : Int) (z : Bool) : Prop := PSt N w' b s j g dp a ln c rs ps ∧ Blk w'.heap b9 111 (cs m1 m2 z) ∧ Blk w'.heap b7 3 [.int .i64 x] ∧ Ext (fun k => k = b) w w'
  have hb9' : b9 = b7 + 1 := by omega
  have qb : ∀ {w' w'' : World} {j : Nat} {m1 m2 : Int} {z : Bool}, Q w' j m1 m2 z → Below w'.heap.size w' w'' → Q w'' j m1 m2 z := fun h k => ⟨h.1.below k, h.2.1.below k, h.2.2.1.below k, h.2.2.2.trans (Ext.of_below k)⟩
  have qe : ∀ {w' w'' : World} {j : Nat} {m1 m2 : Int} {z : Bool}, Q w' j m1 m2 z → Ext (fun _ => False) w' w'' → Q w'' j m1 m2 z := fun h k => qb h ⟨k.os, k.tape, k.output, k.size, fun i hi => k.block i hi fun h => h⟩
  have qr : ∀ {w' w'' : World} {j j' : Nat} {m1 m2 : Int} {z : Bool}, Q w' j m1 m2 z → Ext (fun k => k = b) w' w'' → Rd w'' b s j' g dp a ln c → Q w'' j' m1 m2 z := fun h k r => ⟨h.1.upd k r, h.2.1.keep k (by omega), h.2.2.1.keep k (by omega), h.2.2.2.trans k⟩
  have q9 : ∀ {w' w'' : World} {j : Nat} {m1 m2 m1' m2' : Int} {z z' : Bool}, Q w' j m1 m2 z → Ext (fun k => k = b9) w' w'' → Blk w''.heap b9 111 (cs m1' m2' z') → Q w'' j m1' m2' z' := fun h k r =>
    ⟨h.1.other k (by omega) fun q hq hq' => by have := hB q hq; omega, r, h.2.2.1.keep k (by omega), h.2.2.2.step k fun q hq hq' => by omega⟩
  have st9 : ∀ {w' : World} {j : Nat} {m1 m2 : Int} {z : Bool} {K : World → Prop} {o : Nat} {v : Value} {m1' m2' : Int} {z' : Bool}, Q w' j m1 m2 z → o < 7 → segSet (cs m1 m2 z) o [v] = cs m1' m2' z' → (∀ w'', Q w'' j m1' m2' z' → K w'') → stW b9 o [v] K w' := by
    intro w' j m1 m2 z K o v m1' m2' z' hq ho hv hK
    refine stW_in hq.2.1 (by show o + 1 ≤ 7; omega) fun w'' s'' k'' e'' => ?_
    rw [hv] at k''
    exact hK w'' (q9 hq e'' k'')
  have mv : ∀ {w' : World} {j : Nat} {m1 m2 : Int} {z : Bool} {K : World → Prop} {n : Int}, Q w' j m1 m2 z → j ≤ 1000 → n = j → (∀ w'', Q w'' (j + 1) m1 m2 z → K w'') → stW b (0 + 1) [.int .i64 (IntKind.wrap .i64 (n + 1))] K w' := by
    intro w' j m1 m2 z K n hq hj hn hK
    subst hn
    exact hq.1.rd.mv (j := j + 1) (by rw [w64 (by omega)]; omega) fun w'' s'' k'' e'' => hK w'' (qr hq e'' k'')
  have hbadr : ∀ {w' : World} {j n : Nat} {m1 m2 : Int} {z : Bool} {r : Pr (St × Int)}, Q w' j m1 m2 z → ∀ {w'' : World}, Ext (fun k => k = b) w' w'' → r = .bad n → ResI N w b s dp (blks a rs) r (PanicB n) w'' := fun hq _ e hr => ResI.bad hr (Ext.mono (hq.2.2.2.trans e) fun _ _ hk => .inl hk)
  have q4 : Q w4 i 0 0 false := by
    have q3 : PSt N w3 b s i g dp a ln c rs ps := (h1.below ⟨e2.os, e2.tape, e2.output, e2.size, fun i hi => e2.block i hi fun h => h⟩).below ⟨e3.os, e3.tape, e3.output, e3.size, fun i hi => e3.block i hi fun h => h⟩
    refine ⟨q3.other e4 (by omega) fun q hq hq' => by have := hB q hq; omega, k9', (k7.keep e3 fun h => h).keep e4 (by omega), ?_⟩
    exact (((Ext.of_below b1).trans (Ext.mono e2 fun _ _ h => h.elim)).trans (Ext.mono e3 fun _ _ h => h.elim)).step e4 fun q hq hq' => by omega
  refine drw_in fun w5 q5 e5 => ?_
  have q5 := qe q4 e5
  refine ⟨s, q5.1.rd.cell 0, i, q5.1.rd.cell 1, ⟨by omega, by omega⟩, ?_⟩
  rw [byteI s (j := i) rfl]
  generalize hR : cntR (L s) i g ps x = R
  refine ⟨fun w' => ∃ j m1 m2, Q w' j m1 m2 false ∧ j ≤ s.size ∧ cntP (L s) i = lazP (L s) j m1 m2, ?_, ?_⟩
  · have hc0 := cntP_eq (L s) i
    rw [if_neg (by omega)] at hc0
    refine ⟨fun g2 => ?_, fun g2 => ⟨fun g3 => ?_, fun g3 => ⟨fun g4 => ?_, fun g4 => ⟨fun g5 => ?_, fun g5 => ?_⟩⟩⟩⟩
    all_goals try simp only [beq_iff_eq, beq_eq_false_iff_ne, ne_eq] at g2
    all_goals try simp only [beq_iff_eq, beq_eq_false_iff_ne, ne_eq] at g3
    all_goals try simp only [beq_iff_eq, beq_eq_false_iff_ne, ne_eq] at g4
    all_goals try simp only [beq_iff_eq, beq_eq_false_iff_ne, ne_eq] at g5
    · rw [if_pos (by omega)] at hc0
      exact st9 q5 (by decide) (show _ = cs 0 (-1) false from rfl) fun w6 q6 => ⟨i, q6.1.rd.cell 1, mv q6 (by omega) rfl fun w7 q7 => ⟨_, _, _, q7, by omega, hc0⟩⟩
    · rw [if_neg (by omega), if_pos (by omega)] at hc0
      exact st9 q5 (by decide) (show _ = cs 1 0 false from rfl) fun w6 q6 => st9 q6 (by decide) (show _ = cs 1 (-1) false from rfl) fun w7 q7 => ⟨i, q7.1.rd.cell 1, mv q7 (by omega) rfl fun w8 q8 => ⟨_, _, _, q8, by omega, hc0⟩⟩
    · rw [if_neg (by omega), if_neg (by omega), if_pos (by omega)] at hc0
      exact st9 q5 (by decide) (show _ = cs 0 1 false from rfl) fun w6 q6 => ⟨i, q6.1.rd.cell 1, mv q6 (by omega) rfl fun w7 q7 => ⟨_, _, _, q7, by omega, hc0⟩⟩
    · rw [if_neg (by omega), if_neg (by omega), if_neg (by omega), if_pos (by omega)] at hc0
      refine ⟨i, q5.1.rd.cell 1, mv q5 (by omega) rfl fun w6 q6 => ?_⟩
      refine (number_ok q6.1.rd hs (by omega)).use fun e w7 he => ?_
      obtain ⟨e7, he⟩ := he
      unfold braP at hc0
      cases hn : numP (L s) (i + 1) with
      | bad n =>
        rw [hn] at he hc0; subst he
        exact hbadr q6 e7 (by rw [← hR]; unfold cntR; rw [hc0])
      | ok y =>
      obtain ⟨j, lo⟩ := y
      rw [hn] at he hc0
      simp only [] at hc0
      obtain ⟨rfl, r7, hj⟩ := he
      have hlo := numP_gt hn
      have q7 := qr q6 e7 r7
      refine ⟨_, rfl, st9 q7 (by decide) (show _ = cs lo 0 false from rfl) fun w8 q8 => ?_⟩
      refine ⟨lo, q8.2.1.cell 2, st9 q8 (by decide) (show _ = cs lo lo false from rfl) fun w9 q9' => ?_⟩
      by_cases hjl : j < s.size
      case neg =>
        refine (need_bad q9'.1.rd hjl).use fun e w10 he => ?_
        obtain ⟨rfl, b10⟩ := he
        refine hbadr q9' (Ext.of_below b10) ?_
        rw [← hR]; unfold cntR; rw [hc0, if_pos (by omega), ← hsz]
      rw [if_neg (by omega)] at hc0
      refine (need_ret q9'.1.rd hjl).ret fun w10 b10 => ⟨_, rfl, fun g6 => ?_, fun g6 => ?_⟩
      · simp only [beq_iff_eq] at g6
        rw [if_pos (by omega)] at hc0
        have q10 := qb q9' b10
        refine ⟨j, q10.1.rd.cell 1, mv q10 (by omega) rfl fun w11 q11 => ?_⟩
        refine st9 q11 (by decide) (show _ = cs lo (-1) false from rfl) fun w12 q12 => ?_
        by_cases hj1 : j + 1 < s.size
        case neg =>
          refine (need_bad q12.1.rd hj1).use fun e w13 he => ?_
          obtain ⟨rfl, b13⟩ := he
          refine hbadr q12 (Ext.of_below b13) ?_
          rw [← hR]; unfold cntR; rw [hc0, if_pos (by omega), ← hsz]
        rw [if_neg (by omega)] at hc0
        refine (need_ret q12.1.rd hj1).ret fun w13 b13 => ⟨_, rfl, fun g7 => ?_, fun g7 => ?_⟩
        · have g7' : ¬ at_ (L s) (j + 1) = 125 := by have : ¬ ((at_ (L s) (j + 1) : Nat) : Int) = 125 := by simpa using g7
                                                     omega
          rw [if_neg g7'] at hc0
          have q13 := qb q12 b13
          refine ⟨_, q13.1.rd.cell 1, ?_⟩
          refine (number_ok q13.1.rd hs (by omega)).use fun e w14 he => ?_
          obtain ⟨e14, he⟩ := he
          cases hn2 : numP (L s) (j + 1) with
          | bad n =>
            rw [hn2] at he hc0; subst he
            exact hbadr q13 e14 (by rw [← hR]; unfold cntR; rw [hc0])
          | ok y =>
          obtain ⟨k, hi'⟩ := y
          rw [hn2] at he hc0
          simp only [] at hc0
          obtain ⟨rfl, r14, hk⟩ := he
          have q14 := qr q13 e14 r14
          refine ⟨_, rfl, st9 q14 (by decide) (show _ = cs lo hi' false from rfl) fun w15 q15 => ?_⟩
          refine ⟨_, q15.2.1.cell 3, _, q15.2.1.cell 2, fun g8 => ?_, fun g8 => ?_⟩
          · have g8' := of_decide_eq_true g8
            refine (fail_ok b (j + 1) rfl w15).use fun e w16 he => ?_
            obtain ⟨rfl, rfl⟩ := he
            refine hbadr q15 (Ext.refl _ _) ?_
            rw [← hR]; unfold cntR; rw [hc0, if_pos (by omega)]
          · have g8' := of_decide_eq_false g8
            rw [if_neg (by omega)] at hc0
            by_cases hkl : k < s.size
            case neg =>
              refine (need_bad q15.1.rd hkl).use fun e w16 he => ?_
              obtain ⟨rfl, b16⟩ := he
              refine hbadr q15 (Ext.of_below b16) ?_
              rw [← hR]; unfold cntR; rw [hc0, if_pos (by omega), ← hsz]
            rw [if_neg (by omega)] at hc0
            refine (need_ret q15.1.rd hkl).ret fun w16 b16 => ⟨_, rfl, fun g9 => ?_, fun g9 => ?_⟩
            · have g9' : ¬ at_ (L s) k = 125 := by have : ¬ ((at_ (L s) k : Nat) : Int) = 125 := by simpa using g9
                                                   omega
              have q16 := qb q15 b16
              refine ⟨_, q16.1.rd.cell 1, (fail_ok b k rfl w16).use fun e w17 he => ?_⟩
              obtain ⟨rfl, rfl⟩ := he
              refine hbadr q16 (Ext.refl _ _) ?_
              rw [← hR]; unfold cntR; rw [hc0, if_neg g9']
            · have g9' : at_ (L s) k = 125 := by have : ((at_ (L s) k : Nat) : Int) = 125 := by simpa using g9
                                                 omega
              rw [if_pos g9'] at hc0
              have q16 := qb q15 b16
              exact ⟨k, q16.1.rd.cell 1, mv q16 (by omega) rfl fun w17 q17 => ⟨_, _, _, q17, by omega, hc0⟩⟩
        · have g7' : at_ (L s) (j + 1) = 125 := by have : ((at_ (L s) (j + 1) : Nat) : Int) = 125 := by simpa using g7
                                                   omega
          rw [if_pos g7'] at hc0
          have q13 := qb q12 b13
          refine (need_ret q13.1.rd hj1).ret fun w14 b14 => ⟨_, rfl, fun g8 => ?_, fun g8 => ?_⟩
          · have : ¬ ((at_ (L s) (j + 1) : Nat) : Int) = 125 := by simpa using g8
            omega
          · have q14 := qb q13 b14
            exact ⟨_, q14.1.rd.cell 1, mv q14 (by omega) rfl fun w17 q17 => ⟨_, _, _, q17, by omega, hc0⟩⟩
      · have g6' : ¬ at_ (L s) j = 44 := by have : ¬ ((at_ (L s) j : Nat) : Int) = 44 := by simpa using g6
                                            omega
        rw [if_neg g6'] at hc0
        have q10 := qb q9' b10
        refine (need_ret q10.1.rd hjl).ret fun w11 b11 => ⟨_, rfl, fun g7 => ?_, fun g7 => ?_⟩
        · have g7' : ¬ at_ (L s) j = 125 := by have : ¬ ((at_ (L s) j : Nat) : Int) = 125 := by simpa using g7
                                               omega
          have q11 := qb q10 b11
          refine ⟨_, q11.1.rd.cell 1, (fail_ok b j rfl w11).use fun e w12 he => ?_⟩
          obtain ⟨rfl, rfl⟩ := he
          refine hbadr q11 (Ext.refl _ _) ?_
          rw [← hR]; unfold cntR; rw [hc0, if_neg g7']
        · have g7' : at_ (L s) j = 125 := by have : ((at_ (L s) j : Nat) : Int) = 125 := by simpa using g7
                                             omega
          rw [if_pos g7'] at hc0
          have q11 := qb q10 b11
          exact ⟨_, q11.1.rd.cell 1, mv q11 (by omega) rfl fun w17 q17 => ⟨_, _, _, q17, by omega, hc0⟩⟩
    · rw [if_neg (by omega), if_neg (by omega), if_neg (by omega), if_neg (by omega)] at hc0
      rw [← hR]
      unfold cntR
      rw [hc0]
      exact ⟨rfl, a, ln, c, rs, q5.1, Step.of_ext q5.2.2.2⟩
  · rintro - w6 ⟨j, m1, m2, q6, hj, hc⟩
    refine drw_in fun w7 q7' e7 => ?_
    have q7 := qe q6 e7
    have hput : ∀ {w' : World} {k : Nat} {z : Bool}, Q w' k m1 m2 z → R = .ok ((k, g, ps ++ [pRep m1 m2 z x]), (ps.length : Int)) →
        ∃ (n103 : Int), cellH w'.heap b9 0 = some (.int .i64 n103) ∧ ∃ (a104 : Option Addr), ∃ (l104 : Nat), ∃ (c104 : Nat), cellH w'.heap b9 1 = some (.slice a104 l104 c104) ∧ ∃ (n105 : Int), cellH w'.heap b9 2 = some (.int .i64 n105) ∧ ∃ (n106 : Int), cellH w'.heap b9 3 = some (.int .i64 n106) ∧ ∃ (t107 : Bool), cellH w'.heap b9 4 = some (.bool t107) ∧ ∃ (n108 : Int), cellH w'.heap b9 5 = some (.int .i64 n108) ∧ ∃ (a109 : Option Addr), ∃ (l109 : Nat), ∃ (c109 : Nat), cellH w'.heap b9 6 = some (.slice a109 l109 c109) ∧
          Cl Try.prog 110 [.pointer (some ⟨b, 0, none⟩), .agg #[.int .i64 n103, .slice a104 l104 c104, .int .i64 n105, .int .i64 n106, .bool t107, .int .i64 n108, .slice a109 l109 c109]] w' (retG (fun (r112 : Value) (w111 : World) => ∃ (n110 : Int), r112 = .int .i64 n110 ∧ ResI N w b s dp (blks a rs) R (.returned (.int .i64 n110)) w111) fun c1 w1 => ResI N w b s dp (blks a rs) R (.panicked c1) w1) := by
      intro w' k z hq hr
      refine ⟨_, hq.2.1.cell 0, _, _, _, hq.2.1.cell 1, _, hq.2.1.cell 2, _, hq.2.1.cell 3, _, hq.2.1.cell 4, _, hq.2.1.cell 5, _, _, _, hq.2.1.cell 6, ?_⟩
      have hok : RawOk w' ⟨4, none, 0, 0, m1, m2, z, 0, some ⟨b7, 0, none⟩, 1, 1⟩ (pRep m1 m2 z x) := ⟨rfl, rfl, rfl, rfl, rfl, Vec.nil _ _ _, ⟨rfl, Nat.le_refl _, .inr ⟨b7, _, rfl, hq.2.2.1, rfl, rfl⟩⟩⟩
      refine (put_ok (r := ⟨4, none, 0, 0, m1, m2, z, 0, some ⟨b7, 0, none⟩, 1, 1⟩) hq.1 hok (by simp [Raw.blocks, ob, blkOf]) (fun k hk => ?_) hl).use fun e w8 he => ?_
      · have hk' : k = b7 := by simpa [Raw.blocks, ob, blkOf] using hk
        subst hk'
        exact ⟨fun hm => by have := hB _ hm; omega, by have := h.hN; omega⟩
      · obtain ⟨rfl, a2, c2, p8, e8, hb8⟩ := he
        refine ⟨_, rfl, ?_⟩
        subst hr
        refine ⟨by rw [hlen'], a2, ln + 1, c2, _, p8, ?_, fun k hk => ?_⟩
        · exact (Ext.mono hq.2.2.2 fun _ _ hk => .inl hk).trans e8
        · rcases hb8 k hk with h1 | h1 | h1
          · exact .inl h1
          · have hk' : k = b7 := by simpa [Raw.blocks, ob, blkOf] using h1
            exact .inr (by omega)
          · exact .inr (Nat.le_trans hq.2.2.2.size h1)
    refine (end_ok q7.1.rd).ret fun w8 b8 => ⟨_, rfl, fun g2 => ?_, fun g2 => ?_⟩
    · have g2' : j < s.size := by
        have : decide (s.size ≤ j) = false := by simpa using g2
        have := of_decide_eq_false this; omega
      have q8 := qb q7 b8
      refine ⟨s, q8.1.rd.cell 0, j, q8.1.rd.cell 1, ⟨by omega, by omega⟩, ?_⟩
      rw [byteI s (j := j) rfl]
      refine ⟨fun g3 => ?_, fun g3 => ?_⟩
      · simp only [beq_iff_eq] at g3
        refine st9 q8 (by decide) (show _ = cs m1 m2 true from rfl) fun w9 q9'' => ?_
        refine ⟨j, q9''.1.rd.cell 1, mv q9'' (by omega) rfl fun w10 q10 => hput q10 ?_⟩
        rw [← hR]; unfold cntR; rw [hc]; unfold lazP; rw [if_pos ⟨by omega, by omega⟩]
      · simp only [beq_eq_false_iff_ne, ne_eq] at g3
        refine hput q8 ?_
        rw [← hR]; unfold cntR; rw [hc]; unfold lazP; rw [if_neg (by omega)]
    · have g2' : ¬ j < s.size := by
        have : decide (s.size ≤ j) = true := by simpa using g2
        have := of_decide_eq_true this; omega
      refine hput (qb q7 b8) ?_
      rw [← hR]; unfold cntR; rw [hc]; unfold lazP; rw [if_neg (by omega)]
end Go.Proofs.Ytngbiaeliphdjaa.V
/- An atom in the program's reader. No statement of the seat is proved here. -/
namespace Go.Proofs.Ytngbiaeliphdjaa.V
open Go.Vc Go.Proofs Go.RowKit
set_option linter.unusedVariables false
set_option linter.unusedSimpArgs false

def subP (l : Bytes) : Nat → St → Pr (St × Int)
  | 0 => fun _ => .bad 0
  | d + 1 => patP l d
/-- The contract of pattern, at most d groups deep. -/
def PatC (d : Nat) : Prop := ∀ (N : Nat) (w : World) (b : Nat) (s : ByteArray) (i g : Nat) (dp : Int) (a : Option Addr) (ln c : Nat) (rs : List Raw) (ps : List Pc), PSt N w b s i g dp a ln c rs ps → s.size ≤ 120 → i ≤ s.size → g ≤ 9 → dp = 6 - (d : Int) → d ≤ 6 → ln + 4 * (s.size - i) + 4 * d ≤ 900 →
  Cl Try.prog 74 [.pointer (some ⟨b, 0, none⟩)] w (ResI N w b s dp (blks a rs) (patP (L s) d (i, g, ps)))

section
variable {N : Nat} {w : World} {b : Nat} {s : ByteArray} {i g : Nat} {dp : Int} {a : Option Addr} {ln c : Nat} {rs : List Raw} {ps : List Pc}
theorem PSt.mv {K : World → Prop} {n : Int} (h : PSt N w b s i g dp a ln c rs ps) (hj : i ≤ 1000) (hn : n = i) (hK : ∀ w', PSt N w' b s (i + 1) g dp a ln c rs ps → Ext (fun k => k = b) w w' → K w') : stW b (0 + 1) [.int .i64 (IntKind.wrap .i64 (n + 1))] K w := by
  subst hn
  exact h.rd.mv (j := i + 1) (by rw [w64 (by omega)]; omega) fun w'' s'' k'' e'' => hK w'' (h.upd e'' k'') e''
/-- A piece of a set is put, its ranges being a new row. -/
theorem putSet {w0 : World} (h : PSt N w b s i g dp a ln c rs ps) (E : Ext (fun k => k = b) w0 w) (hB0 : ∀ k ∈ blks a rs, k < w0.heap.size) {sa : Option Addr} {sc sl : Nat} {set : List (Int × Int)} (hsl : sl = set.length) (hv : Vec w.heap 134 2 sa sl sc (rngC set)) (hf : ∀ k, blkOf sa = some k → w0.heap.size ≤ k) (hN0 : N ≤ w0.heap.size) (hl : ln ≤ 1000) {r : Pr (St × Int)}
    (hr : r = .ok ((i, g, ps ++ [pSet set]), (ps.length : Int))) : Cl Try.prog 110 [.pointer (some ⟨b, 0, none⟩), .agg #[.int .i64 1, .slice sa sl sc, .int .i64 0, .int .i64 0, .bool false, .int .i64 0, .slice none 0 0]] w
      (retG (fun (r112 : Value) (w111 : World) => ∃ (n110 : Int), r112 = .int .i64 n110 ∧ ResI N w0 b s dp (blks a rs) r (.returned (.int .i64 n110)) w111) fun c1 w1 => ResI N w0 b s dp (blks a rs) r (.panicked c1) w1) := by
  have hok : RawOk w ⟨1, sa, sl, sc, 0, 0, false, 0, none, 0, 0⟩ (pSet set) := ⟨rfl, rfl, rfl, rfl, rfl, hv, Vec.nil _ _ _⟩
  have hblk : (Raw.mk 1 sa sl sc 0 0 false 0 none 0 0).blocks = ob sa := by simp [Raw.blocks, ob, blkOf]
  refine (put_ok (r := ⟨1, sa, sl, sc, 0, 0, false, 0, none, 0, 0⟩) h hok (by rw [hblk]; unfold ob; cases blkOf sa <;> simp) (fun k hk => ?_) hl).use fun e w8 he => ?_
  · rw [hblk] at hk
    have := hf k (mem_ob.1 hk)
    exact ⟨fun hm => by have := hB0 _ hm; omega, by omega⟩
  · obtain ⟨rfl, a2, c2, p8, e8, hb8⟩ := he
    refine ⟨_, rfl, ?_⟩
    subst hr
    refine ⟨by rw [h.pcs.len'], a2, ln + 1, c2, _, p8, ?_, fun k hk => ?_⟩
    · exact (Ext.mono E fun _ _ hk => .inl hk).trans e8
    · rcases hb8 k hk with h1 | h1 | h1
      · exact .inl h1
      · rw [hblk] at h1; exact .inr (hf k (mem_ob.1 h1))
      · exact .inr (Nat.le_trans E.size h1)
/-- A piece without rows is put. -/
theorem putBare {w0 : World} (h : PSt N w b s i g dp a ln c rs ps) (E : Ext (fun k => k = b) w0 w) (kind : Int) {p : Pc} (hp : p = ⟨kind, [], 0, 0, false, 0, []⟩) (hl : ln ≤ 1000) {r : Pr (St × Int)}
    (hr : r = .ok ((i, g, ps ++ [p]), (ps.length : Int))) : Cl Try.prog 110 [.pointer (some ⟨b, 0, none⟩), .agg #[.int .i64 kind, .slice none 0 0, .int .i64 0, .int .i64 0, .bool false, .int .i64 0, .slice none 0 0]] w
      (retG (fun (r112 : Value) (w111 : World) => ∃ (n110 : Int), r112 = .int .i64 n110 ∧ ResI N w0 b s dp (blks a rs) r (.returned (.int .i64 n110)) w111) fun c1 w1 => ResI N w0 b s dp (blks a rs) r (.panicked c1) w1) := by
  subst hp
  have hok : RawOk w ⟨kind, none, 0, 0, 0, 0, false, 0, none, 0, 0⟩ ⟨kind, [], 0, 0, false, 0, []⟩ := ⟨rfl, rfl, rfl, rfl, rfl, Vec.nil _ _ _, Vec.nil _ _ _⟩
  have hblk : (Raw.mk kind none 0 0 0 0 false 0 none 0 0).blocks = [] := by simp [Raw.blocks, ob, blkOf]
  refine (put_ok (r := ⟨kind, none, 0, 0, 0, 0, false, 0, none, 0, 0⟩) h hok (by rw [hblk]; simp) (fun k hk => by rw [hblk] at hk; cases hk) hl).use fun e w8 he => ?_
  obtain ⟨rfl, a2, c2, p8, e8, hb8⟩ := he
  refine ⟨_, rfl, ?_⟩
  subst hr
  refine ⟨by rw [h.pcs.len'], a2, ln + 1, c2, _, p8, ?_, fun k hk => ?_⟩
  · exact (Ext.mono E fun _ _ hk => .inl hk).trans e8
  · rcases hb8 k hk with h1 | h1 | h1
    · exact .inl h1
    · rw [hblk] at h1; cases h1
    · exact .inr (Nat.le_trans E.size h1)
end

theorem atom_ok {N : Nat} {w : World} {b : Nat} {s : ByteArray} {i g : Nat} {dp : Int} {a : Option Addr} {ln c : Nat} {rs : List Raw} {ps : List Pc} (d : Nat) (hsub : ∀ d', d = d' + 1 → PatC d') (h : PSt N w b s i g dp a ln c rs ps) (hs : s.size ≤ 120) (hi : i < s.size) (hg : g ≤ 9) (hdp : dp = 6 - (d : Int)) (hd6 : d ≤ 6) (hbd : ln + 4 * (s.size - i) + 4 * d ≤ 900) :
    Cl Try.prog 126 [.pointer (some ⟨b, 0, none⟩), .int .u8 (at_ (L s) i)] w (ResI N w b s dp (blks a rs) (atomP (subP (L s) d) (decide (d = 0)) (L s) i g ps)) := by
  apply vc126
  unfold V126
  have hsz := size_L s
  have hlen' := h.pcs.len'
  have hB := h.pcs.lt
  have hbl := h.rd.lt
  have hc := at_lt (L s) i
  have hl : ln ≤ 1000 := by omega
  generalize hR : atomP (subP (L s) d) (decide (d = 0)) (L s) i g ps = R
  unfold atomP at hR
  refine ⟨fun g1 => ?_, fun g1 => ⟨fun g2 => ?_, fun g2 => ⟨fun g3 => ?_, fun g3 => ⟨fun g4 => ?_, fun g4 => ⟨fun g5 => ?_, fun g5 => ⟨fun g6 => ?_, fun g6 => ?_⟩⟩⟩⟩⟩⟩
  all_goals try simp only [beq_iff_eq, beq_eq_false_iff_ne, ne_eq] at g1
  all_goals try simp only [beq_iff_eq, beq_eq_false_iff_ne, ne_eq] at g2
  all_goals try simp only [beq_iff_eq, beq_eq_false_iff_ne, ne_eq] at g3
  all_goals try simp only [beq_iff_eq, beq_eq_false_iff_ne, ne_eq] at g4
  all_goals try simp only [beq_iff_eq, beq_eq_false_iff_ne, ne_eq] at g5
  all_goals try simp only [beq_iff_eq, beq_eq_false_iff_ne, ne_eq] at g6
  · rw [if_pos (by omega)] at hR
    refine ⟨fun w' => w' = w ∧ g ≠ 9 ∧ d ≠ 0, ?_, ?_⟩
    · refine ⟨_, h.rd.cell 2, fun g2 => ?_, fun g2 => ⟨_, h.rd.cell 3, fun g3 => ?_, fun g3 => ?_⟩⟩
      · simp only [beq_iff_eq] at g2
        rw [if_pos (.inl (by omega))] at hR
        refine ⟨_, h.rd.cell 1, (fail_ok b i rfl w).use fun e w2 he => ?_⟩
        obtain ⟨rfl, rfl⟩ := he
        exact ResI.bad hR.symm (Ext.refl _ _)
      · simp only [beq_iff_eq] at g3
        rw [if_pos (.inr (decide_eq_true (by omega)))] at hR
        refine ⟨_, h.rd.cell 1, (fail_ok b i rfl w).use fun e w2 he => ?_⟩
        obtain ⟨rfl, rfl⟩ := he
        exact ResI.bad hR.symm (Ext.refl _ _)
      · simp only [beq_eq_false_iff_ne, ne_eq] at g2 g3
        exact ⟨rfl, by omega, by omega⟩
    rintro - w1 ⟨rfl, hg9, hd0⟩
    obtain ⟨d', rfl⟩ : ∃ d', d = d' + 1 := ⟨d - 1, by omega⟩
    rw [if_neg (by simp; omega)] at hR
    refine ⟨_, h.rd.cell 2, ?_⟩
    dsimp only
    rw [show IntKind.wrap .i64 ((g : Int) + 1) = ((g + 1 : Nat) : Int) from by rw [w64 (by omega)]; omega]
    refine stW_in h.rd (by show 0 + 2 + 1 ≤ 5; decide) fun w2 s2 k2 e2 => ?_
    have p2 : PSt N w2 b s i (g + 1) dp a ln c rs ps := h.upd e2 k2
    refine ⟨_, p2.rd.cell 3, ?_⟩
    dsimp only
    rw [show IntKind.wrap .i64 (dp + 1) = dp + 1 from w64 (by omega)]
    refine stW_in p2.rd (by show 0 + 3 + 1 ≤ 5; decide) fun w3 s3 k3 e3 => ?_
    have p3 : PSt N w3 b s i (g + 1) (dp + 1) a ln c rs ps := p2.upd e3 k3
    refine ⟨_, p3.rd.cell 2, _, p3.rd.cell 1, p3.mv (by omega) rfl fun w4 p4 e4 => ?_⟩
    have E4 : Ext (fun k => k = b) w1 w4 := (e2.trans e3).trans e4
    refine (hsub d' rfl N w4 b s (i + 1) (g + 1) (dp + 1) a ln c rs ps p4 hs (by omega) (by omega) (by omega) (by omega) (by omega)).use fun e w5 he => ?_
    have hsubP : subP (L s) (d' + 1) (i + 1, g + 1, ps) = patP (L s) d' (i + 1, g + 1, ps) := rfl
    rw [hsubP] at hR
    cases hq : patP (L s) d' (i + 1, g + 1, ps) with
    | bad n =>
      rw [hq] at he hR
      obtain ⟨rfl, e5⟩ := he
      exact ResI.bad hR.symm ((Ext.mono E4 fun _ _ hk => .inl hk).trans e5)
    | ok y =>
    obtain ⟨⟨j, g', out'⟩, x⟩ := y
    have hlen := patP_len (L s) d' _ _ _ _ _ _ _ (by omega) hq
    rw [hq] at he hR
    simp only [] at hR
    obtain ⟨rfl, a5, ln5, c5, rs5, p5, st5⟩ := he
    have hln5 := p5.pcs.len'
    refine ⟨x, rfl, ?_⟩
    have st5' : Step b (blks a rs) w1 w5 (blks a5 rs5) := Step.trans (Step.of_ext E4) st5
    by_cases hjl : j < s.size
    case neg =>
      rw [if_pos (by omega)] at hR
      refine (need_bad p5.rd hjl).use fun e w6 he => ?_
      obtain ⟨rfl, b6⟩ := he
      rw [hsz]
      exact ResI.bad hR.symm (st5'.1.trans (Ext.of_below b6))
    rw [if_neg (by omega)] at hR
    refine (need_ret p5.rd hjl).ret fun w6 b6 => ⟨_, rfl, fun g2 => ?_, fun g2 => ?_⟩
    · have g2' : ¬ at_ (L s) j = 41 := by have : ¬ ((at_ (L s) j : Nat) : Int) = 41 := by simpa using g2
                                          omega
      rw [if_neg g2'] at hR
      refine ⟨_, (p5.below b6).rd.cell 1, (fail_ok b j rfl w6).use fun e w7 he => ?_⟩
      obtain ⟨rfl, rfl⟩ := he
      exact ResI.bad hR.symm (st5'.1.trans (Ext.of_below b6))
    · have g2' : at_ (L s) j = 41 := by have : ((at_ (L s) j : Nat) : Int) = 41 := by simpa using g2
                                        omega
      rw [if_pos g2'] at hR
      have p6 := p5.below b6
      refine ⟨_, p6.rd.cell 1, p6.mv (by omega) rfl fun w7 p7 e7 => ?_⟩
      refine ⟨_, p7.rd.cell 3, ?_⟩
      dsimp only
      rw [show IntKind.wrap .i64 (dp + 1 - 1) = dp from by rw [w64 (by omega)]; omega]
      refine stW_in p7.rd (by show 0 + 3 + 1 ≤ 5; decide) fun w8 s8 k8 e8 => ?_
      have p8 : PSt N w8 b s (j + 1) g' dp a5 ln5 c5 rs5 out' := p7.upd e8 k8
      refine newC_in fun w9 s9 k9 e9 => ?_
      have p9 : PSt N w9 b s (j + 1) g' dp a5 ln5 c5 rs5 out' := p8.other e9 (fun h => h) fun _ _ h => h
      have st9 : Step b (blks a rs) w1 w9 (blks a5 rs5) := Step.trans st5' (Step.trans (Step.of_below b6) (Step.of_ext ((e7.trans e8).trans (Ext.mono e9 fun _ _ h => h.elim))))
      have z58 : w5.heap.size ≤ w8.heap.size := Nat.le_trans b6.size (Nat.le_trans e7.size e8.size)
      have z18 : w1.heap.size ≤ w8.heap.size := Nat.le_trans st5'.1.size z58
      have hok : RawOk w9 ⟨5, none, 0, 0, 0, 0, false, ((g + 1 : Nat) : Int), some ⟨w8.heap.size, 0, none⟩, 1, 1⟩ (pGrp ((g + 1 : Nat) : Int) x) := ⟨rfl, rfl, rfl, rfl, rfl, Vec.nil _ _ _, ⟨rfl, Nat.le_refl _, .inr ⟨_, _, rfl, k9, rfl, rfl⟩⟩⟩
      refine (put_ok (r := ⟨5, none, 0, 0, 0, 0, false, ((g + 1 : Nat) : Int), some ⟨w8.heap.size, 0, none⟩, 1, 1⟩) p9 hok (by simp [Raw.blocks, ob, blkOf]) (fun k hk => ?_) (by omega)).use fun e w10 he => ?_
      · have hk' : k = w8.heap.size := by simpa [Raw.blocks, ob, blkOf] using hk
        subst hk'
        exact ⟨fun hm => by have := p8.pcs.lt _ hm; omega, p8.hN⟩
      · obtain ⟨rfl, a2, c2, p10, e10, hb10⟩ := he
        refine ⟨_, rfl, ?_⟩
        rw [← hR]
        refine ⟨by rw [hln5], a2, ln5 + 1, c2, _, p10, st9.1.step e10 fun k hk hk' => ?_, fun k hk => ?_⟩
        · rcases hk' with h1 | h1
          · exact .inl h1
          · rcases st9.2 k h1 with h2 | h2
            · exact .inr h2
            · omega
        · rcases hb10 k hk with h1 | h1 | h1
          · exact st9.2 k h1
          · have hk' : k = w8.heap.size := by simpa [Raw.blocks, ob, blkOf] using h1
            exact .inr (by omega)
          · exact .inr (Nat.le_trans st9.1.size h1)
  · -- a set
    rw [if_neg (by omega), if_pos (by omega)] at hR
    refine (set_ok h.rd hs hi).use fun e w1 he => ?_
    obtain ⟨e1, he⟩ := he
    cases hq : setP (L s) i with
    | bad n => rw [hq] at he hR; subst he; exact ResI.bad hR.symm (Ext.mono e1 fun _ _ hk => .inl hk)
    | ok y =>
      obtain ⟨j, set⟩ := y
      rw [hq] at he hR
      obtain ⟨a', c', rfl, hRow, hRd⟩ := he
      exact ⟨_, _, _, rfl, putSet (h.upd e1 hRd) e1 hB rfl hRow.1 hRow.2.1 h.hN hl hR.symm⟩
  · -- the dot
    rw [if_neg (by omega), if_neg (by omega), if_pos (by omega)] at hR
    refine ⟨_, h.rd.cell 1, h.mv (by omega) rfl fun w1 p1 e1 => ?_⟩
    refine newC_in fun w2 s2 k2 e2 => ?_
    rw [← b256_false, ← inR_nil] at k2
    refine (addR_ok k2 0 9 (by decide) rfl rfl).use fun e w3 he => ?_
    obtain ⟨rfl, k3, e3⟩ := he
    refine ⟨rfl, (addR_ok k3 11 255 (by decide) rfl rfl).use fun e w4 he => ?_⟩
    obtain ⟨rfl, k4, e4⟩ := he
    refine ⟨rfl, (ranges_ok k4).use fun e w5 he => ?_⟩
    obtain ⟨a', c', rfl, hRow, b5⟩ := he
    have z1 := e1.size
    have E5 : Ext (fun k => k = b) w w5 := ((e1.trans (Ext.mono e2 fun _ _ h => h.elim)).step (e3.trans e4) fun k hk h => by omega).trans (Ext.of_below b5)
    have e34 := (Ext.mono e2 (T := fun k => k = w1.heap.size) fun _ _ h => h.elim).trans (e3.trans e4)
    have p5 : PSt N w5 b s (i + 1) g dp a ln c rs ps := (p1.other e34 (by have := p1.rd.lt; omega) fun k hk hk' => by have := hB k hk; omega).below b5
    have z4 := e34.size
    exact ⟨_, _, _, rfl, putSet p5 E5 hB rfl hRow.1 (fun k hk => Nat.le_trans (Nat.le_trans z1 z4) (hRow.2.1 k hk)) h.hN hl hR.symm⟩
  · rw [if_neg (by omega), if_neg (by omega), if_neg (by omega), if_pos (by omega)] at hR
    exact ⟨_, h.rd.cell 1, h.mv (by omega) rfl fun w1 p1 e1 => putBare p1 e1 6 (p := pSta) rfl hl hR.symm⟩
  · rw [if_neg (by omega), if_neg (by omega), if_neg (by omega), if_neg (by omega), if_pos (by omega)] at hR
    exact ⟨_, h.rd.cell 1, h.mv (by omega) rfl fun w1 p1 e1 => putBare p1 e1 7 (p := pEnd) rfl hl hR.symm⟩
  · -- an escape
    rw [if_neg (by omega), if_neg (by omega), if_neg (by omega), if_neg (by omega), if_neg (by omega), if_pos (by omega)] at hR
    refine (escape_ok h.rd (by omega)).use fun e w1 he => ?_
    obtain ⟨e1, he⟩ := he
    cases hq : escP (L s) (i + 1) with
    | bad n => rw [hq] at he hR; subst he; exact ResI.bad hR.symm (Ext.mono e1 fun _ _ hk => .inl hk)
    | ok y =>
      obtain ⟨j, r, o⟩ := y
      rw [hq] at he hR
      obtain ⟨rfl, hRd⟩ := he
      have p1 := h.upd e1 hRd
      have z1 := e1.size
      refine ⟨_, _, rfl, newC_in fun w2 s2 k2 e2 => stA_in k2 (b256_length _) List.length_replicate (b256_scal _) fun w3 s3 k3 e3 => ?_⟩
      refine (ranges_ok k3).use fun e w5 he => ?_
      obtain ⟨a', c', rfl, hRow, b5⟩ := he
      have e23 := (Ext.mono e2 (T := fun k => k = w1.heap.size) fun _ _ h => h.elim).trans e3
      have E5 : Ext (fun k => k = b) w w5 := (e1.step e23 fun k hk h => by omega).trans (Ext.of_below b5)
      have p5 : PSt N w5 b s j g dp a ln c rs ps := (p1.other e23 (by have := p1.rd.lt; omega) fun k hk hk' => by have := hB k hk; omega).below b5
      have z4 := e23.size
      exact ⟨_, _, _, rfl, putSet p5 E5 hB rfl hRow.1 (fun k hk => Nat.le_trans (Nat.le_trans z1 z4) (hRow.2.1 k hk)) h.hN hl hR.symm⟩
  · rw [if_neg (by omega), if_neg (by omega), if_neg (by omega), if_neg (by omega), if_neg (by omega), if_neg (by omega)] at hR
    refine ⟨fun t w' => w' = w ∧ (t = true ↔ (at_ (L s) i = 41 ∨ at_ (L s) i = 93 ∨ at_ (L s) i = 123 ∨ at_ (L s) i = 125 ∨ at_ (L s) i = 42 ∨ at_ (L s) i = 43 ∨ at_ (L s) i = 63 ∨ at_ (L s) i = 124)), ?_, ?_⟩
    · repeat' (apply And.intro <;> intro g)
      all_goals refine ⟨rfl, ?_⟩
      all_goals simp only [beq_iff_eq, beq_eq_false_iff_ne, ne_eq, true_iff] at *
      all_goals omega
    · rintro - t w1 ⟨rfl, ht⟩
      refine ⟨fun g7 => ?_, fun g7 => ?_⟩
      · rw [if_pos (ht.1 g7)] at hR
        refine ⟨_, h.rd.cell 1, (fail_ok b i rfl w1).use fun e w2 he => ?_⟩
        obtain ⟨rfl, rfl⟩ := he
        exact ResI.bad hR.symm (Ext.refl _ _)
      · rw [if_neg (fun hc => by have := ht.2 hc; rw [g7] at this; cases this)] at hR
        refine ⟨_, h.rd.cell 1, h.mv (by omega) rfl fun w2 p2 e2 => ?_⟩
        rw [show IntKind.wrap .i64 ((at_ (L s) i : Nat) : Int) = ((at_ (L s) i : Nat) : Int) from w64 (by omega)]
        refine newC_in fun w3 s3 k3 e3 => ?_
        have z2 := e2.size
        have E3 : Ext (fun k => k = b) w1 w3 := e2.trans (Ext.mono e3 fun _ _ h => h.elim)
        have p3 : PSt N w3 b s (i + 1) g dp a ln c rs ps := p2.other e3 (fun h => h) fun _ _ h => h
        exact putSet p3 E3 hB (set := [((at_ (L s) i : Int), (at_ (L s) i : Int))]) rfl ⟨rfl, Nat.le_refl _, .inr ⟨_, _, rfl, k3, rfl, rfl⟩⟩ (fun k hk => by simp [blkOf] at hk; omega) h.hN hl hR.symm
end Go.Proofs.Ytngbiaeliphdjaa.V
/- A sequence in the program's reader. No statement of the seat is proved here. -/
namespace Go.Proofs.Ytngbiaeliphdjaa.V
open Go.Vc Go.Proofs Go.RowKit
set_option linter.unusedVariables false
set_option linter.unusedSimpArgs false

/-- The row of a sequence's or an alternative's kids: of the call's own, none of the pieces' blocks. -/
def Kids (w0 w : World) (B : List Nat) (a : Option Addr) (l c : Nat) (kids : List Int) : Prop := Vec w.heap 3 1 a l c (intC kids) ∧ l = kids.length ∧ ∀ k, blkOf a = some k → w0.heap.size ≤ k ∧ k ∉ B
theorem Kids.step {w0 w w' : World} {b : Nat} {B B' : List Nat} {a : Option Addr} {l c : Nat} {kids : List Int} (h : Kids w0 w B a l c kids) (hb : b < w0.heap.size) (e : Step b B w w' B') : Kids w0 w' B' a l c kids := by
  refine ⟨h.1.keep e.1 fun k hk hk' => ?_, h.2.1, fun k hk => ⟨(h.2.2 k hk).1, fun hB' => ?_⟩⟩
  · have := h.2.2 k hk
    rcases hk' with h1 | h1
    · omega
    · exact this.2 h1
  · have h1 := h.2.2 k hk
    have h2 := h.1.lt k hk
    rcases e.2 k hB' with h3 | h3
    · exact h1.2 h3
    · omega
theorem Kids.below {w0 w w' : World} {B : List Nat} {a : Option Addr} {l c : Nat} {kids : List Int} (h : Kids w0 w B a l c kids) (e : Below w.heap.size w w') : Kids w0 w' B a l c kids :=
  ⟨h.1.keep (S := fun _ => False) (Ext.of_below e) fun _ _ h => h, h.2⟩
/-- One kid more. -/
theorem Kids.app {w0 w : World} {B : List Nat} {a : Option Addr} {l c : Nat} {kids : List Int} (h : Kids w0 w B a l c kids) (hB : ∀ k ∈ B, k < w.heap.size) (hw : w0.heap.size ≤ w.heap.size) (hl : l ≤ 1000) (x : Int) :
    ∃ a2 c2 w', (Builtin.append_ #[109, 109] 109 #[.slice a l c, .slice (some ⟨w.heap.size, 0, none⟩) 1 1]).run Try.prog (newW w (.cells ⟨[.int .i64 x]⟩ 3)) = .ok (.slice a2 (l + 1) c2) w' ∧ Kids w0 w' B a2 (l + 1) c2 (kids ++ [x]) ∧ Ext (fun k => blkOf a = some k) w w' := by
  have E1 : Ext (fun _ => False) w (newW w (.cells ⟨[.int .i64 x]⟩ 3)) := (Ext.refl _ w).vnew _
  obtain ⟨a2, c2, w', h1, h2, h3, h4⟩ := append_run (P := Try.prog) (T := 109) (T' := 109) (T'' := 109) elemInt.und elemInt.und elemInt.size elemInt.bytes (by rw [show zeroL Try.prog 3 = some _ from elemInt.zero.choose_spec.1]; simp)
    (by rw [show zeroL Try.prog 3 = some _ from elemInt.zero.choose_spec.1]; intro y hy; cases hy; exact elemInt.zero.choose_spec.2) (h.1.keep E1 fun _ _ h => h) (a' := some ⟨w.heap.size, 0, none⟩) (n := 1) (c' := 1) (ys := [.int .i64 x]) rfl rfl (.inr ⟨_, _, rfl, cellsAt_newW w _ _⟩) (fun h => by cases h) (by omega) (by omega)
  rw [size_newW] at h4
  refine ⟨a2, c2, w', h1, ⟨by rw [intC_append]; exact h2, by rw [List.length_append, h.2.1]; rfl, fun k hk => ?_⟩, (Ext.mono E1 fun _ _ h => h.elim).trans h3⟩
  rcases h4 with rfl | rfl
  · exact h.2.2 k hk
  · simp only [blkOf, Option.some.injEq] at hk
    exact ⟨by omega, fun hm => by have := hB k hm; omega⟩
/-- A piece with kids is put. -/
theorem putKids {N : Nat} {w0 w : World} {b : Nat} {s : ByteArray} {i g : Nat} {dp : Int} {a : Option Addr} {ln c : Nat} {rs : List Raw} {ps : List Pc} {B0 : List Nat} (h : PSt N w b s i g dp a ln c rs ps) (st : Step b B0 w0 w (blks a rs)) {ka : Option Addr} {kl kc : Nat} {kids : List Int} (hk : Kids w0 w (blks a rs) ka kl kc kids) (hN0 : N ≤ w0.heap.size) (hl : ln ≤ 1000)
    {n : Int} {p : Pc} (hp : p = ⟨n, [], 0, 0, false, 0, kids⟩) {r : Pr (St × Int)} (hr : r = .ok ((i, g, ps ++ [p]), (ps.length : Int))) :
    Cl Try.prog 110 [.pointer (some ⟨b, 0, none⟩), .agg #[.int .i64 n, .slice none 0 0, .int .i64 0, .int .i64 0, .bool false, .int .i64 0, .slice ka kl kc]] w
      (retG (fun (r112 : Value) (w111 : World) => ∃ (n110 : Int), r112 = .int .i64 n110 ∧ ResI N w0 b s dp B0 r (.returned (.int .i64 n110)) w111) fun c1 w1 => ResI N w0 b s dp B0 r (.panicked c1) w1) := by
  subst hp
  have hok : RawOk w ⟨n, none, 0, 0, 0, 0, false, 0, ka, kl, kc⟩ ⟨n, [], 0, 0, false, 0, kids⟩ := ⟨rfl, rfl, rfl, rfl, rfl, Vec.nil _ _ _, hk.1⟩
  have hblk : (Raw.mk n none 0 0 0 0 false 0 ka kl kc).blocks = ob ka := by simp [Raw.blocks, ob, blkOf]
  refine (put_ok (r := ⟨n, none, 0, 0, 0, 0, false, 0, ka, kl, kc⟩) h hok (by rw [hblk]; unfold ob; cases blkOf ka <;> simp) (fun k hm => ?_) hl).use fun e w8 he => ?_
  · rw [hblk] at hm
    have := hk.2.2 k (mem_ob.1 hm)
    exact ⟨this.2, by omega⟩
  · obtain ⟨rfl, a2, c2, p8, e8, hb8⟩ := he
    refine ⟨_, rfl, ?_⟩
    subst hr
    refine ⟨by rw [h.pcs.len'], a2, ln + 1, c2, _, p8, st.1.step e8 fun k hk hk' => ?_, fun k hk' => ?_⟩
    · rcases hk' with h1 | h1
      · exact .inl h1
      · rcases st.2 k h1 with h2 | h2
        · exact .inr h2
        · omega
    · rcases hb8 k hk' with h1 | h1 | h1
      · exact st.2 k h1
      · rw [hblk] at h1; exact .inr (hk.2.2 k (mem_ob.1 h1)).1
      · exact .inr (Nat.le_trans st.1.size h1)

theorem seq_ok {N : Nat} {w : World} {b : Nat} {s : ByteArray} {i g : Nat} {dp : Int} {a : Option Addr} {ln c : Nat} {rs : List Raw} {ps : List Pc} (d : Nat) (hsub : ∀ d', d = d' + 1 → PatC d') (hsl : SubOk (L s) (subP (L s) d)) (h : PSt N w b s i g dp a ln c rs ps) (hs : s.size ≤ 120) (hi : i ≤ s.size) (hg : g ≤ 9) (hdp : dp = 6 - (d : Int)) (hd6 : d ≤ 6) (hbd : ln + 4 * (s.size - i) + 4 * d ≤ 950) (hbd' : i < s.size → ln + 4 * (s.size - i) + 4 * d ≤ 900) :
    Cl Try.prog 109 [.pointer (some ⟨b, 0, none⟩)] w (ResI N w b s dp (blks a rs) (seqL (subP (L s) d) (decide (d = 0)) (L s) i g ps [])) := by
  apply vc109
  unfold V109
  have hsz := size_L s
  have hbl := h.rd.lt
  generalize hR : seqL (subP (L s) d) (decide (d = 0)) (L s) i g ps [] = R
  refine ⟨fun k ka kl kc w' => ∃ (j g' : Nat) (a' : Option Addr) (ln' c' : Nat) (rs' : List Raw) (out : List Pc) (kids : List Int), PSt N w' b s j g' dp a' ln' c' rs' out ∧ seqL (subP (L s) d) (decide (d = 0)) (L s) j g' out kids = R ∧ Kids w w' (blks a' rs') ka kl kc kids ∧ Step b (blks a rs) w w' (blks a' rs') ∧ k = s.size - j ∧ i ≤ j ∧ j ≤ s.size ∧ g' ≤ 9 ∧ ln' + 4 * (s.size - j) + 4 * d ≤ 950 ∧ (j < s.size → ln' + 4 * (s.size - j) + 4 * d ≤ 900) ∧ kids.length ≤ j,
    ⟨_, i, g, a, ln, c, rs, ps, [], h, hR, ⟨Vec.nil _ _ _, rfl, by simp [blkOf]⟩, Step.refl _ _ _, rfl, Nat.le_refl _, hi, hg, hbd, hbd', by simp⟩, ?_⟩
  rintro k dd ka kl kc w1 ⟨j, g', a', ln', c', rs', out, kids, p1, hq, hK, st1, rfl, hij, hj, hg', hb', hb'', hkl⟩
  have hout : ¬ (j < s.size ∧ at_ (L s) j ≠ 124 ∧ at_ (L s) j ≠ 41) → R = .ok ((j, g', out ++ [pSeq kids]), (out.length : Int)) := by
    intro hn
    rw [← hq, seqL, dif_neg (by rw [← hsz]; exact hn)]
  refine (end_ok p1.rd).ret fun w2 b2 => ⟨_, rfl, fun g1 => ?_, fun g1 => ?_⟩
  · have g1' : j < s.size := by
      have : decide (s.size ≤ j) = false := by simpa using g1
      have := of_decide_eq_false this; omega
    have hb900 := hb'' g1'
    refine drw_in fun w3 q3 e3 => ?_
    have b3 : Below w1.heap.size w1 w3 := Ext.to b2 e3 fun _ h => h.elim
    have p3 := p1.below b3
    have K3 := hK.below b3
    have st3 : Step b (blks a rs) w w3 (blks a' rs') := Step.trans st1 (Step.of_below b3)
    refine ⟨s, p3.rd.cell 0, j, p3.rd.cell 1, ⟨by omega, by omega⟩, ?_⟩
    rw [byteI s (j := j) rfl]
    refine ⟨fun g2 => ?_, fun g2 => ⟨fun g3 => ?_, fun g3 => ?_⟩⟩
    · simp only [beq_iff_eq] at g2
      exact putKids p3 st3 K3 h.hN (by omega) rfl (hout (by omega))
    · simp only [beq_iff_eq] at g3
      exact putKids p3 st3 K3 h.hN (by omega) rfl (hout (by omega))
    · simp only [beq_eq_false_iff_ne, ne_eq] at g2 g3
      have hcnd : j < (L s).length ∧ at_ (L s) j ≠ 124 ∧ at_ (L s) j ≠ 41 := ⟨by omega, by omega, by omega⟩
      refine (atom_ok d hsub p3 hs g1' hg' hdp hd6 hb900).use fun e w4 he => ?_
      cases ha : atomP (subP (L s) d) (decide (d = 0)) (L s) j g' out with
      | bad n =>
        rw [ha] at he
        obtain ⟨rfl, e4⟩ := he
        refine ResI.bad (by rw [← hq, seqL_bad hcnd (pieceP_bad ha)]) (st3.1.step e4 fun k hk hk' => ?_)
        rcases hk' with h1 | h1
        · exact .inl h1
        · rcases st3.2 k h1 with h2 | h2
          · exact .inr h2
          · omega
      | ok y =>
      obtain ⟨⟨j1, g1', out1⟩, x1⟩ := y
      have hal := atomP_len hsl (by omega) ha
      have hpe := pieceP_ok ha
      rw [ha] at he
      obtain ⟨rfl, a4, ln4, c4, rs4, p4, s4⟩ := he
      have hl4 := p4.pcs.len'
      have hl1 := p1.pcs.len'
      have st4 := Step.trans st3 s4
      have K4 := K3.step hbl s4
      refine ⟨x1, rfl, ?_⟩
      refine (counts_ok p4 hs (by omega) (by omega) x1).use fun e w5 he => ?_
      cases hc : cntR (L s) j1 g1' out1 x1 with
      | bad n =>
        rw [hc] at he hpe
        obtain ⟨rfl, e5⟩ := he
        refine ResI.bad (by rw [← hq, seqL_bad hcnd hpe]) (st4.1.step e5 fun k hk hk' => ?_)
        rcases hk' with h1 | h1
        · exact .inl h1
        · rcases st4.2 k h1 with h2 | h2
          · exact .inr h2
          · omega
      | ok y =>
      obtain ⟨⟨j2, g2', out2⟩, x2⟩ := y
      rw [hc] at he hpe
      obtain ⟨rfl, a5, ln5, c5, rs5, p5, s5⟩ := he
      have hpl' := pieceP_len hsl (by omega) hpe
      have hstep := seqL_go (kids := kids) hcnd hpe hpl'.1
      have st5 := Step.trans st4 s5
      have K5 := K4.step hbl s5
      have hl5 := p5.pcs.len'
      refine ⟨x2, rfl, ?_⟩
      obtain ⟨ka2, kc2, w6, r1, r2, r3⟩ := K5.app p5.pcs.lt st5.1.size (by rw [K5.2.1]; omega) x2
      have hkb : ∀ k, blkOf ka = some k → k ∉ blks a5 rs5 ∧ k ≠ b ∧ w.heap.size ≤ k := fun k hk => ⟨(K5.2.2 k hk).2, by have := (K5.2.2 k hk).1; omega, (K5.2.2 k hk).1⟩
      refine ⟨ka2, kl + 1, kc2, w6, r1, s.size - j2, by omega, j2, g2', a5, ln5, c5, rs5, out2, kids ++ [x2], p5.other r3 (fun hk => (hkb b hk).2.1 rfl) fun k hk hk' => (hkb k hk').1 hk, by rw [← hstep, hq], r2, ⟨st5.1.step r3 fun k hk hk' => by have := (hkb k hk').2.2; omega, fun k hk => st5.2 k hk⟩, rfl, by omega, by omega, hpl'.2.2.2 hg', by omega, by omega, by simp; omega⟩
  · have g1' : ¬ j < s.size := by
      have : decide (s.size ≤ j) = true := by simpa using g1
      have := of_decide_eq_true this; omega
    exact putKids (p1.below b2) (Step.trans st1 (Step.of_below b2)) (hK.below b2) h.hN (by omega) rfl (hout (by omega))
end Go.Proofs.Ytngbiaeliphdjaa.V
/- The program's reader of patterns. No statement of the seat is proved here. -/
namespace Go.Proofs.Ytngbiaeliphdjaa.V
open Go.Vc Go.Proofs Go.RowKit
set_option linter.unusedVariables false
set_option linter.unusedSimpArgs false

theorem patP_eq (l : Bytes) (d i g : Nat) (out : List Pc) : patP l d (i, g, out) = match seqL (subP l d) (decide (d = 0)) l i g out [] with
    | .bad e => .bad e
    | .ok ((j, g', out'), x) => altL (subP l d) (decide (d = 0)) l j g' out' [x] := by
  cases d <;> rfl
theorem subP_ok (l : Bytes) (d : Nat) : SubOk l (subP l d) := by
  cases d with
  | zero => intro i g out j g' out' k _ h; cases h
  | succ d => exact patP_len l d
theorem stepBad {b : Nat} {B B1 : List Nat} {w w1 w2 : World} (h : Step b B w w1 B1) (e : Ext (fun k => k = b ∨ k ∈ B1) w1 w2) : Ext (fun k => k = b ∨ k ∈ B) w w2 :=
  h.1.step e fun k hk hk' => by
    rcases hk' with h1 | h1
    · exact .inl h1
    · rcases h.2 k h1 with h2 | h2
      · exact .inr h2
      · omega

theorem pattern_ok : ∀ d, PatC d := by
  intro d
  induction d using Nat.strongRecOn with
  | _ d ih =>
  intro N w b s i g dp a ln c rs ps h hs hi hg hdp hd6 hbd
  have hsub : ∀ d', d = d' + 1 → PatC d' := fun d' hd => ih d' (by omega)
  have hsl := subP_ok (L s) d
  apply vc74
  unfold V74
  have hsz := size_L s
  have hbl := h.rd.lt
  have hl0 := h.pcs.len'
  rw [patP_eq]
  refine (seq_ok d hsub hsl h hs hi hg hdp hd6 (by omega) (fun _ => by omega)).use fun e w1 he => ?_
  cases hq : seqL (subP (L s) d) (decide (d = 0)) (L s) i g ps [] with
  | bad n =>
    rw [hq] at he
    obtain ⟨rfl, e1⟩ := he
    exact ResI.bad rfl e1
  | ok y =>
  obtain ⟨⟨j, g', out'⟩, x⟩ := y
  have hlen := seqL_len hsl _ rfl (by omega) hq
  rw [hq] at he
  obtain ⟨rfl, a1, ln1, c1, rs1, p1, st1⟩ := he
  have hl1 := p1.pcs.len'
  refine ⟨x, rfl, ?_⟩
  simp only []
  generalize hR : altL (subP (L s) d) (decide (d = 0)) (L s) j g' out' [x] = R
  refine newC_in fun w2 s2 k2 e2 => ?_
  have p2 : PSt N w2 b s j g' dp a1 ln1 c1 rs1 out' := p1.other e2 (fun h => h) fun _ _ h => h
  have st2 : Step b (blks a rs) w w2 (blks a1 rs1) := Step.trans st1 (Step.of_ext (Ext.mono e2 fun _ _ h => h.elim))
  refine ⟨fun k ka kl kc w' => ∃ (j g' : Nat) (a' : Option Addr) (ln' c' : Nat) (rs' : List Raw) (out : List Pc) (kids : List Int), PSt N w' b s j g' dp a' ln' c' rs' out ∧ altL (subP (L s) d) (decide (d = 0)) (L s) j g' out kids = R ∧ Kids w w' (blks a' rs') ka kl kc kids ∧ Step b (blks a rs) w w' (blks a' rs') ∧ k = s.size - j ∧ i ≤ j ∧ j ≤ s.size ∧ g' ≤ 9 ∧ ln' + 4 * (s.size - j) + 4 * d ≤ 901 ∧ 1 ≤ kids.length ∧ kids.length ≤ j + 1,
    ⟨_, j, g', a1, ln1, c1, rs1, out', [x], p2, hR, ⟨⟨rfl, Nat.le_refl _, .inr ⟨_, _, rfl, k2, rfl, rfl⟩⟩, rfl, fun k hk => ?_⟩, st2, rfl, by omega, by omega, hlen.2.2.2 hg, by omega, by simp, by simp⟩, ?_⟩
  · simp only [blkOf, Option.some.injEq] at hk
    subst hk
    exact ⟨st1.1.size, fun hm => by have := p1.pcs.lt _ hm; omega⟩
  clear hR hq hlen p2 st2 k2 e2 s2 p1 st1 hl1
  rintro k dd ka kl kc w3 ⟨j, g', a', ln', c', rs', out, kids, p3, hq, hK, st3, rfl, hij, hj, hg', hb', hk1, hkl⟩
  have hl3 := p3.pcs.len'
  have hend : ∀ {w' : World}, Below w3.heap.size w3 w' → ¬ (j < s.size ∧ at_ (L s) j = 124) →
      (((((kl : Nat) : Int) == 1) = true → ∃ (b30 : Nat) (o31 : Nat), ((ka : Option Addr) = some ⟨b30, o31, none⟩ ∧ 0 ≤ (0 : Int) ∧ (0 : Int) < ((kl : Nat) : Int)) ∧ ∃ (n32 : Int), cellH w'.heap b30 o31 = some (.int .i64 n32) ∧ ResI N w b s dp (blks a rs) R (.returned (.int .i64 n32)) w') ∧
       ((((kl : Nat) : Int) == 1) = false → Cl Try.prog 110 [.pointer (some ⟨b, 0, none⟩), .agg #[.int .i64 3, .slice none 0 0, .int .i64 0, .int .i64 0, .bool false, .int .i64 0, .slice ka kl kc]] w' (retG (fun (r35 : Value) (w34 : World) => ∃ (n33 : Int), r35 = .int .i64 n33 ∧ ResI N w b s dp (blks a rs) R (.returned (.int .i64 n33)) w34) fun c1 w1 => ResI N w b s dp (blks a rs) R (.panicked c1) w1))) := by
    intro w' hb hn
    have hRe : R = altE j g' out kids := by rw [← hq, altL_out (by rw [← hsz]; exact hn)]
    have hkll := hK.2.1
    refine ⟨fun g1 => ?_, fun g1 => ?_⟩
    · have g1' : kl = 1 := by have : ((kl : Nat) : Int) = 1 := by simpa using g1
                              omega
      obtain ⟨y, rfl⟩ : ∃ y, kids = [y] := by
        match kids, (show kids.length = 1 by omega) with
        | [y], _ => exact ⟨y, rfl⟩
      obtain ⟨kb, hka, hcells, hlt⟩ := (hK.below hb).1.at (by omega)
      refine ⟨kb, 0, ⟨hka, by omega, by omega⟩, y, ?_, ?_⟩
      · exact (cellsAt_iff _ 0).1 hcells 0 (by simp [intC])
      · rw [hRe]
        exact ⟨rfl, a', ln', c', rs', p3.below hb, Step.trans st3 (Step.of_below hb)⟩
    · have g1' : ¬ kl = 1 := by have : ¬ ((kl : Nat) : Int) = 1 := by simpa using g1
                                omega
      refine putKids (p3.below hb) (Step.trans st3 (Step.of_below hb)) (hK.below hb) h.hN (by omega) (p := pAlt kids) rfl ?_
      rw [hRe]
      match kids, hkll, hk1 with
      | [_], hkl, _ => simp at hkl; omega
      | _ :: _ :: _, _, _ => rfl
  refine drw_in fun w4 q4 e4 => ?_
  have b4 : Below w3.heap.size w3 w4 := Ext.to (Below.refl _ _) e4 fun _ h => h.elim
  refine (end_ok (p3.below b4).rd).ret fun w5 b5 => ⟨_, rfl, fun g1 => ?_, fun g1 => ?_⟩
  · have g1' : j < s.size := by
      have : decide (s.size ≤ j) = false := by simpa using g1
      have := of_decide_eq_false this; omega
    have b5' := b4.vstep b5
    have p5 := p3.below b5'
    have K5 := hK.below b5'
    have st5 : Step b (blks a rs) w w5 (blks a' rs') := Step.trans st3 (Step.of_below b5')
    refine ⟨s, p5.rd.cell 0, j, p5.rd.cell 1, ⟨by omega, by omega⟩, ?_⟩
    rw [byteI s (j := j) rfl]
    refine ⟨fun g2 => ?_, fun g2 => ?_⟩
    · simp only [beq_iff_eq] at g2
      have hcnd : j < (L s).length ∧ at_ (L s) j = 124 := ⟨by omega, by omega⟩
      refine ⟨j, p5.rd.cell 1, p5.mv (by omega) rfl fun w6 p6 e6 => ?_⟩
      have st6 := Step.trans st5 (Step.of_ext e6)
      have K6 := K5.step hbl (Step.of_ext e6)
      refine (seq_ok d hsub hsl p6 hs (by omega) hg' hdp hd6 (by omega) (fun _ => by omega)).use fun e w7 he => ?_
      cases hq2 : seqL (subP (L s) d) (decide (d = 0)) (L s) (j + 1) g' out [] with
      | bad n =>
        rw [hq2] at he
        obtain ⟨rfl, e7⟩ := he
        exact ResI.bad (by rw [← hq, altL_bad hcnd hq2]) (stepBad st6 e7)
      | ok y =>
      obtain ⟨⟨j2, g2', out2⟩, x2⟩ := y
      have hlen2 := seqL_len hsl _ rfl (by omega) hq2
      have hgo := altL_go (kids := kids) hcnd hq2 (by omega)
      rw [hq2] at he
      obtain ⟨rfl, a7, ln7, c7, rs7, p7, s7⟩ := he
      have hl7 := p7.pcs.len'
      have st7 := Step.trans st6 s7
      have K7 := K6.step hbl s7
      refine ⟨x2, rfl, ?_⟩
      obtain ⟨ka2, kc2, w8, r1, r2, r3⟩ := K7.app p7.pcs.lt st7.1.size (by rw [K7.2.1]; omega) x2
      have hkb : ∀ k, blkOf ka = some k → k ∉ blks a7 rs7 ∧ k ≠ b ∧ w.heap.size ≤ k := fun k hk => ⟨(K7.2.2 k hk).2, by have := (K7.2.2 k hk).1; omega, (K7.2.2 k hk).1⟩
      refine ⟨ka2, kl + 1, kc2, w8, r1, s.size - j2, by omega, j2, g2', a7, ln7, c7, rs7, out2, kids ++ [x2], p7.other r3 (fun hk => (hkb b hk).2.1 rfl) fun k hk hk' => (hkb k hk').1 hk, by rw [← hgo, hq], r2, ⟨st7.1.step r3 fun k hk hk' => by have := (hkb k hk').2.2; omega, fun k hk => st7.2 k hk⟩, rfl, by omega, by omega, hlen2.2.2.2 hg', by omega, by simp, by simp; omega⟩
    · simp only [beq_eq_false_iff_ne, ne_eq] at g2
      exact hend b5' (by omega)
  · have g1' : ¬ j < s.size := by
      have : decide (s.size ≤ j) = true := by simpa using g1
      have := of_decide_eq_true this; omega
    exact hend (b4.vstep b5) (by omega)
end Go.Proofs.Ytngbiaeliphdjaa.V
/- The deferred closure of the program's ReadPattern. No statement of the seat is proved here. -/
namespace Go.Vc
open Go.RowKit
set_option linter.unusedVariables false
set_option linter.unusedSimpArgs false
theorem wpOpsS_val {P : Program} {ops : Array Oper} {Q : Exit → Act → List Frame → World → Prop} {i : Nat} {rest : List Nat} {a : Act} {cs : List Frame} {w w' : World} {v : Value}
    (hi : decide (i < ops.size) = true) (hw : Region.wanted (ops.getD i default) (yielded ops a.tmps) = true) (h : (execOp a.eval (ops.getD i default)).run P w = .ok (.value v) w') (hk : wpOpsS P ops Q rest (a.put (ops.getD i default).dst v) cs w') : wpOpsS P ops Q (i :: rest) a cs w := by
  have ho : ops[i]? = some (ops.getD i default) := by have := of_decide_eq_true hi; simp [Array.getD, this]
  simp only [wpOpsS, ho, hw, if_true, h, Oper.upon]
  exact hk
theorem wpOpsS_skip {P : Program} {ops : Array Oper} {Q : Exit → Act → List Frame → World → Prop} {i : Nat} {rest : List Nat} {a : Act} {cs : List Frame} {w w' : World} 
    (hi : decide (i < ops.size) = true) (hw : Region.wanted (ops.getD i default) (yielded ops a.tmps) = true) (h : (execOp a.eval (ops.getD i default)).run P w = .ok .skip w') (hk : wpOpsS P ops Q rest (a.put (ops.getD i default).dst undef) cs w') : wpOpsS P ops Q (i :: rest) a cs w := by
  have ho : ops[i]? = some (ops.getD i default) := by have := of_decide_eq_true hi; simp [Array.getD, this]
  simp only [wpOpsS, ho, hw, if_true, h, Oper.upon]
  exact hk
theorem wpOpsS_rec {P : Program} {ops : Array Oper} {Q : Exit → Act → List Frame → World → Prop} {i : Nat} {rest : List Nat} {a : Act} {cs cs' : List Frame} {w w' : World} {v : Value}
    (hi : decide (i < ops.size) = true) (hw : Region.wanted (ops.getD i default) (yielded ops a.tmps) = true) (h : (execOp a.eval (ops.getD i default)).run P w = .ok .recover w') (hr : recoverD cs = some (v, cs')) (hk : wpOpsS P ops Q rest (a.put (ops.getD i default).dst v) cs' w') : wpOpsS P ops Q (i :: rest) a cs w := by
  have ho : ops[i]? = some (ops.getD i default) := by have := of_decide_eq_true hi; simp [Array.getD, this]
  simp only [wpOpsS, ho, hw, if_true, h, hr]
  exact hk
theorem wpOpsS_idle {P : Program} {ops : Array Oper} {Q : Exit → Act → List Frame → World → Prop} {i : Nat} {rest : List Nat} {a : Act} {cs : List Frame} {w w' : World} 
    (hi : decide (i < ops.size) = true) (hw : Region.wanted (ops.getD i default) (yielded ops a.tmps) = true) (h : (execOp a.eval (ops.getD i default)).run P w = .ok .recover w') (hr : recoverD cs = none) (hk : wpOpsS P ops Q rest (a.put (ops.getD i default).dst .nilIface) cs w') : wpOpsS P ops Q (i :: rest) a cs w := by
  have ho : ops[i]? = some (ops.getD i default) := by have := of_decide_eq_true hi; simp [Array.getD, this]
  simp only [wpOpsS, ho, hw, if_true, h, hr]
  exact hk
theorem wpS_region' {P : Program} {Q : Exit → Act → List Frame → World → Prop} {a : Act} {cs : List Frame} {w : World} {id : Nat} {ops : Array Oper} (l : List Nat) (hl : List.range ops.size = l) (h : wpOpsS P ops Q l a cs w) : (Code.region id ops false).wpS P Q a cs w :=
  wpS_region (by rw [hl]; exact h)
end Go.Vc
namespace Go.Proofs.Ytngbiaeliphdjaa.V
open Go.Vc Go.Proofs Go.RowKit
set_option linter.unusedVariables false
set_option linter.unusedSimpArgs false

set_option maxRecDepth 100000 in
theorem catch_bad (b : Nat) (n : Int) (w : World) (c0 c1 c2 c3 : Value) (hB : Blk w.heap b 37 [c0, c1, c2, c3]) :
    CallsD Try.prog 73 #[.pointer (some ⟨b, 0, none⟩)] (.panicking [{ v := .iface 90 (.int .i64 n), recovered := false }]) w fun e u' w' =>
      e = .returned (.tuple #[]) ∧ u' = .panicking [{ v := .iface 90 (.int .i64 n), recovered := true }] ∧ w' = setsW w b 0 [.bool false, .int .i64 n, .int .i64 0, .slice none 0 0] := by
  refine callsD_of_wpS Try.func73 rfl fun c₀ cs hu => ?_
  apply wpS_seq
  refine wpS_region' [0, 1, 2, 3, 4, 5, 6] (by kernel_rfl) ?_
  refine wpOpsS_rec (w' := w) (i := 0) (by kernel_rfl) (by kernel_rfl) (by kernel_rfl) (v := .iface 90 (.int .i64 n)) (by simp only [recoverD, hu]; rfl) ?_
  generalize hcs : ({ c₀ with mode := _ } : Frame) :: cs = cs1
  generalize hq : Exit.thenS _ _ = Q
  generalize ha : Act.put _ _ _ = a1
  refine wpOpsS_val (w' := w) (i := 1) (v := .tuple #[.int .i64 n, .bool true]) ?_ ?_ ?_ ?_
  all_goals subst ha
  · kernel_rfl
  · kernel_rfl
  · kernel_rfl
  generalize ha : Act.put _ _ _ = a1
  refine wpOpsS_val (w' := w) (i := 2) (v := .tuple #[.int .i64 n, .bool true]) ?_ ?_ ?_ ?_
  all_goals subst ha
  · kernel_rfl
  · kernel_rfl
  · kernel_rfl
  generalize ha : Act.put _ _ _ = a1
  refine wpOpsS_val (w' := w) (i := 3) (v := .int .i64 n) ?_ ?_ ?_ ?_
  all_goals subst ha
  · kernel_rfl
  · kernel_rfl
  · kernel_rfl
  generalize ha : Act.put _ _ _ = a1
  refine wpOpsS_val (w' := w) (i := 4) (v := .bool true) ?_ ?_ ?_ ?_
  all_goals subst ha
  · kernel_rfl
  · kernel_rfl
  · kernel_rfl
  generalize ha : Act.put _ _ _ = a1
  refine wpOpsS_val (w' := w) (i := 5) (v := .int .i64 n) ?_ ?_ ?_ ?_
  all_goals subst ha
  · kernel_rfl
  · kernel_rfl
  · kernel_rfl
  generalize ha : Act.put _ _ _ = a1
  refine wpOpsS_val (w' := w) (i := 6) (v := .bool true) ?_ ?_ ?_ ?_
  all_goals subst ha
  · kernel_rfl
  · kernel_rfl
  · kernel_rfl
  subst hq
  apply wpS_seq
  refine wpS_region' [0] (by kernel_rfl) ?_
  generalize hq : Exit.thenS _ _ = Q
  generalize ha : Act.put _ _ _ = a1
  refine wpOpsS_val (w' := w) (i := 0) (v := .bool true) ?_ ?_ ?_ ?_
  all_goals subst ha
  · kernel_rfl
  · kernel_rfl
  · kernel_rfl
  subst hq
  refine wpS_cond (t := true) (by kernel_rfl) ?_
  simp only [if_true]
  refine wpS_region' [0, 1, 2] (by kernel_rfl) ?_
  generalize hq : bodyPostS _ _ _ _ _ = Q
  generalize ha : Act.put _ _ _ = a1
  refine wpOpsS_val (w' := w) (i := 0) (v := .int .i64 n) ?_ ?_ ?_ ?_
  all_goals subst ha
  · kernel_rfl
  · kernel_rfl
  · kernel_rfl
  generalize ha : Act.put _ _ _ = a1
  refine wpOpsS_val (w' := w) (i := 1) (v := .agg #[.bool false, .int .i64 n, .int .i64 0, .slice none 0 0]) ?_ ?_ ?_ ?_
  all_goals subst ha
  · kernel_rfl
  · kernel_rfl
  · kernel_rfl
  generalize ha : Act.put _ _ _ = a1
  refine wpOpsS_skip (w' := setsW w b 0 [.bool false, .int .i64 n, .int .i64 0, .slice none 0 0]) (i := 2) ?_ ?_ ?_ ?_
  · kernel_rfl
  · subst ha; kernel_rfl
  · have e1 : a1.eval (.tmp 0) = .pointer (some ⟨b, 0, none⟩) := by subst ha; kernel_rfl
    have e2 : a1.eval (.tmp 10) = .agg #[.bool false, .int .i64 n, .int .i64 0, .slice none 0 0] := by subst ha; kernel_rfl
    have key : ∀ o : Oper, o.op = .store 37 (.tmp 0) (.tmp 10) → (execOp a1.eval o).run Try.prog w = .ok .skip (setsW w b 0 [.bool false, .int .i64 n, .int .i64 0, .slice none 0 0]) := by
      intro o ho
      simp only [execOp, ho, e1, e2]
      refine (bind_run (a := ()) (w' := setsW w b 0 [.bool false, .int .i64 n, .int .i64 0, .slice none 0 0]) ?_).trans rfl
      unfold Instr.storeAt
      rw [bind_run (show (Instr.sureAddr (.pointer (some ⟨b, 0, none⟩))).run Try.prog w = .ok ⟨b, 0, none⟩ w from rfl)]
      exact storeVar_run (n := 4) (v := .agg #[.bool false, .int .i64 n, .int .i64 0, .slice none 0 0]) (by kernel_rfl) rfl rfl (hB.wrL (by show 0 + 4 ≤ 4; decide))
    exact key _ (by kernel_rfl)
  · subst hq hcs ha
    exact ⟨by kernel_rfl, _, rfl, .tuple #[], by kernel_rfl, rfl, rfl, rfl⟩
set_option maxRecDepth 100000 in
theorem catch_idle (b : Nat) (w : World) : CallsD Try.prog 73 #[.pointer (some ⟨b, 0, none⟩)] .returning w fun e u' w' => e = .returned (.tuple #[]) ∧ u' = .returning ∧ w' = w := by
  refine callsD_of_wpS Try.func73 rfl fun c₀ cs hu => ?_
  apply wpS_seq
  refine wpS_region' [0, 1, 2, 3, 4, 5, 6] (by kernel_rfl) ?_
  refine wpOpsS_idle (w' := w) (i := 0) (by kernel_rfl) (by kernel_rfl) (by kernel_rfl) (by simp only [recoverD, hu]) ?_
  generalize hcs : c₀ :: cs = cs1
  generalize hq : Exit.thenS _ _ = Q
  generalize ha : Act.put _ _ _ = a1
  refine wpOpsS_val (w' := w) (i := 1) (v := .tuple #[.int .i64 0, .bool false]) ?_ ?_ ?_ ?_
  all_goals subst ha
  · kernel_rfl
  · kernel_rfl
  · kernel_rfl
  generalize ha : Act.put _ _ _ = a1
  refine wpOpsS_val (w' := w) (i := 2) (v := .tuple #[.int .i64 0, .bool false]) ?_ ?_ ?_ ?_
  all_goals subst ha
  · kernel_rfl
  · kernel_rfl
  · kernel_rfl
  generalize ha : Act.put _ _ _ = a1
  refine wpOpsS_val (w' := w) (i := 3) (v := .int .i64 0) ?_ ?_ ?_ ?_
  all_goals subst ha
  · kernel_rfl
  · kernel_rfl
  · kernel_rfl
  generalize ha : Act.put _ _ _ = a1
  refine wpOpsS_val (w' := w) (i := 4) (v := .bool false) ?_ ?_ ?_ ?_
  all_goals subst ha
  · kernel_rfl
  · kernel_rfl
  · kernel_rfl
  generalize ha : Act.put _ _ _ = a1
  refine wpOpsS_val (w' := w) (i := 5) (v := .int .i64 0) ?_ ?_ ?_ ?_
  all_goals subst ha
  · kernel_rfl
  · kernel_rfl
  · kernel_rfl
  generalize ha : Act.put _ _ _ = a1
  refine wpOpsS_val (w' := w) (i := 6) (v := .bool false) ?_ ?_ ?_ ?_
  all_goals subst ha
  · kernel_rfl
  · kernel_rfl
  · kernel_rfl
  subst hq
  apply wpS_seq
  refine wpS_region' [0] (by kernel_rfl) ?_
  generalize hq : Exit.thenS _ _ = Q
  generalize ha : Act.put _ _ _ = a1
  refine wpOpsS_val (w' := w) (i := 0) (v := .bool false) ?_ ?_ ?_ ?_
  all_goals subst ha
  · kernel_rfl
  · kernel_rfl
  · kernel_rfl
  subst hq
  refine wpS_cond (t := false) (by kernel_rfl) ?_
  simp only [Bool.false_eq_true, if_false]
  refine wpS_of_wp (wp_skip ?_)
  subst hcs
  exact ⟨by kernel_rfl, .returning, by rw [← hu], .tuple #[], by kernel_rfl, rfl, rfl, rfl⟩
end Go.Proofs.Ytngbiaeliphdjaa.V
/- The calculus for the head of a body, up to a part that is walked by hand. No statement of the seat is proved here. -/
namespace Go.Vc
set_option linter.unusedVariables false
set_option linter.unusedSimpArgs false
def wpCh (P : Program) (Qp : List PanicEntry → Pred) : Nat → Code → (Scr → Fr → Pred) → (Exit → Scr → Fr → Pred) → Scr → Fr → Pred
  | 0, _, H, _, s, fr => H s fr
  | n + 1, .seq a b, H, K, s, fr => wpC P Qp a (seqK K (fun s f => wpCh P Qp n b H K s f)) s fr
  | _, _, _, _, _, _ => fun _ => False
def tailC : Nat → Code → Code
  | 0, c => c
  | n + 1, .seq _ b => tailC n b
  | _, c => c
theorem wpCh_sound {P : Program} {Qp : List PanicEntry → Pred} {Q : Exit → Act → World → Prop} {ds : List Deferred} {H : Scr → Fr → Pred} {K : Exit → Scr → Fr → Pred}
    (hE : ∀ e s f w, e ≠ .normal → K e s f w → Q e (act f ds) w) (hP : ∀ c a w, a.defers = ds → Qp c w → Q (.panic c) a w) :
    ∀ (n : Nat) (c : Code) (s : Scr) (fr : Fr) (w : World), (∀ s f w', H s f w' → (tailC n c).wp P Q (act f ds) w') → wpCh P Qp n c H K s fr w → c.wp P Q (act fr ds) w
  | 0, c, s, fr, w, hH, h => hH s fr w h
  | n + 1, .seq a b, s, fr, w, hH, h => by
    refine wp_seq (wp_mono (wpC_sound (ds := ds) a _ s fr w h) fun e a' w' hg => ?_)
    cases e with
    | normal =>
      obtain ⟨f, rfl, _, s', h3⟩ := hg
      exact wpCh_sound hE hP n b s' f w' hH h3
    | panic c => exact hP c a' w' hg.1 hg.2
    | outgrown => exact hg.elim
    | exit i => obtain ⟨f, rfl, _, s', h3⟩ := hg; exact hE (.exit i) s' f w' (by simp) h3
    | goto l => obtain ⟨f, rfl, _, s', h3⟩ := hg; exact hE (.goto l) s' f w' (by simp) h3
    | ret => obtain ⟨f, rfl, _, s', h3⟩ := hg; exact hE .ret s' f w' (by simp) h3
  | n + 1, .skip, _, _, _, _, h => h.elim
  | n + 1, .region _ _ _, _, _, _, _, h => h.elim
  | n + 1, .cond _ _ _, _, _, _, _, h => h.elim
  | n + 1, .block _ _, _, _, _, _, h => h.elim
  | n + 1, .loop _, _, _, _, _, h => h.elim
  | n + 1, .exit _, _, _, _, _, h => h.elim
  | n + 1, .ret, _, _, _, _, h => h.elim
  | n + 1, .label _, _, _, _, _, h => h.elim
  | n + 1, .goto _, _, _, _, _, h => h.elim
def hookK (RK : Fr → Pred) : Exit → Scr → Fr → Pred
  | .ret, _, f => RK f
  | _, _, _ => fun _ => False
def tailK (NK : Fr → Pred) : Exit → Scr → Fr → Pred
  | .ret, _, f => NK f
  | .normal, _, f => NK f
  | _, _, _ => fun _ => False
theorem wpOps_val {P : Program} {ops : Array Oper} {Q : Exit → Act → World → Prop} {i : Nat} {rest : List Nat} {a : Act} {w w' : World} {v : Value}
    (hi : decide (i < ops.size) = true) (hw : Region.wanted (ops.getD i default) (yielded ops a.tmps) = true) (h : (execOp a.eval (ops.getD i default)).run P w = .ok (.value v) w') (hk : wpOps P ops Q rest (a.put (ops.getD i default).dst v) w') : wpOps P ops Q (i :: rest) a w := by
  have ho : ops[i]? = some (ops.getD i default) := by have := of_decide_eq_true hi; simp [Array.getD, this]
  simp only [wpOps, ho, hw, if_true]
  exact .inl (run_value h hk)
theorem wpOps_defer {P : Program} {ops : Array Oper} {Q : Exit → Act → World → Prop} {i : Nat} {rest : List Nat} {a : Act} {w w' : World} {d : Deferred}
    (hi : decide (i < ops.size) = true) (hw : Region.wanted (ops.getD i default) (yielded ops a.tmps) = true) (h : (execOp a.eval (ops.getD i default)).run P w = .ok (.defer d) w') (hk : wpOps P ops Q rest (({ a with defers := d :: a.defers } : Act).put (ops.getD i default).dst undef) w') : wpOps P ops Q (i :: rest) a w := by
  have ho : ops[i]? = some (ops.getD i default) := by have := of_decide_eq_true hi; simp [Array.getD, this]
  simp only [wpOps, ho, hw, if_true]
  refine .inl ?_
  unfold Oper.wp; rw [h]; exact hk
theorem wpOps_call {P : Program} {ops : Array Oper} {Q : Exit → Act → World → Prop} {i : Nat} {rest : List Nat} {a : Act} {w w' : World} {f : FuncId} {args : Array Value}
    (hi : decide (i < ops.size) = true) (hw : Region.wanted (ops.getD i default) (yielded ops a.tmps) = true) (h : (execOp a.eval (ops.getD i default)).run P w = .ok (.enter f args) w')
    (hk : Calls P f args w' fun e w'' => match e with | .returned v => wpOps P ops Q rest (a.put (ops.getD i default).dst v) w'' | .panicked c => Q (.panic c) a w'' | .outgrown => False) : wpOps P ops Q (i :: rest) a w := by
  have ho : ops[i]? = some (ops.getD i default) := by have := of_decide_eq_true hi; simp [Array.getD, this]
  simp only [wpOps, ho, hw, if_true]
  refine .inl ?_
  unfold Oper.wp; rw [h]
  refine Calls.mono hk fun e w'' he => ?_
  cases e with
  | returned v => exact he
  | panicked c => exact he
  | outgrown => exact he.elim
theorem wp_region' {P : Program} {Q : Exit → Act → World → Prop} {a : Act} {w : World} {id : Nat} {ops : Array Oper} (l : List Nat) (hl : List.range ops.size = l) (h : wpOps P ops Q l a w) : (Code.region id ops false).wp P Q a w :=
  wp_region (by rw [hl]; exact h)
end Go.Vc
/- Printed by part26.py, a program of this session. No statement of the seat is proved here. -/
namespace Go.Proofs.Ytngbiaeliphdjaa.V
open Go.Vc Go.Proofs
set_option linter.unusedVariables false
set_option maxRecDepth 100000
def VH26 (s1 : ByteArray) (HK RK : List Value → World → Prop) (QP : List PanicEntry → World → Prop) : World → Prop := fun w =>
  newC [.bool false, .int .i64 0, .int .i64 0, .slice none 0 0] 37 (fun (b1 : Nat) (w2 : World) => (((decide ((((ByteArray.size s1 : Nat) : Int) : Int) > 120)) = true → stW b1 0 [.bool false, .int .i64 120, .int .i64 0, .slice none 0 0] (fun (w3 : World) => RK [.string s1, undef, .pointer (some ⟨b1, 0, none⟩), undef, .string s1, .int .i64 ((ByteArray.size s1 : Nat) : Int), .bool true, .agg #[.bool false, .int .i64 120, .int .i64 0, .slice none 0 0], undef, undef, undef, undef, undef, undef, undef, undef, undef, undef, undef, undef, undef, undef, undef, undef, undef, undef, undef, undef, undef, undef, undef, undef] w3) w2) ∧ ((decide ((((ByteArray.size s1 : Nat) : Int) : Int) > 120)) = false → newC [.string s1, .int .i64 0, .int .i64 0, .int .i64 0, .slice none 0 0] 89 (fun (b4 : Nat) (w5 : World) => HK [.string s1, undef, .pointer (some ⟨b1, 0, none⟩), .pointer (some ⟨b4, 0, none⟩), .string s1, .int .i64 ((ByteArray.size s1 : Nat) : Int), .bool false, undef, .string s1, .agg #[.string s1, .int .i64 0, .int .i64 0, .int .i64 0, .slice none 0 0], .pointer (some ⟨b4, 0, none⟩), undef, undef, undef, undef, undef, undef, undef, undef, undef, undef, undef, undef, undef, undef, undef, undef, undef, undef, undef, undef, undef] w5) w2))) w
def scrH26 : Scr := (.run [0] (.close (.run [0, 1, 2] (.close (.cond (.run [0, 1] (.close .nil)) (.run [0, 1, 2, 3] (.close .nil)))))))
theorem vh26 (s1 : ByteArray) (HK RK : List Value → World → Prop) (QP : List PanicEntry → World → Prop) : wpCh Try.prog QP 3 (bodyOf Try.f26) (fun _ f => HK f) (hookK RK) scrH26 (frame0 Try.f26 [.string s1]) = VH26 s1 HK RK QP := by kernel_rfl
def fr26 (s1 : ByteArray) (b1 : Nat) (b4 : Nat) (n6 : Int) : List Value := [.string s1, undef, .pointer (some ⟨b1, 0, none⟩), .pointer (some ⟨b4, 0, none⟩), .string s1, .int .i64 ((ByteArray.size s1 : Nat) : Int), .bool false, undef, .string s1, .agg #[.string s1, .int .i64 0, .int .i64 0, .int .i64 0, .slice none 0 0], .pointer (some ⟨b4, 0, none⟩), .func (.func 73) #[] #[.pointer (some ⟨b1, 0, none⟩)], .pointer (some ⟨b4, 0, none⟩), .int .i64 n6, .pointer (some ⟨b4, 0, none⟩), .bool true, .bool false, undef, undef, undef, undef, undef, undef, undef, undef, undef, undef, undef, undef, undef, undef, undef]
def VT26 (s1 : ByteArray) (b1 : Nat) (b4 : Nat) (n6 : Int) (NK : List Value → World → Prop) (QP : List PanicEntry → World → Prop) : World → Prop := fun w =>
  drw (fun w6 => ∃ n7, cellH w6.heap b4 2 = some (.int .i64 n7) ∧ ∃ a8 l8 c8, cellH w6.heap b4 4 = some (.slice a8 l8 c8) ∧ stW b1 0 [.bool true, .int .i64 0, .int .i64 n7, .slice a8 l8 c8] (fun w9 => NK [.string s1, undef, .pointer (some ⟨b1, 0, none⟩), .pointer (some ⟨b4, 0, none⟩), .string s1, .int .i64 ((ByteArray.size s1 : Nat) : Int), .bool false, undef, .string s1, .agg #[.string s1, .int .i64 0, .int .i64 0, .int .i64 0, .slice none 0 0], .pointer (some ⟨b4, 0, none⟩), .func (.func 73) #[] #[.pointer (some ⟨b1, 0, none⟩)], .pointer (some ⟨b4, 0, none⟩), .int .i64 n6, .pointer (some ⟨b4, 0, none⟩), .bool true, .bool false, undef, undef, undef, undef, undef, undef, .pointer (some ⟨b4, 0, none⟩), .pointer (some ⟨b4, 0, none⟩), .pointer (some ⟨b4, 2, none⟩), .int .i64 n7, .pointer (some ⟨b4, 0, none⟩), .pointer (some ⟨b4, 0, none⟩), .pointer (some ⟨b4, 4, none⟩), .slice a8 l8 c8, .agg #[.bool true, .int .i64 0, .int .i64 n7, .slice a8 l8 c8]] w9) w6) w
def scrT26 : Scr := (.run [0, 1, 2, 3, 4, 5, 6, 7, 8, 9] (.close .nil))
theorem vt26 (s1 : ByteArray) (b1 : Nat) (b4 : Nat) (n6 : Int) (NK : List Value → World → Prop) (QP : List PanicEntry → World → Prop) : wpC Try.prog QP (tailC 6 (bodyOf Try.f26)) (tailK NK) scrT26 (fr26 s1 b1 b4 n6) = VT26 s1 b1 b4 n6 NK QP := by kernel_rfl
end Go.Proofs.Ytngbiaeliphdjaa.V
/- The program's ReadPattern. No statement of the seat is proved here. -/
namespace Go.Vc
def headC (n : Nat) (c : Code) : Code := match tailC n c with
  | .seq a _ => a
  | c => c
def fstC : Code → Code
  | .seq a _ => a
  | c => c
def sndC : Code → Code
  | .seq _ b => b
  | c => c
def thenC : Code → Code
  | .cond _ a _ => a
  | c => c
def opsC : Code → Array Oper
  | .region _ o _ => o
  | _ => #[]
end Go.Vc
namespace Go.Proofs.Ytngbiaeliphdjaa.V
open Go.Vc Go.Proofs Go.RowKit
set_option linter.unusedVariables false
set_option linter.unusedSimpArgs false

/-- A pattern's value: its pieces in blocks of their own, all new. -/
def RetP (p : Pat) (w : World) : Ending → World → Prop := fun e w' => ∃ a l c rs, e = .returned (.agg #[.bool p.ok, .int .i64 (p.at_ : Int), .int .i64 (p.groups : Int), .slice a l c]) ∧ Pcs w.heap.size w' a l c rs p.pieces ∧ Below w.heap.size w w'

/-- The named result, read at the end. -/
theorem res26 {fr : List Value} {b : Nat} {w : World} {t : Bool} {n m : Int} {a : Option Addr} {l c : Nat} {R : Ending → World → Prop} (h : fr.getD 2 undef = .pointer (some ⟨b, 0, none⟩)) (hB : Blk w.heap b 37 [.bool t, .int .i64 n, .int .i64 m, .slice a l c])
    (hR : R (.returned (.agg #[.bool t, .int .i64 n, .int .i64 m, .slice a l c])) w) : Leaves Try.prog Try.f26 fr.toArray R [] .returning w := by
  refine retC_run ?_
  rw [show Try.f26.results.toList = [.cell 2 37] from by kernel_rfl]
  simp only [retC, resV, h]
  rw [show shOf Try.prog 37 = some (.agg [.bool, .int .i64, .int .i64, .slice]) from by kernel_rfl, show aggP Try.prog 37 = some true from by kernel_rfl, show sizeP Try.prog 37 = some 4 from by kernel_rfl]
  simp only []
  rw [if_pos (by decide)]
  exact ⟨t, hB.cell 0, n, hB.cell 1, m, hB.cell 2, a, l, c, hB.cell 3, hR⟩

/-- What is deferred. -/
def dfr (b : Nat) : Deferred := { target := .fn (.func 73) #[.pointer (some ⟨b, 0, none⟩)], args := #[] }
theorem dfr_run (b : Nat) (w : World) : (invoke (.fn (.func 73) #[.pointer (some ⟨b, 0, none⟩)]) #[]).run Try.prog w = .ok (.enter 73 #[.pointer (some ⟨b, 0, none⟩)]) w := by kernel_rfl
/-- It leaves when the pattern goes wrong. -/
theorem leave_bad {fr : List Value} {b n : Nat} {w0 w : World} {p : Pat} (h : fr.getD 2 undef = .pointer (some ⟨b, 0, none⟩)) {c0 c1 c2 c3 : Value} (hB : Blk w.heap b 37 [c0, c1, c2, c3]) (hb : w0.heap.size ≤ b) (E : Below w0.heap.size w0 w) (hp : p = ⟨false, n, 0, []⟩) {c : List PanicEntry} (hc : Ending.panicked c = PanicB n) :
    Leaves Try.prog Try.f26 fr.toArray (RetP p w0) [dfr b] (.panicking c) w := by
  cases hc
  refine leaves_cons (f := 73) (args := #[.pointer (some ⟨b, 0, none⟩)]) (by simp) (dfr_run b w) ?_
  refine (catch_bad b n w c0 c1 c2 c3 hB).mono ?_
  rintro e u w' ⟨rfl, rfl, rfl⟩
  subst hp
  refine res26 h hB.sets ⟨none, 0, 0, [], rfl, Pcs.nil _ _, E.vsets hb⟩
/-- It leaves at its end. -/
theorem leave_ok {fr : List Value} {b : Nat} {w : World} {R : Ending → World → Prop} {t : Bool} {n m : Int} {a : Option Addr} {l c : Nat} (h : fr.getD 2 undef = .pointer (some ⟨b, 0, none⟩)) (hB : Blk w.heap b 37 [.bool t, .int .i64 n, .int .i64 m, .slice a l c])
    (hR : R (.returned (.agg #[.bool t, .int .i64 n, .int .i64 m, .slice a l c])) w) : Leaves Try.prog Try.f26 fr.toArray R [dfr b] .returning w := by
  refine leaves_cons (f := 73) (args := #[.pointer (some ⟨b, 0, none⟩)]) (by simp) (dfr_run b w) ?_
  refine (catch_idle b w).mono ?_
  rintro e u w' ⟨rfl, rfl, rfl⟩
  exact res26 h hB hR

set_option maxRecDepth 100000 in
theorem readPattern_ok (s : ByteArray) (w : World) : Cl Try.prog 26 [.string s] w (RetP (readP (L s)) w) := by
  refine ⟨by kernel_rfl, calls_of_wp_defers (c := bodyOf Try.f26) Try.func26 (by kernel_rfl) ?_⟩
  rw [show ({ tmps := (⟨[.string s]⟩ : Array Value) ++ Array.replicate (Try.f26.ntmps - (⟨[.string s]⟩ : Array Value).size) undef, defers := [] } : Act) = act (frame0 Try.f26 [.string s]) [] from by simp [act, frame0]]
  generalize hR : RetP (readP (L s)) w = R
  refine wpCh_sound (P := Try.prog) (ds := []) (Qp := fun _ _ => False) (H := fun _ f w' => (tailC 3 (bodyOf Try.f26)).wp Try.prog (bodyPostD Try.prog Try.f26 R) (act f []) w') (K := hookK fun f w' => Leaves Try.prog Try.f26 f.toArray R [] .returning w') ?_ ?_ 3 _ scrH26 _ _ (fun s f w' h => h) ?_
  · intro e s f w' hne h
    cases e <;> first | exact h | exact h.elim | exact absurd rfl hne
  · intro c a w' _ h; exact h.elim
  rw [vh26]
  unfold VH26
  have hsz := size_L s
  refine newC_in fun w1 s1 k1 e1 => ?_
  refine ⟨fun g1 => ?_, fun g1 => ?_⟩
  · have g1' := of_decide_eq_true g1
    refine stW_in k1 (by decide) fun w2 s2 k2 e2 => ?_
    refine res26 rfl k2 ?_
    subst hR
    refine ⟨none, 0, 0, [], ?_, ?_, (Ext.to (Ext.to (Below.refl _ _) e1 fun _ h => h.elim) e2 fun i hi => by omega)⟩
    · unfold readP; rw [if_pos (by omega)]; rfl
    · unfold readP; rw [if_pos (by omega)]; exact Pcs.nil _ _
  have g1' := of_decide_eq_false g1
  refine newC_in fun w2 s2 k2 e2 => ?_
  generalize hb1 : w.heap.size = b1 at *
  generalize hb4 : w1.heap.size = b4 at *
  have E2 : Below w.heap.size w w2 := Ext.to (Ext.to (Below.refl _ _) e1 fun _ h => h.elim) e2 fun _ h => h.elim
  have k1' : Blk w2.heap b1 37 _ := k1.keep e2 fun h => h
  rw [show tailC 3 (bodyOf Try.f26) = .seq (headC 3 (bodyOf Try.f26)) (.seq (headC 4 (bodyOf Try.f26)) (.seq (headC 5 (bodyOf Try.f26)) (tailC 6 (bodyOf Try.f26)))) from by kernel_rfl]
  refine wp_seq ?_
  rw [show headC 3 (bodyOf Try.f26) = .region 4 (opsC (headC 3 (bodyOf Try.f26))) false from by kernel_rfl]
  refine wp_region' [0, 1] (by kernel_rfl) ?_
  generalize hq : Exit.then _ _ = Q
  generalize ha : act _ _ = a1
  refine wpOps_val (w' := w2) (i := 0) (v := .func (.func 73) #[] #[.pointer (some ⟨b1, 0, none⟩)]) ?_ ?_ ?_ ?_
  all_goals subst ha
  · kernel_rfl
  · kernel_rfl
  · kernel_rfl
  generalize ha : Act.put _ _ _ = a1
  refine wpOps_defer (w' := w2) (i := 1) (d := dfr b1) ?_ ?_ ?_ ?_
  all_goals subst ha
  · kernel_rfl
  · kernel_rfl
  · kernel_rfl
  subst hq
  generalize ha : Act.put _ _ _ = a1
  have ha' : a1 = act [.string s, undef, .pointer (some ⟨b1, 0, none⟩), .pointer (some ⟨b4, 0, none⟩), .string s, .int .i64 ((ByteArray.size s : Nat) : Int), .bool false, undef, .string s, .agg #[.string s, .int .i64 0, .int .i64 0, .int .i64 0, .slice none 0 0], .pointer (some ⟨b4, 0, none⟩), .func (.func 73) #[] #[.pointer (some ⟨b1, 0, none⟩)], undef, undef, undef, undef, undef, undef, undef, undef, undef, undef, undef, undef, undef, undef, undef, undef, undef, undef, undef, undef] [dfr b1] := by subst ha; kernel_rfl
  clear ha
  subst ha'
  show (Code.seq _ _).wp _ _ _ _
  refine wp_seq ?_
  rw [show headC 4 (bodyOf Try.f26) = .region 5 (opsC (headC 4 (bodyOf Try.f26))) false from by kernel_rfl]
  refine wp_region' [0, 1] (by kernel_rfl) ?_
  generalize hq : Exit.then _ _ = Q
  generalize ha : act _ _ = a1
  refine wpOps_val (w' := w2) (i := 0) (v := .pointer (some ⟨b4, 0, none⟩)) ?_ ?_ ?_ ?_
  all_goals subst ha
  · kernel_rfl
  · kernel_rfl
  · kernel_rfl
  generalize ha : Act.put _ _ _ = a1
  have hat : a1.tmps.toList.getD 2 undef = .pointer (some ⟨b1, 0, none⟩) := by subst ha; kernel_rfl
  have had : a1.defers = [dfr b1] := by subst ha; kernel_rfl
  have hpat := pattern_ok 6 (b4 + 1) w2 b4 s 0 0 0 none 0 0 [] [] ⟨k2, Pcs.nil _ _, Nat.lt_succ_self _, by omega⟩ (by omega) (by omega) (by omega) (by omega) (by omega) (by omega)
  refine wpOps_call (w' := w2) (i := 1) (f := 74) (args := #[.pointer (some ⟨b4, 0, none⟩)]) ?_ ?_ ?_ ?_
  · kernel_rfl
  · subst ha; kernel_rfl
  · subst ha; kernel_rfl
  refine hpat.2.mono fun e w3 he => ?_
  cases hp : patP (L s) 6 (0, 0, []) with
  | bad n =>
    rw [hp] at he
    obtain ⟨rfl, e3⟩ := he
    subst hq
    show Leaves _ _ _ _ _ _ _
    rw [had]
    subst hR
    have := leave_bad (fr := a1.tmps.toList) (w0 := w) (p := readP (L s)) hat (k1'.keep e3 (by simp [blks, ob, blkOf]; omega)) (by omega) (E2.trans ⟨e3.os, e3.tape, e3.output, e3.size, fun i hi => e3.block i (by omega) (by simp [blks, ob, blkOf]; omega)⟩) (n := n) (by unfold readP; rw [if_neg (by omega), hp]) rfl
    exact this
  | ok y =>
  obtain ⟨⟨j, g, out⟩, x⟩ := y
  rw [hp] at he
  obtain ⟨rfl, a3, l3, c3, rs3, p3, st3⟩ := he
  have hlen := patP_len (L s) 6 0 0 [] j g out x (by omega) hp
  have E3 : Ext (fun k => k = b4) w2 w3 := Ext.mono st3.1 fun k _ hk => by simpa [blks, ob, blkOf] using hk
  have B3 : Below w.heap.size w w3 := Ext.to (hb1 ▸ E2) E3 fun i hi => by omega
  have k3 : Blk w3.heap b1 37 _ := k1'.keep E3 (by omega)
  clear hat had hpat
  simp only []
  subst hq
  subst ha
  generalize ha : Act.put _ _ _ = a1
  have ha' : a1 = act [.string s, undef, .pointer (some ⟨b1, 0, none⟩), .pointer (some ⟨b4, 0, none⟩), .string s, .int .i64 ((ByteArray.size s : Nat) : Int), .bool false, undef, .string s, .agg #[.string s, .int .i64 0, .int .i64 0, .int .i64 0, .slice none 0 0], .pointer (some ⟨b4, 0, none⟩), .func (.func 73) #[] #[.pointer (some ⟨b1, 0, none⟩)], .pointer (some ⟨b4, 0, none⟩), .int .i64 x, undef, undef, undef, undef, undef, undef, undef, undef, undef, undef, undef, undef, undef, undef, undef, undef, undef, undef] [dfr b1] := by subst ha; kernel_rfl
  clear ha
  subst ha'
  show (Code.seq _ _).wp _ _ _ _
  refine wp_seq ?_
  rw [show headC 5 (bodyOf Try.f26) = .seq (.region 6 (opsC (fstC (headC 5 (bodyOf Try.f26)))) false) (.cond (.tmp 16) (.region 7 (opsC (thenC (sndC (headC 5 (bodyOf Try.f26))))) false) .skip) from by kernel_rfl]
  refine wp_seq ?_
  refine wp_region' [0, 1, 2] (by kernel_rfl) ?_
  generalize hq : Exit.then _ _ = Q
  generalize ha : act _ _ = a1
  refine wpOps_val (w' := w3) (i := 0) (v := .pointer (some ⟨b4, 0, none⟩)) ?_ ?_ ?_ ?_
  all_goals subst ha
  · kernel_rfl
  · kernel_rfl
  · kernel_rfl
  generalize ha : Act.put _ _ _ = a1
  refine wpOps_call (w' := w3) (i := 1) (f := 75) (args := #[.pointer (some ⟨b4, 0, none⟩)]) ?_ ?_ ?_ ?_
  · kernel_rfl
  · subst ha; kernel_rfl
  · subst ha; kernel_rfl
  refine (end_ok p3.rd).2.mono fun e w4 he => ?_
  obtain ⟨rfl, B4⟩ := he
  have p4 := p3.below B4
  have k4 := k3.below B4
  have B4' := B3.vstep B4
  simp only []
  subst ha
  generalize ha : Act.put _ _ _ = a1
  refine wpOps_val (w' := w4) (i := 2) (v := .bool (!decide (s.size ≤ j))) ?_ ?_ ?_ ?_
  all_goals subst ha
  · kernel_rfl
  · kernel_rfl
  · kernel_rfl
  subst hq
  show (Code.cond _ _ _).wp _ _ _ _
  refine wp_cond (t := !decide (s.size ≤ j)) (by kernel_rfl) ?_
  cases hd : decide (s.size ≤ j) with
  | false =>
    have hd' := of_decide_eq_false hd
    simp only [Bool.not_false, if_true]
    refine wp_region' [0, 1, 2, 3, 4, 5] (by kernel_rfl) ?_
    generalize hq : Exit.then _ _ = Q
    generalize ha : Act.put _ _ _ = a1
    have ha' : a1 = act [.string s, undef, .pointer (some ⟨b1, 0, none⟩), .pointer (some ⟨b4, 0, none⟩), .string s, .int .i64 ((ByteArray.size s : Nat) : Int), .bool false, undef, .string s, .agg #[.string s, .int .i64 0, .int .i64 0, .int .i64 0, .slice none 0 0], .pointer (some ⟨b4, 0, none⟩), .func (.func 73) #[] #[.pointer (some ⟨b1, 0, none⟩)], .pointer (some ⟨b4, 0, none⟩), .int .i64 x, .pointer (some ⟨b4, 0, none⟩), .bool false, .bool true, undef, undef, undef, undef, undef, undef, undef, undef, undef, undef, undef, undef, undef, undef, undef] [dfr b1] := by subst ha; kernel_rfl
    clear ha
    subst ha'
    generalize ha : act _ _ = a1
    refine wpOps_val (w' := w4) (i := 0) (v := .pointer (some ⟨b4, 0, none⟩)) ?_ ?_ ?_ ?_
    all_goals subst ha
    · kernel_rfl
    · kernel_rfl
    · kernel_rfl
    generalize ha : Act.put _ _ _ = a1
    refine wpOps_val (w' := w4) (i := 1) (v := .pointer (some ⟨b4, 0, none⟩)) ?_ ?_ ?_ ?_
    all_goals subst ha
    · kernel_rfl
    · kernel_rfl
    · kernel_rfl
    generalize ha : Act.put _ _ _ = a1
    refine wpOps_val (w' := w4) (i := 2) (v := .pointer (some ⟨b4, 0, none⟩)) ?_ ?_ ?_ ?_
    all_goals subst ha
    · kernel_rfl
    · kernel_rfl
    · kernel_rfl
    generalize ha : Act.put _ _ _ = a1
    refine wpOps_val (w' := w4) (i := 3) (v := .pointer (some ⟨b4, 1, none⟩)) ?_ ?_ ?_ ?_
    all_goals subst ha
    · kernel_rfl
    · kernel_rfl
    · kernel_rfl
    generalize ha : Act.put _ _ _ = a1
    have e1a : a1.eval (.tmp 20) = .pointer (some ⟨b4, 1, none⟩) := by subst ha; kernel_rfl
    refine wpOps_val (w' := w4) (i := 4) (v := .int .i64 j) ?_ ?_ ?_ ?_
    · kernel_rfl
    · subst ha; kernel_rfl
    · have key : ∀ o : Oper, o.op = .load 3 (.tmp 20) → (execOp a1.eval o).run Try.prog w4 = .ok (.value (.int .i64 j)) w4 := by
        intro o ho
        simp only [execOp, ho, e1a]
        refine (bind_run (a := .int .i64 j) (w' := w4) ?_).trans rfl
        unfold Instr.loadAt
        rw [bind_run (show (Instr.sureAddr (.pointer (some ⟨b4, 1, none⟩))).run Try.prog w4 = .ok ⟨b4, 1, none⟩ w4 from rfl)]
        exact loadVar_one (by kernel_rfl) (p4.rd.cell 1)
      exact key _ (by kernel_rfl)
    subst ha
    generalize ha : Act.put _ _ _ = a1
    refine wpOps_call (w' := w4) (i := 5) (f := 76) (args := #[.pointer (some ⟨b4, 0, none⟩), .int .i64 j]) ?_ ?_ ?_ ?_
    · kernel_rfl
    · subst ha; kernel_rfl
    · subst ha; kernel_rfl
    refine (fail_ok b4 j rfl w4).2.mono fun e w5 he => ?_
    obtain ⟨rfl, rfl⟩ := he
    have hat : a1.tmps.toList.getD 2 undef = .pointer (some ⟨b1, 0, none⟩) := by subst ha; kernel_rfl
    have had : a1.defers = [dfr b1] := by subst ha; kernel_rfl
    subst hq
    show Leaves _ _ _ _ _ _ _
    rw [had]
    subst hR
    exact leave_bad (fr := a1.tmps.toList) (w0 := w) (p := readP (L s)) hat k4 (by omega) B4' (n := j) (by unfold readP; rw [if_neg (by omega), hp]; simp only []; rw [if_pos (by omega)]) rfl
  | true =>
    have hd' := of_decide_eq_true hd
    simp only [Bool.not_true, Bool.false_eq_true, if_false]
    generalize hq : Exit.then _ _ = Q
    generalize ha : Act.put _ _ _ = a1
    have ha' : a1 = act (fr26 s b1 b4 x) [dfr b1] := by subst ha; kernel_rfl
    clear ha
    subst ha'
    refine wp_skip ?_
    subst hq
    show (tailC 6 (bodyOf Try.f26)).wp _ _ _ _
    have hv := vt26 s b1 b4 x (fun f w' => Leaves Try.prog Try.f26 f.toArray R [dfr b1] .returning w') (fun _ _ => False)
    refine wp_mono (wpC_sound (ds := [dfr b1]) _ _ scrT26 _ _ (by
      rw [hv]
      unfold VT26
      refine drw_in fun w5 q5 e5 => ?_
      have r5 : Rd w5 b4 s j g 0 a3 l3 c3 := Blk.keep p4.rd e5 fun h => h
      refine ⟨g, r5.cell 2, a3, l3, c3, r5.cell 4, stW_in (k4.keep e5 fun h => h) (by show 0 + 4 ≤ 4; decide) fun w6 s6 k6 e6 => ?_⟩
      have B5 := Ext.to B4' e5 fun _ h => h.elim
      have B6 := Ext.to B5 e6 fun i hi => by omega
      refine leave_ok rfl k6 ?_
      subst hR
      have hr : readP (L s) = ⟨true, 0, g, out⟩ := by unfold readP; rw [if_neg (by omega), hp]; simp only []; rw [if_neg (by omega)]
      rw [hr]
      have q6 : Pcs (b4 + 1) w6 a3 l3 c3 rs3 out := (p4.pcs.keep e5 fun _ _ h => h).keep e6 fun k hk hb => by have := p4.pcs.low k hk; omega
      exact ⟨a3, l3, c3, rs3, rfl, ⟨q6.row, q6.len, q6.len', q6.all, q6.nodup, fun b hb => by have := q6.low b hb; omega⟩, B6⟩)) fun e a' w' hg => ?_
    cases e with
    | normal => obtain ⟨f, rfl, _, s', h3⟩ := hg; exact h3
    | ret => obtain ⟨f, rfl, _, s', h3⟩ := hg; exact h3
    | panic c => exact hg.2.elim
    | outgrown => exact hg.elim
    | exit i => obtain ⟨f, _, _, s', h3⟩ := hg; exact h3.elim
    | goto l => obtain ⟨f, _, _, s', h3⟩ := hg; exact h3.elim
end Go.Proofs.Ytngbiaeliphdjaa.V
/- The reference's reader: escapes. No statement of the seat is proved here. -/
namespace Go.Vc
theorem escC_sym {c : Nat} (h1 : 33 ≤ c) (h2 : c ≤ 126) (h3 : ¬ (48 ≤ c ∧ c ≤ 57 ∨ 97 ≤ c ∧ c ≤ 122 ∨ 65 ≤ c ∧ c ≤ 90)) : escC c = some ([(c, c)], some c) := by
  unfold escC
  rw [if_neg (by omega), if_neg (by omega), if_neg (by omega), if_neg (by omega), if_neg (by omega), if_neg (by omega), if_pos ⟨h1, h2, h3⟩]
theorem escC_no {c : Nat} (h : ¬ (33 ≤ c ∧ c ≤ 126 ∧ ¬ (48 ≤ c ∧ c ≤ 57 ∨ 97 ≤ c ∧ c ≤ 122 ∨ 65 ≤ c ∧ c ≤ 90))) (h1 : c ≠ 100) (h2 : c ≠ 119) (h3 : c ≠ 115) (h4 : c ≠ 110) (h5 : c ≠ 116) (h6 : c ≠ 114) : escC c = none := by
  unfold escC
  rw [if_neg h1, if_neg h2, if_neg h3, if_neg h4, if_neg h5, if_neg h6, if_neg h]
end Go.Vc
namespace Go.Proofs.Ytngbiaeliphdjaa.V
open Go.Vc Go.Proofs Go.RowKit
set_option linter.unusedVariables false
set_option linter.unusedSimpArgs false
/-- What an escape leaves: its bytes are in the set, its byte is handed back. -/
def EscS (w : World) (b : Nat) (s : ByteArray) (g : Nat) (a : Option Addr) (ln c k : Nat) (f : Nat → Bool) (r : Pr (Nat × Rs × Option Nat)) : Ending → World → Prop := fun e w' => Ext (fun x => x = b ∨ x = k) w w' ∧ match r with
  | .bad n => e = .returned (.tuple #[.int .i64 0, .bool false]) ∧ (∃ i, Sd w' b s i (n : Int) g a ln c) ∧ ∃ f', Blk w'.heap k 4 (b256 f')
  | .ok (j, rs, none) => e = .returned (.tuple #[.int .i64 0, .bool false]) ∧ Sd w' b s j (-1) g a ln c ∧ Blk w'.heap k 4 (b256 fun n => f n || inR rs n)
  | .ok (j, rs, some v) => e = .returned (.tuple #[.int .i64 (v : Int), .bool true]) ∧ Sd w' b s j (-1) g a ln c ∧ Blk w'.heap k 4 (b256 fun n => f n || inR rs n)
theorem sescape_ok {w : World} {b : Nat} {s : ByteArray} {i g : Nat} {a : Option Addr} {ln c k : Nat} {f : Nat → Bool} (h : Sd w b s i (-1) g a ln c) (hs : s.size ≤ 120) (hi : i ≤ s.size) (hk : Blk w.heap k 4 (b256 f)) (hne : k ≠ b) :
    Cl Try.prog 166 [.pointer (some ⟨b, 0, none⟩), .slice (some ⟨k, 0, none⟩) 256 256] w (EscS w b s g a ln c k f (escP (L s) i)) := by
  apply vc166
  unfold V166
  have hsz := size_L s
  generalize hP : escP (L s) i = P
  refine (more_ok h).ret fun w1 b1 => ⟨_, rfl, fun g1 => ?_, fun g1 => ?_⟩
  · have g1' : ¬ i < s.size := by simpa using g1
    refine (sfail_ok (h.below b1)).use fun e w2 he => ?_
    obtain ⟨rfl, h2, e2⟩ := he
    refine ⟨rfl, Ext.trans (Ext.of_below b1) (Ext.mono e2 fun _ _ h => .inl h), ?_⟩
    have : P = .bad i := by rw [← hP]; unfold escP; rw [if_pos (by omega)]; congr 1; omega
    subst this
    exact ⟨rfl, ⟨i, h2⟩, f, (hk.below b1).keep e2 hne⟩
  have g1' : i < s.size := by simpa using g1
  refine drw_in fun w2 q2 e2 => ?_
  have h2 : Sd w2 b s i (-1) g a ln c := Blk.keep (h.below b1) e2 fun h => h
  have k2 : Blk w2.heap k 4 (b256 f) := (hk.below b1).keep e2 fun h => h
  have E2 : Ext (fun x => x = b ∨ x = k) w w2 := Ext.trans (Ext.of_below b1) (Ext.mono e2 fun _ _ h => h.elim)
  refine ⟨s, h2.cell 0, i, h2.cell 1, ⟨by omega, by omega⟩, ?_⟩
  rw [byteI s (j := i) rfl]
  have hc := at_lt (L s) i
  have hP1 : at_ (L s) i ≠ 120 → P = match escC (at_ (L s) i) with | some (r, o) => .ok (i + 1, r, o) | none => .bad i := by
    intro hx; rw [← hP]; unfold escP; rw [if_neg (by omega), if_neg hx]; rfl
  have hP2 : at_ (L s) i = 120 → P = escX (L s) i := by
    intro hx; rw [← hP]; unfold escP; rw [if_neg (by omega), if_pos hx]
  generalize hch : at_ (L s) i = ch at *
  -- what goes wrong at once
  have hbad : ∀ {w' : World}, Sd w' b s i (-1) g a ln c → Blk w'.heap k 4 (b256 f) → Ext (fun x => x = b ∨ x = k) w w' → P = .bad i → Cl Try.prog 79 [.pointer (some ⟨b, 0, none⟩)] w' (retG (fun (r8 : Value) (w7 : World) => r8 = .tuple #[] ∧ EscS w b s g a ln c k f P (.returned (.tuple #[.int .i64 0, .bool false])) w7) (fun c1 w' => EscS w b s g a ln c k f P (.panicked c1) w')) := by
    intro w' h' k' E' hp
    refine (sfail_ok h').use fun e w3 he => ?_
    obtain ⟨rfl, h3, e3⟩ := he
    refine ⟨rfl, E'.trans (Ext.mono e3 fun _ _ h => .inl h), ?_⟩
    subst hp
    exact ⟨rfl, ⟨i, h3⟩, f, k'.keep e3 hne⟩
  -- several bytes, the place moved at the end
  have hmany : ∀ {w' : World} {rs : Rs}, Sd w' b s i (-1) g a ln c → Blk w'.heap k 4 (b256 fun n => f n || inR rs n) → Ext (fun x => x = b ∨ x = k) w w' → P = .ok (i + 1, rs, none) → ∃ (n14 : Int), cellH w'.heap b (0 + 1) = some (.int .i64 n14) ∧ stW b (0 + 1) [.int .i64 (IntKind.wrap .i64 (n14 + 1))] (fun (w15 : World) => EscS w b s g a ln c k f P (.returned (.tuple #[.int .i64 0, .bool false])) w15) w' := by
    intro w' rs h' k' E' hp
    refine ⟨i, h'.cell 1, h'.mv (j := i + 1) (by rw [w64 (by omega)]; omega) fun w3 s3 h3 e3 => ⟨E'.trans (Ext.mono e3 fun _ _ h => .inl h), ?_⟩⟩
    subst hp
    exact ⟨rfl, h3, k'.keep e3 hne⟩
  -- one byte, the place moved first
  have hone : ∀ {w' : World} {v : Nat} {v' : Int} {o : Nat} {o' : Nat → Nat}, Sd w' b s i (-1) g a ln c → Blk w'.heap k 4 (b256 f) → Ext (fun x => x = b ∨ x = k) w w' → P = .ok (i + 1, [(v, v)], some v) → v' = v → v < 256 → (∀ z, o' z = z + v) → ∃ (n34 : Int), cellH w'.heap b (0 + 1) = some (.int .i64 n34) ∧ stW b (0 + 1) [.int .i64 (IntKind.wrap .i64 (n34 + 1))] (fun (w35 : World) => ∃ (b36 : Nat) (o37 : Nat), (((some ⟨k, 0, none⟩) : Option Addr) = some ⟨b36, o37, none⟩ ∧ 0 ≤ v' ∧ v' < ((256 : Nat) : Int)) ∧ stW b36 (o' o37) [.bool true] (fun (w38 : World) => EscS w b s g a ln c k f P (.returned (.tuple #[.int .i64 v', .bool true])) w38) w35) w' := by
    intro w' v v' o o' h' k' E' hp hv hv256 ho
    subst hv
    refine ⟨i, h'.cell 1, h'.mv (j := i + 1) (by rw [w64 (by omega)]; omega) fun w3 s3 h3 e3 => ⟨k, 0, ⟨rfl, by omega, by omega⟩, ?_⟩⟩
    refine st_one (k'.keep e3 hne) hv256 (by rw [ho]; omega) fun w4 s4 k4 e4 => ⟨(E'.trans (Ext.mono e3 fun _ _ h => .inl h)).trans (Ext.mono e4 fun _ _ h => .inr h), ?_⟩
    subst hp
    exact ⟨rfl, Blk.keep h3 e4 (Ne.symm hne), k4⟩
  refine ⟨fun g2 => ?_, fun g2 => ⟨fun g3 => ?_, fun g3 => ⟨fun g4 => ?_, fun g4 => ⟨fun g5 => ?_, fun g5 => ⟨fun g6 => ?_, fun g6 => ⟨fun g7 => ?_, fun g7 => ⟨fun g8 => ?_, fun g8 => ?_⟩⟩⟩⟩⟩⟩⟩
  all_goals try simp only [beq_iff_eq, beq_eq_false_iff_ne, ne_eq] at g2
  all_goals try simp only [beq_iff_eq, beq_eq_false_iff_ne, ne_eq] at g3
  all_goals try simp only [beq_iff_eq, beq_eq_false_iff_ne, ne_eq] at g4
  all_goals try simp only [beq_iff_eq, beq_eq_false_iff_ne, ne_eq] at g5
  all_goals try simp only [beq_iff_eq, beq_eq_false_iff_ne, ne_eq] at g6
  all_goals try simp only [beq_iff_eq, beq_eq_false_iff_ne, ne_eq] at g7
  all_goals try simp only [beq_iff_eq, beq_eq_false_iff_ne, ne_eq] at g8
  · obtain rfl : ch = 100 := by omega
    refine (srange_ok k2 48 57 (by decide) rfl rfl).use fun e w3 he => ?_
    obtain ⟨rfl, k3, e3⟩ := he
    exact ⟨rfl, hmany (Blk.keep h2 e3 (Ne.symm hne)) k3 (E2.trans (Ext.mono e3 fun _ _ h => .inr h)) (hP1 (by decide))⟩
  · obtain rfl : ch = 119 := by omega
    refine (srange_ok k2 48 57 (by decide) rfl rfl).use fun e w3 he => ?_
    obtain ⟨rfl, k3, e3⟩ := he
    refine ⟨rfl, (srange_ok k3 65 90 (by decide) rfl rfl).use fun e w4 he => ?_⟩
    obtain ⟨rfl, k4, e4⟩ := he
    refine ⟨rfl, (srange_ok k4 97 122 (by decide) rfl rfl).use fun e w5 he => ?_⟩
    obtain ⟨rfl, k5, e5⟩ := he
    refine ⟨rfl, (srange_ok k5 95 95 (by decide) rfl rfl).use fun e w6 he => ?_⟩
    obtain ⟨rfl, k6, e6⟩ := he
    have e7 := ((e3.trans e4).trans e5).trans e6
    refine ⟨rfl, hmany (rs := [(48, 57), (65, 90), (97, 122), (95, 95)]) (Blk.keep h2 e7 (Ne.symm hne)) ?_ (E2.trans (Ext.mono e7 fun _ _ h => .inr h)) (hP1 (by decide))⟩
    rw [b256_ext (g := fun n => f n || inR [(48, 57), (65, 90), (97, 122), (95, 95)] n) fun n _ => by simp only [inR, List.any_cons, List.any_nil, Bool.or_false, Bool.or_assoc]] at k6
    exact k6
  · obtain rfl : ch = 115 := by omega
    refine (srange_ok k2 9 10 (by decide) rfl rfl).use fun e w3 he => ?_
    obtain ⟨rfl, k3, e3⟩ := he
    refine ⟨rfl, (srange_ok k3 13 13 (by decide) rfl rfl).use fun e w4 he => ?_⟩
    obtain ⟨rfl, k4, e4⟩ := he
    refine ⟨rfl, (srange_ok k4 32 32 (by decide) rfl rfl).use fun e w5 he => ?_⟩
    obtain ⟨rfl, k5, e5⟩ := he
    have e7 := (e3.trans e4).trans e5
    refine ⟨rfl, hmany (rs := [(9, 10), (13, 13), (32, 32)]) (Blk.keep h2 e7 (Ne.symm hne)) ?_ (E2.trans (Ext.mono e7 fun _ _ h => .inr h)) (hP1 (by decide))⟩
    rw [b256_ext (g := fun n => f n || inR [(9, 10), (13, 13), (32, 32)] n) fun n _ => by simp only [inR, List.any_cons, List.any_nil, Bool.or_false, Bool.or_assoc]] at k5
    exact k5
  · obtain rfl : ch = 110 := by omega
    refine ⟨fun g9 => by simp at g9, fun g9 => ⟨fun g10 => by simp at g10, fun g10 => ?_⟩⟩
    exact hone (v := 10) (o := 0) (o' := fun z => z + 10) h2 k2 E2 (hP1 (by decide)) rfl (by decide) (fun _ => rfl)
  · obtain rfl : ch = 116 := by omega
    refine ⟨fun g9 => ?_, fun g9 => by simp at g9⟩
    exact hone (v := 9) (o := 0) (o' := fun z => z + 9) h2 k2 E2 (hP1 (by decide)) rfl (by decide) (fun _ => rfl)
  · obtain rfl : ch = 114 := by omega
    refine ⟨fun g9 => by simp at g9, fun g9 => ⟨fun g10 => ?_, fun g10 => by simp at g10⟩⟩
    exact hone (v := 13) (o := 0) (o' := fun z => z + 13) h2 k2 E2 (hP1 (by decide)) rfl (by decide) (fun _ => rfl)
  · obtain rfl : ch = 120 := by omega
    have hP3 := hP2 rfl
    clear hbad hmany hone hP1 hP2
    refine ⟨i, h2.cell 1, h2.mv (j := i + 1) (by rw [w64 (by omega)]; omega) fun w3 s3 h3 e3 => ?_⟩
    have k3 := k2.keep e3 hne
    have E3 := E2.trans (Ext.mono e3 fun _ _ h => .inl h)
    refine ⟨fun m n q w' => ∃ j : Nat, q = (j : Int) ∧ m = 2 - j ∧ Sd w' b s (i + 1 + j) (-1) g a ln c ∧ Blk w'.heap k 4 (b256 f) ∧ Ext (fun x => x = b ∨ x = k) w w' ∧
      ((j = 0 ∧ n = 0) ∨ (∃ v, j = 1 ∧ i + 1 < s.size ∧ hexv (at_ (L s) (i + 1)) = some v ∧ n = (v : Int)) ∨ (∃ v u, j = 2 ∧ i + 2 < s.size ∧ hexv (at_ (L s) (i + 1)) = some v ∧ hexv (at_ (L s) (i + 2)) = some u ∧ n = ((16 * v + u : Nat) : Int))), ⟨2, 0, rfl, rfl, h3, k3, E3, .inl ⟨rfl, rfl⟩⟩, ?_⟩
    rintro m d n q w4 ⟨j, rfl, rfl, h4, k4, E4, hj⟩
    refine ⟨fun g9 => ?_, fun g9 => ?_⟩
    · have g9' : j < 2 := by have := of_decide_eq_true g9; omega
      refine drw_in fun w5 q5 e5 => ?_
      have h5 : Sd w5 b s (i + 1 + j) (-1) g a ln c := Blk.keep h4 e5 fun h => h
      have k5 := k4.keep e5 fun h => h
      have E5 := E4.trans (Ext.mono e5 fun _ _ h => h.elim)
      refine (more_ok h5).ret fun w6 b6 => ⟨_, rfl, fun g10 => ?_, fun g10 => ?_⟩
      · have g10' : ¬ i + 1 + j < s.size := by simpa using g10
        refine (sfail_ok (h5.below b6)).use fun e w7 he => ?_
        obtain ⟨rfl, h7, e7⟩ := he
        refine ⟨rfl, (E5.trans (Ext.of_below b6)).trans (Ext.mono e7 fun _ _ h => .inl h), ?_⟩
        have : P = .bad (i + 1 + j) := by
          rw [hP3]; unfold escX
          rcases hj with ⟨rfl, _⟩ | ⟨v, rfl, hv1, hv2, _⟩ | ⟨v, u, rfl, _⟩
          · rw [if_pos (by omega)]; congr 1; omega
          · rw [if_neg (by omega), hv2]; simp only []; rw [if_pos (by omega)]; congr 1; omega
          · omega
        subst this
        exact ⟨rfl, ⟨_, h7⟩, f, (k5.below b6).keep e7 hne⟩
      · have g10' : i + 1 + j < s.size := by simpa using g10
        have h6 := h5.below b6
        have k6 := k5.below b6
        have E6 := E5.trans (Ext.of_below b6)
        refine ⟨s, h6.cell 0, _, h6.cell 1, ⟨by omega, by omega⟩, ?_⟩
        have hat : byteAt s (Int.toNat ((i + 1 + j : Nat) : Int)) = (at_ (L s) (i + 1 + j) : Int) := byteI s rfl
        rw [hat]
        refine (shex_ok (at_ (L s) (i + 1 + j)) (at_lt _ _) rfl w6).ret fun w7 b7 => ⟨_, rfl, fun g11 => ?_, fun g11 => ?_⟩
        · have hx : hexv (at_ (L s) (i + 1 + j)) = none := by
            cases hh : hexv (at_ (L s) (i + 1 + j)) with
            | none => rfl
            | some v => rw [hh] at g11; have := of_decide_eq_true g11; simp only [] at this; omega
          refine (sfail_ok (h6.below b7)).use fun e w8 he => ?_
          obtain ⟨rfl, h8, e8⟩ := he
          refine ⟨rfl, (E6.trans (Ext.of_below b7)).trans (Ext.mono e8 fun _ _ h => .inl h), ?_⟩
          have : P = .bad (i + 1 + j) := by
            rw [hP3]; unfold escX
            rcases hj with ⟨rfl, _⟩ | ⟨v, rfl, hv1, hv2, _⟩ | ⟨v, u, rfl, _⟩
            · rw [if_neg (by omega)]
              rw [show i + 1 + 0 = i + 1 from rfl] at hx
              rw [hx]
            · rw [if_neg (by omega), hv2]; simp only []; rw [if_neg (by omega)]
              rw [show i + 1 + 1 = i + 2 from rfl] at hx
              rw [hx]
            · omega
          subst this
          exact ⟨rfl, ⟨_, h8⟩, f, (k6.below b7).keep e8 hne⟩
        · obtain ⟨v, hx⟩ : ∃ v, hexv (at_ (L s) (i + 1 + j)) = some v := by
            cases hh : hexv (at_ (L s) (i + 1 + j)) with
            | some v => exact ⟨v, rfl⟩
            | none => rw [hh] at g11; exact absurd (of_decide_eq_false g11) (by decide)
          have hv16 := hexv_lt hx
          refine drw_in fun w8 q8 e8 => ?_
          have h8 : Sd w8 b s (i + 1 + j) (-1) g a ln c := Blk.keep (h6.below b7) e8 fun h => h
          have k8 := (k6.below b7).keep e8 fun h => h
          have E8 := (E6.trans (Ext.of_below b7)).trans (Ext.mono e8 fun _ _ h => h.elim)
          refine ⟨s, h8.cell 0, _, h8.cell 1, ⟨by omega, by omega⟩, ?_⟩
          rw [hat]
          refine (shex_ok (at_ (L s) (i + 1 + j)) (at_lt _ _) rfl w8).ret fun w9 b9 => ⟨_, rfl, ?_⟩
          have h9 := h8.below b9
          rw [hx]
          simp only []
          refine ⟨_, h9.cell 1, h9.mv (j := i + 1 + (j + 1)) (by rw [w64 (by omega)]; omega) fun w10 s10 h10 e10 => ?_⟩
          refine ⟨2 - (j + 1), by omega, j + 1, by rw [w64 (by omega)]; omega, rfl, h10, (k8.below b9).keep e10 hne, (E8.trans (Ext.of_below b9)).trans (Ext.mono e10 fun _ _ h => .inl h), ?_⟩
          rcases hj with ⟨rfl, rfl⟩ | ⟨v0, rfl, hv1, hv2, rfl⟩ | ⟨v, u, rfl, _⟩
          · refine .inr (.inl ⟨v, rfl, by omega, hx, ?_⟩)
            rw [w64 (n := 0 * 16) (by omega), w64 (by omega)]; omega
          · refine .inr (.inr ⟨v0, v, rfl, by omega, hv2, hx, ?_⟩)
            have := hexv_lt hv2
            rw [w64 (n := (v0 : Int) * 16) (by omega), w64 (by omega)]; omega
          · omega
    · have g9' : ¬ j < 2 := by have := of_decide_eq_false g9; omega
      rcases hj with ⟨rfl, rfl⟩ | ⟨v0, rfl, hv1, hv2, rfl⟩ | ⟨v, u, rfl, hj1, hj2, hj3, rfl⟩
      · omega
      · omega
      · have := hexv_lt hj2
        have := hexv_lt hj3
        refine ⟨k, 0, ⟨rfl, by omega, by omega⟩, ?_⟩
        refine st_one k4 (v := 16 * v + u) (by omega) (by omega) fun w5 s5 k5 e5 => ⟨E4.trans (Ext.mono e5 fun _ _ h => .inr h), ?_⟩
        have : P = .ok (i + 3, [(16 * v + u, 16 * v + u)], some (16 * v + u)) := by
          rw [hP3]; unfold escX
          rw [if_neg (by omega), hj2]; simp only []; rw [if_neg (by omega), hj3]
        subst this
        exact ⟨rfl, Blk.keep h4 e5 (Ne.symm hne), k5⟩
  · have hP3 := hP1 (by omega)
    refine ⟨fun t w' => w' = w2 ∧ (t = true ↔ (48 ≤ ch ∧ ch ≤ 57 ∨ 97 ≤ ch ∧ ch ≤ 122 ∨ 65 ≤ ch ∧ ch ≤ 90)), ?_, ?_⟩
    · have T : (48 ≤ ch ∧ ch ≤ 57 ∨ 97 ≤ ch ∧ ch ≤ 122 ∨ 65 ≤ ch ∧ ch ≤ 90) → w2 = w2 ∧ (true = true ↔ (48 ≤ ch ∧ ch ≤ 57 ∨ 97 ≤ ch ∧ ch ≤ 122 ∨ 65 ≤ ch ∧ ch ≤ 90)) := fun h => ⟨rfl, by simp [h]⟩
      have F : ¬ (48 ≤ ch ∧ ch ≤ 57 ∨ 97 ≤ ch ∧ ch ≤ 122 ∨ 65 ≤ ch ∧ ch ≤ 90) → w2 = w2 ∧ (false = true ↔ (48 ≤ ch ∧ ch ≤ 57 ∨ 97 ≤ ch ∧ ch ≤ 122 ∨ 65 ≤ ch ∧ ch ≤ 90)) := fun h => ⟨rfl, by simp [h]⟩
      have M : 48 ≤ ch → ¬ (97 ≤ ch ∧ ch ≤ 122) → ¬ (65 ≤ ch ∧ ch ≤ 90) → w2 = w2 ∧ (decide ((ch : Int) ≤ 57) = true ↔ (48 ≤ ch ∧ ch ≤ 57 ∨ 97 ≤ ch ∧ ch ≤ 122 ∨ 65 ≤ ch ∧ ch ≤ 90)) := fun h1 h2 h3 => ⟨rfl, by rw [decide_eq_true_eq]; omega⟩
      repeat' (apply And.intro <;> intro gg)
      all_goals
        simp only [decide_eq_true_eq, decide_eq_false_iff_not] at *
        first
        | exact T (by omega)
        | exact F (by omega)
        | (simpa using M (by omega) (by omega) (by omega))
    · rintro d t w3 ⟨rfl, ht⟩
      refine ⟨fun g9 => hbad h2 k2 E2 (by rw [hP3, escC_no (by have := ht.1 g9; omega) (by omega) (by omega) (by omega) (by omega) (by omega) (by omega)]), fun g9 => ⟨fun g10 => hbad h2 k2 E2 ?_, fun g10 => ⟨fun g11 => hbad h2 k2 E2 ?_, fun g11 => ?_⟩⟩⟩
      · have := of_decide_eq_true g10
        rw [hP3, escC_no (by omega) (by omega) (by omega) (by omega) (by omega) (by omega) (by omega)]
      · have := of_decide_eq_true g11
        rw [hP3, escC_no (by omega) (by omega) (by omega) (by omega) (by omega) (by omega) (by omega)]
      · have h10 := of_decide_eq_false g10
        have h11 := of_decide_eq_false g11
        have hn : ¬ (48 ≤ ch ∧ ch ≤ 57 ∨ 97 ≤ ch ∧ ch ≤ 122 ∨ 65 ≤ ch ∧ ch ≤ 90) := fun h => by rw [ht.2 h] at g9; cases g9
        have hw : IntKind.wrap .i64 (ch : Int) = (ch : Int) := w64 (by omega)
        rw [hw]
        exact hone (v := ch) (o := 0) (o' := fun z => z + Int.toNat (ch : Int) * 1) h2 k2 E2 (by rw [hP3, escC_sym (by omega) (by omega) hn]) rfl hc (fun z => by omega)
end Go.Proofs.Ytngbiaeliphdjaa.V
/- Printed by vcgen.py, a program of this session: formulas of Go functions, each with the proof that it gives the function's contract. No statement of the seat is proved here. -/
namespace Go.Proofs.Ytngbiaeliphdjaa.V
open Go.Vc Go.Proofs
set_option linter.unusedVariables false
set_option maxRecDepth 100000
/-- (*spec.l1R).class -/
def V164 (b1 o2 : Nat) (R : Rt) : Pred := fun w =>
  ∃ a3 l3 c3, ∃ w4, (Instr.makeSlice 59 (.int .i64 256) (.int .i64 256)).run Try.prog w = .ok (.slice a3 l3 c3) w4 ∧ clB 112 ([.pointer (some ⟨b1, o2, none⟩), .int .u8 94]) w4 R fun t5 w6 => ∃ (I8 : Nat → Int → World → Prop), (∃ k10, I8 k10 0 w6) ∧ ∀ k9 (d12 : Nat → Value) n13 w11, I8 k9 n13 w11 → ∃ (J14 : World → Prop), (drw (fun w15 => clB 78 ([.pointer (some ⟨b1, o2, none⟩)]) w15 R fun t16 w17 => (cB t16 (lS w17 b1 o2 fun s19 => lI w17 b1 (o2 + 1) fun n20 => (ixT s19 n20) ∧ (cB ((byteAt s19 (Int.toNat n20)) != 93) (J14  w17) ((cB (n13 == 0) (J14  w17) (clB 112 ([.pointer (some ⟨b1, o2, none⟩), .int .u8 93]) w17 R fun t21 w22 => (cB (!t21) (clU 79 ([.pointer (some ⟨b1, o2, none⟩)]) w22 R fun w24 => R (.returned (.slice none 0 0)) w24) ((cB t5 (∃ (I26 : Nat → Int → World → Prop), (∃ k28, I26 k28 0 w22) ∧ ∀ k27 (d30 : Nat → Value) n31 w29, I26 k27 n31 w29 → (cB (decide (n31 < ((l3 : Nat) : Int))) (ixS a3 l3 n31 fun b32 o33 => lB w29 b32 (o33 + (Int.toNat n31) * 1) fun t34 => ixS a3 l3 n31 fun b35 o36 => stW b35 (o36 + (Int.toNat n31) * 1) [.bool (!t34)] (fun w37 => (∃ m38, m38 < k27 ∧ I26 m38 (IntKind.wrap .i64 (n31 + 1)) w37)) w29) (clL 167 ([.slice a3 l3 c3]) w29 R fun a39 l39 c39 w40 => R (.returned (.slice a39 l39 c39)) w40))) (clL 167 ([.slice a3 l3 c3]) w22 R fun a42 l42 c42 w43 => R (.returned (.slice a42 l42 c42)) w43))))))))) (clB 112 ([.pointer (some ⟨b1, o2, none⟩), .int .u8 93]) w17 R fun t45 w46 => (cB (!t45) (clU 79 ([.pointer (some ⟨b1, o2, none⟩)]) w46 R fun w48 => R (.returned (.slice none 0 0)) w48) ((cB t5 (∃ (I50 : Nat → Int → World → Prop), (∃ k52, I50 k52 0 w46) ∧ ∀ k51 (d54 : Nat → Value) n55 w53, I50 k51 n55 w53 → (cB (decide (n55 < ((l3 : Nat) : Int))) (ixS a3 l3 n55 fun b56 o57 => lB w53 b56 (o57 + (Int.toNat n55) * 1) fun t58 => ixS a3 l3 n55 fun b59 o60 => stW b59 (o60 + (Int.toNat n55) * 1) [.bool (!t58)] (fun w61 => (∃ m62, m62 < k51 ∧ I50 m62 (IntKind.wrap .i64 (n55 + 1)) w61)) w53) (clL 167 ([.slice a3 l3 c3]) w53 R fun a63 l63 c63 w64 => R (.returned (.slice a63 l63 c63)) w64))) (clL 167 ([.slice a3 l3 c3]) w46 R fun a66 l66 c66 w67 => R (.returned (.slice a66 l66 c66)) w67))))))) w11) ∧ ∀ (d69 : Nat → Value)  w70, J14  w70 → clB 112 ([.pointer (some ⟨b1, o2, none⟩), .int .u8 92]) w70 R fun t71 w72 => ∃ (J74 : Int → Bool → World → Prop), ((cB t71 (clV 166 ([.pointer (some ⟨b1, o2, none⟩), .slice a3 l3 c3]) w72 R fun r78 w77 => ∃ n75, ∃ t76, r78 = .tuple #[.int .i64 n75, .bool t76] ∧ J74 n75 t76 w77) (drw (fun w79 => lS w79 b1 o2 fun s80 => lI w79 b1 (o2 + 1) fun n81 => (ixT s80 n81) ∧ ixS a3 l3 (IntKind.wrap .i64 (byteAt s80 (Int.toNat n81))) fun b82 o83 => stW b82 (o83 + (Int.toNat (IntKind.wrap .i64 (byteAt s80 (Int.toNat n81)))) * 1) [.bool true] (fun w84 => lI w84 b1 (o2 + 1) fun n85 => stW b1 (o2 + 1) [.int .i64 (IntKind.wrap .i64 (n85 + 1))] (fun w86 => J74 (IntKind.wrap .i64 (byteAt s80 (Int.toNat n81))) true w86) w84) w79) w72))) ∧ ∀ (d87 : Nat → Value) n88 t89 w90, J74 n88 t89 w90 → drw (fun w91 => (cB (!t89) ((∃ m92, m92 < k9 ∧ I8 m92 (IntKind.wrap .i64 (n13 + 1)) w91)) (lI w91 b1 (o2 + 1) fun n93 => lS w91 b1 o2 fun s94 => (cB (decide ((IntKind.wrap .i64 (n93 + 1)) ≥ ((ByteArray.size s94 : Nat) : Int))) ((∃ m95, m95 < k9 ∧ I8 m95 (IntKind.wrap .i64 (n13 + 1)) w91)) (lI w91 b1 (o2 + 2) fun n96 => (cB (decide (n96 ≥ 0)) ((∃ m97, m97 < k9 ∧ I8 m97 (IntKind.wrap .i64 (n13 + 1)) w91)) (lS w91 b1 o2 fun s98 => lI w91 b1 (o2 + 1) fun n99 => (ixT s98 n99) ∧ (cB ((byteAt s98 (Int.toNat n99)) != 45) ((∃ m100, m100 < k9 ∧ I8 m100 (IntKind.wrap .i64 (n13 + 1)) w91)) (lS w91 b1 o2 fun s101 => lI w91 b1 (o2 + 1) fun n102 => (ixT s101 (IntKind.wrap .i64 (n102 + 1))) ∧ (cB ((byteAt s101 (Int.toNat (IntKind.wrap .i64 (n102 + 1)))) == 93) ((∃ m103, m103 < k9 ∧ I8 m103 (IntKind.wrap .i64 (n13 + 1)) w91)) (lI w91 b1 (o2 + 1) fun n104 => stW b1 (o2 + 1) [.int .i64 (IntKind.wrap .i64 (n104 + 1))] (fun w105 => lI w105 b1 (o2 + 1) fun n106 => drw (fun w107 => lS w107 b1 o2 fun s108 => lI w107 b1 (o2 + 1) fun n109 => (ixT s108 n109) ∧ clB 112 ([.pointer (some ⟨b1, o2, none⟩), .int .u8 92]) w107 R fun t110 w111 => (cB t110 (∃ a113 l113 c113, ∃ w114, (Instr.makeSlice 59 (.int .i64 256) (.int .i64 256)).run Try.prog w111 = .ok (.slice a113 l113 c113) w114 ∧ clV 166 ([.pointer (some ⟨b1, o2, none⟩), .slice a113 l113 c113]) w114 R fun r118 w117 => ∃ n115, ∃ t116, r118 = .tuple #[.int .i64 n115, .bool t116] ∧ lI w117 b1 (o2 + 2) fun n119 => (cB (decide (n119 < 0)) ((cB (!t116) (stW b1 (o2 + 1) [.int .i64 n106] (fun w120 => clU 79 ([.pointer (some ⟨b1, o2, none⟩)]) w120 R fun w121 => R (.returned (.slice none 0 0)) w121) w117) ((cB (decide (n115 < n88)) (stW b1 (o2 + 1) [.int .i64 n106] (fun w123 => clU 79 ([.pointer (some ⟨b1, o2, none⟩)]) w123 R fun w124 => R (.returned (.slice none 0 0)) w124) w117) (lI w117 b1 (o2 + 2) fun n126 => (cB (decide (n126 < 0)) (clU 165 ([.slice a3 l3 c3, .int .i64 n88, .int .i64 n115]) w117 R fun w127 => (∃ m129, m129 < k9 ∧ I8 m129 (IntKind.wrap .i64 (n13 + 1)) w127)) ((∃ m130, m130 < k9 ∧ I8 m130 (IntKind.wrap .i64 (n13 + 1)) w117)))))))) (lI w117 b1 (o2 + 2) fun n131 => (cB (decide (n131 < 0)) (clU 165 ([.slice a3 l3 c3, .int .i64 n88, .int .i64 n115]) w117 R fun w132 => (∃ m134, m134 < k9 ∧ I8 m134 (IntKind.wrap .i64 (n13 + 1)) w132)) ((∃ m135, m135 < k9 ∧ I8 m135 (IntKind.wrap .i64 (n13 + 1)) w117)))))) (lI w111 b1 (o2 + 1) fun n136 => stW b1 (o2 + 1) [.int .i64 (IntKind.wrap .i64 (n136 + 1))] (fun w137 => lI w137 b1 (o2 + 2) fun n138 => (cB (decide (n138 < 0)) ((cB (!t89) (stW b1 (o2 + 1) [.int .i64 n106] (fun w139 => clU 79 ([.pointer (some ⟨b1, o2, none⟩)]) w139 R fun w140 => R (.returned (.slice none 0 0)) w140) w137) ((cB (decide ((IntKind.wrap .i64 (byteAt s108 (Int.toNat n109))) < n88)) (stW b1 (o2 + 1) [.int .i64 n106] (fun w142 => clU 79 ([.pointer (some ⟨b1, o2, none⟩)]) w142 R fun w143 => R (.returned (.slice none 0 0)) w143) w137) (lI w137 b1 (o2 + 2) fun n145 => (cB (decide (n145 < 0)) (clU 165 ([.slice a3 l3 c3, .int .i64 n88, .int .i64 (IntKind.wrap .i64 (byteAt s108 (Int.toNat n109)))]) w137 R fun w146 => (∃ m148, m148 < k9 ∧ I8 m148 (IntKind.wrap .i64 (n13 + 1)) w146)) ((∃ m149, m149 < k9 ∧ I8 m149 (IntKind.wrap .i64 (n13 + 1)) w137)))))))) (lI w137 b1 (o2 + 2) fun n150 => (cB (decide (n150 < 0)) (clU 165 ([.slice a3 l3 c3, .int .i64 n88, .int .i64 (IntKind.wrap .i64 (byteAt s108 (Int.toNat n109)))]) w137 R fun w151 => (∃ m153, m153 < k9 ∧ I8 m153 (IntKind.wrap .i64 (n13 + 1)) w151)) ((∃ m154, m154 < k9 ∧ I8 m154 (IntKind.wrap .i64 (n13 + 1)) w137)))))) w111))) w105) w91))))))))))) w90
def scr164 : Scr := (.q 1 (.q 2 (.q 3 (.q 1 (.loop (dr [(5, some (.int .i64))] [(2,1),(6,4),(14,160)]) (.cutS (dr [] [(14,18)]) (.run [0,1,2] (.split 16 (.run [3,4,5,6,7,8,9,10,11,12,13] (.split 27 (.r [14,15,16,17] (.lit .nil)) (.r [14,15,16,17] (.cond .nil (.q 3 (.cond (.q 2 (.q 1 .nil)) (.q 1 (.cond (.q 3 (.loop (dr [(182, some (.int .i64))] [(10,1),(183,11)]) (.q 1 (.cond (.q 2 (.q 9 (.q 2 .nil))) (.q 3 .nil))))) (.q 3 .nil))))))))) (.r [3,4,5,6,7,8,9,10,11,12,13,14,15,16,17] (.lit (.q 3 (.cond (.q 2 (.q 1 .nil)) (.q 1 (.cond (.q 3 (.loop (dr [(182, some (.int .i64))] [(10,1),(183,11)]) (.q 1 (.cond (.q 2 (.q 9 (.q 2 .nil))) (.q 3 .nil))))) (.q 3 .nil))))))))) (.q 3 (.q 1 (.q 1 (.q 2 (.cut (dr [(6, some (.int .i64)), (7, some .bool)] [(36,26)]) (.cond (.q 8 .nil) (.q 11 (.q 4 (.q 8 .nil)))) (.run [0,1,2] (.split 64 (.r [3,4,5,6,7,8,9,10,11,12,13,14,15,16,17,18,19,20,21,22,23,24,25,26,27,28,29,30,31,32,33,34,35,36,37,38,39,40,41,42,43,44,45,46] (.lit .nil)) (.run [3,4,5,6,7,8,9,10,11,12,13,14,15] (.split 77 (.r [16,17,18,19,20,21,22,23,24,25,26,27,28,29,30,31,32,33,34,35,36,37,38,39,40,41,42,43,44,45,46] (.lit .nil)) (.run [16,17,18,19,20,21,22] (.split 84 (.r [23,24,25,26,27,28,29,30,31,32,33,34,35,36,37,38,39,40,41,42,43,44,45,46] (.lit .nil)) (.run [23,24,25,26,27,28,29,30,31,32,33,34] (.split 96 (.r [35,36,37,38,39,40,41,42,43,44,45,46] (.lit .nil)) (.r [35,36,37,38,39,40,41,42,43,44,45,46] (.cond .nil (.q 8 (.q 5 (.q 11 (.q 2 (.cond (.q 8 (.run [0,1,2,3,4,5] (.split 150 (.run [6,7,8] (.split 153 (.r [9,10,11,12,13] (.lit (.q 5 (.q 2 (.q 1 .nil))))) (.r [9,10,11,12,13] (.cond (.q 5 (.q 2 (.q 1 .nil))) (.q 5 (.cond (.q 4 .nil) .nil)))))) (.r [6,7,8,9,10,11,12,13] (.lit (.q 5 (.cond (.q 4 .nil) .nil))))))) (.q 8 (.run [0,1,2,3,4,5] (.split 150 (.run [6,7,8] (.split 153 (.r [9,10,11,12,13] (.lit (.q 5 (.q 2 (.q 1 .nil))))) (.r [9,10,11,12,13] (.cond (.q 5 (.q 2 (.q 1 .nil))) (.q 5 (.cond (.q 4 .nil) .nil)))))) (.r [6,7,8,9,10,11,12,13] (.lit (.q 5 (.cond (.q 4 .nil) .nil)))))))))))))))))))))))))))))))))
theorem vc164 {b1 o2} {R w} (h : V164 b1 o2 R w) : Cl Try.prog 164 [.pointer (some ⟨b1, o2, none⟩)] w R :=
  cl_of scr164 Try.func164 (by kernel_rfl) _ _ (by kernel_rfl) h
/-- (*spec.l1R).piece -/
def V128 (b1 o2 : Nat) (n3 : Int) (R : Rt) : Pred := fun w =>
  clI 149 ([.pointer (some ⟨b1, o2, none⟩), .int .i64 n3]) w R fun n4 w5 => newC [.int .i64 0, .slice none 0 0, .int .i64 0, .int .i64 0, .bool false, .int .i64 0, .slice none 0 0] 111 (fun b7 w8 => stW b7 0 [.int .i64 4, .slice none 0 0, .int .i64 0, .int .i64 (-1), .bool false, .int .i64 0, .slice none 0 0] (fun w9 => clB 112 ([.pointer (some ⟨b1, o2, none⟩), .int .u8 42]) w9 R fun t10 w11 => ∃ (J13 : World → Prop), ((cB t10 (J13  w11) (clB 112 ([.pointer (some ⟨b1, o2, none⟩), .int .u8 43]) w11 R fun t14 w15 => (cB t14 (stW b7 2 [.int .i64 1] (fun w17 => J13  w17) w15) (clB 112 ([.pointer (some ⟨b1, o2, none⟩), .int .u8 63]) w15 R fun t18 w19 => (cB t18 (stW b7 3 [.int .i64 1] (fun w21 => J13  w21) w19) (clB 112 ([.pointer (some ⟨b1, o2, none⟩), .int .u8 123]) w19 R fun t22 w23 => (cB t22 (clV 150 ([.pointer (some ⟨b1, o2, none⟩)]) w23 R fun r28 w27 => ∃ n25, ∃ n26, r28 = .tuple #[.int .i64 n25, .int .i64 n26] ∧ stW b7 2 [.int .i64 n25] (fun w29 => stW b7 3 [.int .i64 n26] (fun w30 => J13  w30) w29) w27) (R (.returned (.int .i64 n4)) w23))))))))) ∧ ∀ (d31 : Nat → Value)  w32, J13  w32 → clB 112 ([.pointer (some ⟨b1, o2, none⟩), .int .u8 63]) w32 R fun t33 w34 => stW b7 4 [.bool t33] (fun w36 => newC [.int .i64 n4] 3 (fun b37 w38 => stW b7 6 [.slice (some ⟨b37, 0, none⟩) 1 1] (fun w39 => lI w39 b7 0 fun n40 => lL w39 b7 1 fun a41 l41 c41 => lI w39 b7 2 fun n42 => lI w39 b7 3 fun n43 => lB w39 b7 4 fun t44 => lI w39 b7 5 fun n45 => lL w39 b7 6 fun a46 l46 c46 => clI 113 ([.pointer (some ⟨b1, o2, none⟩), .agg #[.int .i64 n40, .slice a41 l41 c41, .int .i64 n42, .int .i64 n43, .bool t44, .int .i64 n45, .slice a46 l46 c46]]) w39 R fun n47 w48 => R (.returned (.int .i64 n47)) w48) w38) w36) w34) w8) w5
def scr128 : Scr := (.q 1 (.q 4 (.q 3 (.q 3 (.cut (dr [] [(4,1),(11,1),(15,18)]) (.cond .nil (.q 3 (.cond (.q 2 .nil) (.q 3 (.cond (.q 2 .nil) (.q 3 (.cond (.q 9 .nil) (.q 2 .nil)))))))) (.q 4 (.q 4 (.q 4 .nil))))))))
theorem vc128 {b1 o2 n3} {R w} (h : V128 b1 o2 n3 R w) : Cl Try.prog 128 [.pointer (some ⟨b1, o2, none⟩), .int .i64 n3] w R :=
  cl_of scr128 Try.func128 (by kernel_rfl) _ _ (by kernel_rfl) h
/-- (*spec.l1R).atom -/
def V149 (b1 o2 : Nat) (n3 : Int) (R : Rt) : Pred := fun w =>
  drw (fun w4 => lS w4 b1 o2 fun s5 => lI w4 b1 (o2 + 1) fun n6 => (ixT s5 n6) ∧ ∃ a7 l7 c7, ∃ w8, (Instr.makeSlice 59 (.int .i64 256) (.int .i64 256)).run Try.prog w4 = .ok (.slice a7 l7 c7) w8 ∧ (cB ((byteAt s5 (Int.toNat n6)) == 40) (lI w8 b1 (o2 + 3) fun n9 => (cB (n9 == 9) (clU 79 ([.pointer (some ⟨b1, o2, none⟩)]) w8 R fun w10 => R (.returned (.int .i64 0)) w10) ((cB (n3 == 6) (clU 79 ([.pointer (some ⟨b1, o2, none⟩)]) w8 R fun w12 => R (.returned (.int .i64 0)) w12) (lI w8 b1 (o2 + 1) fun n14 => stW b1 (o2 + 1) [.int .i64 (IntKind.wrap .i64 (n14 + 1))] (fun w15 => lI w15 b1 (o2 + 3) fun n16 => stW b1 (o2 + 3) [.int .i64 (IntKind.wrap .i64 (n16 + 1))] (fun w17 => lI w17 b1 (o2 + 3) fun n18 => clI 77 ([.pointer (some ⟨b1, o2, none⟩), .int .i64 (IntKind.wrap .i64 (n3 + 1))]) w17 R fun n19 w20 => clB 112 ([.pointer (some ⟨b1, o2, none⟩), .int .u8 41]) w20 R fun t22 w23 => (cB (!t22) (clU 79 ([.pointer (some ⟨b1, o2, none⟩)]) w23 R fun w25 => newC [.int .i64 n19] 3 (fun b27 w28 => clI 113 ([.pointer (some ⟨b1, o2, none⟩), .agg #[.int .i64 5, .slice none 0 0, .int .i64 0, .int .i64 0, .bool false, .int .i64 n18, .slice (some ⟨b27, 0, none⟩) 1 1]]) w28 R fun n29 w30 => R (.returned (.int .i64 n29)) w30) w25) (newC [.int .i64 n19] 3 (fun b32 w33 => clI 113 ([.pointer (some ⟨b1, o2, none⟩), .agg #[.int .i64 5, .slice none 0 0, .int .i64 0, .int .i64 0, .bool false, .int .i64 n18, .slice (some ⟨b32, 0, none⟩) 1 1]]) w33 R fun n34 w35 => R (.returned (.int .i64 n34)) w35) w23))) w15) w8))))) ((cB ((byteAt s5 (Int.toNat n6)) == 91) (lI w8 b1 (o2 + 1) fun n37 => stW b1 (o2 + 1) [.int .i64 (IntKind.wrap .i64 (n37 + 1))] (fun w38 => clL 164 ([.pointer (some ⟨b1, o2, none⟩)]) w38 R fun a39 l39 c39 w40 => clI 113 ([.pointer (some ⟨b1, o2, none⟩), .agg #[.int .i64 1, .slice a39 l39 c39, .int .i64 0, .int .i64 0, .bool false, .int .i64 0, .slice none 0 0]]) w40 R fun n42 w43 => R (.returned (.int .i64 n42)) w43) w8) ((cB ((byteAt s5 (Int.toNat n6)) == 94) (lI w8 b1 (o2 + 1) fun n45 => stW b1 (o2 + 1) [.int .i64 (IntKind.wrap .i64 (n45 + 1))] (fun w46 => clI 113 ([.pointer (some ⟨b1, o2, none⟩), .agg #[.int .i64 6, .slice none 0 0, .int .i64 0, .int .i64 0, .bool false, .int .i64 0, .slice none 0 0]]) w46 R fun n47 w48 => R (.returned (.int .i64 n47)) w48) w8) ((cB ((byteAt s5 (Int.toNat n6)) == 36) (lI w8 b1 (o2 + 1) fun n50 => stW b1 (o2 + 1) [.int .i64 (IntKind.wrap .i64 (n50 + 1))] (fun w51 => clI 113 ([.pointer (some ⟨b1, o2, none⟩), .agg #[.int .i64 7, .slice none 0 0, .int .i64 0, .int .i64 0, .bool false, .int .i64 0, .slice none 0 0]]) w51 R fun n52 w53 => R (.returned (.int .i64 n52)) w53) w8) ((cB ((byteAt s5 (Int.toNat n6)) == 46) (clU 165 ([.slice a7 l7 c7, .int .i64 0, .int .i64 255]) w8 R fun w55 => ixS a7 l7 10 fun b57 o58 => stW b57 (o58 + 10) [.bool false] (fun w59 => lI w59 b1 (o2 + 1) fun n60 => stW b1 (o2 + 1) [.int .i64 (IntKind.wrap .i64 (n60 + 1))] (fun w61 => clL 167 ([.slice a7 l7 c7]) w61 R fun a62 l62 c62 w63 => clI 113 ([.pointer (some ⟨b1, o2, none⟩), .agg #[.int .i64 1, .slice a62 l62 c62, .int .i64 0, .int .i64 0, .bool false, .int .i64 0, .slice none 0 0]]) w63 R fun n65 w66 => R (.returned (.int .i64 n65)) w66) w59) w55) ((cB ((byteAt s5 (Int.toNat n6)) == 92) (lI w8 b1 (o2 + 1) fun n68 => stW b1 (o2 + 1) [.int .i64 (IntKind.wrap .i64 (n68 + 1))] (fun w69 => clV 166 ([.pointer (some ⟨b1, o2, none⟩), .slice a7 l7 c7]) w69 R fun r73 w72 => ∃ n70, ∃ t71, r73 = .tuple #[.int .i64 n70, .bool t71] ∧ clL 167 ([.slice a7 l7 c7]) w72 R fun a74 l74 c74 w75 => clI 113 ([.pointer (some ⟨b1, o2, none⟩), .agg #[.int .i64 1, .slice a74 l74 c74, .int .i64 0, .int .i64 0, .bool false, .int .i64 0, .slice none 0 0]]) w75 R fun n77 w78 => R (.returned (.int .i64 n77)) w78) w8) ((cB ((byteAt s5 (Int.toNat n6)) == 42) (clU 79 ([.pointer (some ⟨b1, o2, none⟩)]) w8 R fun w80 => R (.returned (.int .i64 0)) w80) ((cB ((byteAt s5 (Int.toNat n6)) == 43) (clU 79 ([.pointer (some ⟨b1, o2, none⟩)]) w8 R fun w82 => R (.returned (.int .i64 0)) w82) ((cB ((byteAt s5 (Int.toNat n6)) == 63) (clU 79 ([.pointer (some ⟨b1, o2, none⟩)]) w8 R fun w84 => R (.returned (.int .i64 0)) w84) ((cB ((byteAt s5 (Int.toNat n6)) == 123) (clU 79 ([.pointer (some ⟨b1, o2, none⟩)]) w8 R fun w86 => R (.returned (.int .i64 0)) w86) ((cB ((byteAt s5 (Int.toNat n6)) == 125) (clU 79 ([.pointer (some ⟨b1, o2, none⟩)]) w8 R fun w88 => R (.returned (.int .i64 0)) w88) ((cB ((byteAt s5 (Int.toNat n6)) == 93) (clU 79 ([.pointer (some ⟨b1, o2, none⟩)]) w8 R fun w90 => R (.returned (.int .i64 0)) w90) (ixS a7 l7 (IntKind.wrap .i64 (byteAt s5 (Int.toNat n6))) fun b92 o93 => stW b92 (o93 + (Int.toNat (IntKind.wrap .i64 (byteAt s5 (Int.toNat n6)))) * 1) [.bool true] (fun w94 => lI w94 b1 (o2 + 1) fun n95 => stW b1 (o2 + 1) [.int .i64 (IntKind.wrap .i64 (n95 + 1))] (fun w96 => clL 167 ([.slice a7 l7 c7]) w96 R fun a97 l97 c97 w98 => clI 113 ([.pointer (some ⟨b1, o2, none⟩), .agg #[.int .i64 1, .slice a97 l97 c97, .int .i64 0, .int .i64 0, .bool false, .int .i64 0, .slice none 0 0]]) w98 R fun n100 w101 => R (.returned (.int .i64 n100)) w101) w94) w8))))))))))))))))))))))))) w
def scr149 : Scr := (.q 1 (.q 10 (.q 2 (.q 1 (.q 2 (.cond (.run [0,1,2,3,4,5] (.split 32 (.r [6,7,8] (.lit (.q 2 (.q 1 .nil)))) (.r [6,7,8] (.cond (.q 2 (.q 1 .nil)) (.q 8 (.q 8 (.q 5 (.q 5 (.q 3 (.cond (.q 2 (.q 7 .nil)) (.q 7 .nil))))))))))) (.q 2 (.cond (.q 8 (.q 3 (.q 5 .nil))) (.q 2 (.cond (.q 8 (.q 4 .nil)) (.q 2 (.cond (.q 8 (.q 4 .nil)) (.q 2 (.cond (.q 2 (.q 3 (.q 8 (.q 6 .nil)))) (.q 2 (.cond (.q 8 (.q 3 (.q 6 .nil))) (.q 2 (.cond (.lit (.q 2 (.q 1 .nil))) (.q 2 (.cond (.lit (.q 2 (.q 1 .nil))) (.q 2 (.cond (.lit (.q 2 (.q 1 .nil))) (.q 2 (.cond (.lit (.q 2 (.q 1 .nil))) (.q 2 (.cond (.lit (.q 2 (.q 1 .nil))) (.q 2 (.cond (.q 2 (.q 1 .nil)) (.q 5 (.q 8 (.q 6 .nil)))))))))))))))))))))))))))))))
theorem vc149 {b1 o2 n3} {R w} (h : V149 b1 o2 n3 R w) : Cl Try.prog 149 [.pointer (some ⟨b1, o2, none⟩), .int .i64 n3] w R :=
  cl_of scr149 Try.func149 (by kernel_rfl) _ _ (by kernel_rfl) h
/-- (*spec.l1R).seq -/
def V111 (b1 o2 : Nat) (n3 : Int) (R : Rt) : Pred := fun w =>
  newC [.int .i64 0, .slice none 0 0, .int .i64 0, .int .i64 0, .bool false, .int .i64 0, .slice none 0 0] 111 (fun b4 w5 => stW b4 0 [.int .i64 2, .slice none 0 0, .int .i64 0, .int .i64 0, .bool false, .int .i64 0, .slice none 0 0] (fun w6 => ∃ (I7 : Nat → World → Prop), (∃ k9, I7 k9  w6) ∧ ∀ k8 (d11 : Nat → Value)  w10, I7 k8  w10 → drw (fun w12 => clB 78 ([.pointer (some ⟨b1, o2, none⟩)]) w12 R fun t13 w14 => (cB t13 (lS w14 b1 o2 fun s16 => lI w14 b1 (o2 + 1) fun n17 => (ixT s16 n17) ∧ (cB ((byteAt s16 (Int.toNat n17)) != 124) (lS w14 b1 o2 fun s18 => lI w14 b1 (o2 + 1) fun n19 => (ixT s18 n19) ∧ (cB ((byteAt s18 (Int.toNat n19)) != 41) (clI 128 ([.pointer (some ⟨b1, o2, none⟩), .int .i64 n3]) w14 R fun n20 w21 => lL w21 b4 6 fun a23 l23 c23 => newC [.int .i64 n20] 3 (fun b24 w25 => ∃ a26 l26 c26, ∃ w27, (Builtin.append_ #[109, 109] 109 #[.slice a23 l23 c23, .slice (some ⟨b24, 0, none⟩) 1 1]).run Try.prog w25 = .ok (.slice a26 l26 c26) w27 ∧ stW b4 6 [.slice a26 l26 c26] (fun w28 => (∃ m29, m29 < k8 ∧ I7 m29  w28)) w27) w21) (lI w14 b4 0 fun n30 => lL w14 b4 1 fun a31 l31 c31 => lI w14 b4 2 fun n32 => lI w14 b4 3 fun n33 => lB w14 b4 4 fun t34 => lI w14 b4 5 fun n35 => lL w14 b4 6 fun a36 l36 c36 => clI 113 ([.pointer (some ⟨b1, o2, none⟩), .agg #[.int .i64 n30, .slice a31 l31 c31, .int .i64 n32, .int .i64 n33, .bool t34, .int .i64 n35, .slice a36 l36 c36]]) w14 R fun n37 w38 => R (.returned (.int .i64 n37)) w38))) (lI w14 b4 0 fun n40 => lL w14 b4 1 fun a41 l41 c41 => lI w14 b4 2 fun n42 => lI w14 b4 3 fun n43 => lB w14 b4 4 fun t44 => lI w14 b4 5 fun n45 => lL w14 b4 6 fun a46 l46 c46 => clI 113 ([.pointer (some ⟨b1, o2, none⟩), .agg #[.int .i64 n40, .slice a41 l41 c41, .int .i64 n42, .int .i64 n43, .bool t44, .int .i64 n45, .slice a46 l46 c46]]) w14 R fun n47 w48 => R (.returned (.int .i64 n47)) w48))) (lI w14 b4 0 fun n50 => lL w14 b4 1 fun a51 l51 c51 => lI w14 b4 2 fun n52 => lI w14 b4 3 fun n53 => lB w14 b4 4 fun t54 => lI w14 b4 5 fun n55 => lL w14 b4 6 fun a56 l56 c56 => clI 113 ([.pointer (some ⟨b1, o2, none⟩), .agg #[.int .i64 n50, .slice a51 l51 c51, .int .i64 n52, .int .i64 n53, .bool t54, .int .i64 n55, .slice a56 l56 c56]]) w14 R fun n57 w58 => R (.returned (.int .i64 n57)) w58))) w10) w5) w
def scr111 : Scr := (.q 1 (.q 3 (.loop (dr [] [(6,1),(8,35)]) (.run [0,1,2] (.split 10 (.run [3,4,5,6,7,8,9,10,11,12,13,14] (.split 22 (.r [15,16,17,18,19,20,21,22,23,24,25] (.cond (.q 4 (.q 7 .nil)) (.q 4 .nil))) (.r [15,16,17,18,19,20,21,22,23,24,25] (.lit (.q 4 .nil))))) (.r [3,4,5,6,7,8,9,10,11,12,13,14,15,16,17,18,19,20,21,22,23,24,25] (.lit (.q 4 .nil))))))))
theorem vc111 {b1 o2 n3} {R w} (h : V111 b1 o2 n3 R w) : Cl Try.prog 111 [.pointer (some ⟨b1, o2, none⟩), .int .i64 n3] w R :=
  cl_of scr111 Try.func111 (by kernel_rfl) _ _ (by kernel_rfl) h
/-- (*spec.l1R).alt -/
def V77 (b1 o2 : Nat) (n3 : Int) (R : Rt) : Pred := fun w =>
  clI 111 ([.pointer (some ⟨b1, o2, none⟩), .int .i64 n3]) w R fun n4 w5 => drw (fun w7 => clB 78 ([.pointer (some ⟨b1, o2, none⟩)]) w7 R fun t8 w9 => (cB (!t8) (R (.returned (.int .i64 n4)) w9) (lS w9 b1 o2 fun s11 => lI w9 b1 (o2 + 1) fun n12 => (ixT s11 n12) ∧ (cB ((byteAt s11 (Int.toNat n12)) != 124) (R (.returned (.int .i64 n4)) w9) (newC [.int .i64 n4] 3 (fun b13 w14 => newC [.int .i64 0, .slice none 0 0, .int .i64 0, .int .i64 0, .bool false, .int .i64 0, .slice none 0 0] 111 (fun b15 w16 => stW b15 0 [.int .i64 3, .slice none 0 0, .int .i64 0, .int .i64 0, .bool false, .int .i64 0, .slice (some ⟨b13, 0, none⟩) 1 1] (fun w17 => ∃ (I18 : Nat → World → Prop), (∃ k20, I18 k20  w17) ∧ ∀ k19 (d22 : Nat → Value)  w21, I18 k19  w21 → clB 112 ([.pointer (some ⟨b1, o2, none⟩), .int .u8 124]) w21 R fun t23 w24 => (cB t23 (clI 111 ([.pointer (some ⟨b1, o2, none⟩), .int .i64 n3]) w24 R fun n26 w27 => lL w27 b15 6 fun a29 l29 c29 => newC [.int .i64 n26] 3 (fun b30 w31 => ∃ a32 l32 c32, ∃ w33, (Builtin.append_ #[109, 109] 109 #[.slice a29 l29 c29, .slice (some ⟨b30, 0, none⟩) 1 1]).run Try.prog w31 = .ok (.slice a32 l32 c32) w33 ∧ stW b15 6 [.slice a32 l32 c32] (fun w34 => (∃ m35, m35 < k19 ∧ I18 m35  w34)) w33) w27) (lI w24 b15 0 fun n36 => lL w24 b15 1 fun a37 l37 c37 => lI w24 b15 2 fun n38 => lI w24 b15 3 fun n39 => lB w24 b15 4 fun t40 => lI w24 b15 5 fun n41 => lL w24 b15 6 fun a42 l42 c42 => clI 113 ([.pointer (some ⟨b1, o2, none⟩), .agg #[.int .i64 n36, .slice a37 l37 c37, .int .i64 n38, .int .i64 n39, .bool t40, .int .i64 n41, .slice a42 l42 c42]]) w24 R fun n43 w44 => R (.returned (.int .i64 n43)) w44))) w16) w14) w9))))) w5
def scr77 : Scr := (.q 1 (.q 4 (.run [0,1,2,3] (.split 13 (.r [4,5,6,7,8,9,10,11,12,13,14] (.lit (.q 2 .nil))) (.r [4,5,6,7,8,9,10,11,12,13,14] (.cond (.q 2 .nil) (.q 5 (.loop (dr [] [(5,1),(29,11)]) (.q 2 (.cond (.q 4 (.q 7 .nil)) (.q 4 .nil)))))))))))
theorem vc77 {b1 o2 n3} {R w} (h : V77 b1 o2 n3 R w) : Cl Try.prog 77 [.pointer (some ⟨b1, o2, none⟩), .int .i64 n3] w R :=
  cl_of scr77 Try.func77 (by kernel_rfl) _ _ (by kernel_rfl) h
/-- spec.ReadPattern -/
def V27 (s1 : ByteArray) (R : Rt) : Pred := fun w =>
  newC [.bool false, .int .i64 0, .int .i64 0, .slice none 0 0] 37 (fun b2 w3 => (cB (decide (((ByteArray.size s1 : Nat) : Int) > 120)) (stW b2 0 [.bool false, .int .i64 120, .int .i64 0, .slice none 0 0] (fun w4 => lB w4 b2 0 fun t5 => lI w4 b2 1 fun n6 => lI w4 b2 2 fun n7 => lL w4 b2 3 fun a8 l8 c8 => R (.returned (.agg #[.bool t5, .int .i64 n6, .int .i64 n7, .slice a8 l8 c8])) w4) w3) (newC [.string s1, .int .i64 0, .int .i64 (-1), .int .i64 0, .slice none 0 0] 97 (fun b9 w10 => clI 77 ([.pointer (some ⟨b9, 0, none⟩), .int .i64 0]) w10 R fun n11 w12 => clB 78 ([.pointer (some ⟨b9, 0, none⟩)]) w12 R fun t14 w15 => ∃ (J17 : World → Prop), ((cB t14 (clU 79 ([.pointer (some ⟨b9, 0, none⟩)]) w15 R fun w18 => J17  w18) (J17  w15))) ∧ ∀ (d20 : Nat → Value)  w21, J17  w21 → lI w21 b9 2 fun n22 => (cB (decide (n22 ≥ 0)) (lI w21 b9 2 fun n23 => stW b2 0 [.bool false, .int .i64 n23, .int .i64 0, .slice none 0 0] (fun w24 => lB w24 b2 0 fun t25 => lI w24 b2 1 fun n26 => lI w24 b2 2 fun n27 => lL w24 b2 3 fun a28 l28 c28 => R (.returned (.agg #[.bool t25, .int .i64 n26, .int .i64 n27, .slice a28 l28 c28])) w24) w21) (drw (fun w29 => lI w29 b9 3 fun n30 => lL w29 b9 4 fun a31 l31 c31 => stW b2 0 [.bool true, .int .i64 0, .int .i64 n30, .slice a31 l31 c31] (fun w32 => lB w32 b2 0 fun t33 => lI w32 b2 1 fun n34 => lI w32 b2 2 fun n35 => lL w32 b2 3 fun a36 l36 c36 => R (.returned (.agg #[.bool t33, .int .i64 n34, .int .i64 n35, .slice a36 l36 c36])) w32) w29) w21))) w3))) w
def scr27 : Scr := (.q 1 (.q 3 (.cond (.q 2 .nil) (.q 4 (.q 2 (.q 2 (.cut [(15, none), (16, none)] (.cond (.q 2 .nil) .nil) (.q 5 (.cond (.q 6 .nil) (.q 10 .nil))))))))))
theorem vc27 {s1} {R w} (h : V27 s1 R w) : Cl Try.prog 27 [.string s1] w R :=
  cl_of scr27 Try.func27 (by kernel_rfl) _ _ (by kernel_rfl) h
end Go.Proofs.Ytngbiaeliphdjaa.V
/- The reference's reader: sets in brackets. No statement of the seat is proved here. -/
namespace Go.Vc
set_option linter.unusedVariables false
theorem clsP_go {l : Bytes} {i j v : Nat} {first : Bool} {rs r : Rs} (h : i < l.length) (hn : ¬ (first = false ∧ at_ l i = 93)) (hp : partP l i = .ok (j, r, some v)) (hx : l.length ≤ j + 1 ∨ at_ l j ≠ 45 ∨ at_ l (j + 1) = 93) : clsP l i first rs = clsP l j false (rs ++ r) := by
  rw [clsP_one h hn hp]
  split
  · rw [clsP_out (by omega)]
  split
  · rfl
  split
  · rename_i h1 h2 h3
    have h4 : at_ l j = 45 := by omega
    have hq : partP l j = .ok (j + 1, [(45, 45)], some 45) := by unfold partP; rw [if_neg (by omega), h4]
    rw [clsP_one (by omega) (by omega) hq, if_pos (by omega)]
  split
  · rfl
  · omega
theorem setP_eq {l : Bytes} {i : Nat} (hi : i < l.length) : setP l i = clsFin (decide (at_ l (i + 1) = 94)) (clsP l (if at_ l (i + 1) = 94 then i + 2 else i + 1) true []) := by
  unfold setP
  split
  · rename_i h
    have h0 : at_ l (i + 1) = 0 := by unfold at_; rw [List.getD_eq_getElem?_getD, List.getElem?_eq_none (by omega)]; rfl
    rw [h0, if_neg (by decide), clsP_out (by omega)]
    rfl
  · rfl
end Go.Vc
namespace Go.Proofs.Ytngbiaeliphdjaa.V
open Go.Vc Go.Proofs Go.RowKit
set_option linter.unusedVariables false
set_option linter.unusedSimpArgs false
/-- What a set in brackets leaves. -/
def ClsS (w : World) (b : Nat) (s : ByteArray) (g : Nat) (a : Option Addr) (ln c : Nat) (r : Pr (Nat × List (Int × Int))) : Ending → World → Prop := fun e w' => Ext (fun x => x = b) w w' ∧ match r with
  | .bad n => e = .returned (.slice none 0 0) ∧ ∃ i, Sd w' b s i (n : Int) g a ln c
  | .ok (j, rs) => ∃ sa sc, e = .returned (.slice sa rs.length sc) ∧ Row w.heap.size w' 134 2 sa rs.length sc (rngC rs) ∧ Sd w' b s j (-1) g a ln c
/-- The state at the loop's head. -/
def ClsI (w : World) (b : Nat) (s : ByteArray) (g : Nat) (a : Option Addr) (ln c kb : Nat) (C : Pr (Nat × Rs)) (m : Nat) (n : Int) (w' : World) : Prop := Ext (fun x => x = b) w w' ∧
  ((∃ j rs, m = s.size - j + 1 ∧ 0 ≤ n ∧ n ≤ j ∧ j ≤ s.size ∧ Sd w' b s j (-1) g a ln c ∧ Blk w'.heap kb 4 (b256 (inR rs)) ∧ clsP (L s) j (decide (n = 0)) rs = C) ∨
   (∃ i e, m = 0 ∧ Sd w' b s i ((e : Nat) : Int) g a ln c ∧ C = .bad e))
theorem sclass_end {w w' : World} {b : Nat} {s : ByteArray} {g : Nat} {a : Option Addr} {ln c kb : Nat} {C : Pr (Nat × Rs)} {neg : Bool} (hb : b < w.heap.size) (hkb : w.heap.size ≤ kb) (hs : s.size ≤ 120)
    (hE : Ext (fun x => x = b) w w')
    (hst : (∃ j rs, j ≤ s.size ∧ Sd w' b s j (-1) g a ln c ∧ Blk w'.heap kb 4 (b256 (inR rs)) ∧ ((¬ j < s.size ∧ C = .bad j) ∨ (j < s.size ∧ at_ (L s) j = 93 ∧ C = .ok (j + 1, rs)))) ∨ (∃ i e, Sd w' b s i ((e : Nat) : Int) g a ln c ∧ C = .bad e))
    {R : Ending → World → Prop} (hR : R = ClsS w b s g a ln c (clsFin neg C)) :
    Cl Try.prog 112 ([.pointer (some ⟨b, 0, none⟩), .int .u8 93]) w' (retG (fun (r23 : Value) (w22 : World) => ∃ (t21 : Bool), r23 = .bool t21 ∧ (((!t21) = true → Cl Try.prog 79 ([.pointer (some ⟨b, 0, none⟩)]) w22 (retG (fun (r25 : Value) (w24 : World) => r25 = .tuple #[] ∧ R (.returned (.slice none 0 0)) w24) (fun c w => R (.panicked c) w))) ∧ ((!t21) = false → ((neg = true → ∃ (I26 : Nat → Int → World → Prop), (∃ (k28 : Nat), I26 k28 0 w22) ∧ ∀ (k27 : Nat) (d30 : Nat → Value) (n31 : Int) (w29 : World), I26 k27 n31 w29 → (((decide ((n31 : Int) < ((256 : Nat) : Int))) = true → ∃ (b32 : Nat) (o33 : Nat), (((some ⟨kb, 0, none⟩) : Option Addr) = some ⟨b32, o33, none⟩ ∧ 0 ≤ (n31 : Int) ∧ (n31 : Int) < ((256 : Nat) : Int)) ∧ ∃ (t34 : Bool), cellH w29.heap b32 (o33 + (Int.toNat n31) * 1) = some (.bool t34) ∧ ∃ (b35 : Nat) (o36 : Nat), (((some ⟨kb, 0, none⟩) : Option Addr) = some ⟨b35, o36, none⟩ ∧ 0 ≤ (n31 : Int) ∧ (n31 : Int) < ((256 : Nat) : Int)) ∧ stW b35 (o36 + (Int.toNat n31) * 1) [.bool (!t34)] (fun (w37 : World) => (∃ (m38 : Nat), m38 < k27 ∧ I26 m38 (IntKind.wrap .i64 (n31 + 1)) w37)) w29) ∧ ((decide ((n31 : Int) < ((256 : Nat) : Int))) = false → Cl Try.prog 167 ([.slice (some ⟨kb, 0, none⟩) 256 256]) w29 (retG (fun (r41 : Value) (w40 : World) => ∃ (a39 : Option Addr), ∃ (l39 : Nat), ∃ (c39 : Nat), r41 = .slice a39 l39 c39 ∧ R (.returned (.slice a39 l39 c39)) w40) (fun c w => R (.panicked c) w))))) ∧ (neg = false → Cl Try.prog 167 ([.slice (some ⟨kb, 0, none⟩) 256 256]) w22 (retG (fun (r44 : Value) (w43 : World) => ∃ (a42 : Option Addr), ∃ (l42 : Nat), ∃ (c42 : Nat), r44 = .slice a42 l42 c42 ∧ R (.returned (.slice a42 l42 c42)) w43) (fun c w => R (.panicked c) w))))))) (fun c w => R (.panicked c) w)) := by
  rcases hst with ⟨j, rs, hj, h, hk, hst⟩ | ⟨i, e, h, rfl⟩
  · rcases hst with ⟨hj2, rfl⟩ | ⟨hj2, h93, rfl⟩
    · refine (is_no h (ch := 93) (by omega) rfl).ret fun w1 b1 => ⟨_, rfl, fun _ => ?_, fun g => by cases g⟩
      refine (sfail_ok (h.below b1)).use fun e w2 he => ?_
      obtain ⟨rfl, h2, e2⟩ := he
      refine ⟨rfl, ?_⟩
      subst hR
      exact ⟨(hE.trans (Ext.of_below b1)).trans e2, rfl, _, h2⟩
    · refine (is_yes h hj2 (by omega) h93 rfl).use fun e w1 he => ?_
      obtain ⟨rfl, h1, e1⟩ := he
      have k1 := hk.keep e1 (by omega)
      refine ⟨_, rfl, fun g => by simp at g, fun _ => ⟨fun hn => ?_, fun hn => ?_⟩⟩
      · subst hn
        refine ⟨fun m n w2 => ∃ q : Nat, n = (q : Int) ∧ m = 256 - q ∧ q ≤ 256 ∧ Sd w2 b s (j + 1) (-1) g a ln c ∧ Blk w2.heap kb 4 (b256 fun x => if x < q then inR rs x != true else inR rs x) ∧ Ext (fun x => x = b) w w2,
          ⟨256, 0, rfl, rfl, by omega, h1, (by rw [b256_ext (g := inR rs) fun x _ => by rw [if_neg (by omega)]]; exact k1), hE.trans e1⟩, ?_⟩
        rintro m d n w2 ⟨q, rfl, rfl, hq, h2, k2, E2⟩
        refine ⟨fun g2 => ?_, fun g2 => ?_⟩
        · have g2' : q < 256 := by have := of_decide_eq_true g2; omega
          refine ⟨kb, 0, ⟨rfl, by omega, by omega⟩, inR rs q, ?_, kb, 0, ⟨rfl, by omega, by omega⟩, ?_⟩
          · rw [k2.cell, show 0 + Int.toNat (q : Int) * 1 = q from by omega, b256_get _ q g2', if_neg (by omega)]
          · rw [show 0 + Int.toNat (q : Int) * 1 = q from by omega]
            refine stW_in k2 (by rw [b256_length]; show q + 1 ≤ 256; omega) fun w3 s3 k3 e3 => ?_
            refine ⟨256 - (q + 1), by omega, q + 1, by rw [w64 (by omega)]; omega, rfl, by omega, Blk.keep h2 e3 (by omega), ?_, E2.step e3 fun i hi h => by omega⟩
            have : segSet (b256 fun x => if x < q then inR rs x != true else inR rs x) q [.bool (!inR rs q)] = b256 fun x => if x < q + 1 then inR rs x != true else inR rs x := by
              show (b256 _).set q _ = _
              rw [b256_set]
              apply b256_ext
              intro x hx
              by_cases hxq : x = q
              · subst hxq; simp
              · rw [if_neg hxq]
                by_cases hlt : x < q
                · rw [if_pos hlt, if_pos (by omega)]
                · rw [if_neg hlt, if_neg (by omega)]
            rw [this] at k3; exact k3
        · have g2' : q = 256 := by have := of_decide_eq_false g2; omega
          subst g2'
          rw [b256_ext (g := fun x => inR rs x != true) fun x hx => by rw [if_pos hx]] at k2
          refine (sset_ok k2).use fun e w3 he => ?_
          obtain ⟨sa, sc, rfl, hr, b3⟩ := he
          refine ⟨sa, _, sc, rfl, ?_⟩
          subst hR
          exact ⟨E2.trans (Ext.of_below b3), sa, sc, rfl, hr.mono E2.size, h2.below b3⟩
      · subst hn
        rw [b256_ext (g := fun x => inR rs x != false) fun x hx => by simp] at k1
        refine (sset_ok k1).use fun e w3 he => ?_
        obtain ⟨sa, sc, rfl, hr, b3⟩ := he
        refine ⟨sa, _, sc, rfl, ?_⟩
        subst hR
        have E1 := hE.trans e1
        exact ⟨E1.trans (Ext.of_below b3), sa, sc, rfl, hr.mono E1.size, h1.below b3⟩
  · refine (is_bad h 93).ret fun w1 b1 => ⟨_, rfl, fun _ => ?_, fun g => by cases g⟩
    refine (sfail_bad (h.below b1)).ret fun w2 b2 => ⟨rfl, ?_⟩
    subst hR
    exact ⟨(hE.trans (Ext.of_below b1)).trans (Ext.of_below b2), rfl, i, (h.below b1).below b2⟩
end Go.Proofs.Ytngbiaeliphdjaa.V

/- Parts of a proof, put together: definitions, formulas of Go functions and lemmas. No statement of the seat is proved here. -/
import Derived.ChangeOld
import Derived.ChangeReads
import Derived.ChangeSlices
import Derived.OpenShut
import Derived.ReadAgain
import Derived.Test.YtngbiaeliphdjaaProg
import Derived.Laws.StructEq
import Derived.Test.YtngbiaeliphdjaaRgE
set_option maxHeartbeats 4000000
/- Filling a template, on both sides; are its groups there? No statement of the seat is proved here. -/
namespace Go.Proofs.Ytngbiaeliphdjaa.V
open Go.Vc Go.Proofs Go.RowKit
set_option linter.unusedVariables false
set_option linter.unusedSimpArgs false
theorem fillLoopS {G b : Nat} {w1 : World} {t : ByteArray} {a : Option Addr} {l c : Nat} {bits : Bits} {m : Mt} {g : G3'} {out : Bytes} {s0 : ByteArray} (hs0 : s0 = B out) (hv : Vec w1.heap 121 2 a l c (bitsC bits)) (hbit : ∀ x ∈ bits, BitOk x ∧ x.1 ≤ (G : Int)) (hm : MtOk G (L t).length m.fr m) (hg : MOk w1 (m, g)) (hb : Blk w1.heap b 29 (mC (m, g))) (hl : bits.length ≤ 101) (hn : (L t).length ≤ 200) (ho : out.length ≤ 1000000000) {KK : ByteArray → World → Prop} (hK : ∀ w', Below w1.heap.size w1 w' → KK (B (out ++ fillP (L t) bits m)) w') :
    ∃ (I14 : Nat → ByteArray → Int → World → Prop), (∃ (k16 : Nat), I14 k16 s0 0 w1) ∧ ∀ (k15 : Nat) (d18 : Nat → Value) (s19 : ByteArray) (n20 : Int) (w17 : World), I14 k15 s19 n20 w17 → (((decide ((n20 : Int) < ((l : Nat) : Int))) = true → ∃ (b21 : Nat) (o22 : Nat), ((a : Option Addr) = some ⟨b21, o22, none⟩ ∧ 0 ≤ (n20 : Int) ∧ (n20 : Int) < ((l : Nat) : Int)) ∧ ∃ (n23 : Int), cellH w17.heap b21 (o22 + (Int.toNat n20) * 2) = some (.int .i64 n23) ∧ ∃ (s24 : ByteArray), cellH w17.heap b21 (o22 + (Int.toNat n20) * 2 + 1) = some (.string s24) ∧ newC [.int .i64 0, .string (⟨#[]⟩ : ByteArray)] 121 (fun (b25 : Nat) (w26 : World) => stW b25 0 [.int .i64 n23, .string s24] (fun (w27 : World) => ∃ (n28 : Int), cellH w27.heap b25 0 = some (.int .i64 n28) ∧ (((decide ((n28 : Int) < 0)) = true → ∃ (s29 : ByteArray), cellH w27.heap b25 1 = some (.string s29) ∧ (s19.size + s29.size ≤ 9223372036854775807) ∧ (∃ (m30 : Nat), m30 < k15 ∧ I14 m30 (s19 ++ s29) (IntKind.wrap .i64 (n20 + 1)) w27)) ∧ ((decide ((n28 : Int) < 0)) = false → ∃ (n31 : Int), cellH w27.heap b25 0 = some (.int .i64 n31) ∧ ((((n31 : Int) == 0) = true → ∃ (n32 : Int), cellH w27.heap b 1 = some (.int .i64 n32) ∧ ∃ (n33 : Int), cellH w27.heap b 2 = some (.int .i64 n33) ∧ (0 ≤ (n32 : Int) ∧ (n32 : Int) ≤ n33 ∧ (n33 : Int) ≤ ((ByteArray.size t : Nat) : Int)) ∧ (s19.size + (ByteArray.extract t (Int.toNat n32) (Int.toNat n33)).size ≤ 9223372036854775807) ∧ (∃ (m34 : Nat), m34 < k15 ∧ I14 m34 (s19 ++ (ByteArray.extract t (Int.toNat n32) (Int.toNat n33))) (IntKind.wrap .i64 (n20 + 1)) w27)) ∧ (((n31 : Int) == 0) = false → ∃ (a35 : Option Addr), ∃ (l35 : Nat), ∃ (c35 : Nat), cellH w27.heap b 3 = some (.slice a35 l35 c35) ∧ ∃ (n36 : Int), cellH w27.heap b25 0 = some (.int .i64 n36) ∧ ∃ (b37 : Nat) (o38 : Nat), ((a35 : Option Addr) = some ⟨b37, o38, none⟩ ∧ 0 ≤ (IntKind.wrap .i64 (n36 - 1) : Int) ∧ (IntKind.wrap .i64 (n36 - 1) : Int) < ((l35 : Nat) : Int)) ∧ ∃ (n39 : Int), cellH w27.heap b37 (o38 + (Int.toNat (IntKind.wrap .i64 (n36 - 1))) * 2) = some (.int .i64 n39) ∧ (((decide ((n39 : Int) ≥ 0)) = true → drw (fun (w40 : World) => ∃ (a41 : Option Addr), ∃ (l41 : Nat), ∃ (c41 : Nat), cellH w40.heap b 3 = some (.slice a41 l41 c41) ∧ ∃ (n42 : Int), cellH w40.heap b25 0 = some (.int .i64 n42) ∧ ∃ (b43 : Nat) (o44 : Nat), ((a41 : Option Addr) = some ⟨b43, o44, none⟩ ∧ 0 ≤ (IntKind.wrap .i64 (n42 - 1) : Int) ∧ (IntKind.wrap .i64 (n42 - 1) : Int) < ((l41 : Nat) : Int)) ∧ ∃ (n45 : Int), cellH w40.heap b43 (o44 + (Int.toNat (IntKind.wrap .i64 (n42 - 1))) * 2) = some (.int .i64 n45) ∧ ∃ (a46 : Option Addr), ∃ (l46 : Nat), ∃ (c46 : Nat), cellH w40.heap b 3 = some (.slice a46 l46 c46) ∧ ∃ (n47 : Int), cellH w40.heap b25 0 = some (.int .i64 n47) ∧ ∃ (b48 : Nat) (o49 : Nat), ((a46 : Option Addr) = some ⟨b48, o49, none⟩ ∧ 0 ≤ (IntKind.wrap .i64 (n47 - 1) : Int) ∧ (IntKind.wrap .i64 (n47 - 1) : Int) < ((l46 : Nat) : Int)) ∧ ∃ (n50 : Int), cellH w40.heap b48 (o49 + (Int.toNat (IntKind.wrap .i64 (n47 - 1))) * 2 + 1) = some (.int .i64 n50) ∧ (0 ≤ (n45 : Int) ∧ (n45 : Int) ≤ n50 ∧ (n50 : Int) ≤ ((ByteArray.size t : Nat) : Int)) ∧ (s19.size + (ByteArray.extract t (Int.toNat n45) (Int.toNat n50)).size ≤ 9223372036854775807) ∧ (∃ (m51 : Nat), m51 < k15 ∧ I14 m51 (s19 ++ (ByteArray.extract t (Int.toNat n45) (Int.toNat n50))) (IntKind.wrap .i64 (n20 + 1)) w40)) w27) ∧ ((decide ((n39 : Int) ≥ 0)) = false → (∃ (m52 : Nat), m52 < k15 ∧ I14 m52 s19 (IntKind.wrap .i64 (n20 + 1)) w27)))))))) w26) w17) ∧ ((decide ((n20 : Int) < ((l : Nat) : Int))) = false → KK s19 w17)) := by
  subst hs0
  have hsz := size_L t
  have hlen : l = bits.length := by have := hv.1; rw [bitsC_length] at this; omega
  have hfr := hm.lo
  have hto := hm.hi
  have hgl := hm.gs
  refine ⟨fun k s n w' => ∃ (A D : Bits), bits = A ++ D ∧ n = A.length ∧ k = D.length ∧ s = B (out ++ A.flatMap (fillB (L t) m)) ∧ Below w1.heap.size w1 w', ⟨_, [], bits, rfl, rfl, rfl, by simp, Below.refl _ _⟩, ?_⟩
  rintro k dd s n w2 ⟨A, D, hes, rfl, rfl, rfl, B2⟩
  have hel : bits.length = A.length + D.length := by rw [hes]; simp
  have e0 : Int.toNat (A.length : Int) = A.length := by omega
  have e1 : IntKind.wrap .i64 ((A.length : Int) + 1) = ((A.length + 1 : Nat) : Int) := by rw [w64 (by omega)]; omega
  rw [e0, e1]
  refine ⟨fun g1 => ?_, fun g1 => ?_⟩
  · have g' : A.length < l := by have := of_decide_eq_true g1; omega
    obtain ⟨x, D', rfl⟩ : ∃ x B', D = x :: B' := by
      cases D with
      | nil => simp only [List.length_nil] at hel; omega
      | cons x B' => exact ⟨x, B', rfl⟩
    have hx := hbit x (by rw [hes]; simp)
    have hA : ∀ y ∈ A, BitOk y := fun y hy => (hbit y (by rw [hes]; exact List.mem_append_left _ hy)).1
    have hfl := flat_len hn m hA
    have hfx := fillB_len hn hx.1 m
    have hat := bitsC_at bits A.length (by omega)
    have hbx : ∀ h, bits[A.length]'h = x := by intro h; rw [List.getElem_of_eq hes]; simp
    rw [hbx] at hat
    have v2 := hv.keep (S := fun _ => False) (Ext.of_below B2) fun _ _ h => h
    obtain ⟨ba, hba, hc⟩ := v2.open (by omega)
    refine ⟨ba, 0, ⟨hba, by omega, by omega⟩, x.1, by rw [Nat.zero_add, hc _ (by omega)]; exact hat.1, B x.2, by rw [Nat.zero_add, hc _ (by omega)]; exact hat.2, ?_⟩
    refine newC_in fun w3 s3 k3 e3 => ?_
    refine stW_in k3 (by show 0 + 2 ≤ 2; decide) fun w4 s4 k4 e4 => ?_
    have k4' : Blk w4.heap w2.heap.size 121 [.int .i64 x.1, .string (B x.2)] := k4
    have hz2 := B2.size
    have B4 : Below w1.heap.size w1 w4 := Ext.to (Ext.to B2 e3 fun _ h => h.elim) e4 fun i hi => by omega
    have kb4 := hb.below B4
    have hstep : ∀ {y : Bytes} {s : ByteArray}, fillB (L t) m x = y → s = B y → ((B (out ++ A.flatMap (fillB (L t) m))).size + s.size ≤ 9223372036854775807) ∧ (((A.length + 1 : Nat) : Int) = (A ++ [x]).length ∧ B (out ++ A.flatMap (fillB (L t) m)) ++ s = B (out ++ (A ++ [x]).flatMap (fillB (L t) m))) := by
      intro y s hy hs
      subst hs
      refine ⟨?_, by simp, ?_⟩
      · rw [size_B, size_B, List.length_append, ← hy]; omega
      · rw [B_append, List.flatMap_append, List.flatMap_cons, List.flatMap_nil, List.append_nil, hy, List.append_assoc]
    refine ⟨_, k4'.cell 0, fun g2 => ?_, fun g2 => ⟨_, k4'.cell 0, fun g3 => ?_, fun g3 => ?_⟩⟩
    · have g2' : x.1 < 0 := of_decide_eq_true g2
      have h := hstep (y := x.2) (by unfold fillB; rw [if_pos g2']) rfl
      exact ⟨_, k4'.cell 1, h.1, D'.length, by simp, A ++ [x], D', by rw [hes]; simp, h.2.1, rfl, h.2.2, B4⟩
    · have g3' : x.1 = 0 := by simpa using g3
      have h := hstep (y := sub_ (L t) m.fr m.to) (s := t.extract m.fr m.to) (by unfold fillB; rw [if_neg (by omega), if_pos g3']) (ext_B _ _ _)
      have hb1 : (0 : Int) ≤ (m.fr : Int) ∧ (m.fr : Int) ≤ (m.to : Int) ∧ (m.to : Int) ≤ ((ByteArray.size t : Nat) : Int) := ⟨by omega, by omega, by omega⟩
      have hb2 : (B (out ++ A.flatMap (fillB (L t) m))).size + (t.extract (Int.toNat (m.fr : Int)) (Int.toNat (m.to : Int))).size ≤ 9223372036854775807 := h.1
      have hb3 : B (out ++ A.flatMap (fillB (L t) m)) ++ t.extract (Int.toNat (m.fr : Int)) (Int.toNat (m.to : Int)) = B (out ++ (A ++ [x]).flatMap (fillB (L t) m)) := h.2.2
      exact ⟨_, kb4.cell 1, _, kb4.cell 2, hb1, hb2, D'.length, by simp, A ++ [x], D', by rw [hes]; simp, h.2.1, rfl, hb3, B4⟩
    · have g2' : ¬ x.1 < 0 := of_decide_eq_false g2
      have g3' : ¬ x.1 = 0 := by simpa using g3
      have hx2 := hx.2
      have ej : IntKind.wrap .i64 (x.1 - 1) = (((x.1 - 1).toNat : Nat) : Int) := by rw [w64 (by have := hx.1; unfold BitOk at this; omega)]; omega
      have hj : (x.1 - 1).toNat < m.gs.length := by omega
      have hfB : fillB (L t) m x = if 0 ≤ (m.gs.getD (x.1 - 1).toNat (-1, -1)).1 then sub_ (L t) (m.gs.getD (x.1 - 1).toNat (-1, -1)).1.toNat (m.gs.getD (x.1 - 1).toNat (-1, -1)).2.toNat else [] := by unfold fillB; rw [if_neg g2', if_neg g3']
      generalize (x.1 - 1).toNat = j at *
      have hgd : m.gs.getD j (-1, -1) = m.gs[j] := by rw [List.getD_eq_getElem?_getD, List.getElem?_eq_getElem hj]; rfl
      rw [hgd] at hfB
      have hgr := hm.gr _ (List.getElem_mem hj)
      have hgl2 : g.2.1 = m.gs.length := by have := hg.1; rw [rngC_length] at this; change m.gs.length * 2 = g.2.1 * 2 at this; omega
      have hix : Int.toNat (IntKind.wrap .i64 (x.1 - 1)) = j := by rw [ej]; omega
      have hib : 0 ≤ IntKind.wrap .i64 (x.1 - 1) ∧ IntKind.wrap .i64 (x.1 - 1) < ((g.2.1 : Nat) : Int) := by rw [ej]; omega
      have hgc : ∀ {w' : World}, Below w1.heap.size w1 w' → ∃ bg, g.1 = some ⟨bg, 0, none⟩ ∧ cellH w'.heap bg (0 + Int.toNat (IntKind.wrap .i64 (x.1 - 1)) * 2) = some (.int .i64 m.gs[j].1) ∧ cellH w'.heap bg (0 + Int.toNat (IntKind.wrap .i64 (x.1 - 1)) * 2 + 1) = some (.int .i64 m.gs[j].2) := fun {w'} B' => by
        rw [hix]
        have hg' : Vec w'.heap 31 2 g.1 g.2.1 g.2.2 (rngC m.gs) := hg.below B'
        obtain ⟨bg, hbg, hcg⟩ := hg'.open (by omega)
        have hr := rngC_at m.gs j hj
        exact ⟨bg, hbg, by rw [Nat.zero_add, hcg _ (by omega)]; exact hr.1, by rw [Nat.zero_add, hcg _ (by omega)]; exact hr.2⟩
      obtain ⟨bg, hbg, hc1, hc2⟩ := hgc B4
      refine ⟨_, _, _, kb4.cell 3, _, k4'.cell 0, bg, 0, ⟨hbg, hib.1, hib.2⟩, _, hc1, fun g4 => ?_, fun g4 => ?_⟩
      · have g4' : 0 ≤ m.gs[j].1 := of_decide_eq_true g4
        rcases hgr with hgr | ⟨f, e, hgr, h1, h2, h3⟩
        · rw [hgr] at g4'; simp at g4'
        · have ef : m.gs[j].1 = (f : Int) := by rw [hgr]
          have ee : m.gs[j].2 = (e : Int) := by rw [hgr]
          have h := hstep (y := sub_ (L t) f e) (s := t.extract f e) (by rw [hfB, if_pos g4', ef, ee]; rfl) (ext_B _ _ _)
          have hbnd : (0 ≤ m.gs[j].1 ∧ m.gs[j].1 ≤ m.gs[j].2 ∧ m.gs[j].2 ≤ ((ByteArray.size t : Nat) : Int)) ∧ ((B (out ++ A.flatMap (fillB (L t) m))).size + (t.extract (Int.toNat m.gs[j].1) (Int.toNat m.gs[j].2)).size ≤ 9223372036854775807) := by
            rw [ef, ee]
            exact ⟨⟨by omega, by omega, by omega⟩, h.1⟩
          have hnext : ((A.length + 1 : Nat) : Int) = (A ++ [x]).length ∧ B (out ++ A.flatMap (fillB (L t) m)) ++ t.extract (Int.toNat m.gs[j].1) (Int.toNat m.gs[j].2) = B (out ++ (A ++ [x]).flatMap (fillB (L t) m)) := by
            rw [ef, ee]; exact h.2
          refine drw_in fun w40 q40 e40 => ?_
          have k40 := k4'.keep e40 fun h => h
          have kb40 := kb4.keep e40 fun h => h
          have B40 : Below w1.heap.size w1 w40 := Ext.to B4 e40 fun _ h => h.elim
          obtain ⟨bg', hbg', hc1', hc2'⟩ := hgc B40
          exact ⟨_, _, _, kb40.cell 3, _, k40.cell 0, bg', 0, ⟨hbg', hib.1, hib.2⟩, _, hc1', _, _, _, kb40.cell 3, _, k40.cell 0, bg', 0, ⟨hbg', hib.1, hib.2⟩, _, hc2', hbnd.1, hbnd.2, D'.length, by simp, A ++ [x], D', by rw [hes]; simp, hnext.1, rfl, hnext.2, B40⟩
      · have g4' : ¬ 0 ≤ m.gs[j].1 := of_decide_eq_false g4
        have h := hstep (y := []) (s := B []) (by rw [hfB, if_neg g4']) rfl
        refine ⟨D'.length, by simp, A ++ [x], D', by rw [hes]; simp, h.2.1, rfl, ?_, B4⟩
        rw [← h.2.2, B_append, List.append_nil]
  · have g' : ¬ A.length < l := by have := of_decide_eq_false g1; omega
    have : D = [] := by
      cases D with
      | nil => rfl
      | cons x r => simp only [List.length_cons] at hel; omega
    subst this
    rw [List.append_nil] at hes
    subst hes
    exact hK w2 B2
theorem fillLoopI {G b : Nat} {w1 : World} {t : ByteArray} {a : Option Addr} {l c : Nat} {bits : Bits} {m : Mt} {g : G3'} {out : Bytes} {s0 : ByteArray} (hs0 : s0 = B out) (hv : Vec w1.heap 121 2 a l c (bitsC bits)) (hbit : ∀ x ∈ bits, BitOk x ∧ x.1 ≤ (G : Int)) (hm : MtOk G (L t).length m.fr m) (hg : MOk w1 (m, g)) (hb : Blk w1.heap b 29 (mC (m, g))) (hl : bits.length ≤ 101) (hn : (L t).length ≤ 200) (ho : out.length ≤ 1000000000) {KK : ByteArray → World → Prop} (hK : ∀ w', Below w1.heap.size w1 w' → KK (B (out ++ fillP (L t) bits m)) w') :
    ∃ (I82 : Nat → ByteArray → Int → World → Prop), (∃ (k84 : Nat), I82 k84 s0 0 w1) ∧ ∀ (k83 : Nat) (d86 : Nat → Value) (s87 : ByteArray) (n88 : Int) (w85 : World), I82 k83 s87 n88 w85 → (((decide ((n88 : Int) < ((l : Nat) : Int))) = true → ∃ (b89 : Nat) (o90 : Nat), ((a : Option Addr) = some ⟨b89, o90, none⟩ ∧ 0 ≤ (n88 : Int) ∧ (n88 : Int) < ((l : Nat) : Int)) ∧ ∃ (n91 : Int), cellH w85.heap b89 (o90 + (Int.toNat n88) * 2) = some (.int .i64 n91) ∧ ∃ (s92 : ByteArray), cellH w85.heap b89 (o90 + (Int.toNat n88) * 2 + 1) = some (.string s92) ∧ newC [.int .i64 0, .string (⟨#[]⟩ : ByteArray)] 121 (fun (b93 : Nat) (w94 : World) => stW b93 0 [.int .i64 n91, .string s92] (fun (w95 : World) => ∃ (n96 : Int), cellH w95.heap b93 0 = some (.int .i64 n96) ∧ (((decide ((n96 : Int) < 0)) = true → ∃ (s97 : ByteArray), cellH w95.heap b93 1 = some (.string s97) ∧ (s87.size + s97.size ≤ 9223372036854775807) ∧ (∃ (m98 : Nat), m98 < k83 ∧ I82 m98 (s87 ++ s97) (IntKind.wrap .i64 (n88 + 1)) w95)) ∧ ((decide ((n96 : Int) < 0)) = false → ∃ (n99 : Int), cellH w95.heap b93 0 = some (.int .i64 n99) ∧ ((((n99 : Int) == 0) = true → ∃ (n100 : Int), cellH w95.heap b 1 = some (.int .i64 n100) ∧ ∃ (n101 : Int), cellH w95.heap b 2 = some (.int .i64 n101) ∧ (0 ≤ (n100 : Int) ∧ (n100 : Int) ≤ n101 ∧ (n101 : Int) ≤ ((ByteArray.size t : Nat) : Int)) ∧ (s87.size + (ByteArray.extract t (Int.toNat n100) (Int.toNat n101)).size ≤ 9223372036854775807) ∧ (∃ (m102 : Nat), m102 < k83 ∧ I82 m102 (s87 ++ (ByteArray.extract t (Int.toNat n100) (Int.toNat n101))) (IntKind.wrap .i64 (n88 + 1)) w95)) ∧ (((n99 : Int) == 0) = false → ∃ (a103 : Option Addr), ∃ (l103 : Nat), ∃ (c103 : Nat), cellH w95.heap b 3 = some (.slice a103 l103 c103) ∧ ∃ (n104 : Int), cellH w95.heap b93 0 = some (.int .i64 n104) ∧ ∃ (b105 : Nat) (o106 : Nat), ((a103 : Option Addr) = some ⟨b105, o106, none⟩ ∧ 0 ≤ (IntKind.wrap .i64 (n104 - 1) : Int) ∧ (IntKind.wrap .i64 (n104 - 1) : Int) < ((l103 : Nat) : Int)) ∧ ∃ (n107 : Int), cellH w95.heap b105 (o106 + (Int.toNat (IntKind.wrap .i64 (n104 - 1))) * 2) = some (.int .i64 n107) ∧ (((decide ((n107 : Int) ≥ 0)) = true → ∃ (a108 : Option Addr), ∃ (l108 : Nat), ∃ (c108 : Nat), cellH w95.heap b 3 = some (.slice a108 l108 c108) ∧ ∃ (n109 : Int), cellH w95.heap b93 0 = some (.int .i64 n109) ∧ ∃ (b110 : Nat) (o111 : Nat), ((a108 : Option Addr) = some ⟨b110, o111, none⟩ ∧ 0 ≤ (IntKind.wrap .i64 (n109 - 1) : Int) ∧ (IntKind.wrap .i64 (n109 - 1) : Int) < ((l108 : Nat) : Int)) ∧ ∃ (n112 : Int), cellH w95.heap b110 (o111 + (Int.toNat (IntKind.wrap .i64 (n109 - 1))) * 2) = some (.int .i64 n112) ∧ ∃ (n113 : Int), cellH w95.heap b110 (o111 + (Int.toNat (IntKind.wrap .i64 (n109 - 1))) * 2 + 1) = some (.int .i64 n113) ∧ newC [.int .i64 0, .int .i64 0] 31 (fun (b114 : Nat) (w115 : World) => stW b114 0 [.int .i64 n112, .int .i64 n113] (fun (w116 : World) => ∃ (n117 : Int), cellH w116.heap b114 0 = some (.int .i64 n117) ∧ ∃ (n118 : Int), cellH w116.heap b114 1 = some (.int .i64 n118) ∧ (0 ≤ (n117 : Int) ∧ (n117 : Int) ≤ n118 ∧ (n118 : Int) ≤ ((ByteArray.size t : Nat) : Int)) ∧ (s87.size + (ByteArray.extract t (Int.toNat n117) (Int.toNat n118)).size ≤ 9223372036854775807) ∧ (∃ (m119 : Nat), m119 < k83 ∧ I82 m119 (s87 ++ (ByteArray.extract t (Int.toNat n117) (Int.toNat n118))) (IntKind.wrap .i64 (n88 + 1)) w116)) w115) w95) ∧ ((decide ((n107 : Int) ≥ 0)) = false → (∃ (m120 : Nat), m120 < k83 ∧ I82 m120 s87 (IntKind.wrap .i64 (n88 + 1)) w95)))))))) w94) w85) ∧ ((decide ((n88 : Int) < ((l : Nat) : Int))) = false → KK s87 w85)) := by
  subst hs0
  have hsz := size_L t
  have hlen : l = bits.length := by have := hv.1; rw [bitsC_length] at this; omega
  have hfr := hm.lo
  have hto := hm.hi
  have hgl := hm.gs
  refine ⟨fun k s n w' => ∃ (A D : Bits), bits = A ++ D ∧ n = A.length ∧ k = D.length ∧ s = B (out ++ A.flatMap (fillB (L t) m)) ∧ Below w1.heap.size w1 w', ⟨_, [], bits, rfl, rfl, rfl, by simp, Below.refl _ _⟩, ?_⟩
  rintro k dd s n w2 ⟨A, D, hes, rfl, rfl, rfl, B2⟩
  have hel : bits.length = A.length + D.length := by rw [hes]; simp
  have e0 : Int.toNat (A.length : Int) = A.length := by omega
  have e1 : IntKind.wrap .i64 ((A.length : Int) + 1) = ((A.length + 1 : Nat) : Int) := by rw [w64 (by omega)]; omega
  rw [e0, e1]
  refine ⟨fun g1 => ?_, fun g1 => ?_⟩
  · have g' : A.length < l := by have := of_decide_eq_true g1; omega
    obtain ⟨x, D', rfl⟩ : ∃ x B', D = x :: B' := by
      cases D with
      | nil => simp only [List.length_nil] at hel; omega
      | cons x B' => exact ⟨x, B', rfl⟩
    have hx := hbit x (by rw [hes]; simp)
    have hA : ∀ y ∈ A, BitOk y := fun y hy => (hbit y (by rw [hes]; exact List.mem_append_left _ hy)).1
    have hfl := flat_len hn m hA
    have hfx := fillB_len hn hx.1 m
    have hat := bitsC_at bits A.length (by omega)
    have hbx : ∀ h, bits[A.length]'h = x := by intro h; rw [List.getElem_of_eq hes]; simp
    rw [hbx] at hat
    have v2 := hv.keep (S := fun _ => False) (Ext.of_below B2) fun _ _ h => h
    obtain ⟨ba, hba, hc⟩ := v2.open (by omega)
    refine ⟨ba, 0, ⟨hba, by omega, by omega⟩, x.1, by rw [Nat.zero_add, hc _ (by omega)]; exact hat.1, B x.2, by rw [Nat.zero_add, hc _ (by omega)]; exact hat.2, ?_⟩
    refine newC_in fun w3 s3 k3 e3 => ?_
    refine stW_in k3 (by show 0 + 2 ≤ 2; decide) fun w4 s4 k4 e4 => ?_
    have k4' : Blk w4.heap w2.heap.size 121 [.int .i64 x.1, .string (B x.2)] := k4
    have hz2 := B2.size
    have B4 : Below w1.heap.size w1 w4 := Ext.to (Ext.to B2 e3 fun _ h => h.elim) e4 fun i hi => by omega
    have kb4 := hb.below B4
    have hstep : ∀ {y : Bytes} {s : ByteArray}, fillB (L t) m x = y → s = B y → ((B (out ++ A.flatMap (fillB (L t) m))).size + s.size ≤ 9223372036854775807) ∧ (((A.length + 1 : Nat) : Int) = (A ++ [x]).length ∧ B (out ++ A.flatMap (fillB (L t) m)) ++ s = B (out ++ (A ++ [x]).flatMap (fillB (L t) m))) := by
      intro y s hy hs
      subst hs
      refine ⟨?_, by simp, ?_⟩
      · rw [size_B, size_B, List.length_append, ← hy]; omega
      · rw [B_append, List.flatMap_append, List.flatMap_cons, List.flatMap_nil, List.append_nil, hy, List.append_assoc]
    refine ⟨_, k4'.cell 0, fun g2 => ?_, fun g2 => ⟨_, k4'.cell 0, fun g3 => ?_, fun g3 => ?_⟩⟩
    · have g2' : x.1 < 0 := of_decide_eq_true g2
      have h := hstep (y := x.2) (by unfold fillB; rw [if_pos g2']) rfl
      exact ⟨_, k4'.cell 1, h.1, D'.length, by simp, A ++ [x], D', by rw [hes]; simp, h.2.1, rfl, h.2.2, B4⟩
    · have g3' : x.1 = 0 := by simpa using g3
      have h := hstep (y := sub_ (L t) m.fr m.to) (s := t.extract m.fr m.to) (by unfold fillB; rw [if_neg (by omega), if_pos g3']) (ext_B _ _ _)
      have hb1 : (0 : Int) ≤ (m.fr : Int) ∧ (m.fr : Int) ≤ (m.to : Int) ∧ (m.to : Int) ≤ ((ByteArray.size t : Nat) : Int) := ⟨by omega, by omega, by omega⟩
      have hb2 : (B (out ++ A.flatMap (fillB (L t) m))).size + (t.extract (Int.toNat (m.fr : Int)) (Int.toNat (m.to : Int))).size ≤ 9223372036854775807 := h.1
      have hb3 : B (out ++ A.flatMap (fillB (L t) m)) ++ t.extract (Int.toNat (m.fr : Int)) (Int.toNat (m.to : Int)) = B (out ++ (A ++ [x]).flatMap (fillB (L t) m)) := h.2.2
      exact ⟨_, kb4.cell 1, _, kb4.cell 2, hb1, hb2, D'.length, by simp, A ++ [x], D', by rw [hes]; simp, h.2.1, rfl, hb3, B4⟩
    · have g2' : ¬ x.1 < 0 := of_decide_eq_false g2
      have g3' : ¬ x.1 = 0 := by simpa using g3
      have hx2 := hx.2
      have ej : IntKind.wrap .i64 (x.1 - 1) = (((x.1 - 1).toNat : Nat) : Int) := by rw [w64 (by have := hx.1; unfold BitOk at this; omega)]; omega
      have hj : (x.1 - 1).toNat < m.gs.length := by omega
      have hfB : fillB (L t) m x = if 0 ≤ (m.gs.getD (x.1 - 1).toNat (-1, -1)).1 then sub_ (L t) (m.gs.getD (x.1 - 1).toNat (-1, -1)).1.toNat (m.gs.getD (x.1 - 1).toNat (-1, -1)).2.toNat else [] := by unfold fillB; rw [if_neg g2', if_neg g3']
      generalize (x.1 - 1).toNat = j at *
      have hgd : m.gs.getD j (-1, -1) = m.gs[j] := by rw [List.getD_eq_getElem?_getD, List.getElem?_eq_getElem hj]; rfl
      rw [hgd] at hfB
      have hgr := hm.gr _ (List.getElem_mem hj)
      have hgl2 : g.2.1 = m.gs.length := by have := hg.1; rw [rngC_length] at this; change m.gs.length * 2 = g.2.1 * 2 at this; omega
      have hix : Int.toNat (IntKind.wrap .i64 (x.1 - 1)) = j := by rw [ej]; omega
      have hib : 0 ≤ IntKind.wrap .i64 (x.1 - 1) ∧ IntKind.wrap .i64 (x.1 - 1) < ((g.2.1 : Nat) : Int) := by rw [ej]; omega
      have hgc : ∀ {w' : World}, Below w1.heap.size w1 w' → ∃ bg, g.1 = some ⟨bg, 0, none⟩ ∧ cellH w'.heap bg (0 + Int.toNat (IntKind.wrap .i64 (x.1 - 1)) * 2) = some (.int .i64 m.gs[j].1) ∧ cellH w'.heap bg (0 + Int.toNat (IntKind.wrap .i64 (x.1 - 1)) * 2 + 1) = some (.int .i64 m.gs[j].2) := fun {w'} B' => by
        rw [hix]
        have hg' : Vec w'.heap 31 2 g.1 g.2.1 g.2.2 (rngC m.gs) := hg.below B'
        obtain ⟨bg, hbg, hcg⟩ := hg'.open (by omega)
        have hr := rngC_at m.gs j hj
        exact ⟨bg, hbg, by rw [Nat.zero_add, hcg _ (by omega)]; exact hr.1, by rw [Nat.zero_add, hcg _ (by omega)]; exact hr.2⟩
      obtain ⟨bg, hbg, hc1, hc2⟩ := hgc B4
      refine ⟨_, _, _, kb4.cell 3, _, k4'.cell 0, bg, 0, ⟨hbg, hib.1, hib.2⟩, _, hc1, fun g4 => ?_, fun g4 => ?_⟩
      · have g4' : 0 ≤ m.gs[j].1 := of_decide_eq_true g4
        rcases hgr with hgr | ⟨f, e, hgr, h1, h2, h3⟩
        · rw [hgr] at g4'; simp at g4'
        · have ef : m.gs[j].1 = (f : Int) := by rw [hgr]
          have ee : m.gs[j].2 = (e : Int) := by rw [hgr]
          have h := hstep (y := sub_ (L t) f e) (s := t.extract f e) (by rw [hfB, if_pos g4', ef, ee]; rfl) (ext_B _ _ _)
          have hbnd : (0 ≤ m.gs[j].1 ∧ m.gs[j].1 ≤ m.gs[j].2 ∧ m.gs[j].2 ≤ ((ByteArray.size t : Nat) : Int)) ∧ ((B (out ++ A.flatMap (fillB (L t) m))).size + (t.extract (Int.toNat m.gs[j].1) (Int.toNat m.gs[j].2)).size ≤ 9223372036854775807) := by
            rw [ef, ee]
            exact ⟨⟨by omega, by omega, by omega⟩, h.1⟩
          have hnext : ((A.length + 1 : Nat) : Int) = (A ++ [x]).length ∧ B (out ++ A.flatMap (fillB (L t) m)) ++ t.extract (Int.toNat m.gs[j].1) (Int.toNat m.gs[j].2) = B (out ++ (A ++ [x]).flatMap (fillB (L t) m)) := by
            rw [ef, ee]; exact h.2
          refine ⟨_, _, _, kb4.cell 3, _, k4'.cell 0, bg, 0, ⟨hbg, hib.1, hib.2⟩, _, hc1, _, hc2, ?_⟩
          refine newC_in fun w5 s5 k5 e5 => ?_
          refine stW_in k5 (by show 0 + 2 ≤ 2; decide) fun w6 s6 k6 e6 => ?_
          have hz4 := B4.size
          have B6 : Below w1.heap.size w1 w6 := Ext.to (Ext.to B4 e5 fun _ h => h.elim) e6 fun i hi => by omega
          exact ⟨_, k6.cell 0, _, k6.cell 1, hbnd.1, hbnd.2, D'.length, by simp, A ++ [x], D', by rw [hes]; simp, hnext.1, rfl, hnext.2, B6⟩
      · have g4' : ¬ 0 ≤ m.gs[j].1 := of_decide_eq_false g4
        have h := hstep (y := []) (s := B []) (by rw [hfB, if_neg g4']) rfl
        refine ⟨D'.length, by simp, A ++ [x], D', by rw [hes]; simp, h.2.1, rfl, ?_, B4⟩
        rw [← h.2.2, B_append, List.append_nil]
  · have g' : ¬ A.length < l := by have := of_decide_eq_false g1; omega
    have : D = [] := by
      cases D with
      | nil => rfl
      | cons x r => simp only [List.length_cons] at hel; omega
    subst this
    rw [List.append_nil] at hes
    subst hes
    exact hK w2 B2
theorem l4fill_ok {G : Nat} {w : World} {t : ByteArray} {t1 : Bool} {n2 : Int} {a : Option Addr} {l c : Nat} {bits : Bits} {m : Mt} {g : G3'} (hv : Vec w.heap 121 2 a l c (bitsC bits)) (hbit : ∀ x ∈ bits, BitOk x ∧ x.1 ≤ (G : Int)) (hm : MtOk G (L t).length m.fr m) (hg : MOk w (m, g)) (hl : bits.length ≤ 101) (hn : (L t).length ≤ 200) :
    Cl Try.prog 103 [.agg #[.bool t1, .int .i64 n2, .slice a l c], .string t, .agg ⟨mC (m, g)⟩] w (RetB (.string (B (fillP (L t) bits m))) w) := by
  refine vc103 (t1 := t1) (n2 := n2) (a3 := a) (l3 := l) (c3 := c) (s4 := t) (t5 := m.ok) (n6 := m.fr) (n7 := m.to) (a8 := g.1) (l8 := g.2.1) (c8 := g.2.2) ?_
  unfold V103
  refine newC_in fun w1 s1 k1 e1 => newC_in fun w2 s2 k2 e2 => ?_
  have B2 : Below w.heap.size w w2 := Ext.to (Ext.to (Below.refl _ _) e1 fun _ h => h.elim) e2 fun _ h => h.elim
  refine ⟨_, _, _, (k1.keep e2 fun h => h).cell 2, fillLoopS (out := []) rfl (hv.keep (S := fun _ => False) (Ext.of_below B2) fun _ _ h => h) hbit hm (hg.below B2) k2 hl hn (by simp) fun w' B' => ⟨?_, B2.vstep B'⟩⟩
  rw [List.nil_append]
/-- Are the groups there that a template asks for? -/
theorem checkLoop {G bm b : Nat} {w1 : World} {a : Option Addr} {l c : Nat} {bits : Bits} (hv : Vec w1.heap 121 2 a l c (bitsC bits)) (hl : bits.length ≤ 101) (hG : ∀ w', Below w1.heap.size w1 w' → cellH w'.heap bm (0 + 2) = some (.int .i64 (G : Int))) {R : Ending → World → Prop} {KK : World → Prop}
    (hno : ∀ w', Below w1.heap.size w1 w' → ¬ (∀ x ∈ bits, x.1 ≤ (G : Int)) → stW b 0 [.bool false, .string (⟨#[]⟩ : ByteArray), .int .i64 0] (fun (w50 : World) => ∃ (t51 : Bool), cellH w50.heap b 0 = some (.bool t51) ∧ ∃ (s52 : ByteArray), cellH w50.heap b 1 = some (.string s52) ∧ ∃ (n53 : Int), cellH w50.heap b 2 = some (.int .i64 n53) ∧ R (.returned (.agg #[.bool t51, .string s52, .int .i64 n53])) w50) w')
    (hK : ∀ w', Below w1.heap.size w1 w' → (∀ x ∈ bits, x.1 ≤ (G : Int)) → KK w') :
    ∃ (I34 : Nat → Int → World → Prop), (∃ (k36 : Nat), I34 k36 0 w1) ∧ ∀ (k35 : Nat) (d38 : Nat → Value) (n39 : Int) (w37 : World), I34 k35 n39 w37 → (((decide ((n39 : Int) < ((l : Nat) : Int))) = true → ∃ (b40 : Nat) (o41 : Nat), ((a : Option Addr) = some ⟨b40, o41, none⟩ ∧ 0 ≤ (n39 : Int) ∧ (n39 : Int) < ((l : Nat) : Int)) ∧ ∃ (n42 : Int), cellH w37.heap b40 (o41 + (Int.toNat n39) * 2) = some (.int .i64 n42) ∧ ∃ (s43 : ByteArray), cellH w37.heap b40 (o41 + (Int.toNat n39) * 2 + 1) = some (.string s43) ∧ newC [.int .i64 0, .string (⟨#[]⟩ : ByteArray)] 121 (fun (b44 : Nat) (w45 : World) => stW b44 0 [.int .i64 n42, .string s43] (fun (w46 : World) => drw (fun (w47 : World) => ∃ (n48 : Int), cellH w47.heap b44 0 = some (.int .i64 n48) ∧ ∃ (n49 : Int), cellH w47.heap bm (0 + 2) = some (.int .i64 n49) ∧ (((decide ((n48 : Int) > n49)) = true → stW b 0 [.bool false, .string (⟨#[]⟩ : ByteArray), .int .i64 0] (fun (w50 : World) => ∃ (t51 : Bool), cellH w50.heap b 0 = some (.bool t51) ∧ ∃ (s52 : ByteArray), cellH w50.heap b 1 = some (.string s52) ∧ ∃ (n53 : Int), cellH w50.heap b 2 = some (.int .i64 n53) ∧ R (.returned (.agg #[.bool t51, .string s52, .int .i64 n53])) w50) w47) ∧ ((decide ((n48 : Int) > n49)) = false → (∃ (m54 : Nat), m54 < k35 ∧ I34 m54 (IntKind.wrap .i64 (n39 + 1)) w47)))) w46) w45) w37) ∧ ((decide ((n39 : Int) < ((l : Nat) : Int))) = false → KK w37)) := by
  have hlen : l = bits.length := by have := hv.1; rw [bitsC_length] at this; omega
  refine ⟨fun k n w' => ∃ (A D : Bits), bits = A ++ D ∧ n = A.length ∧ k = D.length ∧ (∀ x ∈ A, x.1 ≤ (G : Int)) ∧ Below w1.heap.size w1 w', ⟨_, [], bits, rfl, rfl, rfl, by simp, Below.refl _ _⟩, ?_⟩
  rintro k dd n w2 ⟨A, D, hes, rfl, rfl, hA, B2⟩
  have hel : bits.length = A.length + D.length := by rw [hes]; simp
  have e0 : Int.toNat (A.length : Int) = A.length := by omega
  have e1 : IntKind.wrap .i64 ((A.length : Int) + 1) = ((A.length + 1 : Nat) : Int) := by rw [w64 (by omega)]; omega
  rw [e0, e1]
  refine ⟨fun g1 => ?_, fun g1 => ?_⟩
  · have g' : A.length < l := by have := of_decide_eq_true g1; omega
    obtain ⟨x, D', rfl⟩ : ∃ x B', D = x :: B' := by
      cases D with
      | nil => simp only [List.length_nil] at hel; omega
      | cons x B' => exact ⟨x, B', rfl⟩
    have hat := bitsC_at bits A.length (by omega)
    have hbx : ∀ h, bits[A.length]'h = x := by intro h; rw [List.getElem_of_eq hes]; simp
    rw [hbx] at hat
    have v2 := hv.keep (S := fun _ => False) (Ext.of_below B2) fun _ _ h => h
    obtain ⟨ba, hba, hc⟩ := v2.open (by omega)
    refine ⟨ba, 0, ⟨hba, by omega, by omega⟩, x.1, by rw [Nat.zero_add, hc _ (by omega)]; exact hat.1, B x.2, by rw [Nat.zero_add, hc _ (by omega)]; exact hat.2, ?_⟩
    refine newC_in fun w3 s3 k3 e3 => ?_
    refine stW_in k3 (by show 0 + 2 ≤ 2; decide) fun w4 s4 k4 e4 => ?_
    have k4' : Blk w4.heap w2.heap.size 121 [.int .i64 x.1, .string (B x.2)] := k4
    have hz2 := B2.size
    refine drw_in fun w5 q5 e5 => ?_
    have B5 : Below w1.heap.size w1 w5 := Ext.to (Ext.to (Ext.to B2 e3 fun _ h => h.elim) e4 fun i hi => by omega) e5 fun _ h => h.elim
    refine ⟨_, (k4'.keep e5 fun h => h).cell 0, _, hG w5 B5, fun g2 => ?_, fun g2 => ?_⟩
    · have g2' : x.1 > (G : Int) := of_decide_eq_true g2
      exact hno w5 B5 fun h => by have := h x (by rw [hes]; simp); omega
    · have g2' : ¬ x.1 > (G : Int) := of_decide_eq_false g2
      refine ⟨D'.length, by simp, A ++ [x], D', by rw [hes]; simp, by simp, rfl, fun y hy => ?_, B5⟩
      rcases List.mem_append.1 hy with hy | hy
      · exact hA y hy
      · rw [List.mem_singleton.1 hy]; omega
  · have g' : ¬ A.length < l := by have := of_decide_eq_false g1; omega
    have : D = [] := by
      cases D with
      | nil => rfl
      | cons x r => simp only [List.length_cons] at hel; omega
    subst this
    rw [List.append_nil] at hes
    subst hes
    exact hK w2 B2 hA
end Go.Proofs.Ytngbiaeliphdjaa.V
/- Replace on both sides gives one answer; the law. No statement of the seat is proved here. -/
namespace Go.Proofs.Ytngbiaeliphdjaa.V
open Go.Vc Go.Proofs Go.RowKit
set_option linter.unusedVariables false
set_option linter.unusedSimpArgs false
theorem seg3 {z : List Value} (hz : z.length = 3) (a b c : Value) : segSet z 0 [a, b, c] = [a, b, c] := by
  rw [segSet_eq _ _ _ (by rw [hz]; show 0 + 3 ≤ 3; decide), List.drop_of_length_le (by rw [hz]; show 3 ≤ 0 + 3; decide)]
  simp
/-- An answer is stored, and read. -/
theorem retRp_store {w w1 : World} {b : Nat} {z : List Value} (hz : z.length = 3) (k : Blk w1.heap b 68 z) (hb : w.heap.size ≤ b) (B1 : Below w.heap.size w w1) {r : Rp} {t : Bool} {s : ByteArray} {n : Int} (ht : t = r.ok) (hs : s = B r.text) (hn : n = (r.count : Int)) {R : Ending → World → Prop} (hR : ∀ e w', RetB r.val w e w' → R e w') :
    stW b 0 [.bool t, .string s, .int .i64 n] (fun (w50 : World) => ∃ (t51 : Bool), cellH w50.heap b 0 = some (.bool t51) ∧ ∃ (s52 : ByteArray), cellH w50.heap b 1 = some (.string s52) ∧ ∃ (n53 : Int), cellH w50.heap b 2 = some (.int .i64 n53) ∧ R (.returned (.agg #[.bool t51, .string s52, .int .i64 n53])) w50) w1 := by
  subst ht hs hn
  refine stW_in k (by rw [hz]; show 0 + 3 ≤ 3; decide) fun w2 s2 k2 e2 => ?_
  rw [seg3 hz] at k2
  exact ⟨_, k2.cell 0, _, k2.cell 1, _, k2.cell 2, hR _ _ ⟨rfl, Ext.to B1 e2 fun i hi => by omega⟩⟩
/-- A row of bytes becomes a string. -/
theorem conv_vec {w : World} {a : Option Addr} {l c : Nat} {out : Bytes} (h : Vec w.heap 5 1 a l c (u8s out)) : (convert 22 9 (.slice a l c)).run Try.prog w = .ok (.string (B out)) w := by
  obtain ⟨h1, h2, h3⟩ := h
  rw [u8s_length'] at h1
  rcases h3 with ⟨rfl, rfl⟩ | ⟨b, cs, rfl, hb, h4, h5⟩
  · have : out = [] := List.length_eq_zero_iff.1 (by omega)
    subst this
    exact conv_nil Try.underlying22 Try.underlying9 Try.underlying5
  · have hc : cellsAt w.heap b 0 (u8s out) := hb.cellsAt (n := l * 1) (by rw [List.drop_zero]; exact h5) (by rw [u8s_length']; omega)
    exact conv_run Try.underlying22 Try.underlying9 Try.underlying5 (by omega) hc
theorem appS {w : World} {a : Option Addr} {l c : Nat} {out : Bytes} {s : ByteArray} {y : Bytes} (hs : s = B y) (h : Vec w.heap 5 1 a l c (u8s out)) (hl : out.length + y.length ≤ 1000000000) :
    ∃ a2 c2 w', (Builtin.append_ #[22, 9] 22 #[.slice a l c, .string s]).run Try.prog w = .ok (.slice a2 (l + y.length) c2) w' ∧ Vec w'.heap 5 1 a2 (l + y.length) c2 (u8s (out ++ y)) ∧ Ext (fun k => blkOf a = some k) w w' ∧ (a2 = a ∨ a2 = some ⟨w.heap.size, 0, none⟩) := by
  have hll := h.1
  rw [u8s_length'] at hll
  have := appendS_run (P := Try.prog) (T := 22) (T' := 9) (T'' := 22) (e := 5) (sz := 1) (by_ := 1) (ys := u8s y) (n := y.length) Try.underlying22 Try.underlying9 (by kernel_rfl) (by kernel_rfl) (by rw [show zeroL Try.prog 5 = some [.int .u8 0] from by kernel_rfl]; simp) (by intro z hz; rw [show zeroL Try.prog 5 = some [.int .u8 0] from by kernel_rfl] at hz; cases hz; rfl) h (s := s) (by rw [hs, size_B]) rfl (by rw [hs, L_B]) (by omega) (by omega)
  rw [← u8s_append'] at this
  exact this
theorem implReplLoop {G N b bt : Nat} {w0 w1 : World} {t : ByteArray} {a : Option Addr} {l c : Nat} {es : List ME} {bits : Bits} {ta : Option Addr} {tl tc : Nat} {t1 : Bool} {n2 most : Int} {z : List Value} (hM : Ms N w1 a l c es) (B0 : Below w0.heap.size w0 w1) (hC : Chain G (L t).length 0 (es.map (·.1))) (hl : es.length ≤ 201) (hn : (L t).length ≤ 200)
    (kt : Blk w1.heap bt 118 [.bool t1, .int .i64 n2, .slice ta tl tc]) (hv : Vec w1.heap 121 2 ta tl tc (bitsC bits)) (hbit : ∀ x ∈ bits, BitOk x ∧ x.1 ≤ (G : Int)) (hbl : bits.length ≤ 101) (hz : z.length = 3) (kb : Blk w1.heap b 68 z) (hb : w0.heap.size ≤ b) {R : Ending → World → Prop}
    (hR : ∀ e w', RetB (Rp.val ⟨true, (replL (L t) bits most 0 0 [] (es.map (·.1))).1, (replL (L t) bits most 0 0 [] (es.map (·.1))).2⟩) w0 e w' → R e w') :
    ∃ (I58 : Nat → ByteArray → Int → Int → Int → World → Prop), (∃ (k60 : Nat), I58 k60 (⟨#[]⟩ : ByteArray) 0 0 0 w1) ∧ ∀ (k59 : Nat) (d62 : Nat → Value) (s63 : ByteArray) (n64 : Int) (n65 : Int) (n66 : Int) (w61 : World), I58 k59 s63 n64 n65 n66 w61 → (((decide ((n66 : Int) < ((l : Nat) : Int))) = true → ∃ (b67 : Nat) (o68 : Nat), ((a : Option Addr) = some ⟨b67, o68, none⟩ ∧ 0 ≤ (n66 : Int) ∧ (n66 : Int) < ((l : Nat) : Int)) ∧ ∃ (t69 : Bool), cellH w61.heap b67 (o68 + (Int.toNat n66) * 4) = some (.bool t69) ∧ ∃ (n70 : Int), cellH w61.heap b67 (o68 + (Int.toNat n66) * 4 + 1) = some (.int .i64 n70) ∧ ∃ (n71 : Int), cellH w61.heap b67 (o68 + (Int.toNat n66) * 4 + 2) = some (.int .i64 n71) ∧ ∃ (a72 : Option Addr), ∃ (l72 : Nat), ∃ (c72 : Nat), cellH w61.heap b67 (o68 + (Int.toNat n66) * 4 + 3) = some (.slice a72 l72 c72) ∧ newC [.bool false, .int .i64 0, .int .i64 0, .slice none 0 0] 29 (fun (b73 : Nat) (w74 : World) => stW b73 0 [.bool t69, .int .i64 n70, .int .i64 n71, .slice a72 l72 c72] (fun (w75 : World) => ((((n65 : Int) == most) = true → (0 ≤ (n64 : Int) ∧ (n64 : Int) ≤ ((ByteArray.size t : Nat) : Int)) ∧ (s63.size + (ByteArray.extract t (Int.toNat n64) (ByteArray.size t)).size ≤ 9223372036854775807) ∧ stW b 0 [.bool true, .string (s63 ++ (ByteArray.extract t (Int.toNat n64) (ByteArray.size t))), .int .i64 n65] (fun (w76 : World) => ∃ (t77 : Bool), cellH w76.heap b 0 = some (.bool t77) ∧ ∃ (s78 : ByteArray), cellH w76.heap b 1 = some (.string s78) ∧ ∃ (n79 : Int), cellH w76.heap b 2 = some (.int .i64 n79) ∧ R (.returned (.agg #[.bool t77, .string s78, .int .i64 n79])) w76) w75) ∧ (((n65 : Int) == most) = false → ∃ (n80 : Int), cellH w75.heap b73 1 = some (.int .i64 n80) ∧ (0 ≤ (n64 : Int) ∧ (n64 : Int) ≤ n80 ∧ (n80 : Int) ≤ ((ByteArray.size t : Nat) : Int)) ∧ (s63.size + (ByteArray.extract t (Int.toNat n64) (Int.toNat n80)).size ≤ 9223372036854775807) ∧ ∃ (a81 : Option Addr), ∃ (l81 : Nat), ∃ (c81 : Nat), cellH w75.heap bt 2 = some (.slice a81 l81 c81) ∧ ∃ (I82 : Nat → ByteArray → Int → World → Prop), (∃ (k84 : Nat), I82 k84 (s63 ++ (ByteArray.extract t (Int.toNat n64) (Int.toNat n80))) 0 w75) ∧ ∀ (k83 : Nat) (d86 : Nat → Value) (s87 : ByteArray) (n88 : Int) (w85 : World), I82 k83 s87 n88 w85 → (((decide ((n88 : Int) < ((l81 : Nat) : Int))) = true → ∃ (b89 : Nat) (o90 : Nat), ((a81 : Option Addr) = some ⟨b89, o90, none⟩ ∧ 0 ≤ (n88 : Int) ∧ (n88 : Int) < ((l81 : Nat) : Int)) ∧ ∃ (n91 : Int), cellH w85.heap b89 (o90 + (Int.toNat n88) * 2) = some (.int .i64 n91) ∧ ∃ (s92 : ByteArray), cellH w85.heap b89 (o90 + (Int.toNat n88) * 2 + 1) = some (.string s92) ∧ newC [.int .i64 0, .string (⟨#[]⟩ : ByteArray)] 121 (fun (b93 : Nat) (w94 : World) => stW b93 0 [.int .i64 n91, .string s92] (fun (w95 : World) => ∃ (n96 : Int), cellH w95.heap b93 0 = some (.int .i64 n96) ∧ (((decide ((n96 : Int) < 0)) = true → ∃ (s97 : ByteArray), cellH w95.heap b93 1 = some (.string s97) ∧ (s87.size + s97.size ≤ 9223372036854775807) ∧ (∃ (m98 : Nat), m98 < k83 ∧ I82 m98 (s87 ++ s97) (IntKind.wrap .i64 (n88 + 1)) w95)) ∧ ((decide ((n96 : Int) < 0)) = false → ∃ (n99 : Int), cellH w95.heap b93 0 = some (.int .i64 n99) ∧ ((((n99 : Int) == 0) = true → ∃ (n100 : Int), cellH w95.heap b73 1 = some (.int .i64 n100) ∧ ∃ (n101 : Int), cellH w95.heap b73 2 = some (.int .i64 n101) ∧ (0 ≤ (n100 : Int) ∧ (n100 : Int) ≤ n101 ∧ (n101 : Int) ≤ ((ByteArray.size t : Nat) : Int)) ∧ (s87.size + (ByteArray.extract t (Int.toNat n100) (Int.toNat n101)).size ≤ 9223372036854775807) ∧ (∃ (m102 : Nat), m102 < k83 ∧ I82 m102 (s87 ++ (ByteArray.extract t (Int.toNat n100) (Int.toNat n101))) (IntKind.wrap .i64 (n88 + 1)) w95)) ∧ (((n99 : Int) == 0) = false → ∃ (a103 : Option Addr), ∃ (l103 : Nat), ∃ (c103 : Nat), cellH w95.heap b73 3 = some (.slice a103 l103 c103) ∧ ∃ (n104 : Int), cellH w95.heap b93 0 = some (.int .i64 n104) ∧ ∃ (b105 : Nat) (o106 : Nat), ((a103 : Option Addr) = some ⟨b105, o106, none⟩ ∧ 0 ≤ (IntKind.wrap .i64 (n104 - 1) : Int) ∧ (IntKind.wrap .i64 (n104 - 1) : Int) < ((l103 : Nat) : Int)) ∧ ∃ (n107 : Int), cellH w95.heap b105 (o106 + (Int.toNat (IntKind.wrap .i64 (n104 - 1))) * 2) = some (.int .i64 n107) ∧ (((decide ((n107 : Int) ≥ 0)) = true → ∃ (a108 : Option Addr), ∃ (l108 : Nat), ∃ (c108 : Nat), cellH w95.heap b73 3 = some (.slice a108 l108 c108) ∧ ∃ (n109 : Int), cellH w95.heap b93 0 = some (.int .i64 n109) ∧ ∃ (b110 : Nat) (o111 : Nat), ((a108 : Option Addr) = some ⟨b110, o111, none⟩ ∧ 0 ≤ (IntKind.wrap .i64 (n109 - 1) : Int) ∧ (IntKind.wrap .i64 (n109 - 1) : Int) < ((l108 : Nat) : Int)) ∧ ∃ (n112 : Int), cellH w95.heap b110 (o111 + (Int.toNat (IntKind.wrap .i64 (n109 - 1))) * 2) = some (.int .i64 n112) ∧ ∃ (n113 : Int), cellH w95.heap b110 (o111 + (Int.toNat (IntKind.wrap .i64 (n109 - 1))) * 2 + 1) = some (.int .i64 n113) ∧ newC [.int .i64 0, .int .i64 0] 31 (fun (b114 : Nat) (w115 : World) => stW b114 0 [.int .i64 n112, .int .i64 n113] (fun (w116 : World) => ∃ (n117 : Int), cellH w116.heap b114 0 = some (.int .i64 n117) ∧ ∃ (n118 : Int), cellH w116.heap b114 1 = some (.int .i64 n118) ∧ (0 ≤ (n117 : Int) ∧ (n117 : Int) ≤ n118 ∧ (n118 : Int) ≤ ((ByteArray.size t : Nat) : Int)) ∧ (s87.size + (ByteArray.extract t (Int.toNat n117) (Int.toNat n118)).size ≤ 9223372036854775807) ∧ (∃ (m119 : Nat), m119 < k83 ∧ I82 m119 (s87 ++ (ByteArray.extract t (Int.toNat n117) (Int.toNat n118))) (IntKind.wrap .i64 (n88 + 1)) w116)) w115) w95) ∧ ((decide ((n107 : Int) ≥ 0)) = false → (∃ (m120 : Nat), m120 < k83 ∧ I82 m120 s87 (IntKind.wrap .i64 (n88 + 1)) w95)))))))) w94) w85) ∧ ((decide ((n88 : Int) < ((l81 : Nat) : Int))) = false → ∃ (n121 : Int), cellH w85.heap b73 2 = some (.int .i64 n121) ∧ (∃ (m122 : Nat), m122 < k59 ∧ I58 m122 s87 n121 (IntKind.wrap .i64 (n65 + 1)) (IntKind.wrap .i64 (n66 + 1)) w85)))))) w74) w61) ∧ ((decide ((n66 : Int) < ((l : Nat) : Int))) = false → (0 ≤ (n64 : Int) ∧ (n64 : Int) ≤ ((ByteArray.size t : Nat) : Int)) ∧ (s63.size + (ByteArray.extract t (Int.toNat n64) (ByteArray.size t)).size ≤ 9223372036854775807) ∧ stW b 0 [.bool true, .string (s63 ++ (ByteArray.extract t (Int.toNat n64) (ByteArray.size t))), .int .i64 n65] (fun (w123 : World) => ∃ (t124 : Bool), cellH w123.heap b 0 = some (.bool t124) ∧ ∃ (s125 : ByteArray), cellH w123.heap b 1 = some (.string s125) ∧ ∃ (n126 : Int), cellH w123.heap b 2 = some (.int .i64 n126) ∧ R (.returned (.agg #[.bool t124, .string s125, .int .i64 n126])) w123) w61)) := by
  have hsz := size_L t
  have hlen := hM.len
  refine ⟨fun k s p q m w' => ∃ (A D : List ME) (p' q' i : Nat) (out : Bytes), es = A ++ D ∧ m = A.length ∧ k = D.length ∧ p = p' ∧ q = q' ∧ s = B out ∧ q' ≤ A.length ∧ p' ≤ i ∧ p' ≤ (L t).length ∧ out.length ≤ 30000 * A.length ∧ Chain G (L t).length i (D.map (·.1)) ∧ replL (L t) bits most p' q' out (D.map (·.1)) = replL (L t) bits most 0 0 [] (es.map (·.1)) ∧ Below w1.heap.size w1 w', ⟨_, [], es, 0, 0, 0, [], rfl, rfl, rfl, rfl, rfl, rfl, Nat.le_refl _, Nat.le_refl _, Nat.zero_le _, by simp, hC, rfl, Below.refl _ _⟩, ?_⟩
  rintro k dd s p q m w2 ⟨A, D, p, q, i, out, hes, rfl, rfl, rfl, rfl, rfl, hqA, hpi, hpn, hout, hD, hsp, B2⟩
  have hel : es.length = A.length + D.length := by rw [hes]; simp
  have e0 : Int.toNat (A.length : Int) = A.length := by omega
  have e1 : IntKind.wrap .i64 ((A.length : Int) + 1) = ((A.length + 1 : Nat) : Int) := by rw [w64 (by omega)]; omega
  have eq1 : IntKind.wrap .i64 ((q : Int) + 1) = ((q + 1 : Nat) : Int) := by rw [w64 (by omega)]; omega
  have ep : Int.toNat (p : Int) = p := by omega
  rw [e0, e1, ep, eq1]
  have hsub := sub_len (L t)
  have hrest : ∀ {w' : World}, Below w1.heap.size w1 w' → (replL (L t) bits most 0 0 [] (es.map (·.1))) = (out ++ sub_ (L t) p (L t).length, q) → (0 ≤ (p : Int) ∧ (p : Int) ≤ ((ByteArray.size t : Nat) : Int)) ∧ ((B out).size + (ByteArray.extract t p (ByteArray.size t)).size ≤ 9223372036854775807) ∧ stW b 0 [.bool true, .string (B out ++ (ByteArray.extract t p (ByteArray.size t))), .int .i64 (q : Int)] (fun (w50 : World) => ∃ (t51 : Bool), cellH w50.heap b 0 = some (.bool t51) ∧ ∃ (s52 : ByteArray), cellH w50.heap b 1 = some (.string s52) ∧ ∃ (n53 : Int), cellH w50.heap b 2 = some (.int .i64 n53) ∧ R (.returned (.agg #[.bool t51, .string s52, .int .i64 n53])) w50) w' := by
    intro w' B' he
    rw [he] at hR
    refine ⟨⟨by omega, by omega⟩, ?_, retRp_store hz (kb.below B') hb (B0.vstep B') (r := ⟨true, out ++ sub_ (L t) p (L t).length, q⟩) rfl ?_ rfl hR⟩
    · rw [ext_B, size_B, size_B]; have := hsub p t.size; omega
    · rw [ext_B, B_append, hsz]
  refine ⟨fun g => ?_, fun g => ?_⟩
  · have g' : A.length < l := by have := of_decide_eq_true g; omega
    obtain ⟨e, D', rfl⟩ : ∃ x B', D = x :: B' := by
      cases D with
      | nil => simp only [List.length_nil] at hel; omega
      | cons x B' => exact ⟨x, B', rfl⟩
    rw [List.map_cons] at hD hsp
    obtain ⟨hi, hm, hr⟩ : i ≤ e.1.fr ∧ MtOk G (L t).length e.1.fr e.1 ∧ Chain G (L t).length (nextM e.1) (D'.map (·.1)) := by
      cases hD with
      | cons h1 h2 h3 => exact ⟨h1, h2, h3⟩
    have hlo := hm.lo
    have hhi := hm.hi
    have hnx : e.1.to ≤ nextM e.1 := by unfold nextM; split <;> omega
    have M2 := hM.below B2
    rw [hes] at M2
    obtain ⟨ba, hba, hc⟩ := M2.cells (i := A.length) (by simp)
    have hge : ∀ h, (A ++ e :: D')[A.length]'h = e := by intro h; simp
    rw [hge] at hc
    refine ⟨ba, 0, ⟨hba, by omega, by omega⟩, _, hc 0 (by decide), _, hc 1 (by decide), _, hc 2 (by decide), _, _, _, hc 3 (by decide), ?_⟩
    refine newC_in fun w3 s3 k3 e3 => ?_
    refine stW_in k3 (by show 0 + 4 ≤ 4; decide) fun w4 s4 k4 e4 => ?_
    have k4' : Blk w4.heap w2.heap.size 29 (mC e) := k4
    have hz2 := B2.size
    have B4 : Below w1.heap.size w1 w4 := Ext.to (Ext.to B2 e3 fun _ h => h.elim) e4 fun i hi => by omega
    have hm4 : MOk w4 e := by
      have M4 := hM.below B4
      exact M4.all e (by rw [hes]; simp)
    refine ⟨fun g2 => ?_, fun g2 => ?_⟩
    · have g2' : (q : Int) = most := by simpa using g2
      exact hrest B4 (by rw [← hsp, replL, if_pos g2'])
    · have g2' : ¬ (q : Int) = most := by simpa using g2
      refine ⟨_, k4'.cell 1, ⟨by omega, by omega, by omega⟩, ?_⟩
      rw [show Int.toNat (e.1.fr : Int) = e.1.fr from by omega, ext_B]
      have h1 := hsub p e.1.fr
      refine ⟨by rw [size_B, size_B]; omega, _, _, _, (kt.below B4).cell 2, ?_⟩
      have hfl := flat_len hn e.1 (bits := bits) fun b hb => (hbit b hb).1
      refine fillLoopI (G := G) (out := out ++ sub_ (L t) p e.1.fr) (g := e.2) (B_append _ _) (hv.keep (S := fun _ => False) (Ext.of_below B4) fun _ _ h => h) hbit hm hm4 k4' hbl hn (by rw [List.length_append]; omega) fun w' B' => ⟨_, (k4'.below B').cell 2, D'.length, by simp, A ++ [e], D', e.1.to, q + 1, nextM e.1, _, by rw [hes]; simp, by simp, rfl, rfl, rfl, rfl, by simp; omega, hnx, hhi, ?_, hr, ?_, B4.vstep B'⟩
      · unfold fillP
        rw [List.length_append, List.length_append, List.length_append]
        simp only [List.length_cons, List.length_nil]
        omega
      · rw [← hsp, replL, if_neg g2']
  · have g' : ¬ A.length < l := by have := of_decide_eq_false g; omega
    have : D = [] := by
      cases D with
      | nil => rfl
      | cons x r => simp only [List.length_cons] at hel; omega
    subst this
    exact hrest B2 (by rw [← hsp]; rfl)
theorem specReplLoop {G N b bt br : Nat} {w0 w1 : World} {t : ByteArray} {a : Option Addr} {l c : Nat} {es : List ME} {bits : Bits} {ta : Option Addr} {tl tc : Nat} {t1 : Bool} {n2 most : Int} {z : List Value} (hM : Ms N w1 a l c es) (B0 : Below w0.heap.size w0 w1) (hC : Chain G (L t).length 0 (es.map (·.1))) (hl : es.length ≤ 201) (hn : (L t).length ≤ 200)
    (kt : Blk w1.heap bt 118 [.bool t1, .int .i64 n2, .slice ta tl tc]) (hv : Vec w1.heap 121 2 ta tl tc (bitsC bits)) (hbit : ∀ x ∈ bits, BitOk x ∧ x.1 ≤ (G : Int)) (hbl : bits.length ≤ 101) (hz : z.length = 3) (kb : Blk w1.heap b 68 z) (hb : w0.heap.size ≤ b) (kr : Blk w1.heap br 68 [.bool true, .string (⟨#[]⟩ : ByteArray), .int .i64 0]) (hbr : w0.heap.size ≤ br) (hbb : b ≠ br) (hbt : bt ≠ br) (hbM : br ∉ mblks a es) (hbv : blkOf ta ≠ some br) {R : Ending → World → Prop}
    (hR : ∀ e w', RetB (Rp.val ⟨true, (replL (L t) bits most 0 0 [] (es.map (·.1))).1, (replL (L t) bits most 0 0 [] (es.map (·.1))).2⟩) w0 e w' → R e w') :
    ∃ (I61 : Nat → Option Addr → Nat → Nat → Int → Int → World → Prop), (∃ (k63 : Nat), I61 k63 none 0 0 0 0 w1) ∧ ∀ (k62 : Nat) (d65 : Nat → Value) (a66 : Option Addr) (l66 : Nat) (c66 : Nat) (n67 : Int) (n68 : Int) (w64 : World), I61 k62 a66 l66 c66 n67 n68 w64 → (((decide ((n68 : Int) < ((l : Nat) : Int))) = true → ∃ (b69 : Nat) (o70 : Nat), ((a : Option Addr) = some ⟨b69, o70, none⟩ ∧ 0 ≤ (n68 : Int) ∧ (n68 : Int) < ((l : Nat) : Int)) ∧ ∃ (t71 : Bool), cellH w64.heap b69 (o70 + (Int.toNat n68) * 4) = some (.bool t71) ∧ ∃ (n72 : Int), cellH w64.heap b69 (o70 + (Int.toNat n68) * 4 + 1) = some (.int .i64 n72) ∧ ∃ (n73 : Int), cellH w64.heap b69 (o70 + (Int.toNat n68) * 4 + 2) = some (.int .i64 n73) ∧ ∃ (a74 : Option Addr), ∃ (l74 : Nat), ∃ (c74 : Nat), cellH w64.heap b69 (o70 + (Int.toNat n68) * 4 + 3) = some (.slice a74 l74 c74) ∧ newC [.bool false, .int .i64 0, .int .i64 0, .slice none 0 0] 29 (fun (b75 : Nat) (w76 : World) => stW b75 0 [.bool t71, .int .i64 n72, .int .i64 n73, .slice a74 l74 c74] (fun (w77 : World) => ∃ (n78 : Int), cellH w77.heap br 2 = some (.int .i64 n78) ∧ ((((n78 : Int) == most) = true → (0 ≤ (n67 : Int) ∧ (n67 : Int) ≤ ((ByteArray.size t : Nat) : Int)) ∧ ∃ (a79 : Option Addr), ∃ (l79 : Nat), ∃ (c79 : Nat), ∃ (w80 : World), (Builtin.append_ #[22, 9] 22 #[.slice a66 l66 c66, .string (ByteArray.extract t (Int.toNat n67) (ByteArray.size t))]).run Try.prog w77 = .ok (.slice a79 l79 c79) w80 ∧ ∃ (s81 : ByteArray), (convert 22 9 (.slice a79 l79 c79)).run Try.prog w80 = .ok (.string s81) w80 ∧ stW br 1 [.string s81] (fun (w82 : World) => ∃ (t83 : Bool), cellH w82.heap br 0 = some (.bool t83) ∧ ∃ (s84 : ByteArray), cellH w82.heap br 1 = some (.string s84) ∧ ∃ (n85 : Int), cellH w82.heap br 2 = some (.int .i64 n85) ∧ stW b 0 [.bool t83, .string s84, .int .i64 n85] (fun (w86 : World) => ∃ (t87 : Bool), cellH w86.heap b 0 = some (.bool t87) ∧ ∃ (s88 : ByteArray), cellH w86.heap b 1 = some (.string s88) ∧ ∃ (n89 : Int), cellH w86.heap b 2 = some (.int .i64 n89) ∧ R (.returned (.agg #[.bool t87, .string s88, .int .i64 n89])) w86) w82) w80) ∧ (((n78 : Int) == most) = false → ∃ (n90 : Int), cellH w77.heap br 2 = some (.int .i64 n90) ∧ stW br 2 [.int .i64 (IntKind.wrap .i64 (n90 + 1))] (fun (w91 : World) => ∃ (n92 : Int), cellH w91.heap b75 1 = some (.int .i64 n92) ∧ (0 ≤ (n67 : Int) ∧ (n67 : Int) ≤ n92 ∧ (n92 : Int) ≤ ((ByteArray.size t : Nat) : Int)) ∧ ∃ (a93 : Option Addr), ∃ (l93 : Nat), ∃ (c93 : Nat), ∃ (w94 : World), (Builtin.append_ #[22, 9] 22 #[.slice a66 l66 c66, .string (ByteArray.extract t (Int.toNat n67) (Int.toNat n92))]).run Try.prog w91 = .ok (.slice a93 l93 c93) w94 ∧ ∃ (t95 : Bool), cellH w94.heap bt 0 = some (.bool t95) ∧ ∃ (n96 : Int), cellH w94.heap bt 1 = some (.int .i64 n96) ∧ ∃ (a97 : Option Addr), ∃ (l97 : Nat), ∃ (c97 : Nat), cellH w94.heap bt 2 = some (.slice a97 l97 c97) ∧ ∃ (t98 : Bool), cellH w94.heap b75 0 = some (.bool t98) ∧ ∃ (n99 : Int), cellH w94.heap b75 1 = some (.int .i64 n99) ∧ ∃ (n100 : Int), cellH w94.heap b75 2 = some (.int .i64 n100) ∧ ∃ (a101 : Option Addr), ∃ (l101 : Nat), ∃ (c101 : Nat), cellH w94.heap b75 3 = some (.slice a101 l101 c101) ∧ Cl Try.prog 103 ([.agg #[.bool t95, .int .i64 n96, .slice a97 l97 c97], .string t, .agg #[.bool t98, .int .i64 n99, .int .i64 n100, .slice a101 l101 c101]]) w94 (retG (fun (r104 : Value) (w103 : World) => ∃ (s102 : ByteArray), r104 = .string s102 ∧ ∃ (a105 : Option Addr), ∃ (l105 : Nat), ∃ (c105 : Nat), ∃ (w106 : World), (Builtin.append_ #[22, 9] 22 #[.slice a93 l93 c93, .string s102]).run Try.prog w103 = .ok (.slice a105 l105 c105) w106 ∧ ∃ (n107 : Int), cellH w106.heap b75 2 = some (.int .i64 n107) ∧ (∃ (m108 : Nat), m108 < k62 ∧ I61 m108 a105 l105 c105 n107 (IntKind.wrap .i64 (n68 + 1)) w106)) (fun c1 w1' => R (.panicked c1) w1'))) w77))) w76) w64) ∧ ((decide ((n68 : Int) < ((l : Nat) : Int))) = false → (0 ≤ (n67 : Int) ∧ (n67 : Int) ≤ ((ByteArray.size t : Nat) : Int)) ∧ ∃ (a109 : Option Addr), ∃ (l109 : Nat), ∃ (c109 : Nat), ∃ (w110 : World), (Builtin.append_ #[22, 9] 22 #[.slice a66 l66 c66, .string (ByteArray.extract t (Int.toNat n67) (ByteArray.size t))]).run Try.prog w64 = .ok (.slice a109 l109 c109) w110 ∧ ∃ (s111 : ByteArray), (convert 22 9 (.slice a109 l109 c109)).run Try.prog w110 = .ok (.string s111) w110 ∧ stW br 1 [.string s111] (fun (w112 : World) => ∃ (t113 : Bool), cellH w112.heap br 0 = some (.bool t113) ∧ ∃ (s114 : ByteArray), cellH w112.heap br 1 = some (.string s114) ∧ ∃ (n115 : Int), cellH w112.heap br 2 = some (.int .i64 n115) ∧ stW b 0 [.bool t113, .string s114, .int .i64 n115] (fun (w116 : World) => ∃ (t117 : Bool), cellH w116.heap b 0 = some (.bool t117) ∧ ∃ (s118 : ByteArray), cellH w116.heap b 1 = some (.string s118) ∧ ∃ (n119 : Int), cellH w116.heap b 2 = some (.int .i64 n119) ∧ R (.returned (.agg #[.bool t117, .string s118, .int .i64 n119])) w116) w112) w110)) := by
  have hsz := size_L t
  have hlen := hM.len
  have hbrl := kr.lt
  refine ⟨fun k ma ml mc p m w' => ∃ (A D : List ME) (p' q' i : Nat) (out : Bytes), es = A ++ D ∧ m = A.length ∧ k = D.length ∧ p = p' ∧ q' ≤ A.length ∧ p' ≤ i ∧ p' ≤ (L t).length ∧ out.length ≤ 30000 * A.length ∧ Chain G (L t).length i (D.map (·.1)) ∧ replL (L t) bits most p' q' out (D.map (·.1)) = replL (L t) bits most 0 0 [] (es.map (·.1)) ∧ Vec w'.heap 5 1 ma ml mc (u8s out) ∧ (∀ k, blkOf ma = some k → w1.heap.size ≤ k) ∧ Blk w'.heap br 68 [.bool true, .string (⟨#[]⟩ : ByteArray), .int .i64 (q' : Int)] ∧ Ext (fun x => x = br) w1 w', ⟨_, [], es, 0, 0, 0, [], rfl, rfl, rfl, rfl, Nat.le_refl _, Nat.le_refl _, Nat.zero_le _, by simp, hC, rfl, Vec.nil _ _ _, (by intro k hk; cases hk), kr, Ext.refl _ _⟩, ?_⟩
  rintro k dd ma ml mc p m w2 ⟨A, D, p, q, i, out, hes, rfl, rfl, rfl, hqA, hpi, hpn, hout, hD, hsp, v2, hma, kr2, E2⟩
  have hel : es.length = A.length + D.length := by rw [hes]; simp
  have e0 : Int.toNat (A.length : Int) = A.length := by omega
  have e1 : IntKind.wrap .i64 ((A.length : Int) + 1) = ((A.length + 1 : Nat) : Int) := by rw [w64 (by omega)]; omega
  have eq1 : IntKind.wrap .i64 ((q : Int) + 1) = ((q + 1 : Nat) : Int) := by rw [w64 (by omega)]; omega
  have ep : Int.toNat (p : Int) = p := by omega
  rw [e0, e1, ep]
  have hsub := sub_len (L t)
  have hz0 := B0.size
  have hz2 := E2.size
  have hml : ml = out.length := by have := v2.1; rw [u8s_length'] at this; omega
  have hrest : ∀ {w' : World}, Ext (fun _ => False) w2 w' → (replL (L t) bits most 0 0 [] (es.map (·.1))) = (out ++ sub_ (L t) p (L t).length, q) → (0 ≤ (p : Int) ∧ (p : Int) ≤ ((ByteArray.size t : Nat) : Int)) ∧ ∃ (a109 : Option Addr), ∃ (l109 : Nat), ∃ (c109 : Nat), ∃ (w110 : World), (Builtin.append_ #[22, 9] 22 #[.slice ma ml mc, .string (ByteArray.extract t p (ByteArray.size t))]).run Try.prog w' = .ok (.slice a109 l109 c109) w110 ∧ ∃ (s111 : ByteArray), (convert 22 9 (.slice a109 l109 c109)).run Try.prog w110 = .ok (.string s111) w110 ∧ stW br 1 [.string s111] (fun (w112 : World) => ∃ (t113 : Bool), cellH w112.heap br 0 = some (.bool t113) ∧ ∃ (s114 : ByteArray), cellH w112.heap br 1 = some (.string s114) ∧ ∃ (n115 : Int), cellH w112.heap br 2 = some (.int .i64 n115) ∧ stW b 0 [.bool t113, .string s114, .int .i64 n115] (fun (w116 : World) => ∃ (t117 : Bool), cellH w116.heap b 0 = some (.bool t117) ∧ ∃ (s118 : ByteArray), cellH w116.heap b 1 = some (.string s118) ∧ ∃ (n119 : Int), cellH w116.heap b 2 = some (.int .i64 n119) ∧ R (.returned (.agg #[.bool t117, .string s118, .int .i64 n119])) w116) w112) w110 := by
    intro w' E' he
    rw [he] at hR
    refine ⟨⟨by omega, by omega⟩, ?_⟩
    have h1 := hsub p t.size
    obtain ⟨a3, c3, w5, q1, q2, q3, _⟩ := appS (ext_B t p t.size) (v2.keep E' fun _ _ h => h) (by omega)
    refine ⟨a3, _, c3, w5, q1, _, conv_vec q2, ?_⟩
    have k5 := (kr2.keep E' fun h => h).keep q3 fun h => by have := hma br h; omega
    refine stW_in k5 (by show 1 + 1 ≤ 3; decide) fun w6 s6 k6 e6 => ?_
    refine ⟨_, k6.cell 0, _, k6.cell 1, _, k6.cell 2, ?_⟩
    have E6 : Ext (fun x => x = br) w1 w6 := ((E2.trans (Ext.mono E' fun _ _ h => h.elim)).step q3 fun i hi hk => by have := hma i hk; omega).trans e6
    exact retRp_store hz (kb.keep E6 hbb) hb (Ext.to B0 E6 fun i hi => by omega) (r := ⟨true, out ++ sub_ (L t) p (L t).length, q⟩) rfl (by rw [hsz]) rfl hR
  refine ⟨fun g => ?_, fun g => ?_⟩
  · have g' : A.length < l := by have := of_decide_eq_true g; omega
    obtain ⟨e, D', rfl⟩ : ∃ x B', D = x :: B' := by
      cases D with
      | nil => simp only [List.length_nil] at hel; omega
      | cons x B' => exact ⟨x, B', rfl⟩
    rw [List.map_cons] at hD hsp
    obtain ⟨hi, hm, hr⟩ : i ≤ e.1.fr ∧ MtOk G (L t).length e.1.fr e.1 ∧ Chain G (L t).length (nextM e.1) (D'.map (·.1)) := by
      cases hD with
      | cons h1 h2 h3 => exact ⟨h1, h2, h3⟩
    have hlo := hm.lo
    have hhi := hm.hi
    have hnx : e.1.to ≤ nextM e.1 := by unfold nextM; split <;> omega
    have M2 : Ms N w2 a l c es := hM.keep E2 fun k hk h => hbM (h ▸ hk)
    rw [hes] at M2
    obtain ⟨ba, hba, hc⟩ := M2.cells (i := A.length) (by simp)
    have hge : ∀ h, (A ++ e :: D')[A.length]'h = e := by intro h; simp
    rw [hge] at hc
    refine ⟨ba, 0, ⟨hba, by omega, by omega⟩, _, hc 0 (by decide), _, hc 1 (by decide), _, hc 2 (by decide), _, _, _, hc 3 (by decide), ?_⟩
    refine newC_in fun w3 s3 k3 e3 => ?_
    refine stW_in k3 (by show 0 + 4 ≤ 4; decide) fun w4 s4 k4 e4 => ?_
    have k4' : Blk w4.heap w2.heap.size 29 (mC e) := k4
    have B4 : Below w2.heap.size w2 w4 := Ext.to (Ext.to (Below.refl _ _) e3 fun _ h => h.elim) e4 fun i hi => by omega
    have kr4 := kr2.below B4
    refine ⟨_, kr4.cell 2, fun g2 => ?_, fun g2 => ?_⟩
    · have g2' : (q : Int) = most := by simpa using g2
      exact hrest (Ext.of_below B4) (by rw [← hsp, replL, if_pos g2'])
    · have g2' : ¬ (q : Int) = most := by simpa using g2
      refine ⟨_, kr4.cell 2, ?_⟩
      rw [eq1]
      refine stW_in kr4 (by show 2 + 1 ≤ 3; decide) fun w5 s5 k5 e5 => ?_
      have k5' : Blk w5.heap br 68 [.bool true, .string (⟨#[]⟩ : ByteArray), .int .i64 ((q + 1 : Nat) : Int)] := k5
      have hkb : w2.heap.size ≠ br := by omega
      have km5 := k4'.keep e5 hkb
      have E5 : Ext (fun x => x = br) w1 w5 := (E2.trans (Ext.of_below B4)).trans e5
      refine ⟨_, km5.cell 1, ⟨by omega, by omega, by omega⟩, ?_⟩
      rw [show Int.toNat (e.1.fr : Int) = e.1.fr from by omega]
      have h1 := hsub p e.1.fr
      have v5 := (v2.keep (S := fun _ => False) (Ext.of_below B4) fun _ _ h => h).keep e5 fun k hk hkb => by have := hma k hk; omega
      obtain ⟨a6, c6, w6, q1, q2, q3, q4⟩ := appS (ext_B t p e.1.fr) v5 (by omega)
      refine ⟨a6, _, c6, w6, q1, ?_⟩
      have hz4 := B4.size
      have hz5 := E5.size
      have hz6 := q3.size
      have hma6 : ∀ k, blkOf a6 = some k → w1.heap.size ≤ k ∧ k ≠ w2.heap.size := by
        intro k hk
        rcases q4 with rfl | rfl
        · exact ⟨hma k hk, by have := v2.lt k hk; omega⟩
        · simp only [blkOf, Option.some.injEq] at hk; have := k4'.lt; exact ⟨by omega, by omega⟩
      have E6 : Ext (fun x => x = br) w1 w6 := E5.step q3 fun i hi hk => by have := hma i hk; omega
      have km6 := km5.keep q3 fun h => by have := v2.lt _ h; omega
      have kr6 := k5'.keep q3 fun h => by have := hma _ h; omega
      have kt6 := kt.keep E6 hbt
      have hv6 := hv.keep E6 fun k hk h => hbv (h ▸ hk)
      have M6 : Ms N w6 a l c es := hM.keep E6 fun k hk h => hbM (h ▸ hk)
      refine ⟨_, kt6.cell 0, _, kt6.cell 1, _, _, _, kt6.cell 2, _, km6.cell 0, _, km6.cell 1, _, km6.cell 2, _, _, _, km6.cell 3, ?_⟩
      have hfl := flat_len hn e.1 (bits := bits) fun b hb => (hbit b hb).1
      refine (l4fill_ok (m := e.1) (g := e.2) hv6 hbit hm (M6.all e (by rw [hes]; simp)) hbl hn).ret fun w7 B7 => ⟨_, rfl, ?_⟩
      have v7 := q2.keep (S := fun _ => False) (Ext.of_below B7) fun _ _ h => h
      obtain ⟨a8, c8, w8, r1, r2, r3, r4⟩ := appS (y := fillP (L t) bits e.1) rfl v7 (by unfold fillP; rw [List.length_append]; omega)
      refine ⟨a8, _, c8, w8, r1, ?_⟩
      have km8 := (km6.below B7).keep r3 fun h => (hma6 _ h).2 rfl
      have kr8 := (kr6.below B7).keep r3 fun h => by have := (hma6 _ h).1; omega
      have E8 : Ext (fun x => x = br) w1 w8 := (E6.trans (Ext.of_below B7)).step r3 fun i hi hk => by have := (hma6 i hk).1; omega
      refine ⟨_, km8.cell 2, D'.length, by simp, A ++ [e], D', e.1.to, q + 1, nextM e.1, _, by rw [hes]; simp, by simp, rfl, rfl, by simp; omega, hnx, hhi, ?_, hr, ?_, r2, fun k hk => ?_, kr8, E8⟩
      · unfold fillP
        rw [List.length_append, List.length_append, List.length_append]
        simp only [List.length_cons, List.length_nil]
        omega
      · rw [← hsp, replL, if_neg g2']
      · rcases r4 with rfl | rfl
        · exact (hma6 k hk).1
        · simp only [blkOf, Option.some.injEq] at hk; have := B7.size; omega
  · have g' : ¬ A.length < l := by have := of_decide_eq_false g; omega
    have : D = [] := by
      cases D with
      | nil => rfl
      | cons x r => simp only [List.length_cons] at hel; omega
    subst this
    exact hrest (Ext.refl _ _) (by rw [← hsp]; rfl)
/-- A template's value as a box on the heap holds it. -/
theorem boxT_in {w : World} {t : Bool} {n : Int} {a : Option Addr} {l c : Nat} {K : Nat → World → Prop} (h : ∀ w2, w2.heap.size = w.heap.size + 1 → Blk w2.heap w.heap.size 118 [.bool t, .int .i64 n, .slice a l c] → Below w.heap.size w w2 → K w.heap.size w2) :
    newC [.bool false, .int .i64 0, .slice none 0 0] 118 (fun b (w8 : World) => stW b 0 [.bool t, .int .i64 n, .slice a l c] (fun w9 => K b w9) w8) w := by
  refine newC_in fun w1 s1 k1 e1 => ?_
  refine stW_in k1 (by show 0 + 3 ≤ 3; decide) fun w2 s2 k2 e2 => ?_
  exact h w2 (by omega) k2 (Ext.to (Ext.to (Below.refl _ _) e1 fun _ h => h.elim) e2 fun i h => by omega)
theorem replA_no {p t w : Bytes} {most : Int} (h : ¬ replOk p t w most) : replA p t w most = ⟨false, [], 0⟩ := by unfold replA; rw [if_neg h]
theorem implReplace_ok (s1 s2 s3 : ByteArray) (most : Int) (w : World) : Cl Try.prog 62 [.string s1, .string s2, .string s3, .int .i64 most] w (RetB (replA (L s1) (L s2) (L s3) most).val w) := by
  apply vc62
  unfold V62
  refine newC_in fun w6 s6 k6 e6 => ?_
  have B6 : Below w.heap.size w w6 := Ext.to (Below.refl _ _) e6 fun _ h => h.elim
  refine (newFinder_ok s1 s2 w6).use fun e w10 he => ?_
  obtain ⟨bf, rfl, B10, hM⟩ := he
  refine ⟨bf, 0, _, rfl, ?_⟩
  have htl := tplT_short (L s3)
  have htb := tplT_bits (L s3)
  refine (implTemplate_ok s3 w10).use fun e w15 he => ?_
  obtain ⟨ta, tc, rfl, R15, B15⟩ := he
  refine ⟨_, _, ta, _, tc, rfl, boxT_in fun w19 s19 k19 B19 => ?_⟩
  have Bw19 := ((B6.vstep B10).vstep B15).vstep B19
  have k6' := ((k6.below B10).below B15).below B19
  have hno : ∀ {w' : World}, Below w19.heap.size w19 w' → ¬ replOk (L s1) (L s2) (L s3) most → stW w.heap.size 0 [.bool false, .string (⟨#[]⟩ : ByteArray), .int .i64 0] (fun (w50 : World) => ∃ (t51 : Bool), cellH w50.heap w.heap.size 0 = some (.bool t51) ∧ ∃ (s52 : ByteArray), cellH w50.heap w.heap.size 1 = some (.string s52) ∧ ∃ (n53 : Int), cellH w50.heap w.heap.size 2 = some (.int .i64 n53) ∧ RetB (replA (L s1) (L s2) (L s3) most).val w (.returned (.agg #[.bool t51, .string s52, .int .i64 n53])) w50) w' := fun B' h => by
    rw [replA_no h]
    exact retRp_store rfl (k6'.below B') (Nat.le_refl _) (Bw19.vstep B') (r := ⟨false, [], 0⟩) rfl rfl rfl fun _ _ h => h
  refine ⟨fun g => hno (Below.refl _ _) ?_, fun g => ⟨_, k19.cell 0, fun g2 => hno (Below.refl _ _) ?_, fun g2 => ⟨fun g3 => hno (Below.refl _ _) ?_, fun g3 => ⟨_, _, _, k19.cell 2, ?_⟩⟩⟩⟩
  · intro h; rw [h.1] at g; simp at g
  · intro h; rw [h.2.1] at g2; simp at g2
  · intro h; have := of_decide_eq_true g3; have := h.2.2.1; omega
  have g' : okA (L s1) (L s2) = true := by simpa using g
  have g2' : (tplT (L s3)).1 = true := by simpa using g2
  have g3' := of_decide_eq_false g3
  obtain ⟨c, rfl, hP, rfl, hpt, hF, hm⟩ := hM g'
  have v19 := (R15.below B19).1
  refine checkLoop (G := c.P.groups) v19 htl.1 (fun w' B' => ((hF.below (B15.vstep B19)).below B').fb.cell 2) (fun w' B' h => hno B' fun h' => h ?_) fun w' B' h => ?_
  · rw [hP]; exact h'.2.2.2
  have hok : replOk (L s1) (L c.t) (L s3) most := ⟨g', g2', by omega, by rw [← hP]; exact h⟩
  have hrA : replA (L s1) (L c.t) (L s3) most = ⟨true, (replL (L c.t) (tplT (L s3)).2.2 most 0 0 [] (allP c.P (L c.t) 0)).1, (replL (L c.t) (tplT (L s3)).2.2 most 0 0 [] (allP c.P (L c.t) 0)).2⟩ := by unfold replA; rw [if_pos hok, hP]
  rw [hrA]
  have hA : allA (L s1) (L c.t) = allP c.P (L c.t) 0 := by unfold allA; rw [if_pos g', hP]
  have hc := hpt.chain _ 0 rfl
  have hl := hpt.allLen
  refine (implAll_ok s1 c.t w').use fun e w56 he => ?_
  obtain ⟨a, l, cp, es, rfl, M56, hes, B56⟩ := he
  rw [hA] at hes
  have hel : es.length = (allP c.P (L c.t) 0).length := by rw [← hes, List.length_map]
  rw [← hes] at hc
  refine ⟨a, l, cp, rfl, implReplLoop (w0 := w) M56 ((Bw19.vstep B').vstep B56) hc (by omega) hpt.n200 ((k19.below B').below B56) ((v19.keep (S := fun _ => False) (Ext.of_below B') fun _ _ h => h).keep (S := fun _ => False) (Ext.of_below B56) fun _ _ h => h) (fun x hx => ⟨htb x hx, h x hx⟩) htl.1 (z := [.bool false, .string (⟨#[]⟩ : ByteArray), .int .i64 0]) rfl ((k6'.below B').below B56) (Nat.le_refl _) fun e w' h => ?_⟩
  rw [hes] at h
  exact h
theorem specReplace_ok (s1 s2 s3 : ByteArray) (most : Int) (w : World) : Cl Try.prog 61 [.string s1, .string s2, .string s3, .int .i64 most] w (RetB (replA (L s1) (L s2) (L s3) most).val w) := by
  apply vc61
  unfold V61
  refine newC_in fun w6 s6 k6 e6 => ?_
  have B6 : Below w.heap.size w w6 := Ext.to (Below.refl _ _) e6 fun _ h => h.elim
  refine (l2of_ok s1 s2 w6).use fun e w10 he => ?_
  obtain ⟨bf, rfl, B10, hM⟩ := he
  refine ⟨bf, 0, _, rfl, ?_⟩
  have htl := tplT_short (L s3)
  have htb := tplT_bits (L s3)
  refine (specTemplate_ok s3 w10).use fun e w15 he => ?_
  obtain ⟨ta, tc, rfl, R15, B15⟩ := he
  refine ⟨_, _, ta, _, tc, rfl, boxT_in fun w19 s19 k19 B19 => ?_⟩
  have Bw19 := ((B6.vstep B10).vstep B15).vstep B19
  have k6' := ((k6.below B10).below B15).below B19
  have hno : ∀ {w' : World}, Below w19.heap.size w19 w' → ¬ replOk (L s1) (L s2) (L s3) most → stW w.heap.size 0 [.bool false, .string (⟨#[]⟩ : ByteArray), .int .i64 0] (fun (w50 : World) => ∃ (t51 : Bool), cellH w50.heap w.heap.size 0 = some (.bool t51) ∧ ∃ (s52 : ByteArray), cellH w50.heap w.heap.size 1 = some (.string s52) ∧ ∃ (n53 : Int), cellH w50.heap w.heap.size 2 = some (.int .i64 n53) ∧ RetB (replA (L s1) (L s2) (L s3) most).val w (.returned (.agg #[.bool t51, .string s52, .int .i64 n53])) w50) w' := fun B' h => by
    rw [replA_no h]
    exact retRp_store rfl (k6'.below B') (Nat.le_refl _) (Bw19.vstep B') (r := ⟨false, [], 0⟩) rfl rfl rfl fun _ _ h => h
  refine ⟨fun g => hno (Below.refl _ _) ?_, fun g => ⟨_, k19.cell 0, fun g2 => hno (Below.refl _ _) ?_, fun g2 => ⟨fun g3 => hno (Below.refl _ _) ?_, fun g3 => ⟨_, _, _, k19.cell 2, ?_⟩⟩⟩⟩
  · intro h; rw [h.1] at g; simp at g
  · intro h; rw [h.2.1] at g2; simp at g2
  · intro h; have := of_decide_eq_true g3; have := h.2.2.1; omega
  have g' : okA (L s1) (L s2) = true := by simpa using g
  have g2' : (tplT (L s3)).1 = true := by simpa using g2
  have g3' := of_decide_eq_false g3
  obtain ⟨s, rfl, hP, rfl, hpt, hF, hm⟩ := hM g'
  have v19 := (R15.below B19).1
  have F19 := hF.below (B15.vstep B19)
  refine checkLoop (G := s.P.groups) v19 htl.1 (fun w' B' => (F19.below B').mb.cell 2) (fun w' B' h => hno B' fun h' => h ?_) fun w' B' h => ?_
  · rw [hP]; exact h'.2.2.2
  have hok : replOk (L s1) (L s.t) (L s3) most := ⟨g', g2', by omega, by rw [← hP]; exact h⟩
  have hrA : replA (L s1) (L s.t) (L s3) most = ⟨true, (replL (L s.t) (tplT (L s3)).2.2 most 0 0 [] (allP s.P (L s.t) 0)).1, (replL (L s.t) (tplT (L s3)).2.2 most 0 0 [] (allP s.P (L s.t) 0)).2⟩ := by unfold replA; rw [if_pos hok, hP]
  rw [hrA]
  have hc := hpt.chain _ 0 rfl
  have hl := hpt.allLen
  refine newC_in fun w56 s56 k56 e56 => ?_
  refine stW_in k56 (by show 0 + 3 ≤ 3; decide) fun w57 s57 k57 e57 => ?_
  have k57' : Blk w57.heap w'.heap.size 68 [.bool true, .string (⟨#[]⟩ : ByteArray), .int .i64 0] := k57
  have B57 : Below w'.heap.size w' w57 := Ext.to (Ext.to (Below.refl _ _) e56 fun _ h => h.elim) e57 fun i hi => by omega
  have hz57 := B57.size
  refine (allS_ok hpt ((F19.below B').below B57)).use fun e w59 he => ?_
  obtain ⟨a, l, cp, es, rfl, M59, hes, _, E59⟩ := he
  have hel : es.length = (allP s.P (L s.t) 0).length := by rw [← hes, List.length_map]
  rw [← hes] at hc
  have hz' := B'.size
  have hz19 := Bw19.size
  have hz15 := B15.size
  have hz10 := B10.size
  have hz6 := B6.size
  have hmd := F19.db.lt
  have hml := F19.lb.lt
  have hk19 := k19.lt
  have hmod : ∀ x, (x = s.bd ∨ x = s.bl) → w6.heap.size ≤ x ∧ x < w'.heap.size ∧ x < w10.heap.size := fun x hx => by
    have h1 := hF.db.lt
    have h2 := hF.lb.lt
    rcases hx with rfl | rfl <;> exact ⟨by omega, by omega, by omega⟩
  have Bw' := Bw19.vstep B'
  have Bw57 := Bw'.vstep B57
  have E59w : Below w.heap.size w w59 := Ext.to Bw57 E59 fun x hx => by have := (hmod x hx).1; omega
  have k6'' := ((k6'.below B').below B57).keep E59 fun hx => by have := (hmod _ hx).1; omega
  have kt := ((k19.below B').below B57).keep E59 fun hx => by have := (hmod _ hx).2.2; omega
  have hvlow : ∀ k, blkOf ta = some k → w10.heap.size ≤ k ∧ k < w19.heap.size := fun k hk => ⟨R15.2.1 k hk, v19.lt k hk⟩
  have vt := ((v19.keep (S := fun _ => False) (Ext.of_below B') fun _ _ h => h).keep (S := fun _ => False) (Ext.of_below B57) fun _ _ h => h).keep E59 fun k hk hx => by have := (hmod _ hx).2.2; have := (hvlow k hk).1; omega
  have kr := k57'.keep E59 fun hx => by have := (hmod _ hx).2.1; omega
  refine ⟨a, l, cp, rfl, specReplLoop (w0 := w) M59 E59w hc (by omega) hpt.n200 kt vt (fun x hx => ⟨htb x hx, h x hx⟩) htl.1 (z := [.bool false, .string (⟨#[]⟩ : ByteArray), .int .i64 0]) rfl k6'' (Nat.le_refl _) kr (by omega) (by omega) (by omega) (fun hb => by have := M59.low _ hb; omega) (fun hb => by have := hvlow _ hb; omega) fun e w' h => ?_⟩
  rw [hes] at h
  exact h
theorem eqReplaced_ok (t : Bool) (s : ByteArray) (n : Int) (w : World) : Cl Try.prog 63 [.agg #[.bool t, .string s, .int .i64 n], .agg #[.bool t, .string s, .int .i64 n]] w (RetB (.bool true) w) := by
  apply vc63
  unfold V63
  refine newC_in fun w1 s1 k1 x1 => newC_in fun w2 s2 k2 x2 => ?_
  have k1' := k1.keep x2 fun h => h
  have hb : Below w.heap.size w w2 := Ext.to (Ext.to (Below.refl _ _) x1 fun _ h => h.elim) x2 fun _ h => h.elim
  exact ⟨_, k1'.cell 0, _, k2.cell 0, fun g => by simp at g, fun _ => ⟨_, k1'.cell 1, _, k2.cell 1, fun g => by simp at g, fun _ => ⟨_, k1'.cell 2, _, k2.cell 2, fun g => by simp at g, fun _ => ⟨rfl, hb⟩⟩⟩⟩
theorem boxR_in {w : World} {t : Bool} {s : ByteArray} {n : Int} {K : Nat → World → Prop} (h : ∀ w2, w2.heap.size = w.heap.size + 1 → Blk w2.heap w.heap.size 68 [.bool t, .string s, .int .i64 n] → Below w.heap.size w w2 → K w.heap.size w2) :
    newC [.bool false, .string (⟨#[]⟩ : ByteArray), .int .i64 0] 68 (fun b (w8 : World) => stW b 0 [.bool t, .string s, .int .i64 n] (fun w9 => K b w9) w8) w := by
  refine newC_in fun w1 s1 k1 e1 => ?_
  refine stW_in k1 (by show 0 + 3 ≤ 3; decide) fun w2 s2 k2 e2 => ?_
  exact h w2 (by omega) k2 (Ext.to (Ext.to (Below.refl _ _) e1 fun _ h => h.elim) e2 fun i h => by omega)
theorem lawReplace_ok (s1 s2 s3 : ByteArray) (most : Int) (w : World) : Cl Try.prog 17 [.string s1, .string s2, .string s3, .int .i64 most] w (RetB (.bool true) w) := by
  apply vc17
  unfold V17
  refine ⟨fun _ => ⟨rfl, Below.refl _ _⟩, fun _ => ⟨fun _ => ⟨rfl, Below.refl _ _⟩, fun _ => ⟨fun _ => ⟨rfl, Below.refl _ _⟩, fun _ => ?_⟩⟩⟩
  have hspec := specReplace_ok s1 s2 s3 most
  have himpl := implReplace_ok s1 s2 s3 most
  generalize replA (L s1) (L s2) (L s3) most = r at *
  refine (hspec w).ret fun w1 B1 => ⟨_, _, _, rfl, boxR_in fun w2 s2 x2 B2 => ?_⟩
  refine (himpl w2).ret fun w3 B3 => ⟨_, _, _, rfl, boxR_in fun w4 s4 x4 B4 => ?_⟩
  have x2' := (x2.below B3).below B4
  refine ⟨_, x4.cell 0, _, x4.cell 1, _, x4.cell 2, _, x2'.cell 0, _, x2'.cell 1, _, x2'.cell 2, ?_⟩
  exact (eqReplaced_ok _ _ _ w4).ret fun w5 B5 => ⟨true, rfl, fun g => by simp at g, fun _ => ⟨rfl, (((B1.vstep B2).vstep B3).vstep B4).vstep B5⟩⟩
end Go.Proofs.Ytngbiaeliphdjaa.V
/- Printed by vcgen.py, a program of this session: formulas of Go functions, each with the proof that it gives the function's contract. No statement of the seat is proved here. -/
namespace Go.Proofs.Ytngbiaeliphdjaa.V
open Go.Vc Go.Proofs
set_option linter.unusedVariables false
set_option maxRecDepth 100000
/-- laws.FnReplace -/
def V19 (a1 : Option Addr) (l1 c1 : Nat) (a2 : Option Addr) (l2 c2 : Nat) (R : Rt) : Pred := fun w =>
  (cB (decide (((l1 : Nat) : Int) > 1048576)) (R (.returned (.bool true)) w) ((cB (decide (((l2 : Nat) : Int) > 1048576)) (R (.returned (.bool true)) w) (clV 20 ([.slice a1 l1 c1]) w R fun r6 w5 => ∃ s3, ∃ s4, r6 = .tuple #[.string s3, .string s4] ∧ clL 21 ([.string s3, .string s4]) w5 R fun a7 l7 c7 w8 => clV 62 ([.string s3, .string s4, .string (⟨#[36, 48]⟩ : ByteArray), .int .i64 1000]) w8 R fun r14 w13 => ∃ t10, ∃ s11, ∃ n12, r14 = .agg #[.bool t10, .string s11, .int .i64 n12] ∧ newC [.bool false, .string (⟨#[]⟩ : ByteArray), .int .i64 0] 68 (fun b15 w16 => stW b15 0 [.bool t10, .string s11, .int .i64 n12] (fun w17 => lB w17 b15 0 fun t18 => (cB (!t18) (R (.returned (.bool false)) w17) (lS w17 b15 1 fun s19 => (cB (!(s19.toList == s4.toList)) (R (.returned (.bool false)) w17) (lI w17 b15 2 fun n20 => (cB (n20 != ((l7 : Nat) : Int)) (R (.returned (.bool false)) w17) (clV 27 ([.string s3]) w17 R fun r26 w25 => ∃ t21, ∃ n22, ∃ n23, ∃ a24 l24 c24, r26 = .agg #[.bool t21, .int .i64 n22, .int .i64 n23, .slice a24 l24 c24] ∧ clS 65 ([.slice a2 l2 c2, .int .i64 n23]) w25 R fun s27 w28 => clI 28 ([.slice a2 l2 c2, .int .i64 1]) w28 R fun n30 w31 => ((4 : Int) ≠ 0) ∧ clV 62 ([.string s3, .string s4, .string s27, .int .i64 (Int.tmod n30 4)]) w31 R fun r37 w36 => ∃ t33, ∃ s34, ∃ n35, r37 = .agg #[.bool t33, .string s34, .int .i64 n35] ∧ newC [.bool false, .string (⟨#[]⟩ : ByteArray), .int .i64 0] 68 (fun b38 w39 => stW b38 0 [.bool t33, .string s34, .int .i64 n35] (fun w40 => drw (fun w41 => lB w41 b38 0 fun t42 => lS w41 b38 1 fun s43 => lI w41 b38 2 fun n44 => clV 61 ([.string s3, .string s4, .string s27, .int .i64 (Int.tmod n30 4)]) w41 R fun r49 w48 => ∃ t45, ∃ s46, ∃ n47, r49 = .agg #[.bool t45, .string s46, .int .i64 n47] ∧ cellsAt w48.heap b38 0 [.bool t42, .string s43, .int .i64 n44] ∧ ∃ t50, (do pure (Value.bool (!(← Op.equal 68 (.agg #[.bool t42, .string s43, .int .i64 n44]) (.agg #[.bool t45, .string s46, .int .i64 n47])))) : Sem Value).run Try.prog w48 = .ok (.bool t50) w48 ∧ (cB t50 (R (.returned (.bool false)) w48) (lB w48 b38 0 fun t51 => (cB (!t51) (R (.returned (.bool false)) w48) (lI w48 b38 2 fun n52 => (cB (decide (n52 > (Int.tmod n30 4))) (R (.returned (.bool false)) w48) (clV 62 ([.string s3, .string s4, .string (⟨#[]⟩ : ByteArray), .int .i64 1000]) w48 R fun r57 w56 => ∃ t53, ∃ s54, ∃ n55, r57 = .agg #[.bool t53, .string s54, .int .i64 n55] ∧ stW b38 0 [.bool t53, .string s54, .int .i64 n55] (fun w58 => clL 22 ([.string s3, .string s4]) w58 R fun a59 l59 c59 w60 => ∃ (I62 : Nat → Int → Int → World → Prop), (∃ k64, I62 k64 ((ByteArray.size s4 : Nat) : Int) 0 w60) ∧ ∀ k63 (d66 : Nat → Value) n67 n68 w65, I62 k63 n67 n68 w65 → (cB (decide (n68 < ((l59 : Nat) : Int))) (ixS a59 l59 n68 fun b69 o70 => lB w65 b69 (o70 + (Int.toNat n68) * 4) fun t71 => lI w65 b69 (o70 + (Int.toNat n68) * 4 + 1) fun n72 => lI w65 b69 (o70 + (Int.toNat n68) * 4 + 2) fun n73 => lL w65 b69 (o70 + (Int.toNat n68) * 4 + 3) fun a74 l74 c74 => newC [.bool false, .int .i64 0, .int .i64 0, .slice none 0 0] 29 (fun b75 w76 => stW b75 0 [.bool t71, .int .i64 n72, .int .i64 n73, .slice a74 l74 c74] (fun w77 => lI w77 b75 2 fun n78 => lI w77 b75 1 fun n79 => (∃ m80, m80 < k63 ∧ I62 m80 (IntKind.wrap .i64 (n67 - (IntKind.wrap .i64 (n78 - n79)))) (IntKind.wrap .i64 (n68 + 1)) w77)) w76) w65) (lB w65 b38 0 fun t81 => (cB t81 (lS w65 b38 1 fun s82 => (cB (((ByteArray.size s82 : Nat) : Int) == n67) (clV 62 ([.string s3, .string s4, .string (⟨#[36]⟩ : ByteArray), .int .i64 9]) w65 R fun r87 w86 => ∃ t83, ∃ s84, ∃ n85, r87 = .agg #[.bool t83, .string s84, .int .i64 n85] ∧ (cB (!t83) (clV 62 ([.string s3, .string s4, .string (⟨#[]⟩ : ByteArray), .int .i64 (-1)]) w86 R fun r92 w91 => ∃ t88, ∃ s89, ∃ n90, r92 = .agg #[.bool t88, .string s89, .int .i64 n90] ∧ R (.returned (.bool (!t88))) w91) (R (.returned (.bool false)) w86))) (R (.returned (.bool false)) w65))) (R (.returned (.bool false)) w65))))) w56))))))) w40) w39) w36))))))) w16) w13))))
def scr19 : Scr := (.q 1 (.run [0,1,2,3] (.split 18 (.r [4,5,6,7] (.lit (.q 1 .nil))) (.r [4,5,6,7] (.cond (.q 1 .nil) (.q 7 (.q 5 (.q 5 (.run [0,1,2,3] (.split 38 (.r [4,5,6,7,8,9,10,11,12,13,14] (.lit (.q 1 .nil))) (.run [4,5,6,7,8,9] (.split 44 (.r [10,11,12,13,14] (.lit (.q 1 .nil))) (.r [10,11,12,13,14] (.cond (.q 1 .nil) (.q 6 (.q 4 (.q 7 (.run [0,1,2,3,4,5,6,7] (.split 70 (.r [8,9,10,11,12,13,14,15,16,17] (.lit (.q 1 .nil))) (.run [8,9,10,11,12] (.split 75 (.r [13,14,15,16,17] (.lit (.q 1 .nil))) (.r [13,14,15,16,17] (.cond (.q 1 .nil) (.q 4 (.q 3 (.q 5 (.loop (dr [(12, some (.int .i64)), (90, some (.int .i64))] [(14,1),(91,11)]) (.q 1 (.cond (.q 4 (.q 8 (.q 2 .nil))) (.run [0,1,2] (.split 104 (.run [3,4,5,6,7,8,9] (.split 111 (.run [10,11,12,13,14,15,16] (.split 118 (.r [17,18,19,20,21,22,23] .nil) (.r [17,18,19,20,21,22,23] .nil))) (.r [10,11,12,13,14,15,16,17,18,19,20,21,22,23] .nil))) (.r [3,4,5,6,7,8,9,10,11,12,13,14,15,16,17,18,19,20,21,22,23] .nil))))))))))))))))))))))))))))))))
theorem vc19 {a1 l1 c1 a2 l2 c2} {R w} (h : V19 a1 l1 c1 a2 l2 c2 R w) : Cl Try.prog 19 [.slice a1 l1 c1, .slice a2 l2 c2] w R :=
  cl_of scr19 Try.func19 (by kernel_rfl) _ _ (by kernel_rfl) h
/-- spec.With -/
def V65 (a1 : Option Addr) (l1 c1 : Nat) (n2 : Int) (R : Rt) : Pred := fun w =>
  newC [.slice a1 l1 c1, .int .i64 0, .int .u64 0] 76 (fun b3 w4 => clI 82 ([.pointer (some ⟨b3, 0, none⟩), .int .i64 5]) w4 R fun n5 w6 => ∃ (I8 : Nat → ByteArray → Int → World → Prop), (∃ k10, I8 k10 (⟨#[]⟩ : ByteArray) n5 w6) ∧ ∀ k9 (d12 : Nat → Value) s13 n14 w11, I8 k9 s13 n14 w11 → (cB (decide (n14 > 0)) (clI 82 ([.pointer (some ⟨b3, 0, none⟩), .int .i64 3]) w11 R fun n15 w16 => (cB (n15 == 0) ((s13.size + (⟨#[120]⟩ : ByteArray).size ≤ 9223372036854775807) ∧ (∃ m18, m18 < k9 ∧ I8 m18 (s13 ++ (⟨#[120]⟩ : ByteArray)) (IntKind.wrap .i64 (n14 - 1)) w16)) ((cB (n15 == 1) ((s13.size + (⟨#[36, 36]⟩ : ByteArray).size ≤ 9223372036854775807) ∧ (∃ m19, m19 < k9 ∧ I8 m19 (s13 ++ (⟨#[36, 36]⟩ : ByteArray)) (IntKind.wrap .i64 (n14 - 1)) w16)) (clI 82 ([.pointer (some ⟨b3, 0, none⟩), .int .i64 (IntKind.wrap .i64 (n2 + 1))]) w16 R fun n20 w21 => clS 106 ([.int .i64 n20]) w21 R fun s23 w24 => ((⟨#[36]⟩ : ByteArray).size + s23.size ≤ 9223372036854775807) ∧ (s13.size + ((⟨#[36]⟩ : ByteArray) ++ s23).size ≤ 9223372036854775807) ∧ (∃ m26, m26 < k9 ∧ I8 m26 (s13 ++ ((⟨#[36]⟩ : ByteArray) ++ s23)) (IntKind.wrap .i64 (n14 - 1)) w24)))))) (R (.returned (.string s13)) w11))) w
def scr65 : Scr := (.q 1 (.q 4 (.q 1 (.q 3 (.loop (dr [(6, some .str), (7, some (.int .i64))] [(13,22)]) (.q 2 (.cond (.q 2 (.q 2 (.cond (.q 3 (.q 3 .nil)) (.q 2 (.cond (.q 3 (.q 3 .nil)) (.q 9 (.q 3 .nil))))))) (.q 2 .nil))))))))
theorem vc65 {a1 l1 c1 n2} {R w} (h : V65 a1 l1 c1 n2 R w) : Cl Try.prog 65 [.slice a1 l1 c1, .int .i64 n2] w R :=
  cl_of scr65 Try.func65 (by kernel_rfl) _ _ (by kernel_rfl) h
end Go.Proofs.Ytngbiaeliphdjaa.V
/- What replacing and splitting leave of a text: plain lists. No statement of the seat is proved here. -/
namespace Go.Vc
set_option linter.unusedVariables false
set_option linter.unusedSimpArgs false
/-- By itself. -/
theorem repl_self (t : Bytes) {G : Nat} {bits : Bits} (hb : ∀ m, fillP t bits m = sub_ t m.fr m.to) : ∀ {ms : List Mt} {i p n : Nat} {out : Bytes}, Chain G t.length i ms → p ≤ i → p ≤ t.length → out = sub_ t 0 p → (n + ms.length : Nat) ≤ 999 →
    replL t bits 1000 p n out ms = (t, n + ms.length) := by
  intro ms
  induction ms with
  | nil =>
    intro i p n out _ hp hl ho hn
    unfold replL
    rw [ho, sub_app t (Nat.zero_le _) hl, sub_all]
    rfl
  | cons m r ih =>
    intro i p n out hc hp hl ho hn
    cases hc with
    | cons h hm hr =>
      simp only [List.length_cons] at hn
      unfold replL
      rw [if_neg (by omega)]
      have := hm.lo
      have := hm.hi
      rw [ih hr (nextM_le m) (by omega) (by rw [ho, hb, sub_app t (Nat.zero_le _) (by omega), sub_app t (Nat.zero_le _) (by omega)]) (by omega)]
      simp only [List.length_cons]
      congr 1
      omega
/-- By nothing. -/
def lenP (ms : List Mt) : Nat := (ms.map fun m => m.to - m.fr).sum
theorem repl_none (t : Bytes) {G : Nat} : ∀ {ms : List Mt} {i p n : Nat} {out : Bytes}, Chain G t.length i ms → p ≤ i → p ≤ t.length → (n + ms.length : Nat) ≤ 999 →
    (replL t [] 1000 p n out ms).1.length + lenP ms = out.length + (t.length - p) := by
  intro ms
  induction ms with
  | nil =>
    intro i p n out _ hp hl hn
    unfold replL lenP
    rw [List.length_append, sub_size t hl (Nat.le_refl _)]
    simp
  | cons m r ih =>
    intro i p n out hc hp hl hn
    cases hc with
    | cons h hm hr =>
      simp only [List.length_cons] at hn
      unfold replL
      rw [if_neg (by omega)]
      have h1 := hm.lo
      have h2 := hm.hi
      have := ih (out := out ++ sub_ t p m.fr ++ fillP t [] m) (p := m.to) (n := n + 1) hr (nextM_le m) (by omega) (by omega)
      have e : lenP (m :: r) = (m.to - m.fr) + lenP r := by simp [lenP]
      rw [e]
      rw [List.length_append, List.length_append, sub_size t (by omega) (by omega)] at this
      have e2 : (fillP t [] m).length = 0 := rfl
      omega
theorem lenP_le {G n : Nat} : ∀ {ms : List Mt} {i : Nat}, Chain G n i ms → i ≤ n + 1 → lenP ms ≤ n
  := by
  have key : ∀ {ms : List Mt} {i : Nat}, Chain G n i ms → lenP ms + i ≤ n + i ∧ (i ≤ n → lenP ms + i ≤ n) := by
    intro ms
    induction ms with
    | nil => intro i _; exact ⟨by simp [lenP], fun h => by simp [lenP]; exact h⟩
    | cons m r ih =>
      intro i hc
      cases hc with
      | cons h hm hr =>
        have h1 := hm.lo
        have h2 := hm.hi
        have h3 := ih hr
        have e : lenP (m :: r) = (m.to - m.fr) + lenP r := by simp [lenP]
        have hnx := nextM_le m
        have h4 : lenP r + m.to ≤ n := by
          by_cases hx : nextM m ≤ n
          · have := h3.2 hx; omega
          · -- behind the end there is nothing
            cases hr with
            | nil => simp [lenP]; exact h2
            | cons h' hm' _ => have := hm'.lo; have := hm'.hi; omega
        omega
  intro ms i hc hi
  have := (key hc).1
  omega
theorem repl_count (t : Bytes) (bits : Bits) (k : Nat) : ∀ {ms : List Mt} {p n : Nat} {out : Bytes}, n ≤ k → (replL t bits (k : Int) p n out ms).2 ≤ k
  | [], p, n, out, h => h
  | m :: r, p, n, out, h => by
    unfold replL
    split
    · exact h
    · exact repl_count t bits k (by omega)
/-! ### Templates -/
theorem tpl_0 : tplT [36, 48] = (true, 0, [(0, [])]) := by
  unfold tplT
  rw [if_neg (by decide), tpl, dif_pos (by decide), if_neg (by decide), if_neg (by decide), if_neg (by decide), if_neg (by decide), tpl, dif_neg (by decide)]
  rfl
theorem tpl_nil : tplT [] = (true, 0, []) := by
  unfold tplT
  rw [if_neg (by decide), tpl, dif_neg (by decide)]
  rfl
theorem tpl_bad : tplT [36] = (false, 1, []) := by
  unfold tplT
  rw [if_neg (by decide), tpl, dif_pos (by decide), if_neg (by decide), if_pos (by decide)]
  try rfl
theorem fill_0 (t : Bytes) (m : Mt) : fillP t [(0, [])] m = sub_ t m.fr m.to := by simp [fillP, fillB]
/-- A part of a template: it is read in so far, and its groups are there. -/
def TpS (G : Nat) (s : Bytes) : Prop := ∀ (l : Bytes) (i : Nat) (pl : Bytes) (bs : Bits), i + s.length ≤ l.length → (∀ k, k < s.length → at_ l (i + k) = at_ s k) → (∀ b ∈ bs, b.1 ≤ (G : Int)) →
  ∃ pl' bs', tpl l i pl bs = tpl l (i + s.length) pl' bs' ∧ ∀ b ∈ bs', b.1 ≤ (G : Int)
theorem TpS.nil (G : Nat) : TpS G [] := fun l i pl bs _ _ h => ⟨pl, bs, rfl, h⟩
theorem TpS.app {G : Nat} {s t : Bytes} (h : TpS G s) (k : TpS G t) : TpS G (s ++ t) := by
  intro l i pl bs hl hf hb
  rw [List.length_append] at hl hf
  have at1 : ∀ {k}, k < s.length → at_ (s ++ t) k = at_ s k := fun {k} hk => by unfold at_; rw [List.getD_eq_getElem?_getD, List.getD_eq_getElem?_getD, List.getElem?_append_left hk]
  have at2 : ∀ {k}, at_ (s ++ t) (s.length + k) = at_ t k := fun {k} => by unfold at_; rw [List.getD_eq_getElem?_getD, List.getD_eq_getElem?_getD, List.getElem?_append_right (by omega), show s.length + k - s.length = k from by omega]
  obtain ⟨pl1, bs1, h1, h2⟩ := h l i pl bs (by omega) (fun q hq => by rw [hf q (by omega), at1 hq]) hb
  obtain ⟨pl2, bs2, h3, h4⟩ := k l (i + s.length) pl1 bs1 (by omega) (fun q hq => by rw [show i + s.length + q = i + (s.length + q) from by omega, hf _ (by omega), at2]) h2
  exact ⟨pl2, bs2, by rw [h1, h3, List.length_append, Nat.add_assoc], h4⟩
theorem TpS.chr (G : Nat) {c : UInt8} (h : c.toNat ≠ 36) : TpS G [c] := by
  intro l i pl bs hl hf hb
  simp only [List.length_cons, List.length_nil] at hl hf
  have e : at_ l i = c.toNat := hf 0 (by omega)
  exact ⟨_, _, by rw [tpl, dif_pos (by omega), if_pos (by omega)]; rfl, hb⟩
theorem TpS.dol (G : Nat) : TpS G [36, 36] := by
  intro l i pl bs hl hf hb
  simp only [List.length_cons, List.length_nil] at hl hf
  have e : at_ l i = 36 := hf 0 (by omega)
  have e1 : at_ l (i + 1) = 36 := hf 1 (by omega)
  exact ⟨_, _, by rw [tpl, dif_pos (by omega), if_neg (by omega), if_neg (by omega), if_pos e1]; rfl, hb⟩
theorem fl_le {G : Nat} {pl : Bytes} {bs : Bits} (h : ∀ b ∈ bs, b.1 ≤ (G : Int)) : ∀ b ∈ fl pl bs, b.1 ≤ (G : Int) := by
  unfold fl
  split
  · exact h
  · intro b hb
    rcases List.mem_append.1 hb with hb | hb
    · exact h b hb
    · rw [List.mem_singleton.1 hb]; show (-1 : Int) ≤ G; omega
theorem TpS.grp (G : Nat) {c : UInt8} (h : 48 ≤ c.toNat ∧ c.toNat ≤ 57) (hg : c.toNat ≤ 48 + G) : TpS G [36, c] := by
  intro l i pl bs hl hf hb
  simp only [List.length_cons, List.length_nil] at hl hf
  have e : at_ l i = 36 := hf 0 (by omega)
  have e1 : at_ l (i + 1) = c.toNat := hf 1 (by omega)
  refine ⟨[], fl pl bs ++ [((at_ l (i + 1) : Int) - 48, [])], by rw [tpl, dif_pos (by omega), if_neg (by omega), if_neg (by omega), if_neg (by omega), if_neg (by omega)]; rfl, fun b hb' => ?_⟩
  rcases List.mem_append.1 hb' with hb' | hb'
  · exact fl_le hb b hb'
  · rw [List.mem_singleton.1 hb']; show (at_ l (i + 1) : Int) - 48 ≤ G; omega
theorem TpS.read {G : Nat} {s : Bytes} (h : TpS G s) (hl : s.length ≤ 100) : (tplT s).1 = true ∧ ∀ b ∈ (tplT s).2.2, b.1 ≤ (G : Int) := by
  obtain ⟨pl, bs, h1, h2⟩ := h s 0 [] [] (by omega) (fun k _ => by rw [Nat.zero_add]) (by intro b hb; cases hb)
  unfold tplT
  rw [if_neg (by omega), h1, tpl, dif_neg (by omega)]
  exact ⟨rfl, fl_le h2⟩
end Go.Vc
namespace Go.Proofs.Ytngbiaeliphdjaa.V
open Go.Vc Go.Proofs
set_option linter.unusedVariables false
theorem repl_0 {p t : Bytes} (h : okA p t = true) : replA p t [36, 48] 1000 = ⟨true, t, (allA p t).length⟩ := by
  have pt := okA_pt h
  have hl := pt.allLen
  have hr : replL t [(0, [])] 1000 0 0 [] (allP (readP p) t 0) = (t, 0 + (allP (readP p) t 0).length) := repl_self t (fill_0 t) (pt.chain _ 0 rfl) (Nat.le_refl _) (Nat.zero_le _) (by simp [sub_]) (by omega)
  unfold replA
  rw [if_pos]
  · rw [tpl_0]
    simp only []
    rw [hr]
    unfold allA
    rw [if_pos h]
    simp
  · unfold replOk
    rw [tpl_0]
    refine ⟨h, rfl, by decide, fun b hb => ?_⟩
    rw [List.mem_singleton.1 hb]; show (0 : Int) ≤ _; omega
theorem repl_nil {p t : Bytes} (h : okA p t = true) : (replA p t [] 1000).ok = true ∧ (replA p t [] 1000).text.length + lenP (allA p t) = t.length := by
  have pt := okA_pt h
  have hl := pt.allLen
  have hr := repl_none t (out := []) (p := 0) (n := 0) (pt.chain _ 0 rfl) (Nat.le_refl _) (Nat.zero_le _) (by omega)
  unfold replA
  rw [if_pos]
  · refine ⟨rfl, ?_⟩
    rw [tpl_nil]
    unfold allA
    rw [if_pos h]
    simpa using hr
  · unfold replOk
    rw [tpl_nil]
    exact ⟨h, rfl, by decide, fun b hb => by cases hb⟩
theorem repl_with {p t s : Bytes} {k : Nat} (h : okA p t = true) (hs : TpS (readP p).groups s) (hl : s.length ≤ 100) : (replA p t s (k : Int)).ok = true ∧ (replA p t s (k : Int)).count ≤ k := by
  have h1 := hs.read hl
  unfold replA
  rw [if_pos ⟨h, h1.1, by omega, h1.2⟩]
  exact ⟨rfl, repl_count t _ k (Nat.zero_le _)⟩
theorem repl_bad (p t : Bytes) (n : Int) : (replA p t [36] n).ok = false := by
  unfold replA
  rw [if_neg]
  intro h
  have := h.2.1
  rw [tpl_bad] at this
  cases this
theorem repl_neg (p t s : Bytes) : (replA p t s (-1)).ok = false := by
  unfold replA
  rw [if_neg]
  intro h
  have := h.2.2.1
  omega
end Go.Proofs.Ytngbiaeliphdjaa.V
/- Printed by vcgen.py, a program of this session: formulas of Go functions, each with the proof that it gives the function's contract. No statement of the seat is proved here. -/
namespace Go.Proofs.Ytngbiaeliphdjaa.V
open Go.Vc Go.Proofs
set_option linter.unusedVariables false
set_option maxRecDepth 100000
/-- (*spec.l6Cur).pattern -/
def V107 (b1 o2 : Nat) (n3 n4 : Int) (t5 : Bool) (R : Rt) : Pred := fun w =>
  clI 82 ([.pointer (some ⟨b1, o2, none⟩), .int .i64 4]) w R fun n6 w7 => ∃ (I9 : Nat → Int → ByteArray → Int → World → Prop), (∃ k11, I9 k11 n4 (⟨#[]⟩ : ByteArray) n6 w7) ∧ ∀ k10 (d13 : Nat → Value) n14 s15 n16 w12, I9 k10 n14 s15 n16 w12 → (cB (decide (n16 > 0)) (clI 82 ([.pointer (some ⟨b1, o2, none⟩), .int .i64 12]) w12 R fun n17 w18 => ∃ (J20 : Int → ByteArray → World → Prop), ((cB (n17 == 0) (J20 n14 (⟨#[46]⟩ : ByteArray) w18) ((cB (n17 == 1) (newC [.string (⟨#[91, 97, 98, 93]⟩ : ByteArray), .string (⟨#[91, 94, 97, 93]⟩ : ByteArray), .string (⟨#[91, 97, 45, 99, 93]⟩ : ByteArray), .string (⟨#[91, 93, 97, 93]⟩ : ByteArray), .string (⟨#[91, 94, 93, 93]⟩ : ByteArray), .string (⟨#[91, 97, 45, 93]⟩ : ByteArray), .string (⟨#[91, 92, 119, 45, 93]⟩ : ByteArray), .string (⟨#[91, 92, 120, 48, 48, 45, 92, 120, 55, 102, 93]⟩ : ByteArray), .string (⟨#[91, 94, 92, 115, 92, 100, 93]⟩ : ByteArray), .string (⟨#[91, 98, 45, 98, 93]⟩ : ByteArray)] 9 (fun b21 w22 => clI 82 ([.pointer (some ⟨b1, o2, none⟩), .int .i64 ((10 : Nat) : Int)]) w22 R fun n23 w24 => ixS (some ⟨b21, 0, none⟩) 10 n23 fun b26 o27 => lS w24 b26 (o27 + (Int.toNat n23) * 1) fun s28 => J20 n14 s28 w24) w18) ((cB (n17 == 2) (newC [.string (⟨#[92, 100]⟩ : ByteArray), .string (⟨#[92, 119]⟩ : ByteArray), .string (⟨#[92, 115]⟩ : ByteArray), .string (⟨#[92, 110]⟩ : ByteArray), .string (⟨#[92, 92]⟩ : ByteArray), .string (⟨#[92, 46]⟩ : ByteArray), .string (⟨#[92, 120, 54, 49]⟩ : ByteArray), .string (⟨#[92, 40]⟩ : ByteArray), .string (⟨#[92, 45]⟩ : ByteArray)] 9 (fun b29 w30 => clI 82 ([.pointer (some ⟨b1, o2, none⟩), .int .i64 ((9 : Nat) : Int)]) w30 R fun n31 w32 => ixS (some ⟨b29, 0, none⟩) 9 n31 fun b34 o35 => lS w32 b34 (o35 + (Int.toNat n31) * 1) fun s36 => J20 n14 s36 w32) w18) ((cB (n17 == 3) ((cB t5 (J20 n14 (⟨#[97]⟩ : ByteArray) w18) (newC [.string (⟨#[94]⟩ : ByteArray), .string (⟨#[36]⟩ : ByteArray)] 9 (fun b37 w38 => clI 82 ([.pointer (some ⟨b1, o2, none⟩), .int .i64 2]) w38 R fun n39 w40 => ixS (some ⟨b37, 0, none⟩) 2 n39 fun b42 o43 => lS w40 b42 (o43 + (Int.toNat n39) * 1) fun s44 => J20 n14 s44 w40) w18))) ((cB (n17 == 4) ((cB (decide (n14 > 0)) ((cB (decide (n3 > 0)) (clV 107 ([.pointer (some ⟨b1, o2, none⟩), .int .i64 (IntKind.wrap .i64 (n3 - 1)), .int .i64 (IntKind.wrap .i64 (n14 - 1)), .bool t5]) w18 R fun r48 w47 => ∃ s45, ∃ n46, r48 = .tuple #[.string s45, .int .i64 n46] ∧ ((⟨#[40]⟩ : ByteArray).size + s45.size ≤ 9223372036854775807) ∧ (((⟨#[40]⟩ : ByteArray) ++ s45).size + (⟨#[41]⟩ : ByteArray).size ≤ 9223372036854775807) ∧ J20 n46 (((⟨#[40]⟩ : ByteArray) ++ s45) ++ (⟨#[41]⟩ : ByteArray)) w47) (J20 n14 (⟨#[98]⟩ : ByteArray) w18))) (J20 n14 (⟨#[98]⟩ : ByteArray) w18))) ((cB (n17 == 5) ((cB (decide (n14 > 0)) ((cB (decide (n3 > 0)) (clV 107 ([.pointer (some ⟨b1, o2, none⟩), .int .i64 (IntKind.wrap .i64 (n3 - 1)), .int .i64 (IntKind.wrap .i64 (n14 - 1)), .bool t5]) w18 R fun r52 w51 => ∃ s49, ∃ n50, r52 = .tuple #[.string s49, .int .i64 n50] ∧ ((⟨#[40]⟩ : ByteArray).size + s49.size ≤ 9223372036854775807) ∧ (((⟨#[40]⟩ : ByteArray) ++ s49).size + (⟨#[41]⟩ : ByteArray).size ≤ 9223372036854775807) ∧ J20 n50 (((⟨#[40]⟩ : ByteArray) ++ s49) ++ (⟨#[41]⟩ : ByteArray)) w51) (J20 n14 (⟨#[98]⟩ : ByteArray) w18))) (J20 n14 (⟨#[98]⟩ : ByteArray) w18))) ((cB (n17 == 6) ((cB (decide (n14 > 0)) ((cB (decide (n3 > 0)) (clV 107 ([.pointer (some ⟨b1, o2, none⟩), .int .i64 (IntKind.wrap .i64 (n3 - 1)), .int .i64 (IntKind.wrap .i64 (n14 - 1)), .bool t5]) w18 R fun r56 w55 => ∃ s53, ∃ n54, r56 = .tuple #[.string s53, .int .i64 n54] ∧ ((⟨#[40]⟩ : ByteArray).size + s53.size ≤ 9223372036854775807) ∧ (((⟨#[40]⟩ : ByteArray) ++ s53).size + (⟨#[41]⟩ : ByteArray).size ≤ 9223372036854775807) ∧ J20 n54 (((⟨#[40]⟩ : ByteArray) ++ s53) ++ (⟨#[41]⟩ : ByteArray)) w55) (J20 n14 (⟨#[98]⟩ : ByteArray) w18))) (J20 n14 (⟨#[98]⟩ : ByteArray) w18))) (clI 82 ([.pointer (some ⟨b1, o2, none⟩), .int .i64 3]) w18 R fun n57 w58 => newC [.int .u8 (IntKind.wrap .u8 (IntKind.wrap .i64 (97 + n57)))] 5 (fun b60 w61 => ∃ s62, (convert 22 9 (.slice (some ⟨b60, 0, none⟩) 1 1)).run Try.prog w61 = .ok (.string s62) w61 ∧ J20 n14 s62 w61) w58))))))))))))))) ∧ ∀ (d63 : Nat → Value) n64 s65 w66, J20 n64 s65 w66 → clI 82 ([.pointer (some ⟨b1, o2, none⟩), .int .i64 9]) w66 R fun n67 w68 => ∃ (J70 : ByteArray → World → Prop), ((cB (n67 == 0) ((s65.size + (⟨#[42]⟩ : ByteArray).size ≤ 9223372036854775807) ∧ J70 (s65 ++ (⟨#[42]⟩ : ByteArray)) w68) ((cB (n67 == 1) ((s65.size + (⟨#[42]⟩ : ByteArray).size ≤ 9223372036854775807) ∧ J70 (s65 ++ (⟨#[42]⟩ : ByteArray)) w68) ((cB (n67 == 2) ((s65.size + (⟨#[43]⟩ : ByteArray).size ≤ 9223372036854775807) ∧ J70 (s65 ++ (⟨#[43]⟩ : ByteArray)) w68) ((cB (n67 == 3) ((s65.size + (⟨#[63]⟩ : ByteArray).size ≤ 9223372036854775807) ∧ J70 (s65 ++ (⟨#[63]⟩ : ByteArray)) w68) ((cB (n67 == 4) (newC [.string (⟨#[123, 50, 125]⟩ : ByteArray), .string (⟨#[123, 48, 125]⟩ : ByteArray), .string (⟨#[123, 49, 44, 125]⟩ : ByteArray), .string (⟨#[123, 48, 44, 50, 125]⟩ : ByteArray), .string (⟨#[123, 49, 44, 51, 125]⟩ : ByteArray), .string (⟨#[123, 48, 44, 48, 125]⟩ : ByteArray), .string (⟨#[123, 50, 44, 50, 125]⟩ : ByteArray)] 9 (fun b71 w72 => clI 82 ([.pointer (some ⟨b1, o2, none⟩), .int .i64 ((7 : Nat) : Int)]) w72 R fun n73 w74 => ixS (some ⟨b71, 0, none⟩) 7 n73 fun b76 o77 => lS w74 b76 (o77 + (Int.toNat n73) * 1) fun s78 => (s65.size + s78.size ≤ 9223372036854775807) ∧ J70 (s65 ++ s78) w74) w68) (J70 s65 w68))))))))))) ∧ ∀ (d79 : Nat → Value) s80 w81, J70 s80 w81 → (ixT s80 (IntKind.wrap .i64 (((ByteArray.size s80 : Nat) : Int) - 1))) ∧ (cB ((byteAt s80 (Int.toNat (IntKind.wrap .i64 (((ByteArray.size s80 : Nat) : Int) - 1)))) == 42) (clI 82 ([.pointer (some ⟨b1, o2, none⟩), .int .i64 3]) w81 R fun n82 w83 => (cB (n82 == 0) ((cB (decide (((ByteArray.size s80 : Nat) : Int) > 1)) ((ixT s80 (IntKind.wrap .i64 (((ByteArray.size s80 : Nat) : Int) - 2))) ∧ (cB ((byteAt s80 (Int.toNat (IntKind.wrap .i64 (((ByteArray.size s80 : Nat) : Int) - 2)))) != 92) ((s80.size + (⟨#[63]⟩ : ByteArray).size ≤ 9223372036854775807) ∧ (s15.size + (s80 ++ (⟨#[63]⟩ : ByteArray)).size ≤ 9223372036854775807) ∧ (∃ m85, m85 < k10 ∧ I9 m85 n64 (s15 ++ (s80 ++ (⟨#[63]⟩ : ByteArray))) (IntKind.wrap .i64 (n16 - 1)) w83)) ((s15.size + s80.size ≤ 9223372036854775807) ∧ (∃ m86, m86 < k10 ∧ I9 m86 n64 (s15 ++ s80) (IntKind.wrap .i64 (n16 - 1)) w83)))) ((s15.size + s80.size ≤ 9223372036854775807) ∧ (∃ m87, m87 < k10 ∧ I9 m87 n64 (s15 ++ s80) (IntKind.wrap .i64 (n16 - 1)) w83)))) ((s15.size + s80.size ≤ 9223372036854775807) ∧ (∃ m88, m88 < k10 ∧ I9 m88 n64 (s15 ++ s80) (IntKind.wrap .i64 (n16 - 1)) w83)))) ((cB ((byteAt s80 (Int.toNat (IntKind.wrap .i64 (((ByteArray.size s80 : Nat) : Int) - 1)))) == 43) (clI 82 ([.pointer (some ⟨b1, o2, none⟩), .int .i64 3]) w81 R fun n89 w90 => (cB (n89 == 0) ((cB (decide (((ByteArray.size s80 : Nat) : Int) > 1)) ((ixT s80 (IntKind.wrap .i64 (((ByteArray.size s80 : Nat) : Int) - 2))) ∧ (cB ((byteAt s80 (Int.toNat (IntKind.wrap .i64 (((ByteArray.size s80 : Nat) : Int) - 2)))) != 92) ((s80.size + (⟨#[63]⟩ : ByteArray).size ≤ 9223372036854775807) ∧ (s15.size + (s80 ++ (⟨#[63]⟩ : ByteArray)).size ≤ 9223372036854775807) ∧ (∃ m92, m92 < k10 ∧ I9 m92 n64 (s15 ++ (s80 ++ (⟨#[63]⟩ : ByteArray))) (IntKind.wrap .i64 (n16 - 1)) w90)) ((s15.size + s80.size ≤ 9223372036854775807) ∧ (∃ m93, m93 < k10 ∧ I9 m93 n64 (s15 ++ s80) (IntKind.wrap .i64 (n16 - 1)) w90)))) ((s15.size + s80.size ≤ 9223372036854775807) ∧ (∃ m94, m94 < k10 ∧ I9 m94 n64 (s15 ++ s80) (IntKind.wrap .i64 (n16 - 1)) w90)))) ((s15.size + s80.size ≤ 9223372036854775807) ∧ (∃ m95, m95 < k10 ∧ I9 m95 n64 (s15 ++ s80) (IntKind.wrap .i64 (n16 - 1)) w90)))) ((cB ((byteAt s80 (Int.toNat (IntKind.wrap .i64 (((ByteArray.size s80 : Nat) : Int) - 1)))) == 125) (clI 82 ([.pointer (some ⟨b1, o2, none⟩), .int .i64 3]) w81 R fun n96 w97 => (cB (n96 == 0) ((cB (decide (((ByteArray.size s80 : Nat) : Int) > 1)) ((ixT s80 (IntKind.wrap .i64 (((ByteArray.size s80 : Nat) : Int) - 2))) ∧ (cB ((byteAt s80 (Int.toNat (IntKind.wrap .i64 (((ByteArray.size s80 : Nat) : Int) - 2)))) != 92) ((s80.size + (⟨#[63]⟩ : ByteArray).size ≤ 9223372036854775807) ∧ (s15.size + (s80 ++ (⟨#[63]⟩ : ByteArray)).size ≤ 9223372036854775807) ∧ (∃ m99, m99 < k10 ∧ I9 m99 n64 (s15 ++ (s80 ++ (⟨#[63]⟩ : ByteArray))) (IntKind.wrap .i64 (n16 - 1)) w97)) ((s15.size + s80.size ≤ 9223372036854775807) ∧ (∃ m100, m100 < k10 ∧ I9 m100 n64 (s15 ++ s80) (IntKind.wrap .i64 (n16 - 1)) w97)))) ((s15.size + s80.size ≤ 9223372036854775807) ∧ (∃ m101, m101 < k10 ∧ I9 m101 n64 (s15 ++ s80) (IntKind.wrap .i64 (n16 - 1)) w97)))) ((s15.size + s80.size ≤ 9223372036854775807) ∧ (∃ m102, m102 < k10 ∧ I9 m102 n64 (s15 ++ s80) (IntKind.wrap .i64 (n16 - 1)) w97)))) ((cB ((byteAt s80 (Int.toNat (IntKind.wrap .i64 (((ByteArray.size s80 : Nat) : Int) - 1)))) == 63) ((cB (decide (((ByteArray.size s80 : Nat) : Int) > 1)) (clI 82 ([.pointer (some ⟨b1, o2, none⟩), .int .i64 3]) w81 R fun n103 w104 => (cB (n103 == 0) ((cB (decide (((ByteArray.size s80 : Nat) : Int) > 1)) ((ixT s80 (IntKind.wrap .i64 (((ByteArray.size s80 : Nat) : Int) - 2))) ∧ (cB ((byteAt s80 (Int.toNat (IntKind.wrap .i64 (((ByteArray.size s80 : Nat) : Int) - 2)))) != 92) ((s80.size + (⟨#[63]⟩ : ByteArray).size ≤ 9223372036854775807) ∧ (s15.size + (s80 ++ (⟨#[63]⟩ : ByteArray)).size ≤ 9223372036854775807) ∧ (∃ m106, m106 < k10 ∧ I9 m106 n64 (s15 ++ (s80 ++ (⟨#[63]⟩ : ByteArray))) (IntKind.wrap .i64 (n16 - 1)) w104)) ((s15.size + s80.size ≤ 9223372036854775807) ∧ (∃ m107, m107 < k10 ∧ I9 m107 n64 (s15 ++ s80) (IntKind.wrap .i64 (n16 - 1)) w104)))) ((s15.size + s80.size ≤ 9223372036854775807) ∧ (∃ m108, m108 < k10 ∧ I9 m108 n64 (s15 ++ s80) (IntKind.wrap .i64 (n16 - 1)) w104)))) ((s15.size + s80.size ≤ 9223372036854775807) ∧ (∃ m109, m109 < k10 ∧ I9 m109 n64 (s15 ++ s80) (IntKind.wrap .i64 (n16 - 1)) w104)))) ((s15.size + s80.size ≤ 9223372036854775807) ∧ (∃ m110, m110 < k10 ∧ I9 m110 n64 (s15 ++ s80) (IntKind.wrap .i64 (n16 - 1)) w81)))) ((s15.size + s80.size ≤ 9223372036854775807) ∧ (∃ m111, m111 < k10 ∧ I9 m111 n64 (s15 ++ s80) (IntKind.wrap .i64 (n16 - 1)) w81)))))))))) (clI 82 ([.pointer (some ⟨b1, o2, none⟩), .int .i64 6]) w12 R fun n112 w113 => (cB (n112 == 0) (clV 107 ([.pointer (some ⟨b1, o2, none⟩), .int .i64 n3, .int .i64 n14, .bool t5]) w113 R fun r118 w117 => ∃ s115, ∃ n116, r118 = .tuple #[.string s115, .int .i64 n116] ∧ ((⟨#[124]⟩ : ByteArray).size + s115.size ≤ 9223372036854775807) ∧ (s15.size + ((⟨#[124]⟩ : ByteArray) ++ s115).size ≤ 9223372036854775807) ∧ R (.returned (.tuple #[.string (s15 ++ ((⟨#[124]⟩ : ByteArray) ++ s115)), .int .i64 n116])) w117) (R (.returned (.tuple #[.string s15, .int .i64 n14])) w113))))
def scr107 : Scr := (.q 2 (.q 1 (.q 3 (.loop (dr [(2, some (.int .i64)), (10, some .str), (11, some (.int .i64))] [(12,7),(22,140)]) (.q 2 (.cond (.q 1 (.q 2 (.q 2 (.cut (dr [(2, some (.int .i64)), (12, some .str)] [(13,4),(28,6),(36,52)]) (.cond (.q 1 .nil) (.q 2 (.cond (.q 2 (.q 8 .nil)) (.q 2 (.cond (.q 2 (.q 8 .nil)) (.q 2 (.cond (.q 1 (.cond (.q 1 .nil) (.q 2 (.q 6 .nil)))) (.q 2 (.cond (.lit (.run [0,1,2] (.split 71 (.r [3,4,5] (.cond (.q 1 (.q 12 (.q 4 .nil))) (.q 1 .nil))) (.r [3,4,5] (.lit (.q 1 .nil)))))) (.q 2 (.cond (.lit (.run [0,1,2] (.split 71 (.r [3,4,5] (.cond (.q 1 (.q 12 (.q 4 .nil))) (.q 1 .nil))) (.r [3,4,5] (.lit (.q 1 .nil)))))) (.q 2 (.cond (.run [0,1,2] (.split 71 (.r [3,4,5] (.cond (.q 1 (.q 12 (.q 4 .nil))) (.q 1 .nil))) (.r [3,4,5] (.lit (.q 1 .nil))))) (.q 7 .nil)))))))))))))) (.q 2 (.cut (dr [(12, some .str)] [(17,1),(90,25)]) (.q 2 (.cond (.lit (.q 3 .nil)) (.q 2 (.cond (.q 3 .nil) (.q 2 (.cond (.q 3 .nil) (.q 2 (.cond (.q 3 .nil) (.q 2 (.cond (.q 2 (.q 10 .nil)) .nil)))))))))) (.q 6 (.run [0,1,2] (.split 122 (.run [3,4,5,6,7,8,9,10,11,12,13,14,15,16,17,18,19,20,21,22,23,24] (.split 144 (.run [25,26,27,28,29] (.split 149 (.r [30,31,32,33,34,35,36] (.cond (.q 3 (.q 4 (.q 3 .nil))) (.q 4 (.q 3 .nil)))) (.r [30,31,32,33,34,35,36] (.lit (.q 4 (.q 3 .nil)))))) (.r [25,26,27,28,29,30,31,32,33,34,35,36] (.lit (.q 4 (.q 3 .nil)))))) (.run [3,4,5,6] (.split 126 (.run [7,8,9,10,11,12,13,14,15,16,17,18,19,20,21,22,23,24] (.split 144 (.run [25,26,27,28,29] (.split 149 (.r [30,31,32,33,34,35,36] (.cond (.q 3 (.q 4 (.q 3 .nil))) (.q 4 (.q 3 .nil)))) (.r [30,31,32,33,34,35,36] (.lit (.q 4 (.q 3 .nil)))))) (.r [25,26,27,28,29,30,31,32,33,34,35,36] (.lit (.q 4 (.q 3 .nil)))))) (.run [7,8,9,10] (.split 130 (.run [11,12,13,14,15,16,17,18,19,20,21,22,23,24] (.split 144 (.run [25,26,27,28,29] (.split 149 (.r [30,31,32,33,34,35,36] (.cond (.q 3 (.q 4 (.q 3 .nil))) (.q 4 (.q 3 .nil)))) (.r [30,31,32,33,34,35,36] (.lit (.q 4 (.q 3 .nil)))))) (.r [25,26,27,28,29,30,31,32,33,34,35,36] (.lit (.q 4 (.q 3 .nil)))))) (.run [11,12,13] (.split 133 (.run [14,15,16,17,18,19] (.split 139 (.run [20,21,22,23,24] (.split 144 (.run [25,26,27,28,29] (.split 149 (.r [30,31,32,33,34,35,36] (.cond (.q 3 (.q 4 (.q 3 .nil))) (.q 4 (.q 3 .nil)))) (.r [30,31,32,33,34,35,36] (.lit (.q 4 (.q 3 .nil)))))) (.r [25,26,27,28,29,30,31,32,33,34,35,36] (.lit (.q 4 (.q 3 .nil)))))) (.r [20,21,22,23,24,25,26,27,28,29,30,31,32,33,34,35,36] (.lit (.q 4 (.q 3 .nil)))))) (.r [14,15,16,17,18,19,20,21,22,23,24,25,26,27,28,29,30,31,32,33,34,35,36] (.lit (.q 4 (.q 3 .nil))))))))))))))))))) (.q 3 (.cond (.q 1 (.q 10 (.q 5 (.q 4 .nil)))) (.q 4 .nil)))))))))
theorem vc107 {b1 o2 n3 n4 t5} {R w} (h : V107 b1 o2 n3 n4 t5 R w) : Cl Try.prog 107 [.pointer (some ⟨b1, o2, none⟩), .int .i64 n3, .int .i64 n4, .bool t5] w R :=
  cl_of scr107 Try.func107 (by kernel_rfl) _ _ (by kernel_rfl) h
/-- (*spec.l6Cur).good -/
def V66 (b1 o2 : Nat) (t3 : Bool) (R : Rt) : Pred := fun w =>
  clV 107 ([.pointer (some ⟨b1, o2, none⟩), .int .i64 3, .int .i64 9, .bool t3]) w R fun r7 w6 => ∃ s4, ∃ n5, r7 = .tuple #[.string s4, .int .i64 n5] ∧ (cB (decide (((ByteArray.size s4 : Nat) : Int) > 120)) (R (.returned (.string (⟨#[40, 97, 124, 97, 98, 41, 42, 99, 63]⟩ : ByteArray))) w6) (R (.returned (.string s4)) w6))
def scr66 : Scr := (.q 1 (.q 8 (.q 3 (.cond (.q 1 .nil) (.q 2 .nil)))))
theorem vc66 {b1 o2 t3} {R w} (h : V66 b1 o2 t3 R w) : Cl Try.prog 66 [.pointer (some ⟨b1, o2, none⟩), .bool t3] w R :=
  cl_of scr66 Try.func66 (by kernel_rfl) _ _ (by kernel_rfl) h
/-- spec.Drawn -/
def V20 (a1 : Option Addr) (l1 c1 : Nat) (R : Rt) : Pred := fun w =>
  newC [.slice a1 l1 c1, .int .i64 0, .int .u64 0] 76 (fun b2 w3 => clS 66 ([.pointer (some ⟨b2, 0, none⟩), .bool false]) w3 R fun s4 w5 => clS 67 ([.pointer (some ⟨b2, 0, none⟩), .int .i64 14]) w5 R fun s7 w8 => R (.returned (.tuple #[.string s4, .string s7])) w8) w
def scr20 : Scr := (.q 2 (.q 4 (.q 3 (.q 5 .nil))))
theorem vc20 {a1 l1 c1} {R w} (h : V20 a1 l1 c1 R w) : Cl Try.prog 20 [.slice a1 l1 c1] w R :=
  cl_of scr20 Try.func20 (by kernel_rfl) _ _ (by kernel_rfl) h
/-- spec.Plain -/
def V55 (a1 : Option Addr) (l1 c1 : Nat) (R : Rt) : Pred := fun w =>
  newC [.slice a1 l1 c1, .int .i64 0, .int .u64 0] 76 (fun b2 w3 => clS 66 ([.pointer (some ⟨b2, 0, none⟩), .bool true]) w3 R fun s4 w5 => clS 67 ([.pointer (some ⟨b2, 0, none⟩), .int .i64 10]) w5 R fun s7 w8 => R (.returned (.tuple #[.string s4, .string s7])) w8) w
def scr55 : Scr := (.q 2 (.q 4 (.q 3 (.q 5 .nil))))
theorem vc55 {a1 l1 c1} {R w} (h : V55 a1 l1 c1 R w) : Cl Try.prog 55 [.slice a1 l1 c1] w R :=
  cl_of scr55 Try.func55 (by kernel_rfl) _ _ (by kernel_rfl) h
end Go.Proofs.Ytngbiaeliphdjaa.V
/- Printed by vcgen.py, a program of this session: formulas of Go functions, each with the proof that it gives the function's contract. No statement of the seat is proved here. -/
namespace Go.Proofs.Ytngbiaeliphdjaa.V
open Go.Vc Go.Proofs
set_option linter.unusedVariables false
set_option maxRecDepth 100000
/-- laws.wByte -/
def V28 (a1 : Option Addr) (l1 c1 : Nat) (n2 : Int) (R : Rt) : Pred := fun w =>
  (cB (((l1 : Nat) : Int) == 0) (R (.returned (.int .i64 0)) w) (((((l1 : Nat) : Int) : Int) ≠ 0) ∧ ixS a1 l1 (Int.tmod n2 ((l1 : Nat) : Int)) fun b3 o4 => lK .u8 w b3 (o4 + (Int.toNat (Int.tmod n2 ((l1 : Nat) : Int))) * 1) fun n5 => R (.returned (.int .i64 (IntKind.wrap .i64 n5))) w))
def scr28 : Scr := (.q 1 (.q 3 (.cond (.q 1 .nil) (.q 9 .nil))))
theorem vc28 {a1 l1 c1 n2} {R w} (h : V28 a1 l1 c1 n2 R w) : Cl Try.prog 28 [.slice a1 l1 c1, .int .i64 n2] w R :=
  cl_of scr28 Try.func28 (by kernel_rfl) _ _ (by kernel_rfl) h
/-- laws.wNumber -/
def V29 (n1 : Int) (R : Rt) : Pred := fun w =>
  (cB (decide (n1 < 10)) (newC [.int .u8 (IntKind.wrap .u8 (IntKind.wrap .i64 (48 + n1)))] 5 (fun b2 w3 => ∃ s4, (convert 22 9 (.slice (some ⟨b2, 0, none⟩) 1 1)).run Try.prog w3 = .ok (.string s4) w3 ∧ R (.returned (.string s4)) w3) w) (((10 : Int) ≠ 0) ∧ ((10 : Int) ≠ 0) ∧ newC [.int .u8 (IntKind.wrap .u8 (IntKind.wrap .i64 (48 + (IntKind.wrap .i64 (Int.tdiv n1 10))))), .int .u8 (IntKind.wrap .u8 (IntKind.wrap .i64 (48 + (Int.tmod n1 10))))] 5 (fun b5 w6 => ∃ s7, (convert 22 9 (.slice (some ⟨b5, 0, none⟩) 2 2)).run Try.prog w6 = .ok (.string s7) w6 ∧ R (.returned (.string s7)) w6) w))
def scr29 : Scr := (.q 1 (.q 2 (.cond (.q 6 .nil) (.q 11 .nil))))
theorem vc29 {n1} {R w} (h : V29 n1 R w) : Cl Try.prog 29 [.int .i64 n1] w R :=
  cl_of scr29 Try.func29 (by kernel_rfl) _ _ (by kernel_rfl) h
/-- laws.wA -/
def V31 (n1 : Int) (R : Rt) : Pred := fun w =>
  ∃ (I2 : Nat → Int → ByteArray → World → Prop), (∃ k4, I2 k4 n1 (⟨#[]⟩ : ByteArray) w) ∧ ∀ k3 (d6 : Nat → Value) n7 s8 w5, I2 k3 n7 s8 w5 → (cB (decide (n7 > 0)) ((s8.size + (⟨#[97]⟩ : ByteArray).size ≤ 9223372036854775807) ∧ (∃ m9, m9 < k3 ∧ I2 m9 (IntKind.wrap .i64 (n7 - 1)) (s8 ++ (⟨#[97]⟩ : ByteArray)) w5)) (R (.returned (.string s8)) w5))
def scr31 : Scr := (.q 1 (.q 1 (.loop (dr [(0, some (.int .i64)), (3, some .str)] [(4,6)]) (.q 2 (.cond (.q 3 (.q 3 .nil)) (.q 2 .nil))))))
theorem vc31 {n1} {R w} (h : V31 n1 R w) : Cl Try.prog 31 [.int .i64 n1] w R :=
  cl_of scr31 Try.func31 (by kernel_rfl) _ _ (by kernel_rfl) h
/-- (*spec.l6Cur).next -/
def V115 (b1 o2 : Nat) (R : Rt) : Pred := fun w =>
  drw (fun w3 => lI w3 b1 (o2 + 1) fun n4 => lL w3 b1 o2 fun a5 l5 c5 => (cB (decide (n4 < ((l5 : Nat) : Int))) (drw (fun w6 => lL w6 b1 o2 fun a7 l7 c7 => lI w6 b1 (o2 + 1) fun n8 => ixS a7 l7 n8 fun b9 o10 => lK .u8 w6 b9 (o10 + (Int.toNat n8) * 1) fun n11 => lI w6 b1 (o2 + 1) fun n12 => stW b1 (o2 + 1) [.int .i64 (IntKind.wrap .i64 (n12 + 1))] (fun w13 => lK .u64 w13 b1 (o2 + 2) fun n14 => stW b1 (o2 + 2) [.int .u64 (IntKind.wrap .u64 ((IntKind.wrap .u64 ((IntKind.wrap .u64 (n14 * 6364136223846793005)) + (IntKind.wrap .u64 n11))) + 1442695040888963407))] (fun w15 => R (.returned (.int .i64 (IntKind.wrap .i64 n11))) w15) w13) w6) w3) (lK .u64 w3 b1 (o2 + 2) fun n16 => stW b1 (o2 + 2) [.int .u64 (IntKind.wrap .u64 ((IntKind.wrap .u64 (n16 * 6364136223846793005)) + 1442695040888963407))] (fun w17 => lI w17 b1 (o2 + 1) fun n18 => stW b1 (o2 + 1) [.int .i64 (IntKind.wrap .i64 (n18 + 1))] (fun w19 => lK .u64 w19 b1 (o2 + 2) fun n20 => ((0 : Int) ≤ 40) ∧ R (.returned (.int .i64 (IntKind.wrap .i64 (IntKind.wrap .u64 (((BitVec.ofInt 64 (Int.fdiv n20 (2 ^ (min (Int.toNat 40) 64))) &&& BitVec.ofInt 64 255).toNat : Int)))))) w19) w17) w3))) w
def scr115 : Scr := (.q 1 (.q 10 (.cond (.q 11 (.q 8 (.q 13 (.q 3 .nil)))) (.q 10 (.q 8 (.q 8 .nil))))))
theorem vc115 {b1 o2} {R w} (h : V115 b1 o2 R w) : Cl Try.prog 115 [.pointer (some ⟨b1, o2, none⟩)] w R :=
  cl_of scr115 Try.func115 (by kernel_rfl) _ _ (by kernel_rfl) h
/-- (*spec.l6Cur).pick -/
def V82 (b1 o2 : Nat) (n3 : Int) (R : Rt) : Pred := fun w =>
  (cB (decide (n3 ≤ 1)) (R (.returned (.int .i64 0)) w) (clI 115 ([.pointer (some ⟨b1, o2, none⟩)]) w R fun n4 w5 => (cB (decide (n3 > 200)) (clI 115 ([.pointer (some ⟨b1, o2, none⟩)]) w5 R fun n7 w8 => ((n3 : Int) ≠ 0) ∧ R (.returned (.int .i64 (Int.tmod (IntKind.wrap .i64 ((IntKind.wrap .i64 (n4 * 256)) + n7)) n3))) w8) (((n3 : Int) ≠ 0) ∧ R (.returned (.int .i64 (Int.tmod n4 n3))) w5))))
def scr82 : Scr := (.q 1 (.q 2 (.cond (.q 1 .nil) (.q 3 (.q 2 (.cond (.q 6 (.q 4 .nil)) (.q 4 .nil)))))))
theorem vc82 {b1 o2 n3} {R w} (h : V82 b1 o2 n3 R w) : Cl Try.prog 82 [.pointer (some ⟨b1, o2, none⟩), .int .i64 n3] w R :=
  cl_of scr82 Try.func82 (by kernel_rfl) _ _ (by kernel_rfl) h
/-- (*spec.l6Cur).bytes -/
def V81 (b1 o2 : Nat) (n3 : Int) (R : Rt) : Pred := fun w =>
  ∃ (I4 : Nat → Int → Option Addr → Nat → Nat → World → Prop), (∃ k6, I4 k6 n3 none 0 0 w) ∧ ∀ k5 (d8 : Nat → Value) n9 a10 l10 c10 w7, I4 k5 n9 a10 l10 c10 w7 → (cB (decide (n9 > 0)) (clI 115 ([.pointer (some ⟨b1, o2, none⟩)]) w7 R fun n11 w12 => newC [.int .u8 (IntKind.wrap .u8 n11)] 5 (fun b14 w15 => ∃ a16 l16 c16, ∃ w17, (Builtin.append_ #[22, 22] 22 #[.slice a10 l10 c10, .slice (some ⟨b14, 0, none⟩) 1 1]).run Try.prog w15 = .ok (.slice a16 l16 c16) w17 ∧ (∃ m18, m18 < k5 ∧ I4 m18 (IntKind.wrap .i64 (n9 - 1)) a16 l16 c16 w17)) w12) (∃ s19, (convert 22 9 (.slice a10 l10 c10)).run Try.prog w7 = .ok (.string s19) w7 ∧ R (.returned (.string s19)) w7))
def scr81 : Scr := (.q 1 (.q 1 (.loop (dr [(1, some (.int .i64)), (5, some .slice)] [(6,10)]) (.q 2 (.cond (.q 7 (.q 3 .nil)) (.q 3 .nil))))))
theorem vc81 {b1 o2 n3} {R w} (h : V81 b1 o2 n3 R w) : Cl Try.prog 81 [.pointer (some ⟨b1, o2, none⟩), .int .i64 n3] w R :=
  cl_of scr81 Try.func81 (by kernel_rfl) _ _ (by kernel_rfl) h
/-- spec.Texts -/
def V32 (a1 : Option Addr) (l1 c1 : Nat) (R : Rt) : Pred := fun w =>
  newC [.slice a1 l1 c1, .int .i64 0, .int .u64 0] 76 (fun b2 w3 => clI 82 ([.pointer (some ⟨b2, 0, none⟩), .int .i64 28]) w3 R fun n4 w5 => clS 81 ([.pointer (some ⟨b2, 0, none⟩), .int .i64 n4]) w5 R fun s7 w8 => R (.returned (.string s7)) w8) w
def scr32 : Scr := (.q 1 (.q 4 (.q 5 .nil)))
theorem vc32 {a1 l1 c1} {R w} (h : V32 a1 l1 c1 R w) : Cl Try.prog 32 [.slice a1 l1 c1] w R :=
  cl_of scr32 Try.func32 (by kernel_rfl) _ _ (by kernel_rfl) h
/-- (*spec.l6Cur).text -/
def V67 (b1 o2 : Nat) (n3 : Int) (R : Rt) : Pred := fun w =>
  clI 82 ([.pointer (some ⟨b1, o2, none⟩), .int .i64 (IntKind.wrap .i64 (n3 + 1))]) w R fun n4 w5 => ∃ (I7 : Nat → Option Addr → Nat → Nat → Int → World → Prop), (∃ k9, I7 k9 none 0 0 n4 w5) ∧ ∀ k8 (d11 : Nat → Value) a12 l12 c12 n13 w10, I7 k8 a12 l12 c12 n13 w10 → (cB (decide (n13 > 0)) (clI 82 ([.pointer (some ⟨b1, o2, none⟩), .int .i64 12]) w10 R fun n14 w15 => (cB (n14 == 0) (clI 82 ([.pointer (some ⟨b1, o2, none⟩), .int .i64 6]) w15 R fun n17 w18 => (ixT (⟨#[49, 95, 32, 10, 92, 45]⟩ : ByteArray) n17) ∧ newC [.int .u8 (byteAt (⟨#[49, 95, 32, 10, 92, 45]⟩ : ByteArray) (Int.toNat n17))] 5 (fun b20 w21 => ∃ a22 l22 c22, ∃ w23, (Builtin.append_ #[22, 22] 22 #[.slice a12 l12 c12, .slice (some ⟨b20, 0, none⟩) 1 1]).run Try.prog w21 = .ok (.slice a22 l22 c22) w23 ∧ (∃ m24, m24 < k8 ∧ I7 m24 a22 l22 c22 (IntKind.wrap .i64 (n13 - 1)) w23)) w18) (clI 82 ([.pointer (some ⟨b1, o2, none⟩), .int .i64 3]) w15 R fun n25 w26 => newC [.int .u8 (IntKind.wrap .u8 (IntKind.wrap .i64 (97 + n25)))] 5 (fun b28 w29 => ∃ a30 l30 c30, ∃ w31, (Builtin.append_ #[22, 22] 22 #[.slice a12 l12 c12, .slice (some ⟨b28, 0, none⟩) 1 1]).run Try.prog w29 = .ok (.slice a30 l30 c30) w31 ∧ (∃ m32, m32 < k8 ∧ I7 m32 a30 l30 c30 (IntKind.wrap .i64 (n13 - 1)) w31)) w26))) (clI 82 ([.pointer (some ⟨b1, o2, none⟩), .int .i64 9]) w10 R fun n33 w34 => (cB (n33 == 0) ((cB (decide (((l12 : Nat) : Int) < n3)) (newC [.int .u8 10] 5 (fun b36 w37 => ∃ a38 l38 c38, ∃ w39, (Builtin.append_ #[22, 22] 22 #[.slice a12 l12 c12, .slice (some ⟨b36, 0, none⟩) 1 1]).run Try.prog w37 = .ok (.slice a38 l38 c38) w39 ∧ ∃ s40, (convert 22 9 (.slice a38 l38 c38)).run Try.prog w39 = .ok (.string s40) w39 ∧ R (.returned (.string s40)) w39) w34) (∃ s41, (convert 22 9 (.slice a12 l12 c12)).run Try.prog w34 = .ok (.string s41) w34 ∧ R (.returned (.string s41)) w34))) (∃ s42, (convert 22 9 (.slice a12 l12 c12)).run Try.prog w34 = .ok (.string s42) w34 ∧ R (.returned (.string s42)) w34))))
def scr67 : Scr := (.q 1 (.q 1 (.q 5 (.loop (dr [(5, some .slice), (6, some (.int .i64))] [(11,20)]) (.q 2 (.cond (.q 3 (.cond (.q 7 (.q 3 .nil)) (.q 8 (.q 3 .nil)))) (.run [0,1,2,3] (.split 34 (.r [4,5,6,7,8] (.cond (.q 4 (.q 3 .nil)) (.q 3 .nil))) (.r [4,5,6,7,8] (.lit (.q 3 .nil)))))))))))
theorem vc67 {b1 o2 n3} {R w} (h : V67 b1 o2 n3 R w) : Cl Try.prog 67 [.pointer (some ⟨b1, o2, none⟩), .int .i64 n3] w R :=
  cl_of scr67 Try.func67 (by kernel_rfl) _ _ (by kernel_rfl) h
end Go.Proofs.Ytngbiaeliphdjaa.V
/- The sequence behind the bytes: from every seed it comes to one place, behind which it is harmless for a while. No statement of the seat is proved here. -/
namespace Go.Vc
set_option linter.unusedVariables false
set_option linter.unusedSimpArgs false
def lg (x : Nat) : Nat := x * 6364136223846793005 + 1442695040888963407
def itg : Nat → Nat → Nat
  | 0, x => x
  | n + 1, x => itg n (lg x)
theorem itg_head (n x : Nat) : itg (n + 1) x = itg n (lg x) := rfl
theorem itg_add : ∀ (m n x : Nat), itg (m + n) x = itg n (itg m x)
  | 0, n, x => by rw [Nat.zero_add]; rfl
  | m + 1, n, x => by rw [Nat.add_right_comm]; exact itg_add m n (lg x)
theorem itg_last (n x : Nat) : itg (n + 1) x = lg (itg n x) := itg_add n 1 x
theorem itg_pow : ∀ k : Nat, ∃ u v : Nat, ∀ z, itg (2 ^ k) z = (1 + 2 ^ (k + 2) * u) * z + 2 ^ k * (1 + 2 * v)
  | 0 => ⟨1591034055961698251, 721347520444481703, fun z => by
      show z * 6364136223846793005 + 1442695040888963407 = _
      omega⟩
  | k + 1 => by
    obtain ⟨u, v, h⟩ := itg_pow k
    refine ⟨u + 2 ^ (k + 1) * u * u, v + 2 ^ k * u + 2 ^ (k + 1) * u * v, fun z => ?_⟩
    rw [show 2 ^ (k + 1) = 2 ^ k + 2 ^ k from by rw [Nat.pow_succ]; omega, itg_add, h, h]
    rw [show 2 ^ (k + 1 + 2) = 2 ^ k * 8 from by rw [Nat.pow_add, Nat.pow_add]; omega, show 2 ^ (k + 2) = 2 ^ k * 4 from Nat.pow_add 2 k 2]
    generalize 2 ^ k = P
    grind
theorem mod_two {P z y : Nat} (h : z % P = y % P) (hn : z % (P * 2) ≠ y % (P * 2)) : (z + P) % (P * 2) = y % (P * 2) := by
  by_cases hP : P = 0
  · subst hP; simp at h hn; exact absurd h hn
  rw [Nat.mod_mul] at hn ⊢
  rw [Nat.mod_mul] at hn ⊢
  rw [Nat.add_mod_right, Nat.add_div_right _ (by omega), h]
  rw [h] at hn
  congr 2
  have : z / P % 2 ≠ y / P % 2 := fun e => hn (by rw [e])
  omega
theorem itg_reach : ∀ (k x y : Nat), ∃ n, n < 2 ^ k ∧ itg n x % 2 ^ k = y % 2 ^ k
  | 0, x, y => ⟨0, by decide, by omega⟩
  | k + 1, x, y => by
    obtain ⟨n, h1, h2⟩ := itg_reach k x y
    obtain ⟨u, v, h⟩ := itg_pow k
    rw [Nat.pow_succ]
    by_cases h3 : itg n x % (2 ^ k * 2) = y % (2 ^ k * 2)
    · exact ⟨n, by omega, h3⟩
    · refine ⟨n + 2 ^ k, by omega, ?_⟩
      rw [itg_add, h, ← mod_two h2 h3]
      generalize itg n x = z
      rw [show 2 ^ (k + 2) = 2 ^ k * 4 from Nat.pow_add 2 k 2]
      generalize 2 ^ k = P
      have : (1 + P * 4 * u) * z + P * (1 + 2 * v) = z + P + P * 2 * (2 * u * z + v) := by grind
      rw [this, Nat.add_mul_mod_self_left]
theorem lg_mod {M x y : Nat} (h : x % M = y % M) : lg x % M = lg y % M := by
  unfold lg
  rw [Nat.add_mod, Nat.mul_mod, h, ← Nat.mul_mod, ← Nat.add_mod]
theorem itg_mod {M : Nat} : ∀ (n : Nat) {x y : Nat}, x % M = y % M → itg n x % M = itg n y % M
  | 0, _, _, h => h
  | n + 1, _, _, h => itg_mod n (lg_mod h)
/-- The place. -/
def lcS : Nat := 138374360053217
def good (v : Nat) : Prop := v % 12 ≠ 4 ∧ v % 12 ≠ 5 ∧ v % 12 ≠ 6 ∧ v % 6 ≠ 0
instance (v : Nat) : Decidable (good v) := by unfold good; infer_instance
theorem good_win : ∀ j : Nat, j < 59 → good (itg (j + 1) lcS % 281474976710656 / 1099511627776) := by
  have : ∀ j : Fin 59, good (itg (j.val + 1) lcS % 281474976710656 / 1099511627776) := by decide +kernel
  exact fun j h => this ⟨j, h⟩
/-- How many draws there may be yet: more than 5059 far from the place; the last 59 ahead of 5000 stand behind it. -/
def Bd (l p sd m : Nat) : Prop := p + m ≤ 1125899906842624 ∧
  (m ≤ 5000 ∨ (5000 < m ∧ m ≤ 5059 ∧ l ≤ p ∧ sd % 281474976710656 = itg (5059 - m) lcS % 281474976710656) ∨ (5059 < m ∧ (l ≤ p ∧ itg (m - 5059) sd % 281474976710656 = lcS % 281474976710656 ∨ p < l ∧ m = 5059 + 281474976710656 + (l - p))))
theorem bd_out {l p sd : Nat} (hp : p ≤ 1048576) (h : l ≤ p) : ∃ n, n < 281474976710656 ∧ Bd l p sd (5059 + n) := by
  obtain ⟨n, h1, h2⟩ := itg_reach 48 sd lcS
  refine ⟨n, h1, by omega, .inr ?_⟩
  by_cases hn : n = 0
  · subst hn
    exact .inl ⟨by omega, by omega, h, h2⟩
  · exact .inr ⟨by omega, .inl ⟨h, by rw [show 5059 + n - 5059 = n from by omega]; exact h2⟩⟩
theorem bd_start {l sd : Nat} (h : l ≤ 1048576) : ∃ m, 5059 ≤ m ∧ Bd l 0 sd m := by
  by_cases hl : l = 0
  · subst hl
    obtain ⟨n, _, h2⟩ := bd_out (l := 0) (p := 0) (sd := sd) (by omega) (by omega)
    exact ⟨_, by omega, h2⟩
  · exact ⟨5059 + 281474976710656 + (l - 0), by omega, by omega, .inr (.inr ⟨by omega, .inr ⟨by omega, rfl⟩⟩)⟩
theorem bd_code {l p sd m sd' : Nat} (h : Bd l p sd m) (hm : 0 < m) (hl : l ≤ 1048576) (hp : p < l) : ∃ m', m' < m ∧ min (m - 1) 5059 ≤ m' ∧ Bd l (p + 1) sd' m' := by
  obtain ⟨h1, h2 | ⟨h2, h3, h4, h5⟩ | ⟨h2, ⟨h3, h4⟩ | ⟨h3, h4⟩⟩⟩ := h
  · exact ⟨m - 1, by omega, by omega, by omega, .inl (by omega)⟩
  · omega
  · omega
  · by_cases he : p + 1 < l
    · exact ⟨m - 1, by omega, by omega, by omega, .inr (.inr ⟨by omega, .inr ⟨he, by omega⟩⟩)⟩
    · obtain ⟨n, h5, h6⟩ := bd_out (l := l) (p := p + 1) (sd := sd') (by omega) (by omega)
      exact ⟨_, by omega, by omega, h6⟩
theorem bd_seq {l p sd m sd' : Nat} (h : Bd l p sd m) (hm : 0 < m) (hp : l ≤ p) (hs : sd' % 281474976710656 = lg sd % 281474976710656) : Bd l (p + 1) sd' (m - 1) := by
  obtain ⟨h1, h2 | ⟨h2, h3, h4, h5⟩ | ⟨h2, ⟨h3, h4⟩ | ⟨h3, h4⟩⟩⟩ := h
  · exact ⟨by omega, .inl (by omega)⟩
  · refine ⟨by omega, ?_⟩
    by_cases h6 : m - 1 ≤ 5000
    · exact .inl h6
    · refine .inr (.inl ⟨by omega, by omega, by omega, ?_⟩)
      rw [show 5059 - (m - 1) = 5059 - m + 1 from by omega, itg_last, hs]
      exact lg_mod h5
  · refine ⟨by omega, .inr ?_⟩
    have h7 : itg (m - 1 - 5059) sd' % 281474976710656 = lcS % 281474976710656 := by
      rw [itg_mod _ hs]
      rw [show m - 5059 = (m - 1 - 5059) + 1 from by omega, itg_head] at h4
      exact h4
    by_cases h6 : m - 1 = 5059
    · rw [h6] at h7 ⊢
      rw [Nat.sub_self] at h7
      exact .inl ⟨by omega, by omega, by omega, by rw [Nat.sub_self]; exact h7⟩
    · exact .inr ⟨by omega, .inl ⟨by omega, h7⟩⟩
  · omega
theorem bd_good {l p sd m sd' : Nat} (h : Bd l p sd m) (h1 : 5000 < m) (h2 : m ≤ 5059) (hs : sd' % 281474976710656 = lg sd % 281474976710656) : l ≤ p ∧ good (sd' / 1099511627776 % 256) := by
  obtain ⟨_, h3 | ⟨_, _, h4, h5⟩ | ⟨h3, _⟩⟩ := h
  · omega
  · refine ⟨h4, ?_⟩
    have h6 : sd' % 281474976710656 = itg (5059 - m + 1) lcS % 281474976710656 := by rw [itg_last, hs]; exact lg_mod h5
    have h7 := good_win (5059 - m) (by omega)
    rw [← h6] at h7
    have h8 : sd' % 281474976710656 / 1099511627776 = sd' / 1099511627776 % 256 := by omega
    rw [← h8]; exact h7
  · omega
end Go.Vc
/- For the rows: what was read stays readable where nothing old has changed; bytes among the arguments. No statement of the seat is proved here. -/
namespace Go.Vc
open Go.RowKit
set_option linter.unusedVariables false
set_option linter.unusedSimpArgs false
theorem trodAll_carry {H : Type} {enc : TypeId × Value → H} {P : Program} {w w' : World} {spare : Nat → Bool} {held : Bool} (hb : Below w.heap.size w w') :
    ∀ {ts : List TypeId} {vs : List Value} {ds : List (DataW H)} {ps : List MemPlace}, DataW.TrodAll enc P w 0 spare held ts vs ds ps → DataW.TrodAll enc P w' 0 spare held ts vs ds ps
  | [], [], [], ps, h => h
  | t :: ts, v :: vs, d :: ds, ps, ⟨p, q, ⟨n, h1⟩, h2, h3⟩ =>
    ⟨p, q, ⟨n, DataW.trod_carry n t v.cells.toList (d, p) h1 fun x hx => hb.same (DataW.trod_lt n t v.cells.toList (d, p) h1 x hx)⟩, trodAll_carry hb h2, h3⟩
  | [], [], _ :: _, _, h => h.elim
  | [], _ :: _, _, _, h => h.elim
  | _ :: _, [], _, _, h => h.elim
  | _ :: _, _ :: _, [], _, h => h.elim
theorem trodAll_back {H : Type} {enc : TypeId × Value → H} {P : Program} {w w' : World} (hb : Below w.heap.size w w') (hl : laidOutB P = true) (hm : mapsRowed P = true)
    (hf : ((List.range P.types.size).all fun t => match P.underlying t with | some (.slice e) => decide (0 < P.cellsOf e) | _ => true) = true) {ts : List TypeId} {vs : List Value} {ds : List (DataW H)} {ps : List MemPlace}
    (ht : (ts.all fun t => decide (t < P.types.size)) = true) (h : DataW.TrodAll enc P w 0 (fun _ => true) true ts vs ds ps) : DataW.TrodAll enc P w' 0 (fun b => decide (b < w.heap.size)) true ts vs ds ps :=
  trodAll_carry hb (DataW.TrodAll.respare (kids_rows hl hm) (fun t e h1 h2 => slices_full_of P hf t e h1 h2) (fun t h1 => of_decide_eq_true (List.all_eq_true.1 ht t h1)) h fun p hp => decide_eq_true (DataW.TrodAll.lt h p hp))

/-- The given bytes: readable, below B. -/
def GBytes (w : World) (B : Nat) (a : Option Addr) (l : Nat) : Prop :=
  l ≤ 1048576 ∧ (l = 0 ∨ ∃ b o, a = some ⟨b, o, none⟩ ∧ b < B ∧ ∀ i, i < l → ∃ n : Int, 0 ≤ n ∧ n ≤ 255 ∧ cellH w.heap b (o + i) = some (.int .u8 n))
theorem open_bytes {H : Type} {enc : TypeId × Value → H} {P : Program} {w : World} {base : Nat} {spare : Nat → Bool} {held : Bool} {r : Reach} {b0 : Nat} {t e : TypeId} {v : Value} {d : DataW H} {ps : List MemPlace}
    (ht : P.underlying t = some (.slice e)) (he : P.underlying e = some (.int .u8)) (hc : P.cellsOf e = 1) (hval : Value.okWide P w r b0 t v) (hd : DataW.Trod enc P w base spare held t v d ps) :
    ∃ a l c, v = .slice a l c ∧ (l ≤ 1048576 → GBytes w w.heap.size a l) := by
  obtain ⟨a0, l0, c0, rfl⟩ := Go.WideShapes.okWide_slice ht hval
  obtain ⟨fuel, hf⟩ := hd
  refine ⟨a0, l0, c0, rfl, fun hl => ⟨hl, ?_⟩⟩
  rcases Go.ChangeShapes.open_ints ht he hc hf with ⟨h1, _⟩ | ⟨a, len, cap, zs, h1, _, hle, _, hlen, _, hcell, hwf⟩
  · simp [Value.cells] at h1
    obtain ⟨rfl, rfl, rfl⟩ := h1
    exact .inl rfl
  · simp [Value.cells] at h1
    obtain ⟨rfl, rfl, rfl⟩ := h1
    by_cases h0 : l0 = 0
    · exact .inl h0
    have hz : l0 ≤ zs.length := by rw [hlen]; split <;> omega
    obtain ⟨b, o, rfl, hcell2⟩ := ints_at hcell (by omega)
    have hcell' : ∀ i, i < zs.length → cellH w.heap b (o + i) = some (.int .u8 (zs.getD i 0)) := fun i hi => by
      rw [← cell?_plain]; exact hcell2 i hi
    refine .inr ⟨b, o, rfl, ?_, fun i hi => ⟨zs.getD i 0, ?_, ?_, hcell' i (by omega)⟩⟩
    · have := hcell' 0 (by omega)
      rcases Nat.lt_or_ge b w.heap.size with h | h
      · exact h
      · unfold cellH at this; rw [Array.getElem?_eq_none h] at this; cases this
    · have := bounds_u8 (hwf (zs.getD i 0) (by rw [List.getD_eq_getElem?_getD, List.getElem?_eq_getElem (by omega)]; exact List.getElem_mem _)); omega
    · have := bounds_u8 (hwf (zs.getD i 0) (by rw [List.getD_eq_getElem?_getD, List.getElem?_eq_getElem (by omega)]; exact List.getElem_mem _)); omega
end Go.Vc
/- A string of one byte, or of two. No statement of the seat is proved here. -/
namespace Go.Proofs.Ytngbiaeliphdjaa.V
open Go.Vc Go.Proofs Go.RowKit
set_option linter.unusedVariables false
set_option linter.unusedSimpArgs false
theorem strOf {x : Int} {y : UInt8} (h : x = (y.toNat : Int)) {w0 w : World} (hb : Below w0.heap.size w0 w) {F : ByteArray → World → Prop}
    (hF : ∀ w', Below w0.heap.size w0 w' → F (B [y]) w') :
    newC [.int .u8 x] 5 (fun (b : Nat) (w1 : World) => ∃ (s : ByteArray), (convert 22 9 (.slice (some ⟨b, 0, none⟩) 1 1)).run Try.prog w1 = .ok (.string s) w1 ∧ F s w1) w := by
  subst h
  have hb' : Below w0.heap.size w0 (newW w (.cells ⟨[.int .u8 (y.toNat : Int)]⟩ 5)) := hb.vnew (by have := hb.size; omega) _
  exact ⟨B [y], conv_run Try.underlying22 Try.underlying9 Try.underlying5 (l := [y]) rfl (cellsAt_newW w _ _), hF _ hb'⟩
theorem strOf2 {x x' : Int} {y y' : UInt8} (h : x = (y.toNat : Int)) (h' : x' = (y'.toNat : Int)) {w0 w : World} (hb : Below w0.heap.size w0 w) {F : ByteArray → World → Prop}
    (hF : ∀ w', Below w0.heap.size w0 w' → F (B [y, y']) w') :
    newC [.int .u8 x, .int .u8 x'] 5 (fun (b : Nat) (w1 : World) => ∃ (s : ByteArray), (convert 22 9 (.slice (some ⟨b, 0, none⟩) 2 2)).run Try.prog w1 = .ok (.string s) w1 ∧ F s w1) w := by
  subst h; subst h'
  have hb' : Below w0.heap.size w0 (newW w (.cells ⟨[.int .u8 (y.toNat : Int), .int .u8 (y'.toNat : Int)]⟩ 5)) := hb.vnew (by have := hb.size; omega) _
  exact ⟨B [y, y'], conv_run Try.underlying22 Try.underlying9 Try.underlying5 (l := [y, y']) rfl (cellsAt_newW w _ _), hF _ hb'⟩
theorem u8_of {n : Int} (h : 0 ≤ n ∧ n ≤ 255) : IntKind.wrap .u8 n = ((UInt8.ofNat n.toNat).toNat : Int) := by
  rw [w8]
  simp
  omega
end Go.Proofs.Ytngbiaeliphdjaa.V
/- The functions that draw, over their cursor: what they draw, and how many draws there may be yet. No statement of the seat is proved here. -/
namespace Go.Proofs.Ytngbiaeliphdjaa.V
open Go.Vc Go.Proofs Go.RowKit
set_option linter.unusedVariables false
set_option linter.unusedSimpArgs false

theorem _root_.Go.Vc.GBytes.ext {S : Nat → Prop} {w w' : World} {B : Nat} {a : Option Addr} {l : Nat} (h : GBytes w B a l) (e : Ext S w w') (hB : B ≤ w.heap.size) (hs : ∀ k, k < B → ¬ S k) : GBytes w' B a l := by
  refine ⟨h.1, h.2.imp id ?_⟩
  rintro ⟨b, o, rfl, hb, hc⟩
  refine ⟨b, o, rfl, hb, fun i hi => ?_⟩
  obtain ⟨n, h1, h2, h3⟩ := hc i hi
  exact ⟨n, h1, h2, by rw [e.cellH (by omega) (hs b hb)]; exact h3⟩
def Cur (w : World) (b B : Nat) (a : Option Addr) (l c m : Nat) : Prop :=
  (∃ (p : Nat) (sd : Nat), Blk w.heap b 76 [.slice a l c, .int .i64 (p : Int), .int .u64 (sd : Int)] ∧ sd < 18446744073709551616 ∧ Bd l p sd m) ∧ GBytes w B a l ∧ B ≤ b ∧ l ≤ 1048576
theorem Cur.lt {w : World} {b B : Nat} {a : Option Addr} {l c m : Nat} (h : Cur w b B a l c m) : b < w.heap.size := by obtain ⟨⟨p, sd, h, _⟩, _⟩ := h; exact h.lt
theorem Cur.ext {S : Nat → Prop} {w w' : World} {b B : Nat} {a : Option Addr} {l c m : Nat} (h : Cur w b B a l c m) (e : Ext S w w') (hs : ∀ k, k ≤ b → ¬ S k) : Cur w' b B a l c m := by
  have hlt := h.lt
  obtain ⟨⟨p, sd, h1, h2⟩, h3, h4, h5⟩ := h
  exact ⟨⟨p, sd, h1.keep e (hs b (by omega)), h2⟩, h3.ext e (by omega) (fun k hk => hs k (by omega)), h4, h5⟩
theorem Cur.below {w w' : World} {b B : Nat} {a : Option Addr} {l c m : Nat} (h : Cur w b B a l c m) (e : Below w.heap.size w w') : Cur w' b B a l c m :=
  h.ext (S := fun _ => False) (Ext.of_below e) fun _ _ h => h
theorem Cur.blk {w w' : World} {b k : Nat} {e : TypeId} {cs : List Value} (hk : Blk w.heap k e cs) (hb : b < k) (E : Ext (fun k => k = b) w w') : Blk w'.heap k e cs := hk.keep E (by omega)
/-- What a drawing leaves: the value, and how many draws there may be yet. -/
def Drew (w : World) (b B : Nat) (a : Option Addr) (l c : Nat) (φ : Value → Nat → Prop) : Ending → World → Prop :=
  fun e w' => ∃ v m', e = .returned v ∧ φ v m' ∧ Cur w' b B a l c m' ∧ Ext (fun k => k = b) w w'
theorem u64w {n : Int} : IntKind.wrap .u64 n = n % 18446744073709551616 := by
  have h1 : (2 ^ IntKind.u64.bits : Int) = 18446744073709551616 := by decide
  have h3 : IntKind.u64.signed = false := rfl
  unfold IntKind.wrap
  simp only [h1, h3, Bool.false_and, Bool.false_eq_true, if_false]
theorem lg_u64 (sd : Nat) : IntKind.wrap .u64 ((IntKind.wrap .u64 ((sd : Int) * 6364136223846793005)) + 1442695040888963407) = ((lg sd % 18446744073709551616 : Nat) : Int) := by
  rw [u64w, u64w]; unfold lg; omega
theorem top_byte {sd : Nat} (h : sd < 18446744073709551616) : IntKind.wrap .i64 (IntKind.wrap .u64 (((BitVec.ofInt 64 (Int.fdiv (sd : Int) (2 ^ (min (Int.toNat 40) 64))) &&& BitVec.ofInt 64 255).toNat : Int))) = ((sd / 1099511627776 % 256 : Nat) : Int) := by
  have e : (2 : Int) ^ (min (Int.toNat 40) 64) = 1099511627776 := by decide
  rw [e, Int.fdiv_eq_ediv_of_nonneg _ (by decide)]
  have e2 : (BitVec.ofInt 64 ((sd : Int) / 1099511627776) &&& BitVec.ofInt 64 255).toNat = sd / 1099511627776 % 256 := by
    rw [BitVec.toNat_and]
    have h1 : (BitVec.ofInt 64 ((sd : Int) / 1099511627776)).toNat = sd / 1099511627776 := by
      rw [BitVec.toNat_ofInt]
      have : ((2 ^ 64 : Nat) : Int) = 18446744073709551616 := by decide
      rw [this]; omega
    have h2 : (BitVec.ofInt 64 255).toNat = 2 ^ 8 - 1 := by decide
    rw [h1, h2, Nat.and_two_pow_sub_one_eq_mod]
  rw [e2, u64w, w64 (by omega)]
  omega
theorem next_ok {w : World} {b B : Nat} {a : Option Addr} {l c m : Nat} (h : Cur w b B a l c m) (hm : 0 < m) :
    Cl Try.prog 115 [.pointer (some ⟨b, 0, none⟩)] w (Drew w b B a l c fun v m' => m' < m ∧ min (m - 1) 5059 ≤ m' ∧ ∃ n : Nat, v = .int .i64 (n : Int) ∧ n ≤ 255 ∧ (5000 < m → m ≤ 5059 → good n)) := by
  apply vc115
  unfold V115
  obtain ⟨⟨p, sd, hB, hsd, hbd⟩, hC, hb, hl⟩ := h
  have hpl := hB.lt
  have hp := hbd.1
  refine drw_in fun w1 q1 e1 => ?_
  have hB1 := hB.keep e1 fun h => h
  refine ⟨p, hB1.cell 1, a, l, c, hB1.cell 0, fun g => ?_, fun g => ?_⟩
  · have g' : p < l := by have := of_decide_eq_true g; omega
    refine drw_in fun w2 q2 e2 => ?_
    have hB2 := hB1.keep e2 fun h => h
    have hC2 := (hC.ext e1 (by omega) (fun _ _ h => h)).ext e2 (by have := e1.size; omega) (fun _ _ h => h)
    rcases hC2.2 with h0 | ⟨b', o', rfl, hb', hc⟩
    · omega
    obtain ⟨n, hn1, hn2, hn3⟩ := hc p g'
    refine ⟨_, l, c, hB2.cell 0, p, hB2.cell 1, b', o', ⟨rfl, by omega, by omega⟩, n, ?_, p, hB2.cell 1, ?_⟩
    · rw [show (Int.toNat (p : Int)) * 1 = p from by omega]; exact hn3
    refine stW_in hB2 (by show 0 + 1 + 1 ≤ 3; decide) fun w3 s3 k3 e3 => ?_
    refine ⟨sd, k3.cell 2, ?_⟩
    refine stW_in k3 (by show 0 + 2 + 1 ≤ 3; decide) fun w4 s4 k4 e4 => ?_
    have hE : Ext (fun k => k = b) w w4 := (((Ext.mono e1 fun _ _ h => h.elim).trans (Ext.mono e2 fun _ _ h => h.elim)).trans e3).trans e4
    have hw : IntKind.wrap .i64 ((p : Int) + 1) = ((p + 1 : Nat) : Int) := by rw [w64 (by omega)]; omega
    obtain ⟨sd', hsd', hlt'⟩ : ∃ sd' : Nat, (IntKind.wrap .u64 ((IntKind.wrap .u64 ((IntKind.wrap .u64 ((sd : Int) * 6364136223846793005)) + (IntKind.wrap .u64 n))) + 1442695040888963407)) = (sd' : Int) ∧ sd' < 18446744073709551616 := by
      rw [u64w]
      generalize (IntKind.wrap .u64 ((IntKind.wrap .u64 ((sd : Int) * 6364136223846793005)) + (IntKind.wrap .u64 n))) + 1442695040888963407 = x
      exact ⟨(x % 18446744073709551616).toNat, by omega, by omega⟩
    obtain ⟨m', hm1, hm2, hm3⟩ := bd_code hbd hm hl g' (sd' := sd')
    refine ⟨_, m', rfl, ⟨hm1, hm2, n.toNat, by rw [w64 (by omega), Int.toNat_of_nonneg hn1], by omega, fun h1 h2 => ?_⟩, ⟨⟨p + 1, sd', ?_, hlt', hm3⟩, hC.ext hE (by omega) (fun k hk => by omega), hb, hl⟩, hE⟩
    · have := (bd_good hbd h1 h2 (sd' := lg sd) rfl).1; omega
    · rw [← hw, ← hsd']; exact k4
  · have g' : l ≤ p := by have := of_decide_eq_false g; omega
    refine ⟨sd, hB1.cell 2, ?_⟩
    refine stW_in hB1 (by show 0 + 2 + 1 ≤ 3; decide) fun w3 s3 k3 e3 => ?_
    refine ⟨p, k3.cell 1, ?_⟩
    refine stW_in k3 (by show 0 + 1 + 1 ≤ 3; decide) fun w4 s4 k4 e4 => ?_
    have hE : Ext (fun k => k = b) w w4 := ((Ext.mono e1 fun _ _ h => h.elim).trans e3).trans e4
    have hw : IntKind.wrap .i64 ((p : Int) + 1) = ((p + 1 : Nat) : Int) := by rw [w64 (by omega)]; omega
    have k4' : Blk w4.heap b 76 [.slice a l c, .int .i64 ((p + 1 : Nat) : Int), .int .u64 ((lg sd % 18446744073709551616 : Nat) : Int)] := by rw [← hw, ← lg_u64]; exact k4
    have hlt : lg sd % 18446744073709551616 < 18446744073709551616 := Nat.mod_lt _ (by decide)
    have hcg : lg sd % 18446744073709551616 % 281474976710656 = lg sd % 281474976710656 := by omega
    generalize lg sd % 18446744073709551616 = sd' at *
    refine ⟨_, k4'.cell 2, by decide, _, m - 1, rfl, ⟨by omega, by omega, sd' / 1099511627776 % 256, by rw [top_byte hlt], by omega, fun h1 h2 => (bd_good hbd h1 h2 hcg).2⟩, ⟨⟨p + 1, sd', k4', hlt, bd_seq hbd hm g' hcg⟩, hC.ext hE (by omega) (fun k hk => by omega), hb, hl⟩, hE⟩
/-- A draw of at most 200 things. -/
theorem pick_ok {w : World} {b B : Nat} {a : Option Addr} {l c m : Nat} (h : Cur w b B a l c m) (hm : 0 < m) (n : Nat) (h1 : 2 ≤ n) (h2 : n ≤ 200) :
    Cl Try.prog 82 [.pointer (some ⟨b, 0, none⟩), .int .i64 (n : Int)] w (Drew w b B a l c fun v m' => m' < m ∧ min (m - 1) 5059 ≤ m' ∧ ∃ r : Nat, v = .int .i64 (r : Int) ∧ r < n ∧ (5000 < m → m ≤ 5059 → (n = 12 → r ≠ 4 ∧ r ≠ 5 ∧ r ≠ 6) ∧ (n = 6 → r ≠ 0))) := by
  apply vc82
  unfold V82
  refine ⟨fun g => by have := of_decide_eq_true g; omega, fun _ => ?_⟩
  refine (next_ok h hm).use fun e w1 he => ?_
  obtain ⟨_, m', rfl, ⟨h3, h4, x, rfl, hx, hg⟩, hC1, e1⟩ := he
  refine ⟨x, rfl, fun g1 => by have := of_decide_eq_true g1; omega, fun _ => ?_⟩
  refine ⟨by omega, _, m', rfl, ⟨h3, h4, x % n, ?_, Nat.mod_lt _ (by omega), fun h5 h6 => ?_⟩, hC1, e1⟩
  · rw [Int.tmod_eq_emod_of_nonneg (by omega), Int.natCast_emod]
  · have := hg h5 h6
    unfold good at this
    exact ⟨fun h => by subst h; omega, fun h => by subst h; omega⟩
theorem pick0_ok {w : World} {b B : Nat} {a : Option Addr} {l c m : Nat} (h : Cur w b B a l c m) {n : Int} (hn : n ≤ 1) :
    Cl Try.prog 82 [.pointer (some ⟨b, 0, none⟩), .int .i64 n] w (Drew w b B a l c fun v m' => m' = m ∧ v = .int .i64 0) := by
  apply vc82
  unfold V82
  exact ⟨fun _ => ⟨_, m, rfl, ⟨rfl, rfl⟩, h, Ext.refl _ _⟩, fun g => by have := of_decide_eq_false g; omega⟩
/-- Any draw. -/
theorem pickN_ok {w : World} {b B : Nat} {a : Option Addr} {l c m : Nat} (h : Cur w b B a l c m) (hm : 0 < m) (n : Nat) (h0 : 1 ≤ n) (h2 : n ≤ 200) :
    Cl Try.prog 82 [.pointer (some ⟨b, 0, none⟩), .int .i64 (n : Int)] w (Drew w b B a l c fun v m' => m' ≤ m ∧ min (m - 1) 5059 ≤ m' ∧ ∃ r : Nat, v = .int .i64 (r : Int) ∧ r < n) := by
  by_cases h1 : 2 ≤ n
  · refine (pick_ok h hm n h1 h2).use fun e w' he => ?_
    obtain ⟨v, m', h3, ⟨h4, h5, r, h6, h7, _⟩, h8, h9⟩ := he
    exact ⟨v, m', h3, ⟨by omega, h5, r, h6, h7⟩, h8, h9⟩
  · refine (pick0_ok h (by omega)).use fun e w' he => ?_
    obtain ⟨v, m', h3, ⟨h4, h5⟩, h8, h9⟩ := he
    exact ⟨v, m', h3, ⟨by omega, by omega, 0, h5, by omega⟩, h8, h9⟩
theorem elemU8 : Elem Try.prog 22 5 1 1 := ⟨Try.underlying22, by kernel_rfl, by kernel_rfl, ⟨[.int .u8 0], by kernel_rfl, rfl⟩⟩
theorem u8s_append (l m : Bytes) : u8s (l ++ m) = u8s l ++ u8s m := by simp [u8s]
/-- The bytes become a string. -/
theorem row_str {N : Nat} {w : World} {a : Option Addr} {l c : Nat} {xs : Bytes} (h : Row N w 5 1 a l c (u8s xs)) : (convert 22 9 (.slice a l c)).run Try.prog w = .ok (.string (Go.Vc.B xs)) w := by
  obtain ⟨⟨v1, v2, v3⟩, v4, v5⟩ := h
  have hx : xs.length = l := by have := v1; simp [u8s] at this; omega
  rcases v3 with ⟨rfl, rfl⟩ | ⟨bb, cs, rfl, hB, h4, h5⟩
  · have : l = 0 := by omega
    have : xs = [] := List.length_eq_zero_iff.1 (by omega)
    subst this
    exact conv_nil Try.underlying22 Try.underlying9 Try.underlying5
  · exact conv_run Try.underlying22 Try.underlying9 Try.underlying5 (by omega) (hB.cellsAt (n := l * 1) (by simpa using h5) v1.symm)
theorem bytes_ok {w : World} {b B : Nat} {a : Option Addr} {l c m : Nat} (h : Cur w b B a l c m) (n : Nat) (hn : n ≤ 1000000) (hm : n ≤ m) (ht : m ≤ 5059 ∨ n ≤ 5059) :
    Cl Try.prog 81 [.pointer (some ⟨b, 0, none⟩), .int .i64 (n : Int)] w (Drew w b B a l c fun v m' => m' ≤ m ∧ min m 5059 ≤ m' + n ∧ ∃ s : Bytes, v = .string (Go.Vc.B s) ∧ s.length = n) := by
  apply vc81
  unfold V81
  have hbl := h.lt
  refine ⟨fun k j ax lx cx w' => ∃ (i : Nat) (xs : Bytes) (m' : Nat), j = ((n - i : Nat) : Int) ∧ i ≤ n ∧ k = n - i ∧ i = lx ∧ xs.length = i ∧ m' ≤ m ∧ min m 5059 ≤ m' + i ∧ Row w.heap.size w' 5 1 ax lx cx (u8s xs) ∧ Cur w' b B a l c m' ∧ Ext (fun k => k = b) w w', ⟨_, 0, [], m, rfl, by omega, rfl, rfl, rfl, by omega, by omega, Row.nil _ _ (Nat.le_refl _), h, Ext.refl _ _⟩, ?_⟩
  rintro k d j ax lx cx w1 ⟨i, xs, m1, rfl, hi, rfl, hil, hx, hm1, hm2, hR, hC, hE⟩
  refine ⟨fun g => ?_, fun g => ?_⟩
  · have g' : i < n := by have := of_decide_eq_true g; omega
    refine (next_ok hC (by omega)).use fun e w2 he => ?_
    obtain ⟨_, m2, rfl, ⟨h3, h4, y, rfl, hy, _⟩, hC2, e2⟩ := he
    refine ⟨y, rfl, ?_⟩
    have hy : IntKind.wrap .u8 (y : Int) = ((UInt8.ofNat y).toNat : Int) := by rw [w8, UInt8.toNat_ofNat']; omega
    dsimp only
    rw [hy]
    obtain ⟨a3, c3, w3, r1, r2, r3⟩ := (hR.keep e2 fun k hk h => by omega).app1 elemU8 (ys := u8s [UInt8.ofNat y]) (n := 1) rfl rfl (by omega) (by omega)
    refine ⟨a3, _, c3, w3, r1, n - (i + 1), by omega, i + 1, xs ++ [UInt8.ofNat y], m2, ?_, by omega, rfl, by omega, by simp; omega, by omega, by omega, ?_, ?_, ?_⟩
    · rw [w64 (by omega)]; omega
    · rw [u8s_append]; exact r2
    · exact (hC2.ext r3 fun k hk (h : _ ≤ k) => by omega)
    · exact (hE.trans e2).step r3 fun i hi (h : _ ≤ i) => by omega
  · have : i = n := by have := of_decide_eq_false g; omega
    subst this
    exact ⟨Go.Vc.B xs, row_str hR, _, m1, rfl, ⟨hm1, hm2, xs, rfl, hx⟩, hC, hE⟩
/-- A cursor is made. -/
theorem cur_in {w : World} {a : Option Addr} {l c : Nat} (h : GBytes w w.heap.size a l) (hl : l ≤ 1048576) {K : Nat → World → Prop} (hK : ∀ w1 m, 5059 ≤ m → Cur w1 w.heap.size w.heap.size a l c m → Below w.heap.size w w1 → K w.heap.size w1) :
    newC [.slice a l c, .int .i64 0, .int .u64 0] 76 K w := by
  refine newC_in fun w1 s1 k1 e1 => ?_
  obtain ⟨m, hm, hb⟩ := bd_start (l := l) (sd := 0) hl
  exact hK w1 m hm ⟨⟨0, 0, k1, by decide, hb⟩, h.ext e1 (Nat.le_refl _) (fun _ _ h => h), Nat.le_refl _, hl⟩ (Ext.to (Below.refl _ _) e1 fun _ h => h.elim)
theorem texts_ok {w : World} {a : Option Addr} {l c : Nat} (h : GBytes w w.heap.size a l) (hl : l ≤ 1048576) :
    Cl Try.prog 32 [.slice a l c] w (fun e w' => ∃ s : Bytes, e = .returned (.string (Go.Vc.B s)) ∧ s.length ≤ 27 ∧ Below w.heap.size w w') := by
  apply vc32
  unfold V32
  refine cur_in h hl fun w1 m hm hC B1 => ?_
  refine (pick_ok hC (by omega) 28 (by omega) (by omega)).use fun e w2 he => ?_
  obtain ⟨_, m2, rfl, ⟨h3, h4, r, rfl, hr, _⟩, hC2, e2⟩ := he
  refine ⟨r, rfl, ?_⟩
  refine (bytes_ok hC2 r (by omega) (by omega) (by omega)).use fun e w3 he => ?_
  obtain ⟨_, m3, rfl, ⟨_, _, s, rfl, hs⟩, hC3, e3⟩ := he
  exact ⟨_, rfl, s, rfl, by omega, Ext.to (Ext.to B1 e2 fun i h => by omega) e3 fun i h => by omega⟩
end Go.Proofs.Ytngbiaeliphdjaa.V
/- How the pure reader reads a text that is put together of parts. No statement of the seat is proved here. -/
namespace Go.Vc
set_option linter.unusedVariables false
set_option linter.unusedSimpArgs false
/-- The text stands at this place. -/
def Fit (l : Bytes) (i : Nat) (s : Bytes) : Prop := i + s.length ≤ l.length ∧ ∀ k, k < s.length → at_ l (i + k) = at_ s k
theorem at_app_l {s t : Bytes} {k : Nat} (h : k < s.length) : at_ (s ++ t) k = at_ s k := by
  unfold at_; rw [List.getD_eq_getElem?_getD, List.getD_eq_getElem?_getD, List.getElem?_append_left h]
theorem at_app_r {s t : Bytes} {k : Nat} : at_ (s ++ t) (s.length + k) = at_ t k := by
  unfold at_; rw [List.getD_eq_getElem?_getD, List.getD_eq_getElem?_getD, List.getElem?_append_right (by omega), show s.length + k - s.length = k from by omega]
theorem Fit.app {l : Bytes} {i : Nat} {s t : Bytes} (h : Fit l i (s ++ t)) : Fit l i s ∧ Fit l (i + s.length) t := by
  obtain ⟨h1, h2⟩ := h
  rw [List.length_append] at h1 h2
  refine ⟨⟨by omega, fun k hk => ?_⟩, by omega, fun k hk => ?_⟩
  · rw [h2 k (by omega), at_app_l hk]
  · rw [show i + s.length + k = i + (s.length + k) from by omega, h2 _ (by omega), at_app_r]
theorem Fit.self (s : Bytes) : Fit s 0 s := ⟨by omega, fun k _ => by rw [Nat.zero_add]⟩
theorem Fit.at0 {l : Bytes} {i : Nat} {c : UInt8} {r : Bytes} (h : Fit l i (c :: r)) : i < l.length ∧ at_ l i = c.toNat := by
  obtain ⟨h1, h2⟩ := h
  simp only [List.length_cons] at h1 h2
  exact ⟨by omega, h2 0 (by omega)⟩
theorem Fit.tail {l : Bytes} {i : Nat} {c : UInt8} {r : Bytes} (h : Fit l i (c :: r)) : Fit l (i + 1) r := (Fit.app (s := [c]) (t := r) h).2
theorem Fit.le {l : Bytes} {i : Nat} {s : Bytes} (h : Fit l i s) : i + s.length ≤ l.length := h.1
def cntC (n : Nat) : Prop := n = 42 ∨ n = 43 ∨ n = 63 ∨ n = 123
/-- No count stands at this place. -/
def NC (l : Bytes) (j : Nat) : Prop := ¬ (j < l.length ∧ cntC (at_ l j))
def NQ (l : Bytes) (j : Nat) : Prop := ¬ (j < l.length ∧ at_ l j = 63)
theorem NC.q {l : Bytes} {j : Nat} (h : NC l j) : NQ l j := fun ⟨h1, h2⟩ => h ⟨h1, .inr (.inr (.inl h2))⟩
/-- The end, or the end of a group. -/
def EN (l : Bytes) (j : Nat) : Prop := j = l.length ∨ at_ l j = 41
theorem EN.nc {l : Bytes} {j : Nat} (h : EN l j) : NC l j := fun ⟨h1, h2⟩ => by
  unfold cntC at h2
  rcases h with h | h <;> omega
def HD (s : Bytes) : Prop := s = [] ∨ ¬ cntC (at_ s 0)
def subOf (l : Bytes) : Nat → St → Pr (St × Int)
  | 0 => fun _ => .bad 0
  | d + 1 => patP l d
def deepOf : Nat → Bool
  | 0 => true
  | _ + 1 => false
theorem subOf_ok (l : Bytes) (d : Nat) : SubOk l (subOf l d) := by
  cases d with
  | zero => intro i g out j g' out' k _ h; cases h
  | succ d => exact patP_len l d
/-- A sequence, and alternatives behind it. -/
def saL (l : Bytes) (d i g : Nat) (out : List Pc) (kids : List Int) : Pr (St × Int) := match seqL (subOf l d) (deepOf d) l i g out [] with
  | .bad e => .bad e
  | .ok ((j, g', out'), x) => altL (subOf l d) (deepOf d) l j g' out' (kids ++ [x])
theorem patP_sa (l : Bytes) (d i g : Nat) (out : List Pc) : patP l d (i, g, out) = saL l d i g out [] := by
  cases d <;> rfl
theorem altL_sa {l : Bytes} {d i g : Nat} {out : List Pc} {kids : List Int} (h : i < l.length) (hb : at_ l i = 124) : altL (subOf l d) (deepOf d) l i g out kids = saL l d (i + 1) g out kids := by
  unfold saL
  cases hs : seqL (subOf l d) (deepOf d) l (i + 1) g out [] with
  | bad e => exact altL_bad ⟨h, hb⟩ hs
  | ok r =>
    obtain ⟨⟨j, g', out'⟩, x⟩ := r
    have := seqL_len (subOf_ok l d) _ rfl (by omega) hs
    exact altL_go ⟨h, hb⟩ hs (by omega)
def altO (out : List Pc) : List Int → List Pc × Int
  | [k] => (out, k)
  | kids => (out ++ [pAlt kids], out.length)
theorem altE_O (i g : Nat) (out : List Pc) (kids : List Int) : altE i g out kids = .ok ((i, g, (altO out kids).1), (altO out kids).2) := by
  match kids with
  | [] => rfl
  | [k] => rfl
  | a :: b :: r => rfl
abbrev FF := List Pc → List Int → List Pc × List Int
/-- A part of a sequence. -/
def SqX (d g : Nat) (s : Bytes) (g' : Nat) (F : FF) : Prop := HD s ∧ ∀ (l : Bytes) (i : Nat) (out : List Pc) (kids : List Int), Fit l i s → NC l (i + s.length) →
  seqL (subOf l d) (deepOf d) l i g out kids = seqL (subOf l d) (deepOf d) l (i + s.length) g' (F out kids).1 (F out kids).2
/-- A pattern. -/
def PtX (d g : Nat) (s : Bytes) (g' : Nat) (F : FF) : Prop := ∀ (l : Bytes) (i : Nat) (out : List Pc) (kids : List Int), Fit l i s → EN l (i + s.length) →
  saL l d i g out kids = altE (i + s.length) g' (F out kids).1 (F out kids).2
/-- An atom. -/
def AtX (d g : Nat) (s : Bytes) (g' : Nat) (A : List Pc → List Pc × Int) : Prop := s ≠ [] ∧ ¬ cntC (at_ s 0) ∧ at_ s 0 ≠ 124 ∧ at_ s 0 ≠ 41 ∧ ∀ (l : Bytes) (i : Nat) (out : List Pc), Fit l i s →
  atomP (subOf l d) (deepOf d) l i g out = .ok ((i + s.length, g', (A out).1), (A out).2)
/-- A count. -/
def CnX (s : Bytes) (a b : Int) (z : Bool) : Prop := ∀ (l : Bytes) (i : Nat), Fit l i s → NQ l (i + s.length) → cntP l i = .ok (i + s.length, some (a, b, z))
theorem SqX.nil (d g : Nat) : SqX d g [] g fun out kids => (out, kids) := ⟨.inl rfl, fun l i out kids _ _ => rfl⟩
theorem SqX.app {d g g1 g2 : Nat} {s t : Bytes} {F G : FF} (h : SqX d g s g1 F) (k : SqX d g1 t g2 G) : SqX d g (s ++ t) g2 fun out kids => G (F out kids).1 (F out kids).2 := by
  refine ⟨?_, fun l i out kids hf hn => ?_⟩
  · rcases h.1 with rfl | h1
    · exact k.1
    · by_cases hs : s = []
      · subst hs; exact k.1
      · right; rw [at_app_l (List.length_pos_iff.2 hs)]; exact h1
  · have f := hf.app
    rw [List.length_append, ← Nat.add_assoc] at hn ⊢
    rw [h.2 l i out kids f.1 ?_, k.2 l _ _ _ f.2 hn]
    rcases k.1 with rfl | h2
    · simpa using hn
    · rintro ⟨h3, h4⟩
      by_cases ht : t = []
      · subst ht; exact hn (by simpa using ⟨h3, h4⟩)
      · have := f.2.2 0 (List.length_pos_iff.2 ht)
        rw [Nat.add_zero] at this
        rw [this] at h4; exact h2 h4
theorem SqX.pat {d g g' : Nat} {s : Bytes} {F : FF} (h : SqX d g s g' F) : PtX d g s g' fun out kids => ((F out []).1 ++ [pSeq (F out []).2], kids ++ [((F out []).1.length : Int)]) := by
  intro l i out kids hf he
  unfold saL
  rw [h.2 l i out [] hf he.nc]
  have hle := hf.le
  rw [seqL_out (by rintro ⟨h1, h2, h3⟩; rcases he with he | he; omega; exact h3 he)]
  simp only []
  rw [altL_out (by rintro ⟨h1, h2⟩; rcases he with he | he <;> omega)]
theorem PtX.alt {d g g1 g2 : Nat} {s y : Bytes} {F G : FF} (h : SqX d g s g1 F) (k : PtX d g1 y g2 G) : PtX d g (s ++ 124 :: y) g2 fun out kids => G ((F out []).1 ++ [pSeq (F out []).2]) (kids ++ [((F out []).1.length : Int)]) := by
  intro l i out kids hf he
  have f := hf.app
  have f0 := f.2.at0
  have e0 : at_ l (i + s.length) = 124 := f0.2
  have hnc : NC l (i + s.length) := by rintro ⟨_, h2⟩; unfold cntC at h2; omega
  have hl : i + (s ++ 124 :: y).length = i + s.length + 1 + y.length := by simp; omega
  rw [hl] at he ⊢
  unfold saL
  rw [h.2 l i out [] f.1 hnc]
  rw [seqL_out (by rintro ⟨h1, h2, h3⟩; exact h2 e0)]
  show altL (subOf l d) (deepOf d) l (i + s.length) g1 ((F out []).1 ++ [pSeq (F out []).2]) (kids ++ [((F out []).1.length : Int)]) = _
  rw [altL_sa f0.1 e0]
  exact k l _ _ _ f.2.tail he
theorem PtX.grp {d g g' : Nat} {y : Bytes} {F : FF} (h : PtX d (g + 1) y g' F) (hg : g < 9) : AtX (d + 1) g (40 :: (y ++ [41])) g' fun out => ((altO (F out []).1 (F out []).2).1 ++ [pGrp (g + 1 : Nat) (altO (F out []).1 (F out []).2).2], (altO (F out []).1 (F out []).2).1.length) := by
  refine ⟨by simp, by show ¬ cntC 40; unfold cntC; omega, by show (40 : Nat) ≠ 124; decide, by show (40 : Nat) ≠ 41; decide, fun l i out hf => ?_⟩
  have f0 := hf.at0
  have f1 := hf.tail.app
  have f2 := f1.2.at0
  have e0 : at_ l i = 40 := f0.2
  have e2 : at_ l (i + 1 + y.length) = 41 := f2.2
  have hl : i + (40 :: (y ++ [41])).length = i + 1 + y.length + 1 := by simp; omega
  rw [hl]
  unfold atomP
  rw [if_pos e0, if_neg (by simp [deepOf]; omega)]
  have hp : subOf l (d + 1) (i + 1, g + 1, out) = .ok ((i + 1 + y.length, g', (altO (F out []).1 (F out []).2).1), (altO (F out []).1 (F out []).2).2) := by
    show patP l d (i + 1, g + 1, out) = _
    rw [patP_sa, h l (i + 1) out [] f1.1 (.inr e2), altE_O]
  rw [hp]
  simp only []
  rw [if_neg (by omega), if_pos e2]
theorem pieceP_at {l : Bytes} {d i g g' : Nat} {s : Bytes} {A : List Pc → List Pc × Int} {out : List Pc} (h : AtX d g s g' A) (hf : Fit l i s) : pieceP (subOf l d) (deepOf d) l i g out = cntR l (i + s.length) g' (A out).1 (A out).2 := pieceP_ok (h.2.2.2.2 l i out hf)
theorem cntP_none {l : Bytes} {j : Nat} (h : NC l j) : cntP l j = .ok (j, none) := by
  unfold cntP
  by_cases hj : l.length ≤ j
  · simp [hj]
  · have hc : ¬ cntC (at_ l j) := fun hc => h ⟨by omega, hc⟩
    unfold cntC at hc
    simp only []
    rw [if_neg hj, if_neg (by omega), if_neg (by omega), if_neg (by omega), if_neg (by omega)]
theorem AtX.go {d g g' : Nat} {s : Bytes} {A : List Pc → List Pc × Int} (h : AtX d g s g' A) {l : Bytes} {i : Nat} (hf : Fit l i s) : i < l.length ∧ at_ l i ≠ 124 ∧ at_ l i ≠ 41 := by
  have hp := List.length_pos_iff.2 h.1
  have h0 := hf.2 0 hp
  rw [Nat.add_zero] at h0
  rw [h0]
  exact ⟨by have := hf.1; omega, h.2.2.1, h.2.2.2.1⟩
/-- An atom alone. -/
theorem AtX.one {d g g' : Nat} {s : Bytes} {A : List Pc → List Pc × Int} (h : AtX d g s g' A) : SqX d g s g' fun out kids => ((A out).1, kids ++ [(A out).2]) := by
  refine ⟨.inr h.2.1, fun l i out kids hf hn => ?_⟩
  have hp : pieceP (subOf l d) (deepOf d) l i g out = .ok ((i + s.length, g', (A out).1), (A out).2) := by
    rw [pieceP_at h hf]; unfold cntR; rw [cntP_none hn]
  exact seqL_go (h.go hf) hp (by have := List.length_pos_iff.2 h.1; omega)
/-- An atom with a count. -/
theorem AtX.cnt {d g g' : Nat} {s c : Bytes} {A : List Pc → List Pc × Int} {a b : Int} {z : Bool} (h : AtX d g s g' A) (k : CnX c a b z) : SqX d g (s ++ c) g' fun out kids => ((A out).1 ++ [pRep a b z (A out).2], kids ++ [((A out).1.length : Int)]) := by
  refine ⟨.inr (by rw [at_app_l (List.length_pos_iff.2 h.1)]; exact h.2.1), fun l i out kids hf hn => ?_⟩
  have f := hf.app
  rw [List.length_append, ← Nat.add_assoc] at hn ⊢
  have hp : pieceP (subOf l d) (deepOf d) l i g out = .ok ((i + s.length + c.length, g', (A out).1 ++ [pRep a b z (A out).2]), (A out).1.length) := by
    rw [pieceP_at h f.1]; unfold cntR; rw [k l _ f.2 hn.q]
  exact seqL_go (h.go f.1) hp (by have := List.length_pos_iff.2 h.1; omega)
/-- A text that is a pattern is read. -/
theorem PtX.read {s : Bytes} {g' : Nat} {F : FF} (h : PtX 6 0 s g' F) (hl : s.length ≤ 120) : readP s = ⟨true, 0, g', (altO (F [] []).1 (F [] []).2).1⟩ := by
  unfold readP
  rw [if_neg (by omega), patP_sa, h s 0 [] [] (Fit.self s) (.inl (by omega)), altE_O]
  simp only []
  rw [if_neg (by omega)]
/-! ### Counts -/
theorem digP_no {l : Bytes} {i n : Nat} (h : ¬ (i < l.length ∧ 48 ≤ at_ l i ∧ at_ l i ≤ 57)) : digP l i n = (i, n) := by rw [digP, dif_neg h]
theorem digP_go {l : Bytes} {i n : Nat} (h : i < l.length ∧ 48 ≤ at_ l i ∧ at_ l i ≤ 57) : digP l i n = digP l (i + 1) (Nat.min 1000 (10 * n + (at_ l i - 48))) := by rw [digP, dif_pos h]
/-- A number of one or two digits. -/
def decN (n : Nat) : Bytes := if n < 10 then [UInt8.ofNat (48 + n)] else [UInt8.ofNat (48 + n / 10), UInt8.ofNat (48 + n % 10)]
theorem u8N {n : Nat} (h : n < 256) : (UInt8.ofNat n).toNat = n := by simp; omega
theorem decN_pos (n : Nat) : 0 < (decN n).length := by unfold decN; split <;> simp
theorem numP_dec {l : Bytes} {i n : Nat} (hf : Fit l i (decN n)) (hn : n ≤ 50) (he : i + (decN n).length < l.length ∧ (at_ l (i + (decN n).length) < 48 ∨ 57 < at_ l (i + (decN n).length))) : numP l i = .ok (i + (decN n).length, n) := by
  unfold numP
  unfold decN at hf he ⊢
  by_cases h : n < 10
  · rw [if_pos h] at hf he ⊢
    have f := hf.at0
    rw [u8N (by omega)] at f
    simp only [List.length_cons, List.length_nil, Nat.zero_add] at he ⊢
    have hd : digP l i 0 = (i + 1, n) := by
      rw [digP_go (by omega), digP_no (by omega), f.2]
      congr 1
      show min 1000 (10 * 0 + (48 + n - 48)) = n
      omega
    rw [if_neg (by omega), if_neg (by omega), hd, if_neg (by simp; omega)]
  · rw [if_neg h] at hf he ⊢
    have f := hf.at0
    have f2 := hf.tail.at0
    rw [u8N (by omega)] at f f2
    have hl2 : ([UInt8.ofNat (48 + n / 10), UInt8.ofNat (48 + n % 10)] : Bytes).length = 2 := rfl
    rw [hl2] at he ⊢
    have hd : digP l i 0 = (i + 2, n) := by
      rw [digP_go (by omega), digP_go (by omega), show i + 1 + 1 = i + 2 from rfl, digP_no (by omega), f.2, f2.2]
      congr 1
      show min 1000 (10 * min 1000 (10 * 0 + (48 + n / 10 - 48)) + (48 + n % 10 - 48)) = n
      omega
    rw [if_neg (by omega), if_neg (by omega), hd, if_neg (by simp; omega)]
theorem cntP_q {l : Bytes} {j : Nat} {a b : Int} {z : Bool} {e : Nat} (hz : if z = true then j < l.length ∧ at_ l j = 63 ∧ e = j + 1 else NQ l j ∧ e = j) : (if j < l.length ∧ at_ l j = 63 then Pr.ok (j + 1, some (a, b, true)) else Pr.ok (j, some (a, b, false))) = Pr.ok (e, some (a, b, z)) := by
  cases z with
  | true => rw [if_pos rfl] at hz; rw [if_pos ⟨hz.1, hz.2.1⟩, hz.2.2]
  | false => rw [if_neg (by decide)] at hz; rw [if_neg hz.1, hz.2]
def lzT (z : Bool) : Bytes := if z then [63] else []
theorem lz_fit {l : Bytes} {j : Nat} {z : Bool} (h : Fit l j (lzT z)) (hn : NQ l (j + (lzT z).length)) : if z = true then j < l.length ∧ at_ l j = 63 ∧ j + (lzT z).length = j + 1 else NQ l j ∧ j + (lzT z).length = j := by
  cases z with
  | true => have := h.at0; rw [if_pos rfl]; exact ⟨this.1, this.2, rfl⟩
  | false => rw [if_neg (by decide)]; exact ⟨hn, rfl⟩
theorem cn_star (z : Bool) : CnX (42 :: lzT z) 0 (-1) z := by
  intro l i hf hn
  have f := hf.at0
  have e0 : at_ l i = 42 := f.2
  have hl : i + (42 :: lzT z).length = i + 1 + (lzT z).length := by simp; omega
  rw [hl] at hn ⊢
  unfold cntP
  simp only []
  rw [if_neg (by omega), if_pos e0]
  exact cntP_q (lz_fit hf.tail hn)
theorem cn_plus (z : Bool) : CnX (43 :: lzT z) 1 (-1) z := by
  intro l i hf hn
  have f := hf.at0
  have e0 : at_ l i = 43 := f.2
  have hl : i + (43 :: lzT z).length = i + 1 + (lzT z).length := by simp; omega
  rw [hl] at hn ⊢
  unfold cntP
  simp only []
  rw [if_neg (by omega), if_neg (by omega), if_pos e0]
  exact cntP_q (lz_fit hf.tail hn)
theorem cn_opt (z : Bool) : CnX (63 :: lzT z) 0 1 z := by
  intro l i hf hn
  have f := hf.at0
  have e0 : at_ l i = 63 := f.2
  have hl : i + (63 :: lzT z).length = i + 1 + (lzT z).length := by simp; omega
  rw [hl] at hn ⊢
  unfold cntP
  simp only []
  rw [if_neg (by omega), if_neg (by omega), if_neg (by omega), if_pos e0]
  exact cntP_q (lz_fit hf.tail hn)
theorem cn_bra {s : Bytes} {a b : Int} (h : ∀ (l : Bytes) (i : Nat), Fit l i s → braP l i = .ok (i + s.length, a, b)) (z : Bool) : CnX (123 :: (s ++ lzT z)) a b z := by
  intro l i hf hn
  have f := hf.at0
  have e0 : at_ l i = 123 := f.2
  have hl : i + (123 :: (s ++ lzT z)).length = i + 1 + s.length + (lzT z).length := by simp; omega
  rw [hl] at hn ⊢
  have f1 := hf.tail.app
  unfold cntP
  simp only []
  rw [if_neg (by omega), if_neg (by omega), if_neg (by omega), if_neg (by omega), if_pos e0, h l (i + 1) f1.1]
  exact cntP_q (lz_fit f1.2 hn)
theorem bra_two {m n : Nat} (hm : m ≤ 50) (hn : n ≤ 50) (hmn : m ≤ n) : ∀ (l : Bytes) (i : Nat), Fit l i (decN m ++ 44 :: (decN n ++ [125])) → braP l i = .ok (i + (decN m ++ 44 :: (decN n ++ [125])).length, (m : Int), (n : Int)) := by
  intro l i hf
  have f := hf.app
  have f1 := f.2.at0
  have f2 := f.2.tail.app
  have f3 := f2.2.at0
  have e1 : at_ l (i + (decN m).length) = 44 := f1.2
  have e3 : at_ l (i + (decN m).length + 1 + (decN n).length) = 125 := f3.2
  have hl : i + (decN m ++ 44 :: (decN n ++ [125])).length = i + (decN m).length + 1 + (decN n).length + 1 := by simp; omega
  rw [hl]
  unfold braP
  rw [numP_dec f.1 hm ⟨f1.1, by omega⟩]
  simp only []
  have hd : at_ l (i + (decN m).length + 1) ≠ 125 := by
    have hp := decN_pos n
    have h0 := f2.1.2 0 hp
    rw [Nat.add_zero] at h0
    rw [h0]
    unfold decN at hp ⊢
    split
    · show (UInt8.ofNat (48 + n)).toNat ≠ 125; rw [u8N (by omega)]; omega
    · show (UInt8.ofNat (48 + n / 10)).toNat ≠ 125; rw [u8N (by omega)]; omega
  rw [if_neg (by omega), if_pos e1, if_neg (by omega), if_neg hd, numP_dec f2.1 hn ⟨f3.1, by omega⟩]
  simp only []
  rw [if_neg (by omega), if_neg (by omega), if_pos e3]
theorem bra_one {m : Nat} (hm : m ≤ 50) : ∀ (l : Bytes) (i : Nat), Fit l i (decN m ++ [125]) → braP l i = .ok (i + (decN m ++ [125]).length, (m : Int), (m : Int)) := by
  intro l i hf
  have f := hf.app
  have f1 := f.2.at0
  have e1 : at_ l (i + (decN m).length) = 125 := f1.2
  have hl : i + (decN m ++ [125]).length = i + (decN m).length + 1 := by simp; omega
  rw [hl]
  unfold braP
  rw [numP_dec f.1 hm ⟨f1.1, by omega⟩]
  simp only []
  rw [if_neg (by omega), if_neg (by omega), if_pos e1]
theorem bra_from {m : Nat} (hm : m ≤ 50) : ∀ (l : Bytes) (i : Nat), Fit l i (decN m ++ [44, 125]) → braP l i = .ok (i + (decN m ++ [44, 125]).length, (m : Int), -1) := by
  intro l i hf
  have f := hf.app
  have f1 := f.2.at0
  have f2 := f.2.tail.at0
  have e1 : at_ l (i + (decN m).length) = 44 := f1.2
  have e2 : at_ l (i + (decN m).length + 1) = 125 := f2.2
  have hl : i + (decN m ++ [44, 125]).length = i + (decN m).length + 2 := by simp; omega
  rw [hl]
  unfold braP
  rw [numP_dec f.1 hm ⟨f1.1, by omega⟩]
  simp only []
  rw [if_neg (by omega), if_pos e1, if_neg (by omega), if_pos e2]
/-! ### Atoms -/
theorem at_set1 (d g : Nat) {c : UInt8} (h : c.toNat ≠ 40 ∧ c.toNat ≠ 91 ∧ c.toNat ≠ 46 ∧ c.toNat ≠ 94 ∧ c.toNat ≠ 36 ∧ c.toNat ≠ 92 ∧ c.toNat ≠ 41 ∧ c.toNat ≠ 93 ∧ c.toNat ≠ 123 ∧ c.toNat ≠ 125 ∧ c.toNat ≠ 42 ∧ c.toNat ≠ 43 ∧ c.toNat ≠ 63 ∧ c.toNat ≠ 124) :
    AtX d g [c] g fun out => (out ++ [pSet [((c.toNat : Int), (c.toNat : Int))]], out.length) := by
  have h0 : at_ [c] 0 = c.toNat := rfl
  refine ⟨by simp, by rw [h0]; unfold cntC; omega, by omega, by omega, fun l i out hf => ?_⟩
  have f := hf.at0
  unfold atomP
  rw [if_neg (by omega), if_neg (by omega), if_neg (by omega), if_neg (by omega), if_neg (by omega), if_neg (by omega), if_neg (by omega), f.2]
  rfl
theorem at_esc (d g : Nat) {s : Bytes} {r : Rs} {o : Option Nat} (h : ∀ (l : Bytes) (i : Nat), Fit l i s → escP l i = .ok (i + s.length, r, o)) : AtX d g (92 :: s) g fun out => (out ++ [pSet (runs (inR r))], out.length) := by
  refine ⟨by simp, by show ¬ cntC 92; unfold cntC; omega, by show (92 : Nat) ≠ 124; decide, by show (92 : Nat) ≠ 41; decide, fun l i out hf => ?_⟩
  have f := hf.at0
  have e0 : at_ l i = 92 := f.2
  unfold atomP
  rw [if_neg (by omega), if_neg (by omega), if_neg (by omega), if_neg (by omega), if_neg (by omega), if_pos e0, h l (i + 1) hf.tail]
  show Pr.ok ((i + 1 + s.length, g, out ++ [pSet (runs (inR r))]), (out.length : Int)) = _
  rw [show i + (92 :: s).length = i + 1 + s.length from by simp; omega]
theorem esc_one {c : UInt8} {r : Rs} {o : Option Nat} (h : escC c.toNat = some (r, o)) (hx : c.toNat ≠ 120) : ∀ (l : Bytes) (i : Nat), Fit l i [c] → escP l i = .ok (i + [c].length, r, o) := by
  intro l i hf
  have f := hf.at0
  unfold escP
  rw [if_neg (by omega), f.2, if_neg hx, h]
  rfl
theorem esc_hex {a b : UInt8} {x y : Nat} (ha : hexv a.toNat = some x) (hb : hexv b.toNat = some y) : ∀ (l : Bytes) (i : Nat), Fit l i [120, a, b] → escP l i = .ok (i + [120, a, b].length, [(16 * x + y, 16 * x + y)], some (16 * x + y)) := by
  intro l i hf
  have f := hf.at0
  have f1 := hf.tail.at0
  have f2 := hf.tail.tail.at0
  have e0 : at_ l i = 120 := f.2
  unfold escP
  rw [if_neg (by omega), if_pos e0]
  unfold escX
  rw [if_neg (by omega), f1.2, ha]
  simp only []
  rw [if_neg (by omega), f2.2, hb]
  rfl
theorem at_dot (d g : Nat) : AtX d g [46] g fun out => (out ++ [pSet (runs (inR [(0, 9), (11, 255)]))], out.length) := by
  refine ⟨by simp, by show ¬ cntC 46; unfold cntC; omega, by show (46 : Nat) ≠ 124; decide, by show (46 : Nat) ≠ 41; decide, fun l i out hf => ?_⟩
  have f := hf.at0
  have e0 : at_ l i = 46 := f.2
  unfold atomP
  rw [if_neg (by omega), if_neg (by omega), if_pos e0]
  rfl
theorem at_sta (d g : Nat) : AtX d g [94] g fun out => (out ++ [pSta], out.length) := by
  refine ⟨by simp, by show ¬ cntC 94; unfold cntC; omega, by show (94 : Nat) ≠ 124; decide, by show (94 : Nat) ≠ 41; decide, fun l i out hf => ?_⟩
  have f := hf.at0
  have e0 : at_ l i = 94 := f.2
  unfold atomP
  rw [if_neg (by omega), if_neg (by omega), if_neg (by omega), if_pos e0]
  rfl
theorem at_end (d g : Nat) : AtX d g [36] g fun out => (out ++ [pEnd], out.length) := by
  refine ⟨by simp, by show ¬ cntC 36; unfold cntC; omega, by show (36 : Nat) ≠ 124; decide, by show (36 : Nat) ≠ 41; decide, fun l i out hf => ?_⟩
  have f := hf.at0
  have e0 : at_ l i = 36 := f.2
  unfold atomP
  rw [if_neg (by omega), if_neg (by omega), if_neg (by omega), if_neg (by omega), if_pos e0]
  rfl
theorem at_cls (d g : Nat) {s : Bytes} {rs : List (Int × Int)} (h : ∀ (l : Bytes) (i : Nat), Fit l i (91 :: s) → setP l i = .ok (i + (91 :: s).length, rs)) : AtX d g (91 :: s) g fun out => (out ++ [pSet rs], out.length) := by
  refine ⟨by simp, by show ¬ cntC 91; unfold cntC; omega, by show (91 : Nat) ≠ 124; decide, by show (91 : Nat) ≠ 41; decide, fun l i out hf => ?_⟩
  have f := hf.at0
  have e0 : at_ l i = 91 := f.2
  unfold atomP
  rw [if_neg (by omega), if_pos e0, h l i hf]
end Go.Vc
/- Drawn patterns are read: their parts. No statement of the seat is proved here. -/
namespace Go.Vc
set_option linter.unusedVariables false
set_option linter.unusedSimpArgs false
/-- Nothing holds it to the text's end. -/
def NE (ps : List Pc) : Prop := ∀ x ∈ ps, x.kind ≠ 7
theorem NE.app {ps : List Pc} (h : NE ps) {x : Pc} (hx : x.kind ≠ 7) : NE (ps ++ [x]) := by
  intro y hy
  rcases List.mem_append.1 hy with hy | hy
  · exact h y hy
  · rw [List.mem_singleton.1 hy]; exact hx
theorem NE.nil : NE [] := by intro x hx; cases hx
theorem NE.alt {ps : List Pc} (h : NE ps) (kids : List Int) : NE (altO ps kids).1 := by
  match kids with
  | [] => exact h.app (by simp [pAlt])
  | [k] => exact h
  | a :: b :: r => exact h.app (by simp [pAlt])
def SqS (pl : Bool) (d g : Nat) (s : Bytes) (g' : Nat) : Prop := ∃ F, SqX d g s g' F ∧ (pl = true → ∀ out kids, NE out → NE (F out kids).1)
def PtS (pl : Bool) (d g : Nat) (s : Bytes) (g' : Nat) : Prop := ∃ F, PtX d g s g' F ∧ (pl = true → ∀ out kids, NE out → NE (F out kids).1)
def AtS (pl : Bool) (d g : Nat) (s : Bytes) (g' : Nat) : Prop := ∃ A, AtX d g s g' A ∧ (pl = true → ∀ out, NE out → NE (A out).1)
def CnS (s : Bytes) : Prop := ∃ a b z, CnX s a b z
theorem SqS.nil (pl : Bool) (d g : Nat) : SqS pl d g [] g := ⟨_, SqX.nil d g, fun _ out kids h => h⟩
theorem SqS.app {pl : Bool} {d g g1 g2 : Nat} {s t : Bytes} (h : SqS pl d g s g1) (k : SqS pl d g1 t g2) : SqS pl d g (s ++ t) g2 := by
  obtain ⟨F, hF, nF⟩ := h
  obtain ⟨G, hG, nG⟩ := k
  exact ⟨_, hF.app hG, fun hp out kids hn => nG hp _ _ (nF hp _ _ hn)⟩
theorem AtS.one {pl : Bool} {d g g' : Nat} {s : Bytes} (h : AtS pl d g s g') : SqS pl d g s g' := by
  obtain ⟨A, hA, nA⟩ := h
  exact ⟨_, hA.one, fun hp out kids hn => nA hp out hn⟩
theorem AtS.cnt {pl : Bool} {d g g' : Nat} {s c : Bytes} (h : AtS pl d g s g') (k : CnS c) : SqS pl d g (s ++ c) g' := by
  obtain ⟨A, hA, nA⟩ := h
  obtain ⟨a, b, z, hk⟩ := k
  exact ⟨_, hA.cnt hk, fun hp out kids hn => (nA hp out hn).app (by simp [pRep])⟩
theorem SqS.pat {pl : Bool} {d g g' : Nat} {s : Bytes} (h : SqS pl d g s g') : PtS pl d g s g' := by
  obtain ⟨F, hF, nF⟩ := h
  exact ⟨_, hF.pat, fun hp out kids hn => (nF hp out [] hn).app (by simp [pSeq])⟩
theorem PtS.alt {pl : Bool} {d g g1 g2 : Nat} {s y : Bytes} (h : SqS pl d g s g1) (k : PtS pl d g1 y g2) : PtS pl d g (s ++ 124 :: y) g2 := by
  obtain ⟨F, hF, nF⟩ := h
  obtain ⟨G, hG, nG⟩ := k
  exact ⟨_, PtX.alt hF hG, fun hp out kids hn => nG hp _ _ ((nF hp out [] hn).app (by simp [pSeq]))⟩
theorem PtS.grp {pl : Bool} {d g g' : Nat} {y : Bytes} (h : PtS pl d (g + 1) y g') (hg : g < 9) : AtS pl (d + 1) g (40 :: (y ++ [41])) g' := by
  obtain ⟨F, hF, nF⟩ := h
  exact ⟨_, hF.grp hg, fun hp out hn => ((nF hp out [] hn).alt _).app (by simp [pGrp])⟩
theorem PtS.read {pl : Bool} {s : Bytes} {g' : Nat} (h : PtS pl 6 0 s g') (hl : s.length ≤ 120) : (readP s).ok = true ∧ (pl = true → NE (readP s).pieces) := by
  obtain ⟨F, hF, nF⟩ := h
  rw [hF.read hl]
  exact ⟨rfl, fun hp => (nF hp [] [] NE.nil).alt _⟩
/-! ### Sets in brackets -/
theorem cls_lit {l : Bytes} {i c : Nat} {first : Bool} {rs : Rs} (h : i + 1 < l.length) (e : at_ l i = c) (h1 : ¬ (first = false ∧ c = 93)) (h2 : c ≠ 92) (h3 : at_ l (i + 1) ≠ 45) : clsP l i first rs = clsP l (i + 1) false (rs ++ [(c, c)]) := by
  have hp : partP l i = .ok (i + 1, [(c, c)], some c) := by unfold partP; rw [if_neg (by omega), e]
  rw [clsP_one (by omega) (by rw [e]; exact h1) hp, if_neg (by omega), if_pos h3]
theorem cls_dash {l : Bytes} {i c : Nat} {first : Bool} {rs : Rs} (h : i + 2 < l.length) (e : at_ l i = c) (h1 : ¬ (first = false ∧ c = 93)) (h2 : c ≠ 92) (h3 : at_ l (i + 1) = 45) (h4 : at_ l (i + 2) = 93) : clsP l i first rs = clsP l (i + 1) false (rs ++ [(c, c)]) := by
  have hp : partP l i = .ok (i + 1, [(c, c)], some c) := by unfold partP; rw [if_neg (by omega), e]
  rw [clsP_one (by omega) (by rw [e]; exact h1) hp, if_neg (by omega), if_neg (by omega), if_neg (by omega), if_pos h4]
theorem cls_rng {l : Bytes} {i c d : Nat} {first : Bool} {rs : Rs} (h : i + 2 < l.length) (e : at_ l i = c) (h1 : ¬ (first = false ∧ c = 93)) (h2 : c ≠ 92) (h3 : at_ l (i + 1) = 45) (h4 : at_ l (i + 2) = d) (h5 : d ≠ 93) (h6 : d ≠ 92) (h7 : c ≤ d) : clsP l i first rs = clsP l (i + 3) false (rs ++ [(c, c)] ++ [(c, d)]) := by
  have hp : partP l i = .ok (i + 1, [(c, c)], some c) := by unfold partP; rw [if_neg (by omega), e]
  have hq : partP l (i + 1 + 1) = .ok (i + 3, [(d, d)], some d) := by unfold partP; rw [if_neg (by rw [show i + 1 + 1 = i + 2 from rfl, h4]; exact h6), show i + 1 + 1 = i + 2 from rfl, h4]
  rw [clsP_one (by omega) (by rw [e]; exact h1) hp, if_neg (by omega), if_neg (by omega), if_neg (by omega), if_neg (by rw [show i + 1 + 1 = i + 2 from rfl, h4]; exact h5), hq]
  simp only []
  rw [if_neg (by omega)]
theorem cls_many {l : Bytes} {i j : Nat} {r : Rs} {first : Bool} {rs : Rs} (h : i < l.length) (e : at_ l i = 92) (hp : escP l (i + 1) = .ok (j, r, none)) : clsP l i first rs = clsP l j false (rs ++ r) :=
  clsP_many h (by omega) (by unfold partP; rw [if_pos e]; exact hp)
theorem cls_hex {l : Bytes} {i j k v u : Nat} {r r' : Rs} {first : Bool} {rs : Rs} (h : i < l.length) (e : at_ l i = 92) (hp : escP l (i + 1) = .ok (j, r, some v)) (hj : j + 1 < l.length) (h3 : at_ l j = 45) (h4 : at_ l (j + 1) = 92) (hq : escP l (j + 1 + 1) = .ok (k, r', some u)) (hv : v ≤ u) : clsP l i first rs = clsP l k false (rs ++ r ++ [(v, u)]) := by
  have hp' : partP l i = .ok (j, r, some v) := by unfold partP; rw [if_pos e]; exact hp
  have hq' : partP l (j + 1) = .ok (k, r', some u) := by unfold partP; rw [if_pos h4]; exact hq
  rw [clsP_one h (by omega) hp', if_neg (by omega), if_neg (by omega), if_neg (by omega), if_neg (by omega), hq']
  simp only []
  rw [if_neg (by omega)]
theorem set_in {l : Bytes} {i : Nat} (h : i + 1 < l.length) (h1 : at_ l (i + 1) ≠ 94) : setP l i = clsFin false (clsP l (i + 1) true []) := by
  unfold setP; rw [if_neg (by omega), if_neg h1, decide_eq_false h1]
theorem set_not {l : Bytes} {i : Nat} (h : i + 1 < l.length) (h1 : at_ l (i + 1) = 94) : setP l i = clsFin true (clsP l (i + 2) true []) := by
  unfold setP; rw [if_neg (by omega), if_pos h1, decide_eq_true h1]
theorem set0 : ∃ rs, ∀ (l : Bytes) (i : Nat), Fit l i [91, 97, 98, 93] → setP l i = .ok (i + [91, 97, 98, 93].length, rs) := by
  refine ⟨?_, fun l i hf => ?_⟩
  rotate_left
  · have hl := hf.le
    simp only [List.length_cons, List.length_nil] at hl
    have e0 : at_ l (i + 0) = 91 := hf.2 0 (by decide)
    have e1 : at_ l (i + 1) = 97 := hf.2 1 (by decide)
    have e2 : at_ l (i + 2) = 98 := hf.2 2 (by decide)
    have e3 : at_ l (i + 3) = 93 := hf.2 3 (by decide)
    rw [set_in (by omega) (by omega), cls_lit (by omega) e1 (by simp) (by omega) (show at_ l (i + 2) ≠ 45 by omega), cls_lit (by omega) e2 (by omega) (by omega) (show at_ l (i + 3) ≠ 45 by omega), clsP_end (by omega) rfl e3]
    rfl
theorem set1 : ∃ rs, ∀ (l : Bytes) (i : Nat), Fit l i [91, 94, 97, 93] → setP l i = .ok (i + [91, 94, 97, 93].length, rs) := by
  refine ⟨?_, fun l i hf => ?_⟩
  rotate_left
  · have hl := hf.le
    simp only [List.length_cons, List.length_nil] at hl
    have e0 : at_ l (i + 0) = 91 := hf.2 0 (by decide)
    have e1 : at_ l (i + 1) = 94 := hf.2 1 (by decide)
    have e2 : at_ l (i + 2) = 97 := hf.2 2 (by decide)
    have e3 : at_ l (i + 3) = 93 := hf.2 3 (by decide)
    rw [set_not (by omega) e1, cls_lit (by omega) e2 (by simp) (by omega) (show at_ l (i + 3) ≠ 45 by omega), clsP_end (by omega) rfl e3]
    rfl
theorem set2 : ∃ rs, ∀ (l : Bytes) (i : Nat), Fit l i [91, 97, 45, 99, 93] → setP l i = .ok (i + [91, 97, 45, 99, 93].length, rs) := by
  refine ⟨?_, fun l i hf => ?_⟩
  rotate_left
  · have hl := hf.le
    simp only [List.length_cons, List.length_nil] at hl
    have e0 : at_ l (i + 0) = 91 := hf.2 0 (by decide)
    have e1 : at_ l (i + 1) = 97 := hf.2 1 (by decide)
    have e2 : at_ l (i + 2) = 45 := hf.2 2 (by decide)
    have e3 : at_ l (i + 3) = 99 := hf.2 3 (by decide)
    have e4 : at_ l (i + 4) = 93 := hf.2 4 (by decide)
    rw [set_in (by omega) (by omega), cls_rng (by omega) e1 (by omega) (by omega) e2 e3 (by omega) (by omega) (by omega), clsP_end (by omega) rfl e4]
    rfl
theorem set3 : ∃ rs, ∀ (l : Bytes) (i : Nat), Fit l i [91, 93, 97, 93] → setP l i = .ok (i + [91, 93, 97, 93].length, rs) := by
  refine ⟨?_, fun l i hf => ?_⟩
  rotate_left
  · have hl := hf.le
    simp only [List.length_cons, List.length_nil] at hl
    have e0 : at_ l (i + 0) = 91 := hf.2 0 (by decide)
    have e1 : at_ l (i + 1) = 93 := hf.2 1 (by decide)
    have e2 : at_ l (i + 2) = 97 := hf.2 2 (by decide)
    have e3 : at_ l (i + 3) = 93 := hf.2 3 (by decide)
    rw [set_in (by omega) (by omega), cls_lit (by omega) e1 (by simp) (by omega) (show at_ l (i + 2) ≠ 45 by omega), cls_lit (by omega) e2 (by omega) (by omega) (show at_ l (i + 3) ≠ 45 by omega), clsP_end (by omega) rfl e3]
    rfl
theorem set4 : ∃ rs, ∀ (l : Bytes) (i : Nat), Fit l i [91, 94, 93, 93] → setP l i = .ok (i + [91, 94, 93, 93].length, rs) := by
  refine ⟨?_, fun l i hf => ?_⟩
  rotate_left
  · have hl := hf.le
    simp only [List.length_cons, List.length_nil] at hl
    have e0 : at_ l (i + 0) = 91 := hf.2 0 (by decide)
    have e1 : at_ l (i + 1) = 94 := hf.2 1 (by decide)
    have e2 : at_ l (i + 2) = 93 := hf.2 2 (by decide)
    have e3 : at_ l (i + 3) = 93 := hf.2 3 (by decide)
    rw [set_not (by omega) e1, cls_lit (by omega) e2 (by simp) (by omega) (show at_ l (i + 3) ≠ 45 by omega), clsP_end (by omega) rfl e3]
    rfl
theorem set5 : ∃ rs, ∀ (l : Bytes) (i : Nat), Fit l i [91, 97, 45, 93] → setP l i = .ok (i + [91, 97, 45, 93].length, rs) := by
  refine ⟨?_, fun l i hf => ?_⟩
  rotate_left
  · have hl := hf.le
    simp only [List.length_cons, List.length_nil] at hl
    have e0 : at_ l (i + 0) = 91 := hf.2 0 (by decide)
    have e1 : at_ l (i + 1) = 97 := hf.2 1 (by decide)
    have e2 : at_ l (i + 2) = 45 := hf.2 2 (by decide)
    have e3 : at_ l (i + 3) = 93 := hf.2 3 (by decide)
    rw [set_in (by omega) (by omega), cls_dash (by omega) e1 (by omega) (by omega) e2 e3, cls_lit (by omega) e2 (by omega) (by omega) (show at_ l (i + 3) ≠ 45 by omega), clsP_end (by omega) rfl e3]
    rfl
theorem set6 : ∃ rs, ∀ (l : Bytes) (i : Nat), Fit l i [91, 92, 119, 45, 93] → setP l i = .ok (i + [91, 92, 119, 45, 93].length, rs) := by
  refine ⟨?_, fun l i hf => ?_⟩
  rotate_left
  · have hl := hf.le
    simp only [List.length_cons, List.length_nil] at hl
    have e0 : at_ l (i + 0) = 91 := hf.2 0 (by decide)
    have e1 : at_ l (i + 1) = 92 := hf.2 1 (by decide)
    have e2 : at_ l (i + 2) = 119 := hf.2 2 (by decide)
    have e3 : at_ l (i + 3) = 45 := hf.2 3 (by decide)
    have e4 : at_ l (i + 4) = 93 := hf.2 4 (by decide)
    rw [set_in (by omega) (by omega), cls_many (j := i + 3) (by omega) e1 (esc_one (c := 119) (r := _) (o := none) rfl (by decide) l (i + 1 + 1) ⟨by simp; omega, fun k hk => by match k, hk with | 0, _ => exact e2⟩), cls_lit (by omega) e3 (by omega) (by omega) (show at_ l (i + 4) ≠ 45 by omega), clsP_end (by omega) rfl e4]
    rfl
theorem set7 : ∃ rs, ∀ (l : Bytes) (i : Nat), Fit l i [91, 92, 120, 48, 48, 45, 92, 120, 55, 102, 93] → setP l i = .ok (i + [91, 92, 120, 48, 48, 45, 92, 120, 55, 102, 93].length, rs) := by
  refine ⟨?_, fun l i hf => ?_⟩
  rotate_left
  · have hl := hf.le
    simp only [List.length_cons, List.length_nil] at hl
    have e0 : at_ l (i + 0) = 91 := hf.2 0 (by decide)
    have e1 : at_ l (i + 1) = 92 := hf.2 1 (by decide)
    have e2 : at_ l (i + 2) = 120 := hf.2 2 (by decide)
    have e3 : at_ l (i + 3) = 48 := hf.2 3 (by decide)
    have e4 : at_ l (i + 4) = 48 := hf.2 4 (by decide)
    have e5 : at_ l (i + 5) = 45 := hf.2 5 (by decide)
    have e6 : at_ l (i + 6) = 92 := hf.2 6 (by decide)
    have e7 : at_ l (i + 7) = 120 := hf.2 7 (by decide)
    have e8 : at_ l (i + 8) = 55 := hf.2 8 (by decide)
    have e9 : at_ l (i + 9) = 102 := hf.2 9 (by decide)
    have e10 : at_ l (i + 10) = 93 := hf.2 10 (by decide)
    rw [set_in (by omega) (by omega), cls_hex (j := i + 5) (k := i + 10) (v := 0) (u := 127) (r := [(0, 0)]) (r' := [(127, 127)]) (by omega) e1 (esc_hex (a := 48) (b := 48) (x := 0) (y := 0) (by decide) (by decide) l (i + 1 + 1) ⟨by simp; omega, fun k hk => by match k, hk with | 0, _ => exact e2 | 1, _ => exact e3 | 2, _ => exact e4⟩) (by omega) e5 e6 (esc_hex (a := 55) (b := 102) (x := 7) (y := 15) (by decide) (by decide) l (i + 6 + 1) ⟨by simp; omega, fun k hk => by match k, hk with | 0, _ => exact e7 | 1, _ => exact e8 | 2, _ => exact e9⟩) (by decide), clsP_end (by omega) rfl e10]
    rfl
theorem set8 : ∃ rs, ∀ (l : Bytes) (i : Nat), Fit l i [91, 94, 92, 115, 92, 100, 93] → setP l i = .ok (i + [91, 94, 92, 115, 92, 100, 93].length, rs) := by
  refine ⟨?_, fun l i hf => ?_⟩
  rotate_left
  · have hl := hf.le
    simp only [List.length_cons, List.length_nil] at hl
    have e0 : at_ l (i + 0) = 91 := hf.2 0 (by decide)
    have e1 : at_ l (i + 1) = 94 := hf.2 1 (by decide)
    have e2 : at_ l (i + 2) = 92 := hf.2 2 (by decide)
    have e3 : at_ l (i + 3) = 115 := hf.2 3 (by decide)
    have e4 : at_ l (i + 4) = 92 := hf.2 4 (by decide)
    have e5 : at_ l (i + 5) = 100 := hf.2 5 (by decide)
    have e6 : at_ l (i + 6) = 93 := hf.2 6 (by decide)
    rw [set_not (by omega) e1, cls_many (j := i + 4) (by omega) e2 (esc_one (c := 115) (r := _) (o := none) rfl (by decide) l (i + 2 + 1) ⟨by simp; omega, fun k hk => by match k, hk with | 0, _ => exact e3⟩), cls_many (j := i + 6) (by omega) e4 (esc_one (c := 100) (r := _) (o := none) rfl (by decide) l (i + 4 + 1) ⟨by simp; omega, fun k hk => by match k, hk with | 0, _ => exact e5⟩), clsP_end (by omega) rfl e6]
    rfl
theorem set9 : ∃ rs, ∀ (l : Bytes) (i : Nat), Fit l i [91, 98, 45, 98, 93] → setP l i = .ok (i + [91, 98, 45, 98, 93].length, rs) := by
  refine ⟨?_, fun l i hf => ?_⟩
  rotate_left
  · have hl := hf.le
    simp only [List.length_cons, List.length_nil] at hl
    have e0 : at_ l (i + 0) = 91 := hf.2 0 (by decide)
    have e1 : at_ l (i + 1) = 98 := hf.2 1 (by decide)
    have e2 : at_ l (i + 2) = 45 := hf.2 2 (by decide)
    have e3 : at_ l (i + 3) = 98 := hf.2 3 (by decide)
    have e4 : at_ l (i + 4) = 93 := hf.2 4 (by decide)
    rw [set_in (by omega) (by omega), cls_rng (by omega) e1 (by omega) (by omega) e2 e3 (by omega) (by omega) (by omega), clsP_end (by omega) rfl e4]
    rfl
end Go.Vc
/- The parts that a drawn pattern is made of. No statement of the seat is proved here. -/
namespace Go.Vc
set_option linter.unusedVariables false
set_option linter.unusedSimpArgs false
/-- It ends in no count. -/
def LastOk (s : Bytes) : Prop := s ≠ [] ∧ at_ s (s.length - 1) ≠ 42 ∧ at_ s (s.length - 1) ≠ 43 ∧ at_ s (s.length - 1) ≠ 63 ∧ at_ s (s.length - 1) ≠ 125
instance (s : Bytes) : Decidable (LastOk s) := by unfold LastOk; infer_instance
theorem aS_set (pl : Bool) (d g : Nat) {s : Bytes} (h : ∃ rs, ∀ (l : Bytes) (i : Nat), Fit l i (91 :: s) → setP l i = .ok (i + (91 :: s).length, rs)) : AtS pl d g (91 :: s) g := by
  obtain ⟨rs, h⟩ := h
  exact ⟨_, at_cls d g h, fun _ out hn => hn.app (by simp [pSet])⟩
theorem aS_esc (pl : Bool) (d g : Nat) {s : Bytes} {r : Rs} {o : Option Nat} (h : ∀ (l : Bytes) (i : Nat), Fit l i s → escP l i = .ok (i + s.length, r, o)) : AtS pl d g (92 :: s) g := ⟨_, at_esc d g h, fun _ out hn => hn.app (by simp [pSet])⟩
theorem aS_chr (pl : Bool) (d g : Nat) {c : UInt8} (h : 97 ≤ c.toNat ∧ c.toNat ≤ 122) : AtS pl d g [c] g := ⟨_, at_set1 d g (by omega), fun _ out hn => hn.app (by simp [pSet])⟩
theorem aS_dot (pl : Bool) (d g : Nat) : AtS pl d g [46] g := ⟨_, at_dot d g, fun _ out hn => hn.app (by simp [pSet])⟩
theorem aS_sta (pl : Bool) (d g : Nat) : AtS pl d g [94] g := ⟨_, at_sta d g, fun _ out hn => hn.app (by simp [pSta])⟩
theorem aS_end (d g : Nat) : AtS false d g [36] g := ⟨_, at_end d g, fun h => by cases h⟩
def setsD : List Bytes := [[91, 97, 98, 93], [91, 94, 97, 93], [91, 97, 45, 99, 93], [91, 93, 97, 93], [91, 94, 93, 93], [91, 97, 45, 93], [91, 92, 119, 45, 93], [91, 92, 120, 48, 48, 45, 92, 120, 55, 102, 93], [91, 94, 92, 115, 92, 100, 93], [91, 98, 45, 98, 93]]
def escsD : List Bytes := [[92, 100], [92, 119], [92, 115], [92, 110], [92, 92], [92, 46], [92, 120, 54, 49], [92, 40], [92, 45]]
def cntsD : List Bytes := [[123, 50, 125], [123, 48, 125], [123, 49, 44, 125], [123, 48, 44, 50, 125], [123, 49, 44, 51, 125], [123, 48, 44, 48, 125], [123, 50, 44, 50, 125]]
/-- An atom that is drawn. -/
def AtD (pl : Bool) (d g : Nat) (s : Bytes) (g' : Nat) : Prop := AtS pl d g s g' ∧ LastOk s
theorem setsD_ok (pl : Bool) (d g : Nat) : ∀ s ∈ setsD, AtD pl d g s g ∧ s.length ≤ 11 := by
  intro s hs
  simp only [setsD, List.mem_cons, List.not_mem_nil, or_false] at hs
  rcases hs with rfl | rfl | rfl | rfl | rfl | rfl | rfl | rfl | rfl | rfl
  · exact ⟨⟨aS_set pl d g set0, by decide⟩, by decide⟩
  · exact ⟨⟨aS_set pl d g set1, by decide⟩, by decide⟩
  · exact ⟨⟨aS_set pl d g set2, by decide⟩, by decide⟩
  · exact ⟨⟨aS_set pl d g set3, by decide⟩, by decide⟩
  · exact ⟨⟨aS_set pl d g set4, by decide⟩, by decide⟩
  · exact ⟨⟨aS_set pl d g set5, by decide⟩, by decide⟩
  · exact ⟨⟨aS_set pl d g set6, by decide⟩, by decide⟩
  · exact ⟨⟨aS_set pl d g set7, by decide⟩, by decide⟩
  · exact ⟨⟨aS_set pl d g set8, by decide⟩, by decide⟩
  · exact ⟨⟨aS_set pl d g set9, by decide⟩, by decide⟩
theorem escsD_ok (pl : Bool) (d g : Nat) : ∀ s ∈ escsD, AtD pl d g s g ∧ s.length ≤ 11 := by
  intro s hs
  simp only [escsD, List.mem_cons, List.not_mem_nil, or_false] at hs
  rcases hs with rfl | rfl | rfl | rfl | rfl | rfl | rfl | rfl | rfl
  · exact ⟨⟨aS_esc pl d g (esc_one (c := 100) rfl (by decide)), by decide⟩, by decide⟩
  · exact ⟨⟨aS_esc pl d g (esc_one (c := 119) rfl (by decide)), by decide⟩, by decide⟩
  · exact ⟨⟨aS_esc pl d g (esc_one (c := 115) rfl (by decide)), by decide⟩, by decide⟩
  · exact ⟨⟨aS_esc pl d g (esc_one (c := 110) rfl (by decide)), by decide⟩, by decide⟩
  · exact ⟨⟨aS_esc pl d g (esc_one (c := 92) rfl (by decide)), by decide⟩, by decide⟩
  · exact ⟨⟨aS_esc pl d g (esc_one (c := 46) rfl (by decide)), by decide⟩, by decide⟩
  · exact ⟨⟨aS_esc pl d g (esc_hex (a := 54) (b := 49) (x := 6) (y := 1) (by decide) (by decide)), by decide⟩, by decide⟩
  · exact ⟨⟨aS_esc pl d g (esc_one (c := 40) rfl (by decide)), by decide⟩, by decide⟩
  · exact ⟨⟨aS_esc pl d g (esc_one (c := 45) rfl (by decide)), by decide⟩, by decide⟩
/-- A count, lazy or not. -/
def CnD (c : Bytes) : Prop := CnS c ∧ CnS (c ++ [63])
theorem cnD_of {c : Bytes} {a b : Int} (h : ∀ z, CnX (c ++ lzT z) a b z) : CnD c := ⟨⟨a, b, false, by have := h false; rwa [show c ++ lzT false = c from by simp [lzT]] at this⟩, ⟨a, b, true, h true⟩⟩
theorem cntsD_ok : ∀ s ∈ cntsD, CnD s ∧ s.length ≤ 5 := by
  intro s hs
  simp only [cntsD, List.mem_cons, List.not_mem_nil, or_false] at hs
  rcases hs with rfl | rfl | rfl | rfl | rfl | rfl | rfl
  · exact ⟨cnD_of fun z => cn_bra (bra_one (m := 2) (by decide)) z, by decide⟩
  · exact ⟨cnD_of fun z => cn_bra (bra_one (m := 0) (by decide)) z, by decide⟩
  · exact ⟨cnD_of fun z => cn_bra (bra_from (m := 1) (by decide)) z, by decide⟩
  · exact ⟨cnD_of fun z => cn_bra (bra_two (m := 0) (n := 2) (by decide) (by decide) (by decide)) z, by decide⟩
  · exact ⟨cnD_of fun z => cn_bra (bra_two (m := 1) (n := 3) (by decide) (by decide) (by decide)) z, by decide⟩
  · exact ⟨cnD_of fun z => cn_bra (bra_two (m := 0) (n := 0) (by decide) (by decide) (by decide)) z, by decide⟩
  · exact ⟨cnD_of fun z => cn_bra (bra_two (m := 2) (n := 2) (by decide) (by decide) (by decide)) z, by decide⟩
theorem cnD_star : CnD [42] := cnD_of cn_star
theorem cnD_plus : CnD [43] := cnD_of cn_plus
theorem cnD_opt : CnD [63] := cnD_of cn_opt
/-- An atom with its count, if any. -/
def ElD (pl : Bool) (d g : Nat) (s : Bytes) (g' : Nat) : Prop := s ≠ [] ∧ SqS pl d g s g' ∧ (at_ s (s.length - 1) = 42 ∨ at_ s (s.length - 1) = 43 ∨ at_ s (s.length - 1) = 63 ∨ at_ s (s.length - 1) = 125 → SqS pl d g (s ++ [63]) g')
theorem AtD.el {pl : Bool} {d g g' : Nat} {s : Bytes} (h : AtD pl d g s g') : ElD pl d g s g' := ⟨h.2.1, h.1.one, fun hl => by have := h.2.2; omega⟩
theorem AtD.elc {pl : Bool} {d g g' : Nat} {s c : Bytes} (h : AtD pl d g s g') (k : CnD c) : ElD pl d g (s ++ c) g' := ⟨by simp [h.2.1], h.1.cnt k.1, fun _ => by rw [List.append_assoc]; exact h.1.cnt k.2⟩
theorem lastOk_grp (y : Bytes) : LastOk (40 :: (y ++ [41])) := by
  have e : at_ (40 :: (y ++ [41])) ((40 :: (y ++ [41])).length - 1) = 41 := by
    have := at_app_r (s := 40 :: y) (t := [41]) (k := 0)
    rw [show (40 :: (y ++ [41])).length - 1 = (40 :: y).length + 0 from by simp]
    exact this
  unfold LastOk
  rw [e]
  exact ⟨by simp, by decide, by decide, by decide, by decide⟩
theorem PtS.grpD {pl : Bool} {d g g' : Nat} {y : Bytes} (h : PtS pl d (g + 1) y g') (hg : g < 9) : AtD pl (d + 1) g (40 :: (y ++ [41])) g' := ⟨h.grp hg, lastOk_grp y⟩
end Go.Vc
/- The drawing of a pattern: it ends, and what it draws is read. No statement of the seat is proved here. -/
namespace Go.Proofs.Ytngbiaeliphdjaa.V
open Go.Vc Go.Proofs Go.RowKit
set_option linter.unusedVariables false
set_option linter.unusedSimpArgs false
theorem Cur.le {w : World} {b B : Nat} {a : Option Addr} {l c m : Nat} (h : Cur w b B a l c m) : m ≤ 1125899906842624 := by
  obtain ⟨⟨p, sd, _, _, h⟩, _⟩ := h
  have := h.1; omega
theorem cell_pick {h : Array Obj} {b : Nat} {ss : List Bytes} (k : Blk h b 9 (ss.map fun s => .string (B s))) {q : Nat} (hq : q < ss.length) : cellH h b (0 + Int.toNat (q : Int) * 1) = some (.string (B ss[q])) := by
  rw [show 0 + Int.toNat (q : Int) * 1 = q from by omega, k.cell]
  simp [hq]
theorem byteAt_B (s : Bytes) (i : Nat) : byteAt (B s) i = (at_ s i : Int) := by rw [byteAt_at, L_B]
/-- The contract of pattern, in so much depth yet. -/
def PatD (n : Nat) : Prop := ∀ (m : Nat) (w : World) (b M : Nat) (a : Option Addr) (l c : Nat) (g : Nat) (pl : Bool), 5059 ≤ m → g ≤ 9 → Cur w b M a l c m →
  Cl Try.prog 107 [.pointer (some ⟨b, 0, none⟩), .int .i64 (n : Int), .int .i64 (g : Int), .bool pl] w (Drew w b M a l c fun v m' => m' < m ∧ 5059 ≤ m' + 14 * n + 17 ∧ ∃ (s : Bytes) (g' : Nat), v = .tuple #[.string (B s), .int .i64 (g' : Int)] ∧ g' ≤ g ∧ PtS pl (n + 3) (9 - g) s (9 - g') ∧ s.length ≤ 32 * (m - m'))
set_option maxHeartbeats 4000000 in
theorem pat_ok : ∀ n, n ≤ 3 → PatD n := by
  intro n
  induction n using Nat.strongRecOn with
  | _ n ihd =>
  intro hn m
  induction m using Nat.strongRecOn with
  | _ m ihm =>
  intro w b M a l c g pl hm hg hC
  have hm50 := hC.le
  apply vc107
  unfold V107
  refine (pick_ok hC (by omega) 4 (by omega) (by omega)).use fun e w7 he => ?_
  obtain ⟨_, m7, rfl, ⟨q1, q2, r, rfl, hr, _⟩, hC7, e7⟩ := he
  refine ⟨r, rfl, fun k n14 s15 n16 w' => ∃ (gi : Nat) (xs : Bytes) (mi : Nat), n14 = gi ∧ s15 = B xs ∧ n16 = k ∧ k ≤ 3 ∧ gi ≤ g ∧ SqS pl (n + 3) (9 - g) xs (9 - gi) ∧ xs.length ≤ 32 * (m - mi) ∧ mi < m ∧ 5059 + 5 * k ≤ mi + (14 * n + 3) + 13 ∧ Cur w' b M a l c mi ∧ Ext (fun k => k = b) w w', ⟨r, g, [], m7, rfl, rfl, rfl, by omega, by omega, SqS.nil _ _ _, by simp, by omega, by omega, hC7, e7⟩, ?_⟩
  rintro k d _ _ _ w12 ⟨gi, xs, mi, rfl, rfl, rfl, hk, hgi, hsq, hxs, hmi, hbd, hCi, hEi⟩
  refine ⟨fun g1 => ?_, fun g1 => ?_⟩
  · have hk0 : 0 < k := by have := of_decide_eq_true g1; omega
    refine (pick_ok hCi (by omega) 12 (by omega) (by omega)).use fun e w18 he => ?_
    obtain ⟨_, m1, rfl, ⟨p1, p2, r12, rfl, hr12, hwin⟩, hC1, e1⟩ := he
    have hE1 := hEi.trans e1
    refine ⟨r12, rfl, fun z s w' => ∃ (g' : Nat) (x : Bytes) (mA : Nat), z = g' ∧ s = B x ∧ g' ≤ gi ∧ AtD pl (n + 3) (9 - gi) x (9 - g') ∧ x.length + 32 * mA ≤ 11 + 32 * m1 ∧ mA ≤ m1 ∧ 5059 + 5 * k ≤ mA + (14 * n + 3) + 15 ∧ Cur w' b M a l c mA ∧ Ext (fun k => k = b) w w', ?_, ?_⟩
    · have J : ∀ {x : Bytes} {w' : World} {mA : Nat}, AtD pl (n + 3) (9 - gi) x (9 - gi) ∧ x.length ≤ 11 → mA ≤ m1 → min (m1 - 1) 5059 ≤ mA → Cur w' b M a l c mA → Ext (fun k => k = b) w w' → ∃ (g' : Nat) (x' : Bytes) (mA : Nat), (gi : Int) = g' ∧ B x = B x' ∧ g' ≤ gi ∧ AtD pl (n + 3) (9 - gi) x' (9 - g') ∧ x'.length + 32 * mA ≤ 11 + 32 * m1 ∧ mA ≤ m1 ∧ 5059 + 5 * k ≤ mA + (14 * n + 3) + 15 ∧ Cur w' b M a l c mA ∧ Ext (fun k => k = b) w w' :=
        fun h1 h2 h3 h4 h5 => ⟨gi, _, _, rfl, rfl, Nat.le_refl _, h1.1, by have := h1.2; omega, h2, by omega, h4, h5⟩
      have chr : ∀ {y : UInt8}, 97 ≤ y.toNat ∧ y.toNat ≤ 122 → AtD pl (n + 3) (9 - gi) [y] (9 - gi) ∧ [y].length ≤ 11 := fun {y} h => ⟨⟨aS_chr _ _ _ h, by
        have e : at_ [y] ([y].length - 1) = y.toNat := rfl
        unfold LastOk; rw [e]; exact ⟨by simp, by omega, by omega, by omega, by omega⟩⟩, by simp⟩
      -- one of some texts
      have lst : ∀ {ss : List Bytes} {K : ByteArray → World → Prop}, 2 ≤ ss.length → ss.length ≤ 100 → (∀ s ∈ ss, AtD pl (n + 3) (9 - gi) s (9 - gi) ∧ s.length ≤ 11) → (∀ {x : Bytes} {w' : World}, (∃ (g' : Nat) (x' : Bytes) (mA : Nat), (gi : Int) = g' ∧ B x = B x' ∧ g' ≤ gi ∧ AtD pl (n + 3) (9 - gi) x' (9 - g') ∧ x'.length + 32 * mA ≤ 11 + 32 * m1 ∧ mA ≤ m1 ∧ 5059 + 5 * k ≤ mA + (14 * n + 3) + 15 ∧ Cur w' b M a l c mA ∧ Ext (fun k => k = b) w w') → K (B x) w') → ∀ {R : Rt}, newC (ss.map fun s => .string (B s)) 9 (fun b21 w22 => clI 82 ([.pointer (some ⟨b, 0, none⟩), .int .i64 ((ss.length : Nat) : Int)]) w22 R fun n23 w24 => ixS (some ⟨b21, 0, none⟩) ss.length n23 fun b26 o27 => lS w24 b26 (o27 + (Int.toNat n23) * 1) fun s28 => K s28 w24) w18 := by
        intro ss K h2 h100 hss hK R
        refine newC_in fun w22 s22 k22 e22 => ?_
        refine (pick_ok (hC1.ext e22 fun _ _ h => h) (by omega) ss.length h2 (by omega)).use fun e w24 he => ?_
        obtain ⟨_, m2, rfl, ⟨h3, h4, q, rfl, hq, _⟩, hC2, e2⟩ := he
        have k24 := k22.keep e2 (by have := hC1.lt; omega)
        exact ⟨q, rfl, _, 0, ⟨rfl, by omega, by omega⟩, _, cell_pick k24 hq, hK (J (hss _ (List.getElem_mem hq)) (by omega) h4 hC2 ((hE1.trans (Ext.mono e22 fun _ _ h => h.elim)).trans e2))⟩
      have hgrp : ∀ {KK : Int → ByteArray → World → Prop} {R : Rt}, (∀ {z : Nat} {x : Bytes} {w' : World}, (∃ (g' : Nat) (x' : Bytes) (mA : Nat), (z : Int) = g' ∧ B x = B x' ∧ g' ≤ gi ∧ AtD pl (n + 3) (9 - gi) x' (9 - g') ∧ x'.length + 32 * mA ≤ 11 + 32 * m1 ∧ mA ≤ m1 ∧ 5059 + 5 * k ≤ mA + (14 * n + 3) + 15 ∧ Cur w' b M a l c mA ∧ Ext (fun k => k = b) w w') → KK z (B x) w') → (r12 = 4 ∨ r12 = 5 ∨ r12 = 6) →
          (cB (decide ((gi : Int) > 0)) ((cB (decide ((n : Int) > 0)) (clV 107 ([.pointer (some ⟨b, 0, none⟩), .int .i64 (IntKind.wrap .i64 ((n : Int) - 1)), .int .i64 (IntKind.wrap .i64 ((gi : Int) - 1)), .bool pl]) w18 R fun r48 w47 => ∃ (s45 : ByteArray), ∃ (n46 : Int), r48 = .tuple #[.string s45, .int .i64 n46] ∧ ((⟨#[40]⟩ : ByteArray).size + s45.size ≤ 9223372036854775807) ∧ (((⟨#[40]⟩ : ByteArray) ++ s45).size + (⟨#[41]⟩ : ByteArray).size ≤ 9223372036854775807) ∧ KK n46 (((⟨#[40]⟩ : ByteArray) ++ s45) ++ (⟨#[41]⟩ : ByteArray)) w47) (KK gi (⟨#[98]⟩ : ByteArray) w18))) (KK gi (⟨#[98]⟩ : ByteArray) w18)) := by
        intro KK R hK h456
        have hb : KK gi (⟨#[98]⟩ : ByteArray) w18 := hK (z := gi) (x := [98]) (J (chr (y := 98) (by decide)) (Nat.le_refl _) (by omega) hC1 hE1)
        have hmi2 : 5059 < mi := by
          by_cases h : 5059 < mi
          · exact h
          · have := (hwin (by omega) (by omega)).1 rfl; omega
        refine ⟨fun h1 => ⟨fun h2 => ?_, fun _ => hb⟩, fun _ => hb⟩
        have h1' : 0 < gi := by have := of_decide_eq_true h1; omega
        have h2' : 0 < n := by have := of_decide_eq_true h2; omega
        have t1 : IntKind.wrap .i64 ((n : Int) - 1) = ((n - 1 : Nat) : Int) := by rw [w64 (by omega)]; omega
        have t2 : IntKind.wrap .i64 ((gi : Int) - 1) = ((gi - 1 : Nat) : Int) := by rw [w64 (by omega)]; omega
        rw [t1, t2]
        refine (ihd (n - 1) (by omega) (by omega) m1 w18 b M a l c (gi - 1) pl (by omega) (by omega) hC1).use fun e w47 he => ?_
        obtain ⟨_, m2, rfl, ⟨z1, z2, y, g2, rfl, hg2, hpt, hyl⟩, hC2, e2⟩ := he
        refine ⟨B y, g2, rfl, ?_, ?_, ?_⟩
        · rw [size_B]; show 1 + _ ≤ _; omega
        · rw [show (⟨#[40]⟩ : ByteArray) = B [40] from rfl, B_append, size_B]; show _ + 1 ≤ _; simp; omega
        · rw [show (⟨#[40]⟩ : ByteArray) = B [40] from rfl, show (⟨#[41]⟩ : ByteArray) = B [41] from rfl, B_append, B_append]
          rw [show n - 1 + 3 = n + 2 from by omega, show 9 - (gi - 1) = 9 - gi + 1 from by omega] at hpt
          have hat := hpt.grpD (by omega)
          refine hK (z := g2) ⟨g2, _, m2, rfl, rfl, by omega, hat, ?_, by omega, by omega, hC2, hE1.trans e2⟩
          simp; omega
      refine ⟨fun _ => ?_, fun _ => ⟨fun _ => ?_, fun _ => ⟨fun _ => ?_, fun _ => ⟨fun _ => ⟨fun hp => ?_, fun hp => ?_⟩, fun _ => ⟨fun h4 => ?_, fun _ => ⟨fun h5 => ?_, fun _ => ⟨fun h6 => ?_, fun _ => ?_⟩⟩⟩⟩⟩⟩⟩
      · exact J (x := [46]) ⟨⟨aS_dot _ _ _, by decide⟩, by decide⟩ (Nat.le_refl _) (by omega) hC1 hE1
      · exact lst (ss := setsD) (by decide) (by decide) (setsD_ok pl (n + 3) (9 - gi)) fun h => h
      · exact lst (ss := escsD) (by decide) (by decide) (escsD_ok pl (n + 3) (9 - gi)) fun h => h
      · exact J (x := [97]) (chr (by decide)) (Nat.le_refl _) (by omega) hC1 hE1
      · subst hp
        refine lst (ss := [[94], [36]]) (by decide) (by decide) (fun s hs => ?_) fun h => h
        simp only [List.mem_cons, List.not_mem_nil, or_false] at hs
        rcases hs with rfl | rfl
        · exact ⟨⟨aS_sta _ _ _, by decide⟩, by decide⟩
        · exact ⟨⟨aS_end _ _, by decide⟩, by decide⟩
      · exact hgrp (KK := fun z s w' => ∃ (g' : Nat) (x : Bytes) (mA : Nat), z = g' ∧ s = B x ∧ g' ≤ gi ∧ AtD pl (n + 3) (9 - gi) x (9 - g') ∧ x.length + 32 * mA ≤ 11 + 32 * m1 ∧ mA ≤ m1 ∧ 5059 + 5 * k ≤ mA + (14 * n + 3) + 15 ∧ Cur w' b M a l c mA ∧ Ext (fun k => k = b) w w') (fun h => h) (.inl (by have : (r12 : Int) = 4 := (by simpa using h4); omega))
      · exact hgrp (KK := fun z s w' => ∃ (g' : Nat) (x : Bytes) (mA : Nat), z = g' ∧ s = B x ∧ g' ≤ gi ∧ AtD pl (n + 3) (9 - gi) x (9 - g') ∧ x.length + 32 * mA ≤ 11 + 32 * m1 ∧ mA ≤ m1 ∧ 5059 + 5 * k ≤ mA + (14 * n + 3) + 15 ∧ Cur w' b M a l c mA ∧ Ext (fun k => k = b) w w') (fun h => h) (.inr (.inl (by have : (r12 : Int) = 5 := (by simpa using h5); omega)))
      · exact hgrp (KK := fun z s w' => ∃ (g' : Nat) (x : Bytes) (mA : Nat), z = g' ∧ s = B x ∧ g' ≤ gi ∧ AtD pl (n + 3) (9 - gi) x (9 - g') ∧ x.length + 32 * mA ≤ 11 + 32 * m1 ∧ mA ≤ m1 ∧ 5059 + 5 * k ≤ mA + (14 * n + 3) + 15 ∧ Cur w' b M a l c mA ∧ Ext (fun k => k = b) w w') (fun h => h) (.inr (.inr (by have : (r12 : Int) = 6 := (by simpa using h6); omega)))
      · refine (pick_ok hC1 (by omega) 3 (by omega) (by omega)).use fun e w58 he => ?_
        obtain ⟨_, m2, rfl, ⟨h3, h4, q, rfl, hq, _⟩, hC2, e2⟩ := he
        refine ⟨q, rfl, ?_⟩
        have hy : IntKind.wrap .u8 (IntKind.wrap .i64 (97 + (q : Int))) = ((UInt8.ofNat (97 + q)).toNat : Int) := by
          rw [w64 (by omega), w8, u8N (by omega)]; omega
        refine strOf (w0 := w58) hy (Below.refl _ _) fun w' hb' => ?_
        exact J (chr (by rw [u8N (by omega)]; omega)) (by omega) h4 (hC2.below hb') ((hE1.trans e2).trans (Ext.of_below hb'))
    · rintro d63 _ _ w66 ⟨g', x, mA, rfl, rfl, hg', hat, hxl, hmA, hbA, hCA, hEA⟩
      refine (pick_ok hCA (by omega) 9 (by omega) (by omega)).use fun e w68 he => ?_
      obtain ⟨_, mB, rfl, ⟨p3, p4, q9, rfl, hq9, _⟩, hCB, eB⟩ := he
      have hEB := hEA.trans eB
      refine ⟨q9, rfl, fun s w' => ∃ (y : Bytes) (mC : Nat), s = B y ∧ ElD pl (n + 3) (9 - gi) y (9 - g') ∧ y.length ≤ x.length + 5 ∧ mC ≤ mB ∧ 5059 + 5 * k ≤ mC + (14 * n + 3) + 17 ∧ Cur w' b M a l c mC ∧ Ext (fun k => k = b) w w', ?_, ?_⟩
      · have hsz : ∀ {cc : Bytes}, cc.length ≤ 5 → (B x).size + (B cc).size ≤ 9223372036854775807 := fun h => by rw [size_B, size_B]; omega
        have J : ∀ {cc : Bytes} {w' : World} {mC : Nat}, CnD cc ∧ cc.length ≤ 5 → mC ≤ mB → min (mB - 1) 5059 ≤ mC → Cur w' b M a l c mC → Ext (fun k => k = b) w w' → ∃ (y : Bytes) (mC : Nat), B x ++ B cc = B y ∧ ElD pl (n + 3) (9 - gi) y (9 - g') ∧ y.length ≤ x.length + 5 ∧ mC ≤ mB ∧ 5059 + 5 * k ≤ mC + (14 * n + 3) + 17 ∧ Cur w' b M a l c mC ∧ Ext (fun k => k = b) w w' :=
          fun h1 h2 h3 h4 h5 => ⟨_, _, B_append _ _, hat.elc h1.1, by rw [List.length_append]; have := h1.2; omega, h2, by omega, h4, h5⟩
        refine ⟨fun _ => ?_, fun _ => ⟨fun _ => ?_, fun _ => ⟨fun _ => ?_, fun _ => ⟨fun _ => ?_, fun _ => ⟨fun _ => ?_, fun _ => ?_⟩⟩⟩⟩⟩
        · exact ⟨hsz (cc := [42]) (by decide), J (cc := [42]) ⟨cnD_star, by decide⟩ (Nat.le_refl _) (by omega) hCB hEB⟩
        · exact ⟨hsz (cc := [42]) (by decide), J (cc := [42]) ⟨cnD_star, by decide⟩ (Nat.le_refl _) (by omega) hCB hEB⟩
        · exact ⟨hsz (cc := [43]) (by decide), J (cc := [43]) ⟨cnD_plus, by decide⟩ (Nat.le_refl _) (by omega) hCB hEB⟩
        · exact ⟨hsz (cc := [63]) (by decide), J (cc := [63]) ⟨cnD_opt, by decide⟩ (Nat.le_refl _) (by omega) hCB hEB⟩
        · refine newC_in fun w72 s72 k72 e72 => ?_
          refine (pick_ok (hCB.ext e72 fun _ _ h => h) (by omega) 7 (by omega) (by omega)).use fun e w74 he => ?_
          obtain ⟨_, m2, rfl, ⟨h3, h4, q, rfl, hq, _⟩, hC2, e2⟩ := he
          have k74 : Blk w74.heap w68.heap.size 9 (cntsD.map fun s => .string (B s)) := k72.keep e2 (by have := hCB.lt; omega)
          have hq' : q < cntsD.length := hq
          have hcc := cntsD_ok _ (List.getElem_mem hq')
          exact ⟨q, rfl, _, 0, ⟨rfl, by omega, by omega⟩, _, cell_pick k74 hq', hsz hcc.2, J hcc (by omega) h4 hC2 ((hEB.trans (Ext.mono e72 fun _ _ h => h.elim)).trans e2)⟩
        · exact ⟨x, mB, rfl, hat.el, by omega, Nat.le_refl _, by omega, hCB, hEB⟩
      · rintro d79 _ w81 ⟨y, mC, rfl, hel, hyl, hmC, hbC, hCC, hEC⟩
        have hy0 := List.length_pos_iff.2 hel.1
        have t1 : IntKind.wrap .i64 (((ByteArray.size (B y) : Nat) : Int) - 1) = ((y.length - 1 : Nat) : Int) := by rw [size_B, w64 (by omega)]; omega
        have t3 : IntKind.wrap .i64 ((k : Int) - 1) = ((k - 1 : Nat) : Int) := by rw [w64 (by omega)]; omega
        have t4 : IntKind.wrap .i64 (((ByteArray.size (B y) : Nat) : Int) - 2) = (y.length : Int) - 2 := by rw [size_B, w64 (by omega)]
        rw [t1, t3, t4]
        rw [show Int.toNat ((y.length - 1 : Nat) : Int) = y.length - 1 from by omega, byteAt_B]
        have fin : ∀ {yy : Bytes} {w' : World} {mD : Nat}, SqS pl (n + 3) (9 - gi) yy (9 - g') → yy.length ≤ y.length + 1 → mD ≤ mC → 5059 + 5 * k ≤ mD + (14 * n + 3) + 18 → Cur w' b M a l c mD → Ext (fun k => k = b) w w' →
            ((B xs).size + (B yy).size ≤ 9223372036854775807) ∧ ∃ m85, m85 < k ∧ ∃ (gi : Nat) (xs' : Bytes) (mi : Nat), (g' : Int) = gi ∧ B xs ++ B yy = B xs' ∧ ((k - 1 : Nat) : Int) = m85 ∧ m85 ≤ 3 ∧ gi ≤ g ∧ SqS pl (n + 3) (9 - g) xs' (9 - gi) ∧ xs'.length ≤ 32 * (m - mi) ∧ mi < m ∧ 5059 + 5 * m85 ≤ mi + (14 * n + 3) + 13 ∧ Cur w' b M a l c mi ∧ Ext (fun k => k = b) w w' :=
          fun h1 h2 h3 h4 h5 h6 => ⟨by rw [size_B, size_B]; omega, k - 1, by omega, g', _, _, rfl, B_append _ _, rfl, by omega, by omega, hsq.app h1, by rw [List.length_append]; omega, by omega, by omega, h5, h6⟩
        have plain := fun {w' : World} {mD : Nat} => fin (yy := y) (w' := w') (mD := mD) hel.2.1 (by omega)
        have hsz1 : (B y).size + (⟨#[63]⟩ : ByteArray).size ≤ 9223372036854775807 := by rw [size_B]; show _ + 1 ≤ _; omega
        have hB1 : B y ++ (⟨#[63]⟩ : ByteArray) = B (y ++ [63]) := B_append y [63]
        have lazy : (at_ y (y.length - 1) = 42 ∨ at_ y (y.length - 1) = 43 ∨ at_ y (y.length - 1) = 63 ∨ at_ y (y.length - 1) = 125) → ∀ {w' : World} {mD : Nat}, mD ≤ mC → 5059 + 5 * k ≤ mD + (14 * n + 3) + 18 → Cur w' b M a l c mD → Ext (fun k => k = b) w w' → _ := fun hl {w'} {mD} => fin (yy := y ++ [63]) (w' := w') (mD := mD) (hel.2.2 hl) (by simp)
        -- where a count may be made lazy
        have br : ∀ {KK KL : World → Prop} {R : Rt}, (∀ {w' : World} {mD : Nat}, mD ≤ mC → 5059 + 5 * k ≤ mD + (14 * n + 3) + 18 → Cur w' b M a l c mD → Ext (fun k => k = b) w w' → KK w') → (∀ {w' : World} {mD : Nat}, mD ≤ mC → 5059 + 5 * k ≤ mD + (14 * n + 3) + 18 → Cur w' b M a l c mD → Ext (fun k => k = b) w w' → KL w') →
            clI 82 ([.pointer (some ⟨b, 0, none⟩), .int .i64 3]) w81 R fun n82 w83 => (cB (n82 == 0) ((cB (decide (((ByteArray.size (B y) : Nat) : Int) > 1)) ((ixT (B y) ((y.length : Int) - 2)) ∧ (cB ((byteAt (B y) (Int.toNat ((y.length : Int) - 2))) != 92) (KL w83) (KK w83))) (KK w83))) (KK w83)) := by
          intro KK KL R hK hL
          refine (pick_ok hCC (by omega) 3 (by omega) (by omega)).use fun e w83 he => ?_
          obtain ⟨_, mD, rfl, ⟨h3, h4, q, rfl, hq, _⟩, hC2, e2⟩ := he
          have hpK := hK (by omega) (by omega) hC2 (hEC.trans e2)
          refine ⟨q, rfl, ⟨fun _ => ⟨fun h1 => ⟨⟨?_, ?_⟩, fun _ => hL (by omega) (by omega) hC2 (hEC.trans e2), fun _ => hpK⟩, fun _ => hpK⟩, fun _ => hpK⟩⟩
          · have := of_decide_eq_true h1; rw [size_B] at this; omega
          · rw [size_B]; omega
        refine ⟨⟨by omega, by rw [size_B]; omega⟩, fun h42 => ?_, fun _ => ⟨fun h43 => ?_, fun _ => ⟨fun h125 => ?_, fun _ => ⟨fun h63 => ⟨fun _ => ?_, fun _ => plain (Nat.le_refl _) (by omega) hCC hEC⟩, fun _ => plain (Nat.le_refl _) (by omega) hCC hEC⟩⟩⟩⟩
        · have hl : at_ y (y.length - 1) = 42 := by have : ((at_ y (y.length - 1) : Nat) : Int) = 42 := by simpa using h42
                                                    omega
          exact br plain fun h1 h2 h3 h4 => ⟨hsz1, by rw [hB1]; exact lazy (.inl hl) h1 h2 h3 h4⟩
        · have hl : at_ y (y.length - 1) = 43 := by have : ((at_ y (y.length - 1) : Nat) : Int) = 43 := by simpa using h43
                                                    omega
          exact br plain fun h1 h2 h3 h4 => ⟨hsz1, by rw [hB1]; exact lazy (.inr (.inl hl)) h1 h2 h3 h4⟩
        · have hl : at_ y (y.length - 1) = 125 := by have : ((at_ y (y.length - 1) : Nat) : Int) = 125 := by simpa using h125
                                                     omega
          exact br plain fun h1 h2 h3 h4 => ⟨hsz1, by rw [hB1]; exact lazy (.inr (.inr (.inr hl))) h1 h2 h3 h4⟩
        · have hl : at_ y (y.length - 1) = 63 := by have : ((at_ y (y.length - 1) : Nat) : Int) = 63 := by simpa using h63
                                                    omega
          exact br plain fun h1 h2 h3 h4 => ⟨hsz1, by rw [hB1]; exact lazy (.inr (.inr (.inl hl))) h1 h2 h3 h4⟩
  · have hk0 : k = 0 := by have := of_decide_eq_false g1; omega
    subst hk0
    refine (pick_ok hCi (by omega) 6 (by omega) (by omega)).use fun e w113 he => ?_
    obtain ⟨_, m1, rfl, ⟨p1, p2, r6, rfl, hr6, hwin⟩, hC1, e1⟩ := he
    have hE1 := hEi.trans e1
    refine ⟨r6, rfl, fun h0 => ?_, fun h0 => ⟨_, m1, rfl, ⟨by omega, by omega, xs, gi, rfl, hgi, hsq.pat, by omega⟩, hC1, hE1⟩⟩
    have hr0 : r6 = 0 := by have : (r6 : Int) = 0 := by simpa using h0
                            omega
    have hmi2 : 5059 < mi := by
      by_cases h : 5059 < mi
      · exact h
      · exact absurd hr0 ((hwin (by omega) (by omega)).2 rfl)
    refine (ihm m1 (by omega) w113 b M a l c gi pl (by omega) (by omega) hC1).use fun e w117 he => ?_
    obtain ⟨_, m2, rfl, ⟨z1, z2, y, g2, rfl, hg2, hpt, hyl⟩, hC2, e2⟩ := he
    refine ⟨B y, g2, rfl, ?_, ?_, _, m2, rfl, ⟨by omega, by omega, xs ++ 124 :: y, g2, ?_, by omega, PtS.alt hsq hpt, ?_⟩, hC2, hE1.trans e2⟩
    · rw [size_B]; show 1 + _ ≤ _; omega
    · rw [show (⟨#[124]⟩ : ByteArray) = B [124] from rfl, B_append, size_B, size_B]; simp; omega
    · rw [show (⟨#[124]⟩ : ByteArray) = B [124] from rfl, B_append, B_append]; rfl
    · simp; omega
end Go.Proofs.Ytngbiaeliphdjaa.V
/- Drawn patterns and texts. No statement of the seat is proved here. -/
namespace Go.Proofs.Ytngbiaeliphdjaa.V
open Go.Vc Go.Proofs Go.RowKit
set_option linter.unusedVariables false
set_option linter.unusedSimpArgs false
theorem text_ok {w : World} {b M : Nat} {a : Option Addr} {l c m : Nat} (h : Cur w b M a l c m) (hm : 100 ≤ m) (n : Nat) (h1 : 1 ≤ n) (hn : n ≤ 20) :
    Cl Try.prog 67 [.pointer (some ⟨b, 0, none⟩), .int .i64 (n : Int)] w (Drew w b M a l c fun v m' => min m 5059 ≤ m' + 2 * n + 2 ∧ ∃ s : Bytes, v = .string (B s) ∧ s.length ≤ n) := by
  apply vc67
  unfold V67
  have tn : IntKind.wrap .i64 ((n : Int) + 1) = ((n + 1 : Nat) : Int) := by rw [w64 (by omega)]; omega
  rw [tn]
  have hbl := h.lt
  refine (pick_ok h (by omega) (n + 1) (by omega) (by omega)).use fun e w5 he => ?_
  obtain ⟨_, m5, rfl, ⟨q1, q2, r, rfl, hr, _⟩, hC5, e5⟩ := he
  refine ⟨r, rfl, fun k ax lx cx j w' => ∃ (xs : Bytes) (mi : Nat), j = k ∧ k ≤ r ∧ xs.length + k = r ∧ xs.length = lx ∧ min m 5059 ≤ mi + 1 + 2 * xs.length ∧ Row w.heap.size w' 5 1 ax lx cx (u8s xs) ∧ Cur w' b M a l c mi ∧ Ext (fun k => k = b) w w', ⟨r, [], m5, rfl, Nat.le_refl _, by simp, rfl, by simp; omega, Row.nil _ _ e5.size, hC5, e5⟩, ?_⟩
  rintro k d ax lx cx _ w10 ⟨xs, mi, rfl, hk, hxr, hxl, hbd, hR, hCi, hEi⟩
  -- a byte more
  have app : ∀ {w' : World} {mj : Nat} {y : UInt8} {x : Int} {K : Option Addr → Nat → Nat → World → Prop}, x = (y.toNat : Int) → Cur w' b M a l c mj → Ext (fun k => k = b) w10 w' → (∀ a2 c2 w2, Row w.heap.size w2 5 1 a2 (lx + 1) c2 (u8s (xs ++ [y])) → Cur w2 b M a l c mj → Ext (fun k => k = b) w w2 → K a2 (lx + 1) c2 w2) →
      newC [.int .u8 x] 5 (fun b20 w21 => ∃ (a22 : Option Addr), ∃ (l22 : Nat), ∃ (c22 : Nat), ∃ (w23 : World), (Builtin.append_ #[22, 22] 22 #[.slice ax lx cx, .slice (some ⟨b20, 0, none⟩) 1 1]).run Try.prog w21 = .ok (.slice a22 l22 c22) w23 ∧ K a22 l22 c22 w23) w' := by
    intro w' mj y x K hx hC hE hK
    subst hx
    obtain ⟨a3, c3, w3, r1, r2, r3⟩ := (hR.keep hE fun k hk h => by omega).app1 elemU8 (ys := u8s [y]) (n := 1) rfl rfl (by omega) (by omega)
    exact ⟨a3, _, c3, w3, r1, hK _ _ _ (by rw [u8s_append]; exact r2) (hC.ext r3 fun k hk (h : _ ≤ k) => by omega) ((hEi.trans hE).step r3 fun i hi (h : _ ≤ i) => by omega)⟩
  refine ⟨fun g => ?_, fun g => ?_⟩
  · have g' : 0 < k := by have := of_decide_eq_true g; omega
    have t3 : IntKind.wrap .i64 ((k : Int) - 1) = ((k - 1 : Nat) : Int) := by rw [w64 (by omega)]; omega
    rw [t3]
    refine (pick_ok hCi (by omega) 12 (by omega) (by omega)).use fun e w15 he => ?_
    obtain ⟨_, m1, rfl, ⟨p1, p2, q, rfl, hq, _⟩, hC1, e1⟩ := he
    refine ⟨q, rfl, fun _ => ?_, fun _ => ?_⟩
    · refine (pick_ok hC1 (by omega) 6 (by omega) (by omega)).use fun e w18 he => ?_
      obtain ⟨_, m2, rfl, ⟨p3, p4, q', rfl, hq', _⟩, hC2, e2⟩ := he
      refine ⟨q', rfl, ⟨by omega, by show (q' : Int) < 6; omega⟩, ?_⟩
      exact app rfl hC2 (e1.trans e2) fun a2 c2 w2 r2 hC hE => ⟨k - 1, by omega, _, m2, rfl, by omega, by simp; omega, by simp; omega, by simp; omega, r2, hC, hE⟩
    · refine (pick_ok hC1 (by omega) 3 (by omega) (by omega)).use fun e w18 he => ?_
      obtain ⟨_, m2, rfl, ⟨p3, p4, q', rfl, hq', _⟩, hC2, e2⟩ := he
      have hy : IntKind.wrap .u8 (IntKind.wrap .i64 (97 + (q' : Int))) = ((UInt8.ofNat (97 + q')).toNat : Int) := by
        rw [w64 (by omega), w8, UInt8.toNat_ofNat']; omega
      exact ⟨q', rfl, app hy hC2 (e1.trans e2) fun a2 c2 w2 r2 hC hE => ⟨k - 1, by omega, _, m2, rfl, by omega, by simp; omega, by simp; omega, by simp; omega, r2, hC, hE⟩⟩
  · have hk0 : k = 0 := by have := of_decide_eq_false g; omega
    subst hk0
    refine (pick_ok hCi (by omega) 9 (by omega) (by omega)).use fun e w34 he => ?_
    obtain ⟨_, m1, rfl, ⟨p1, p2, q, rfl, hq, _⟩, hC1, e1⟩ := he
    have fin : ∃ (s41 : ByteArray), (convert 22 9 (.slice ax lx cx)).run Try.prog w34 = .ok (.string s41) w34 ∧ Drew w b M a l c (fun v m' => min m 5059 ≤ m' + 2 * n + 2 ∧ ∃ s : Bytes, v = .string (B s) ∧ s.length ≤ n) (.returned (.string s41)) w34 :=
      ⟨_, row_str (hR.keep e1 fun k hk h => by omega), _, m1, rfl, ⟨by omega, xs, rfl, by omega⟩, hC1, hEi.trans e1⟩
    refine ⟨q, rfl, fun _ => ⟨fun h2 => ?_, fun _ => fin⟩, fun _ => fin⟩
    have h2' : lx < n := by have := of_decide_eq_true h2; omega
    exact app (y := 10) rfl hC1 e1 fun a2 c2 w2 r2 hC hE => ⟨_, row_str r2, _, m1, rfl, ⟨by omega, _, rfl, by simp; omega⟩, hC, hE⟩
/-- A pattern that is read. -/
def GoodP (pl : Bool) (s : Bytes) : Prop := (readP s).ok = true ∧ (pl = true → NE (readP s).pieces) ∧ s.length ≤ 120
theorem good_abc (pl : Bool) : GoodP pl [40, 97, 124, 97, 98, 41, 42, 99, 63] := by
  have a1 : ∀ d g, SqS pl d g [97] g := fun d g => (aS_chr pl d g (by decide)).one
  have b1 : ∀ d g, SqS pl d g [98] g := fun d g => (aS_chr pl d g (by decide)).one
  have p1 : PtS pl 5 1 [97, 124, 97, 98] 1 := PtS.alt (a1 5 1) (((a1 5 1).app (b1 5 1)).pat)
  have g1 : AtS pl 6 0 [40, 97, 124, 97, 98, 41] 1 := p1.grp (g := 0) (by decide)
  have s1 : SqS pl 6 0 [40, 97, 124, 97, 98, 41, 42, 99, 63] 1 := (g1.cnt cnD_star.1).app ((aS_chr pl 6 1 (c := 99) (by decide)).cnt cnD_opt.1)
  have := s1.pat.read (by decide)
  exact ⟨this.1, this.2, by decide⟩
theorem good_ok {w : World} {b M : Nat} {a : Option Addr} {l c m : Nat} (h : Cur w b M a l c m) (hm : 5059 ≤ m) (pl : Bool) :
    Cl Try.prog 66 [.pointer (some ⟨b, 0, none⟩), .bool pl] w (Drew w b M a l c fun v m' => 5000 ≤ m' ∧ ∃ s : Bytes, v = .string (B s) ∧ GoodP pl s) := by
  apply vc66
  unfold V66
  refine (pat_ok 3 (by omega) m w b M a l c 9 pl hm (by omega) h).use fun e w6 he => ?_
  obtain ⟨_, m6, rfl, ⟨z1, z2, y, g2, rfl, hg2, hpt, hyl⟩, hC2, e2⟩ := he
  refine ⟨B y, g2, rfl, fun g => ⟨_, m6, rfl, ⟨by omega, _, rfl, good_abc pl⟩, hC2, e2⟩, fun g => ?_⟩
  have g' : y.length ≤ 120 := by have := of_decide_eq_false g; rw [size_B] at this; omega
  have := hpt.read g'
  exact ⟨_, m6, rfl, ⟨by omega, y, rfl, this.1, this.2, g'⟩, hC2, e2⟩
def RetPT (pl : Bool) (n : Nat) (w : World) : Rt := fun e w' => ∃ p t : Bytes, e = .returned (.tuple #[.string (B p), .string (B t)]) ∧ GoodP pl p ∧ t.length ≤ n ∧ Below w.heap.size w w'
theorem drawn_ok {w : World} {a : Option Addr} {l c : Nat} (h : GBytes w w.heap.size a l) (hl : l ≤ 1048576) : Cl Try.prog 20 [.slice a l c] w (RetPT false 14 w) := by
  apply vc20
  unfold V20
  refine cur_in h hl fun w3 m hm hC B3 => ?_
  refine (good_ok hC hm false).use fun e w5 he => ?_
  obtain ⟨_, m5, rfl, ⟨q1, p, rfl, hp⟩, hC5, e5⟩ := he
  refine ⟨_, rfl, (text_ok hC5 (by omega) 14 (by omega) (by omega)).use fun e w8 he => ?_⟩
  obtain ⟨_, m8, rfl, ⟨_, t, rfl, ht⟩, hC8, e8⟩ := he
  exact ⟨_, rfl, p, t, rfl, hp, ht, Ext.to (Ext.to B3 e5 fun i h => by omega) e8 fun i h => by omega⟩
theorem plain_ok {w : World} {a : Option Addr} {l c : Nat} (h : GBytes w w.heap.size a l) (hl : l ≤ 1048576) : Cl Try.prog 55 [.slice a l c] w (RetPT true 10 w) := by
  apply vc55
  unfold V55
  refine cur_in h hl fun w3 m hm hC B3 => ?_
  refine (good_ok hC hm true).use fun e w5 he => ?_
  obtain ⟨_, m5, rfl, ⟨q1, p, rfl, hp⟩, hC5, e5⟩ := he
  refine ⟨_, rfl, (text_ok hC5 (by omega) 10 (by omega) (by omega)).use fun e w8 he => ?_⟩
  obtain ⟨_, m8, rfl, ⟨_, t, rfl, ht⟩, hC8, e8⟩ := he
  exact ⟨_, rfl, p, t, rfl, hp, ht, Ext.to (Ext.to B3 e5 fun i h => by omega) e8 fun i h => by omega⟩
end Go.Proofs.Ytngbiaeliphdjaa.V
/- A byte of an argument of a law. No statement of the seat is proved here. -/
namespace Go.Proofs.Ytngbiaeliphdjaa.V
open Go.Vc Go.Proofs Go.RowKit
set_option linter.unusedVariables false
set_option linter.unusedSimpArgs false
theorem _root_.Go.Vc.GBytes.below {w w' : World} {B : Nat} {a : Option Addr} {l : Nat} (h : GBytes w B a l) (hB : B ≤ w.heap.size) (e : Below w.heap.size w w') : GBytes w' B a l := h.ext (S := fun _ => False) (Ext.of_below e) hB fun _ _ h => h
theorem wByte_ok {w : World} {B : Nat} {a : Option Addr} {l c : Nat} (h : GBytes w B a l) (i : Nat) (hi : i ≤ 1000) :
    Cl Try.prog 28 [.slice a l c, .int .i64 (i : Int)] w (fun e w' => ∃ r : Nat, e = .returned (.int .i64 (r : Int)) ∧ r ≤ 255 ∧ Below w.heap.size w w') := by
  apply vc28
  unfold V28
  refine ⟨fun _ => ⟨0, rfl, by omega, Below.refl _ _⟩, fun g => ?_⟩
  have hl : l ≠ 0 := by rintro rfl; simp at g
  rcases h.2 with h0 | ⟨b, o, rfl, hb, hc⟩
  · omega
  have ht : Int.tmod (i : Int) ((l : Nat) : Int) = ((i % l : Nat) : Int) := by rw [Int.tmod_eq_emod_of_nonneg (by omega), Int.natCast_emod]
  have hlt := Nat.mod_lt i (Nat.pos_of_ne_zero hl)
  obtain ⟨n, h1, h2, h3⟩ := hc (i % l) hlt
  rw [ht]
  refine ⟨by omega, b, o, ⟨rfl, by omega, by omega⟩, n, ?_, n.toNat, ?_, by omega, Below.refl _ _⟩
  · rw [show Int.toNat ((i % l : Nat) : Int) * 1 = i % l from by omega]; exact h3
  · rw [w64 (by omega), Int.toNat_of_nonneg h1]
theorem cnt_mod (r : Nat) (n : Nat) (h : 0 < n) : Int.tmod (r : Int) ((n : Nat) : Int) = ((r % n : Nat) : Int) := by rw [Int.tmod_eq_emod_of_nonneg (by omega), Int.natCast_emod]
end Go.Proofs.Ytngbiaeliphdjaa.V
/- Equality of a struct with itself. No statement of the seat is proved here. -/
namespace Go.Proofs.Ytngbiaeliphdjaa.V
open Go.Vc Go.Proofs Go.RowKit
set_option linter.unusedVariables false
set_option linter.unusedSimpArgs false

theorem eqFields_refl {P : Program} {w : World} (d : Nat) (xs : Array Value) : ∀ fs : List Field, (∀ f ∈ fs, ∃ a, (part f.type xs f.offset).run P w = .ok a w ∧ (Op.equalIn d f.type a a).run P w = .ok true w) → (Op.eqFields d xs xs fs).run P w = .ok true w
  | [], _ => by simp [Op.eqFields]
  | f :: fs, h => by
    obtain ⟨a, h1, h2⟩ := h f (by simp)
    have ih := eqFields_refl d xs fs fun g hg => h g (by simp [hg])
    simp only [Op.eqFields]
    split
    · simp [h1, h2, ih]
    · exact ih
theorem mem_fields {fs : List Field} {l : List (TypeId × Nat)} (h : fs.map (fun f => (f.type, f.offset)) = l) {f : Field} (hf : f ∈ fs) : (f.type, f.offset) ∈ l := by
  rw [← h]; exact List.mem_map.2 ⟨f, hf, rfl⟩
theorem eq31 (n m : Int) (w : World) : (Op.equal 31 (.agg #[.int .i64 n, .int .i64 m]) (.agg #[.int .i64 n, .int .i64 m])).run Try.prog w = .ok true w := by
  unfold Op.equal
  rw [show Op.maxDepth = 9998 + 1 + 1 from rfl]
  rw [run_equalIn_struct w (9998 + 1) 31 _ _ (by kernel_rfl) (by kernel_rfl)]
  refine eqFields_refl _ _ _ fun f hf => ?_
  have := mem_fields (l := [(3, 0), (3, 1)]) (by kernel_rfl) hf
  simp only [List.mem_cons, List.not_mem_nil, or_false, Prod.mk.injEq] at this
  rcases this with ⟨h1, h2⟩ | ⟨h1, h2⟩ <;> rw [h1, h2]
  · exact ⟨.int .i64 n, by kernel_rfl, by rw [run_equalIn_int w 9998 3 .i64 .i64 _ _ Try.underlying3]; simp⟩
  · exact ⟨.int .i64 m, by kernel_rfl, by rw [run_equalIn_int w 9998 3 .i64 .i64 _ _ Try.underlying3]; simp⟩
/-- As the laws ask it. -/
theorem ne_of {T : TypeId} {v : Value} {w : World} (h : (Op.equal T v v).run Try.prog w = .ok true w) : (do pure (Value.bool (!(← Op.equal T v v))) : Sem Value).run Try.prog w = .ok (.bool false) w := by
  rw [bind_run h]; rfl
end Go.Proofs.Ytngbiaeliphdjaa.V
/- Printed by vcgen.py, a program of this session: formulas of Go functions, each with the proof that it gives the function's contract. No statement of the seat is proved here. -/
namespace Go.Proofs.Ytngbiaeliphdjaa.V
open Go.Vc Go.Proofs
set_option linter.unusedVariables false
set_option maxRecDepth 100000
/-- spec.l1decimal -/
def V106 (n1 : Int) (R : Rt) : Pred := fun w =>
  ∃ (I2 : Nat → Int → ByteArray → World → Prop), (∃ k4, I2 k4 n1 (⟨#[]⟩ : ByteArray) w) ∧ ∀ k3 (d6 : Nat → Value) n7 s8 w5, I2 k3 n7 s8 w5 → ((10 : Int) ≠ 0) ∧ newC [.int .u8 (IntKind.wrap .u8 (IntKind.wrap .i64 (48 + (Int.tmod n7 10))))] 5 (fun b9 w10 => ∃ s11, (convert 22 9 (.slice (some ⟨b9, 0, none⟩) 1 1)).run Try.prog w10 = .ok (.string s11) w10 ∧ (s11.size + s8.size ≤ 9223372036854775807) ∧ ((10 : Int) ≠ 0) ∧ (cB ((IntKind.wrap .i64 (Int.tdiv n7 10)) == 0) (R (.returned (.string (s11 ++ s8))) w10) ((∃ m12, m12 < k3 ∧ I2 m12 (IntKind.wrap .i64 (Int.tdiv n7 10)) (s11 ++ s8) w10)))) w5
def scr106 : Scr := (.q 1 (.q 1 (.loop (dr [(0, some (.int .i64)), (3, some .str)] [(2,1),(4,13)]) (.q 9 (.q 3 (.q 2 (.cond (.q 2 .nil) .nil)))))))
theorem vc106 {n1} {R w} (h : V106 n1 R w) : Cl Try.prog 106 [.int .i64 n1] w R :=
  cl_of scr106 Try.func106 (by kernel_rfl) _ _ (by kernel_rfl) h
end Go.Proofs.Ytngbiaeliphdjaa.V
/- A number's digits, as the reference writes them. No statement of the seat is proved here. -/
namespace Go.Proofs.Ytngbiaeliphdjaa.V
open Go.Vc Go.Proofs Go.RowKit
set_option linter.unusedVariables false
set_option linter.unusedSimpArgs false
theorem decimal_ok (n : Nat) (h : n ≤ 99) (w : World) : Cl Try.prog 106 [.int .i64 (n : Int)] w (RetB (.string (B (decN n))) w) := by
  apply vc106
  unfold V106
  have e : ∀ m : Nat, m ≤ 9 → IntKind.wrap .u8 (IntKind.wrap .i64 (48 + (m : Int))) = ((UInt8.ofNat (48 + m)).toNat : Int) := fun m hm => by
    rw [w64 (by omega), w8, u8N (by omega)]; omega
  have t1 : ∀ x : Nat, x ≤ 99 → Int.tmod (x : Int) 10 = ((x % 10 : Nat) : Int) := fun x hx => by rw [Int.tmod_eq_emod_of_nonneg (by omega)]; omega
  have t2 : ∀ x : Nat, x ≤ 99 → IntKind.wrap .i64 (Int.tdiv (x : Int) 10) = ((x / 10 : Nat) : Int) := fun x hx => by rw [Int.tdiv_eq_ediv_of_nonneg (by omega), w64 (by omega)]; omega
  refine ⟨fun k x s w' => (k = 2 ∧ x = n ∧ s = B [] ∧ Below w.heap.size w w') ∨ (k = 1 ∧ 10 ≤ n ∧ x = ((n / 10 : Nat) : Int) ∧ s = B [UInt8.ofNat (48 + n % 10)] ∧ Below w.heap.size w w'), ⟨2, .inl ⟨rfl, rfl, rfl, Below.refl _ _⟩⟩, ?_⟩
  rintro k d x s w1 (⟨rfl, rfl, rfl, B1⟩ | ⟨rfl, hn, rfl, rfl, B1⟩)
  · rw [t1 n h, t2 n h]
    refine ⟨by decide, strOf (e _ (by omega)) B1 fun w' hb' => ⟨by rw [size_B, size_B]; simp, by decide, fun g => ?_, fun g => ?_⟩⟩
    · have g' : n / 10 = 0 := by have : ((n / 10 : Nat) : Int) = 0 := by simpa using g
                                 omega
      refine ⟨?_, hb'⟩
      rw [B_append]
      unfold decN
      rw [if_pos (by omega), show n % 10 = n from by omega]
      rfl
    · have g' : ¬ n / 10 = 0 := by have : ¬ ((n / 10 : Nat) : Int) = 0 := by simpa using g
                                   omega
      exact ⟨1, by omega, .inr ⟨rfl, by omega, rfl, by rw [B_append]; rfl, hb'⟩⟩
  · rw [t1 _ (by omega), t2 _ (by omega)]
    refine ⟨by decide, strOf (e _ (by omega)) B1 fun w' hb' => ⟨by rw [size_B, size_B]; simp, by decide, fun g => ?_, fun g => ?_⟩⟩
    · refine ⟨?_, hb'⟩
      rw [B_append]
      unfold decN
      rw [if_neg (by omega), show n / 10 % 10 = n / 10 from by omega]
      rfl
    · have : ¬ ((n / 10 / 10 : Nat) : Int) = 0 := by simpa using g
      omega
end Go.Proofs.Ytngbiaeliphdjaa.V
/- A match in a box. No statement of the seat is proved here. -/
namespace Go.Proofs.Ytngbiaeliphdjaa.V
open Go.Vc Go.Proofs Go.RowKit
set_option linter.unusedVariables false
/-- A match is laid into a box. -/
theorem mbox_in {w : World} {e : ME} {K : Nat → World → Prop} (h : ∀ w2, w2.heap.size = w.heap.size + 1 → Blk w2.heap w.heap.size 29 (mC e) → Below w.heap.size w w2 → K w.heap.size w2) :
    newC [.bool false, .int .i64 0, .int .i64 0, .slice none 0 0] 29 (fun b w8 => stW b 0 [.bool e.1.ok, .int .i64 (e.1.fr : Int), .int .i64 (e.1.to : Int), .slice e.2.1 e.2.2.1 e.2.2.2] (fun w9 => K b w9) w8) w := by
  refine newC_in fun w1 s1 k1 e1 => ?_
  refine stW_in k1 (by show 0 + 4 ≤ 4; decide) fun w2 s2 k2 e2 => ?_
  exact h w2 (by omega) k2 (Ext.to (Ext.to (Below.refl _ _) e1 fun _ h => h.elim) e2 fun i h => by omega)
end Go.Proofs.Ytngbiaeliphdjaa.V
/- The law on replacing. No statement of the seat is proved here. -/
namespace Go.Proofs.Ytngbiaeliphdjaa.V
open Go.Vc Go.Proofs Go.RowKit
set_option linter.unusedVariables false
set_option linter.unusedSimpArgs false
theorem eq68 (t : Bool) (n : Int) (s : ByteArray) (w : World) : (Op.equal 68 (.agg #[.bool t, .string s, .int .i64 n]) (.agg #[.bool t, .string s, .int .i64 n])).run Try.prog w = .ok true w := by
  unfold Op.equal
  rw [show Op.maxDepth = 9998 + 1 + 1 from rfl]
  rw [run_equalIn_struct w (9998 + 1) 68 _ _ (by kernel_rfl) (by kernel_rfl)]
  refine eqFields_refl _ _ _ fun f hf => ?_
  have := mem_fields (l := [(4, 0), (9, 1), (3, 2)]) (by kernel_rfl) hf
  simp only [List.mem_cons, List.not_mem_nil, or_false, Prod.mk.injEq] at this
  rcases this with ⟨h1, h2⟩ | ⟨h1, h2⟩ | ⟨h1, h2⟩ <;> rw [h1, h2]
  · exact ⟨.bool t, by kernel_rfl, by rw [run_equalIn_bool' w 9998 4 _ _ (by kernel_rfl)]; simp⟩
  · exact ⟨.string s, by kernel_rfl, by rw [run_equalIn_string w 9998 9 _ _ Try.underlying9]; simp⟩
  · exact ⟨.int .i64 n, by kernel_rfl, by rw [run_equalIn_int w 9998 3 .i64 .i64 _ _ Try.underlying3]; simp⟩
theorem okA_good' {pl : Bool} {p t : Bytes} (hp : GoodP pl p) (ht : t.length ≤ 200) : okA p t = true := by
  unfold okA; rw [hp.1]; simpa using ht
/-- A template is drawn. -/
theorem withT_ok {w : World} {a : Option Addr} {l c G : Nat} (h : GBytes w w.heap.size a l) (hl : l ≤ 1048576) (hG : G ≤ 9) :
    Cl Try.prog 65 [.slice a l c, .int .i64 (G : Int)] w (fun e w' => ∃ s : Bytes, e = .returned (.string (B s)) ∧ TpS G s ∧ s.length ≤ 8 ∧ Below w.heap.size w w') := by
  apply vc65
  unfold V65
  have tg : IntKind.wrap .i64 ((G : Int) + 1) = ((G + 1 : Nat) : Int) := by rw [w64 (by omega)]; omega
  rw [tg]
  refine cur_in h hl fun w4 m hm hC B4 => ?_
  refine (pick_ok hC (by omega) 5 (by omega) (by omega)).use fun e w6 he => ?_
  obtain ⟨_, m6, rfl, ⟨q1, q2, r, rfl, hr, _⟩, hC6, e6⟩ := he
  refine ⟨r, rfl, fun k s n w' => ∃ (xs : Bytes) (mi : Nat), n = k ∧ s = B xs ∧ k ≤ 4 ∧ xs.length + 2 * k ≤ 8 ∧ TpS G xs ∧ 5000 + 2 * k ≤ mi ∧ Cur w' w.heap.size w.heap.size a l c mi ∧ Below w.heap.size w w', ⟨r, [], m6, rfl, rfl, by omega, by simp; omega, TpS.nil G, by omega, hC6, Ext.to B4 e6 fun i h => by omega⟩, ?_⟩
  rintro k d _ _ w11 ⟨xs, mi, rfl, rfl, hk, hx, hT, hmi, hCi, Bi⟩
  refine ⟨fun g => ?_, fun g => ⟨xs, rfl, hT, by omega, Bi⟩⟩
  have g' : 0 < k := by have := of_decide_eq_true g; omega
  have t3 : IntKind.wrap .i64 ((k : Int) - 1) = ((k - 1 : Nat) : Int) := by rw [w64 (by omega)]; omega
  rw [t3]
  refine (pick_ok hCi (by omega) 3 (by omega) (by omega)).use fun e w16 he => ?_
  obtain ⟨_, m1, rfl, ⟨p1, p2, q, rfl, hq, _⟩, hC1, e1⟩ := he
  have B1 := Ext.to Bi e1 fun i h => by omega
  have go : ∀ {y : Bytes} {w' : World} {mj : Nat}, TpS G y → y.length ≤ 2 → 5000 + 2 * (k - 1) ≤ mj → Cur w' w.heap.size w.heap.size a l c mj → Below w.heap.size w w' →
      ∃ m18, m18 < k ∧ ∃ (xs_1 : Bytes) (mi : Nat), ((k - 1 : Nat) : Int) = m18 ∧ B xs ++ B y = B xs_1 ∧ m18 ≤ 4 ∧ xs_1.length + 2 * m18 ≤ 8 ∧ TpS G xs_1 ∧ 5000 + 2 * m18 ≤ mi ∧ Cur w' w.heap.size w.heap.size a l c mi ∧ Below w.heap.size w w' :=
    fun h1 h2 h3 h4 h5 => ⟨k - 1, by omega, _, _, rfl, B_append _ _, by omega, by rw [List.length_append]; omega, hT.app h1, h3, h4, h5⟩
  refine ⟨q, rfl, fun _ => ⟨?_, go (y := [120]) (TpS.chr G (by decide)) (by decide) (by omega) hC1 B1⟩, fun _ => ⟨fun _ => ⟨?_, go (y := [36, 36]) (TpS.dol G) (by decide) (by omega) hC1 B1⟩, fun _ => ?_⟩⟩
  · rw [size_B]; show _ + 1 ≤ _; omega
  · rw [size_B]; show _ + 2 ≤ _; omega
  refine (pickN_ok hC1 (by omega) (G + 1) (by omega) (by omega)).use fun e w21 he => ?_
  obtain ⟨_, m2, rfl, ⟨p3, p4, z, rfl, hz⟩, hC2, e2⟩ := he
  have B2 := Ext.to B1 e2 fun i h => by omega
  refine ⟨z, rfl, (decimal_ok z (by omega) w21).ret fun w24 B24 => ⟨_, rfl, ?_⟩⟩
  have hd : decN z = [UInt8.ofNat (48 + z)] := by unfold decN; rw [if_pos (by omega)]
  dsimp only
  rw [hd, show (⟨#[36]⟩ : ByteArray) = B [36] from rfl, B_append]
  refine ⟨by rw [size_B, size_B]; simp, by rw [size_B, size_B]; simp; omega, ?_⟩
  exact go (TpS.grp G (c := UInt8.ofNat (48 + z)) (by rw [u8N (by omega)]; omega) (by rw [u8N (by omega)]; omega)) (by simp) (by omega) (hC2.below B24) (B2.vstep B24)
theorem gbytes_mono {w : World} {M N : Nat} {a : Option Addr} {l : Nat} (h : GBytes w M a l) (hm : M ≤ N) : GBytes w N a l := by
  refine ⟨h.1, h.2.imp id ?_⟩
  rintro ⟨b, o, h1, h2, h3⟩
  exact ⟨b, o, h1, by omega, h3⟩
theorem lenP_app (l m : List Mt) : lenP (l ++ m) = lenP l + lenP m := by simp [lenP]
theorem lawReplaced_ok (a1 : Option Addr) (l1 c1 : Nat) (a2 : Option Addr) (l2 c2 : Nat) (w : World) (h1 : l1 ≤ 1048576 → GBytes w w.heap.size a1 l1) (h2 : l2 ≤ 1048576 → GBytes w w.heap.size a2 l2) :
    Cl Try.prog 19 [.slice a1 l1 c1, .slice a2 l2 c2] w (RetB (.bool true) w) := by
  apply vc19
  unfold V19
  refine ⟨fun _ => ⟨rfl, Below.refl _ _⟩, fun g1 => ⟨fun _ => ⟨rfl, Below.refl _ _⟩, fun g2 => ?_⟩⟩
  have g1' : l1 ≤ 1048576 := by have := of_decide_eq_false g1; omega
  have g2' : l2 ≤ 1048576 := by have := of_decide_eq_false g2; omega
  have H1 := h1 g1'
  have H2 := h2 g2'
  refine (drawn_ok H1 g1').use fun e w5 he => ?_
  obtain ⟨p, t, rfl, hp, ht, B5⟩ := he
  have hok := okA_good' hp (t := t) (by omega)
  have pt := okA_pt hok
  have hal : allA p t = allP (readP p) t 0 := by unfold allA; rw [if_pos hok]
  have hch := pt.chain _ 0 rfl
  rw [← hal] at hch
  have hlen := pt.allLen
  rw [← hal] at hlen
  have impl : ∀ (s : Bytes) (n : Int) (w : World), Cl Try.prog 62 [.string (B p), .string (B t), .string (B s), .int .i64 n] w (RetB (replA p t s n).val w) := fun s n w => by have := implReplace_ok (B p) (B t) (B s) n w; rw [L_B, L_B, L_B] at this; exact this
  have spec : ∀ (s : Bytes) (n : Int) (w : World), Cl Try.prog 61 [.string (B p), .string (B t), .string (B s), .int .i64 n] w (RetB (replA p t s n).val w) := fun s n w => by have := specReplace_ok (B p) (B t) (B s) n w; rw [L_B, L_B, L_B] at this; exact this
  refine ⟨_, _, rfl, (specAll_ok (B p) (B t) w5).use fun e w8 he => ?_⟩
  rw [L_B, L_B] at he
  obtain ⟨a7, l7, c7, es, rfl, Me, hes, B8⟩ := he
  have hl7 := Me.len
  have hesl : es.length = (allA p t).length := by rw [← hes]; simp
  have B8' := B5.vstep B8
  refine ⟨_, _, _, rfl, (impl [36, 48] 1000 w8).ret fun w13 B13 => ?_⟩
  rw [repl_0 hok]
  have B13' := B8'.vstep B13
  refine ⟨_, _, _, rfl, boxR_in fun w17 s17 k17 B17 => ⟨_, k17.cell 0, fun g => by simp at g, fun _ => ⟨_, k17.cell 1, fun g => by simp at g, fun _ => ⟨_, k17.cell 2, fun g => ?_, fun _ => ?_⟩⟩⟩⟩
  · have : ((allA p t).length : Int) ≠ ((l7 : Nat) : Int) := by simpa using g
    omega
  have B17' := B13'.vstep B17
  refine (sreadPattern_ok (B p) w17).use fun e w25 he => ?_
  rw [L_B] at he
  obtain ⟨a24, l24, c24, rs, rfl, _, B25⟩ := he
  have B25' := B17'.vstep B25
  refine ⟨_, _, _, _, _, _, rfl, (withT_ok (gbytes_mono (H2.below (Nat.le_refl _) B25') B25'.size) g2' pt.g9).use fun e w28 he => ?_⟩
  obtain ⟨s, rfl, hT, hsl, B28⟩ := he
  have B28' := B25'.vstep B28
  refine ⟨_, rfl, (wByte_ok (H2.below (Nat.le_refl _) B28') 1 (by omega)).use fun e w31 he => ?_⟩
  obtain ⟨r, rfl, hr, B31⟩ := he
  have B31' := B28'.vstep B31
  refine ⟨r, rfl, by decide, ?_⟩
  have tm := cnt_mod r 4 (by decide)
  rw [show ((4 : Nat) : Int) = 4 from rfl] at tm
  rw [tm]
  have hk := Nat.mod_lt r (show 0 < 4 by decide)
  generalize r % 4 = k at *
  have hw := repl_with (k := k) hok hT (by omega)
  refine (impl s k w31).ret fun w36 B36 => ?_
  generalize hrp : replA p t s (k : Int) = rp at *
  have B36' := B31'.vstep B36
  refine ⟨_, _, _, rfl, boxR_in fun w40 s40 k40 B40 => drw_in fun w41 q41 e41 => ?_⟩
  have k41 := k40.keep e41 fun h => h
  have B41 := Ext.to B40 e41 fun _ h => h.elim
  have B41' := B36'.vstep B41
  refine ⟨_, k41.cell 0, _, k41.cell 1, _, k41.cell 2, (spec s k w41).ret fun w48 B48 => ?_⟩
  rw [hrp]
  have k48 := k41.below B48
  have B48' := B41'.vstep B48
  refine ⟨_, _, _, rfl, k48.cellsAt (n := 3) rfl rfl, false, ne_of (eq68 _ _ _ _), fun g => (by cases g), fun _ => ⟨_, k48.cell 0, fun g => by rw [hw.1] at g; simp at g, fun _ => ⟨_, k48.cell 2, fun g => ?_, fun _ => ?_⟩⟩⟩
  · have := of_decide_eq_true g; have := hw.2; omega
  refine (impl [] 1000 w48).ret fun w56 B56 => ?_
  have hn := repl_nil hok
  generalize replA p t [] 1000 = rn at *
  have k56 := k48.below B56
  have B56' := B48'.vstep B56
  have hz36 := B36'.size
  refine ⟨_, _, _, rfl, stW_in k56 (by show 0 + 3 ≤ 3; decide) fun w58 s58 k58 e58 => ?_⟩
  rw [seg3 rfl] at k58
  have B58' := Ext.to B56' e58 fun i hi => by omega
  refine (implAll_ok (B p) (B t) w58).use fun e w60 he => ?_
  rw [L_B, L_B] at he
  obtain ⟨a59, l59, c59, fs, rfl, Mf, hfs, B60⟩ := he
  have hl59 := Mf.len
  have hfl : fs.length = (allA p t).length := by rw [← hfs]; simp
  have k60 := k58.below B60
  have B60' := B58'.vstep B60
  have hlp := lenP_le hch (by omega)
  refine ⟨_, _, _, rfl, fun j x y w' => ∃ (A D : List ME), fs = A ++ D ∧ x = (t.length : Int) - (lenP (A.map (·.1)) : Nat) ∧ y = A.length ∧ j = D.length ∧ Below w60.heap.size w60 w', ⟨_, [], fs, rfl, by rw [size_B]; simp [lenP], rfl, rfl, Below.refl _ _⟩, ?_⟩
  rintro j d _ _ w65 ⟨A, D, hAD, rfl, rfl, rfl, B65⟩
  have hel : fs.length = A.length + D.length := by rw [hAD]; simp
  have hsum : lenP (A.map (·.1)) + lenP (D.map (·.1)) = lenP (allA p t) := by rw [← hfs, hAD, List.map_append, lenP_app]
  refine ⟨fun g => ?_, fun g => ?_⟩
  · have g' : A.length < l59 := by have := of_decide_eq_true g; omega
    obtain ⟨x, D', rfl⟩ : ∃ x B', D = x :: B' := by
      cases D with
      | nil => simp only [List.length_nil] at hel; omega
      | cons x B' => exact ⟨x, B', rfl⟩
    have e0 : Int.toNat (A.length : Int) = A.length := by omega
    have e1 : IntKind.wrap .i64 ((A.length : Int) + 1) = ((A.length + 1 : Nat) : Int) := by rw [w64 (by omega)]; omega
    rw [e0, e1]
    have M2 := Mf.below B65
    rw [hAD] at M2
    obtain ⟨ba, hba, hc⟩ := M2.cells (i := A.length) (by simp)
    have hge : ∀ h, (A ++ x :: D')[A.length]'h = x := by intro h; simp
    rw [hge] at hc
    have hxm : x.1 ∈ allA p t := by rw [← hfs, hAD]; simp
    have hxo := (hch.mem x.1 hxm).2
    have hlo := hxo.lo
    have hhi := hxo.hi
    have ex : lenP (x.1 :: D'.map (·.1)) = (x.1.to - x.1.fr) + lenP (D'.map (·.1)) := by simp [lenP]
    simp only [List.map_cons] at hsum
    rw [ex] at hsum
    refine ⟨ba, 0, ⟨hba, by omega, by omega⟩, _, hc 0 (by decide), _, hc 1 (by decide), _, hc 2 (by decide), _, _, _, hc 3 (by decide), ?_⟩
    refine mbox_in (e := x) fun w77 s77 k77 B77 => ⟨_, k77.cell 2, _, k77.cell 1, D'.length, by simp, A ++ [x], D', by rw [hAD]; simp, ?_, by simp, rfl, B65.vstep B77⟩
    rw [List.map_append, lenP_app]
    have ex2 : lenP ([x].map (·.1)) = x.1.to - x.1.fr := by simp [lenP]
    rw [ex2, w64 (n := (x.1.to : Int) - (x.1.fr : Int)) (by omega), w64 (by omega)]
    omega
  · have g' : ¬ A.length < l59 := by have := of_decide_eq_false g; omega
    have hD0 : D = [] := by
      cases D with
      | nil => rfl
      | cons x r => simp only [List.length_cons] at hel; omega
    subst hD0
    have k65 := k60.below B65
    have B65' := B60'.vstep B65
    simp only [List.map_nil] at hsum
    have e0 : lenP [] = 0 := rfl
    refine ⟨_, k65.cell 0, fun _ => ⟨_, k65.cell 1, fun _ => ?_, fun g => ?_⟩, fun g => by rw [hn.1] at g; cases g⟩
    · refine (impl [36] 9 w65).ret fun w86 B86 => ⟨_, _, _, rfl, fun _ => ?_, fun g => by rw [repl_bad] at g; simp at g⟩
      refine (impl [] (-1) w86).ret fun w91 B91 => ⟨_, _, _, rfl, ?_, (B65'.vstep B86).vstep B91⟩
      rw [repl_neg]; rfl
    · have g' : ¬ (((B rn.text).size : Nat) : Int) = (t.length : Int) - (lenP (A.map (·.1)) : Nat) := by simpa using g
      rw [size_B] at g'
      omega
end Go.Proofs.Ytngbiaeliphdjaa.V

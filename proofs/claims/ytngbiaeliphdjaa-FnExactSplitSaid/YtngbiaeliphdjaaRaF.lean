/- Parts of a proof, put together: definitions, formulas of Go functions and lemmas. No statement of the seat is proved here. -/
import Derived.ChangeOld
import Derived.ChangeReads
import Derived.ChangeSlices
import Derived.OpenShut
import Derived.ReadAgain
import Derived.Test.YtngbiaeliphdjaaRaE
/- Split on both sides gives one list of texts. No statement of the seat is proved here. -/
namespace Go.Vc
open Go.RowKit
set_option linter.unusedVariables false
def strC (l : List Bytes) : List Value := l.map fun s => .string (B s)
theorem strC_append (l m : List Bytes) : strC (l ++ m) = strC l ++ strC m := by simp [strC]
theorem strC_length (l : List Bytes) : (strC l).length = l.length := by simp [strC]
theorem Row.appX {P : Program} {T e : TypeId} {sz by_ : Nat} (E : Elem P T e sz by_) {N : Nat} {w : World} {a : Option Addr} {l c : Nat} {xs : List Value} (h : Row N w e sz a l c xs) {ys : List Value} {n c' : Nat}
    (hy : ys.length = n * sz) (hs : ys.all scal = true) {a' : Option Addr} (hsrc : n = 0 ∧ a' = none ∨ ∃ b' o', a' = some ⟨b', o', none⟩ ∧ cellsAt w.heap b' o' ys) (hbd : (l + n) * by_ ≤ 70368744177664) (hln : l + n ≤ 70368744177664) :
    ∃ a2 c2 w', (Builtin.append_ #[T, T] T #[.slice a l c, .slice a' n c']).run P w = .ok (.slice a2 (l + n) c2) w' ∧ Row N w' e sz a2 (l + n) c2 (xs ++ ys) ∧ Ext (fun k => blkOf a = some k) w w' := by
  obtain ⟨hv, ho, hN⟩ := h
  obtain ⟨z, hz, hzl⟩ := E.zero
  obtain ⟨a2, c2, w', h1, h2, h3, h4⟩ := append_run (P := P) (T := T) (T' := T) (T'' := T) E.und E.und E.size E.bytes (by rw [hz]; simp) (by rw [hz]; intro y hy; cases hy; exact hzl) hv (a' := a') (n := n) (c' := c') hy hs
    (hsrc.imp (·.1) id) (fun h0 => hsrc.imp (·.2) (fun ⟨b', o', h, _⟩ => ⟨b', o', h⟩)) hbd hln
  refine ⟨a2, c2, w', h1, ⟨h2, ?_, Nat.le_trans hN h3.size⟩, h3⟩
  intro b hb2
  rcases h4 with rfl | rfl
  · exact ho b hb2
  · simp only [blkOf, Option.some.injEq] at hb2; omega
/-- The pieces of a text between matches. -/
def splitP (t : Bytes) : Nat → List Mt → List Bytes
  | p, [] => [sub_ t p t.length]
  | p, m :: r => if m.fr = m.to ∧ (m.fr = 0 ∨ m.fr = t.length) then splitP t p r else sub_ t p m.fr :: splitP t m.to r
theorem splitP_len (t : Bytes) : ∀ (ms : List Mt) (p : Nat), (splitP t p ms).length ≤ ms.length + 1
  | [], p => Nat.le_refl _
  | m :: r, p => by
    unfold splitP
    split
    · have := splitP_len t r p; simp only [List.length_cons]; omega
    · have := splitP_len t r m.to; simp only [List.length_cons]; omega
end Go.Vc
namespace Go.Proofs.Ytngbiaeliphdjaa.V
open Go.Vc Go.Proofs Go.RowKit
set_option linter.unusedVariables false
set_option linter.unusedSimpArgs false
theorem elemStr : Elem Try.prog 55 9 1 16 := ⟨by kernel_rfl, by kernel_rfl, by kernel_rfl, ⟨[.string ⟨#[]⟩], by kernel_rfl, rfl⟩⟩
def splitA (p t : Bytes) : List Bytes := if okA p t = true then splitP t 0 (allP (readP p) t 0) else []
def RetSs (ss : List Bytes) (w : World) : Ending → World → Prop := fun e w' => ∃ a c, e = .returned (.slice a ss.length c) ∧ Row w.heap.size w' 9 1 a ss.length c (strC ss) ∧ Below w.heap.size w w'
theorem splitLoopI {G N : Nat} {w0 w1 : World} {t : ByteArray} {a : Option Addr} {l c : Nat} {es : List ME} (hM : Ms N w1 a l c es) (B0 : Below w0.heap.size w0 w1) (hC : Chain G (L t).length 0 (es.map (·.1))) (hl : es.length ≤ 1000) (hn : (L t).length ≤ 200) {R : Ending → World → Prop} (hR : ∀ e w', RetSs (splitP (L t) 0 (es.map (·.1))) w0 e w' → R e w') :
    ∃ (I11 : Nat → Option Addr → Nat → Nat → Int → Int → World → Prop), (∃ (k13 : Nat), I11 k13 none 0 0 0 0 w1) ∧ ∀ (k12 : Nat) (d15 : Nat → Value) (a16 : Option Addr) (l16 : Nat) (c16 : Nat) (n17 : Int) (n18 : Int) (w14 : World), I11 k12 a16 l16 c16 n17 n18 w14 → (((decide ((n18 : Int) < ((l : Nat) : Int))) = true → ∃ (b19 : Nat) (o20 : Nat), ((a : Option Addr) = some ⟨b19, o20, none⟩ ∧ 0 ≤ (n18 : Int) ∧ (n18 : Int) < ((l : Nat) : Int)) ∧ ∃ (t21 : Bool), cellH w14.heap b19 (o20 + (Int.toNat n18) * 4) = some (.bool t21) ∧ ∃ (n22 : Int), cellH w14.heap b19 (o20 + (Int.toNat n18) * 4 + 1) = some (.int .i64 n22) ∧ ∃ (n23 : Int), cellH w14.heap b19 (o20 + (Int.toNat n18) * 4 + 2) = some (.int .i64 n23) ∧ ∃ (a24 : Option Addr), ∃ (l24 : Nat), ∃ (c24 : Nat), cellH w14.heap b19 (o20 + (Int.toNat n18) * 4 + 3) = some (.slice a24 l24 c24) ∧ newC [.bool false, .int .i64 0, .int .i64 0, .slice none 0 0] 29 (fun (b25 : Nat) (w26 : World) => stW b25 0 [.bool t21, .int .i64 n22, .int .i64 n23, .slice a24 l24 c24] (fun (w27 : World) => ∃ (n28 : Int), cellH w27.heap b25 1 = some (.int .i64 n28) ∧ ∃ (n29 : Int), cellH w27.heap b25 2 = some (.int .i64 n29) ∧ ((((n28 : Int) == n29) = true → ∃ (n30 : Int), cellH w27.heap b25 1 = some (.int .i64 n30) ∧ ((((n30 : Int) == 0) = true → (∃ (m31 : Nat), m31 < k12 ∧ I11 m31 a16 l16 c16 n17 (IntKind.wrap .i64 (n18 + 1)) w27)) ∧ (((n30 : Int) == 0) = false → ∃ (n32 : Int), cellH w27.heap b25 1 = some (.int .i64 n32) ∧ ((((n32 : Int) == ((ByteArray.size t : Nat) : Int)) = true → (∃ (m33 : Nat), m33 < k12 ∧ I11 m33 a16 l16 c16 n17 (IntKind.wrap .i64 (n18 + 1)) w27)) ∧ (((n32 : Int) == ((ByteArray.size t : Nat) : Int)) = false → ∃ (n34 : Int), cellH w27.heap b25 1 = some (.int .i64 n34) ∧ (0 ≤ (n17 : Int) ∧ (n17 : Int) ≤ n34 ∧ (n34 : Int) ≤ ((ByteArray.size t : Nat) : Int)) ∧ newC [.string (ByteArray.extract t (Int.toNat n17) (Int.toNat n34))] 9 (fun (b35 : Nat) (w36 : World) => ∃ (a37 : Option Addr), ∃ (l37 : Nat), ∃ (c37 : Nat), ∃ (w38 : World), (Builtin.append_ #[55, 55] 55 #[.slice a16 l16 c16, .slice (some ⟨b35, 0, none⟩) 1 1]).run Try.prog w36 = .ok (.slice a37 l37 c37) w38 ∧ ∃ (n39 : Int), cellH w38.heap b25 2 = some (.int .i64 n39) ∧ (∃ (m40 : Nat), m40 < k12 ∧ I11 m40 a37 l37 c37 n39 (IntKind.wrap .i64 (n18 + 1)) w38)) w27))))) ∧ (((n28 : Int) == n29) = false → ∃ (n41 : Int), cellH w27.heap b25 1 = some (.int .i64 n41) ∧ (0 ≤ (n17 : Int) ∧ (n17 : Int) ≤ n41 ∧ (n41 : Int) ≤ ((ByteArray.size t : Nat) : Int)) ∧ newC [.string (ByteArray.extract t (Int.toNat n17) (Int.toNat n41))] 9 (fun (b42 : Nat) (w43 : World) => ∃ (a44 : Option Addr), ∃ (l44 : Nat), ∃ (c44 : Nat), ∃ (w45 : World), (Builtin.append_ #[55, 55] 55 #[.slice a16 l16 c16, .slice (some ⟨b42, 0, none⟩) 1 1]).run Try.prog w43 = .ok (.slice a44 l44 c44) w45 ∧ ∃ (n46 : Int), cellH w45.heap b25 2 = some (.int .i64 n46) ∧ (∃ (m47 : Nat), m47 < k12 ∧ I11 m47 a44 l44 c44 n46 (IntKind.wrap .i64 (n18 + 1)) w45)) w27))) w26) w14) ∧ ((decide ((n18 : Int) < ((l : Nat) : Int))) = false → (0 ≤ (n17 : Int) ∧ (n17 : Int) ≤ ((ByteArray.size t : Nat) : Int)) ∧ newC [.string (ByteArray.extract t (Int.toNat n17) (ByteArray.size t))] 9 (fun (b48 : Nat) (w49 : World) => ∃ (a50 : Option Addr), ∃ (l50 : Nat), ∃ (c50 : Nat), ∃ (w51 : World), (Builtin.append_ #[55, 55] 55 #[.slice a16 l16 c16, .slice (some ⟨b48, 0, none⟩) 1 1]).run Try.prog w49 = .ok (.slice a50 l50 c50) w51 ∧ R (.returned (.slice a50 l50 c50)) w51) w14)) := by
  have hsz := size_L t
  have hlen := hM.len
  refine ⟨fun k a l c n m w' => ∃ (A D : List ME) (ss : List Bytes) (p i : Nat), es = A ++ D ∧ m = A.length ∧ k = D.length ∧ n = p ∧ l = ss.length ∧ ss.length ≤ A.length ∧ p ≤ i ∧ p ≤ (L t).length ∧ Chain G (L t).length i (D.map (·.1)) ∧ ss ++ splitP (L t) p (D.map (·.1)) = splitP (L t) 0 (es.map (·.1)) ∧ Row w1.heap.size w' 9 1 a l c (strC ss) ∧ Below w1.heap.size w1 w', ⟨_, [], es, [], 0, 0, rfl, rfl, rfl, rfl, rfl, Nat.le_refl _, Nat.le_refl _, Nat.zero_le _, hC, rfl, Row.nil _ _ (Nat.le_refl _), Below.refl _ _⟩, ?_⟩
  rintro k dd a2 l2 c2 n m w2 ⟨A, D, ss, p, i, hes, rfl, rfl, rfl, rfl, hss, hpi, hpn, hD, hsp, R2, B2⟩
  have hel : es.length = A.length + D.length := by rw [hes]; simp
  have e0 : Int.toNat (A.length : Int) = A.length := by omega
  have e1 : IntKind.wrap .i64 ((A.length : Int) + 1) = ((A.length + 1 : Nat) : Int) := by rw [w64 (by omega)]; omega
  have ep : Int.toNat (p : Int) = p := by omega
  rw [e0, e1, ep]
  have hz0 := B0.size
  refine ⟨fun g => ?_, fun g => ?_⟩
  · have g' : A.length < l := by have := of_decide_eq_true g; omega
    obtain ⟨e, D', rfl⟩ : ∃ x B', D = x :: B' := by
      cases D with
      | nil => simp only [List.length_nil] at hel; omega
      | cons x B' => exact ⟨x, B', rfl⟩
    rw [List.map_cons] at hD hsp
    obtain ⟨hi, hm, hr⟩ : i ≤ e.1.fr ∧ MtOk G (L t).length e.1.fr e.1 ∧ Chain G (L t).length (nextM e.1) (D'.map (·.1)) := by
      cases hD with
      | cons h1 h2 h3 => exact ⟨h1, h2, h3⟩
    have hlo := hm.lo
    have hhi := hm.hi
    have hnx : e.1.to ≤ nextM e.1 := by unfold nextM; split <;> omega
    have M2 := hM.below B2
    rw [hes] at M2
    obtain ⟨ba, hba, hc⟩ := M2.cells (i := A.length) (by simp)
    have hge : ∀ h, (A ++ e :: D')[A.length]'h = e := by intro h; simp
    rw [hge] at hc
    refine ⟨ba, 0, ⟨hba, by omega, by omega⟩, _, hc 0 (by decide), _, hc 1 (by decide), _, hc 2 (by decide), _, _, _, hc 3 (by decide), ?_⟩
    refine newC_in fun w3 s3 k3 e3 => ?_
    refine stW_in k3 (by show 0 + 4 ≤ 4; decide) fun w4 s4 k4 e4 => ?_
    have k4' : Blk w4.heap w2.heap.size 29 (mC e) := k4
    have B4' : Below w2.heap.size w2 w4 := Ext.to (Ext.to (Below.refl _ _) e3 fun _ h => h.elim) e4 fun i hi => by omega
    have hz2 := B2.size
    have B4 := B2.vstep B4'
    have R4 := R2.below B4'
    -- a piece goes into the list
    have happ : ¬ (e.1.fr = e.1.to ∧ (e.1.fr = 0 ∨ e.1.fr = (L t).length)) → (0 ≤ (p : Int) ∧ (p : Int) ≤ (e.1.fr : Int) ∧ (e.1.fr : Int) ≤ ((ByteArray.size t : Nat) : Int)) ∧ newC [.string (ByteArray.extract t p (Int.toNat (e.1.fr : Int)))] 9 (fun (b35 : Nat) (w36 : World) => ∃ (a37 : Option Addr), ∃ (l37 : Nat), ∃ (c37 : Nat), ∃ (w38 : World), (Builtin.append_ #[55, 55] 55 #[.slice a2 ss.length c2, .slice (some ⟨b35, 0, none⟩) 1 1]).run Try.prog w36 = .ok (.slice a37 l37 c37) w38 ∧ ∃ (n39 : Int), cellH w38.heap w2.heap.size 2 = some (.int .i64 n39) ∧ (∃ (m40 : Nat), m40 < (e :: D').length ∧ ∃ (A' D2 : List ME) (ss' : List Bytes) (p' i : Nat), es = A' ++ D2 ∧ ((A.length + 1 : Nat) : Int) = A'.length ∧ m40 = D2.length ∧ n39 = p' ∧ l37 = ss'.length ∧ ss'.length ≤ A'.length ∧ p' ≤ i ∧ p' ≤ (L t).length ∧ Chain G (L t).length i (D2.map (·.1)) ∧ ss' ++ splitP (L t) p' (D2.map (·.1)) = splitP (L t) 0 (es.map (·.1)) ∧ Row w1.heap.size w38 9 1 a37 l37 c37 (strC ss') ∧ Below w1.heap.size w1 w38)) w4 := by
      intro hno
      refine ⟨⟨by omega, by omega, by omega⟩, ?_⟩
      rw [show Int.toNat (e.1.fr : Int) = e.1.fr from by omega, ext_B]
      refine newC_in fun w36 s36 k36 e36 => ?_
      obtain ⟨a3, c3, w38, q1, q2, q3⟩ := (R4.keep e36 fun _ _ h => h).appX elemStr (n := 1) (c' := 1) (a' := some ⟨w4.heap.size, 0, none⟩) (ys := [.string (B (sub_ (L t) p e.1.fr))]) rfl rfl (.inr ⟨_, _, rfl, k36.cellsAt (n := 1) rfl rfl⟩) (by omega) (by omega)
      have k38 : cellH w38.heap w2.heap.size 2 = some (.int .i64 (e.1.to : Int)) := by
        have hlt := k4'.lt
        have h1 : Blk w36.heap w2.heap.size 29 (mC e) := k4'.keep e36 fun h => h
        exact (h1.keep q3 fun h => by have := R2.1.lt _ h; omega).cell 2
      refine ⟨a3, ss.length + 1, c3, w38, q1, _, k38, D'.length, by simp, A ++ [e], D', ss ++ [sub_ (L t) p e.1.fr], e.1.to, nextM e.1, by rw [hes]; simp, by simp, rfl, rfl, by simp, by simp; omega, hnx, hhi, hr, ?_, by rw [strC_append]; exact q2, ?_⟩
      · rw [← hsp, splitP, if_neg hno]; simp
      · exact Ext.to (Ext.to B4 e36 fun _ h => h.elim) q3 fun i hi => R2.2.1 i hi
    have hskip : (e.1.fr = e.1.to ∧ (e.1.fr = 0 ∨ e.1.fr = (L t).length)) → ∃ (m31 : Nat), m31 < (e :: D').length ∧ ∃ (A' D2 : List ME) (ss_ : List Bytes) (p_ i : Nat), es = A' ++ D2 ∧ ((A.length + 1 : Nat) : Int) = A'.length ∧ m31 = D2.length ∧ (p : Int) = p_ ∧ ss.length = ss_.length ∧ ss_.length ≤ A'.length ∧ p_ ≤ i ∧ p_ ≤ (L t).length ∧ Chain G (L t).length i (D2.map (·.1)) ∧ ss_ ++ splitP (L t) p_ (D2.map (·.1)) = splitP (L t) 0 (es.map (·.1)) ∧ Row w1.heap.size w4 9 1 a2 ss.length c2 (strC ss_) ∧ Below w1.heap.size w1 w4 := by
      intro hyes
      refine ⟨D'.length, by simp, A ++ [e], D', ss, p, nextM e.1, by rw [hes]; simp, by simp, rfl, rfl, rfl, by simp; omega, by omega, hpn, hr, ?_, R4, B4⟩
      rw [← hsp, splitP, if_pos hyes]
    refine ⟨_, k4'.cell 1, _, k4'.cell 2, fun g2 => ?_, fun g2 => ?_⟩
    · have g2' : e.1.fr = e.1.to := by have : ((e.1.fr : Nat) : Int) = e.1.to := by simpa using g2
                                       omega
      refine ⟨_, k4'.cell 1, fun g3 => ?_, fun g3 => ⟨_, k4'.cell 1, fun g4 => ?_, fun g4 => ⟨_, k4'.cell 1, ?_⟩⟩⟩
      · have g3' : e.1.fr = 0 := by have : ((e.1.fr : Nat) : Int) = 0 := by simpa using g3
                                    omega
        exact hskip ⟨g2', .inl g3'⟩
      · have g4' : e.1.fr = (L t).length := by have : ((e.1.fr : Nat) : Int) = t.size := by simpa using g4
                                               omega
        exact hskip ⟨g2', .inr g4'⟩
      · have g3' : ¬ e.1.fr = 0 := by have : ¬ ((e.1.fr : Nat) : Int) = 0 := by simpa using g3
                                      omega
        have g4' : ¬ e.1.fr = (L t).length := by have : ¬ ((e.1.fr : Nat) : Int) = t.size := by simpa using g4
                                                 omega
        exact happ fun h => by omega
    · have g2' : ¬ e.1.fr = e.1.to := by have : ¬ ((e.1.fr : Nat) : Int) = e.1.to := by simpa using g2
                                         omega
      exact ⟨_, k4'.cell 1, happ fun h => g2' h.1⟩
  · have g' : ¬ A.length < l := by have := of_decide_eq_false g; omega
    have : D = [] := by
      cases D with
      | nil => rfl
      | cons x r => simp only [List.length_cons] at hel; omega
    subst this
    rw [List.append_nil] at hes
    subst hes
    refine ⟨⟨by omega, by omega⟩, ?_⟩
    rw [ext_B]
    refine newC_in fun w36 s36 k36 e36 => ?_
    obtain ⟨a3, c3, w38, q1, q2, q3⟩ := (R2.keep e36 fun _ _ h => h).appX elemStr (n := 1) (c' := 1) (a' := some ⟨w2.heap.size, 0, none⟩) (ys := [.string (B (sub_ (L t) p t.size))]) rfl rfl (.inr ⟨_, _, rfl, k36.cellsAt (n := 1) rfl rfl⟩) (by omega) (by omega)
    refine ⟨a3, ss.length + 1, c3, w38, q1, hR _ _ ?_⟩
    have hfin : splitP (L t) 0 (es.map (·.1)) = ss ++ [sub_ (L t) p t.size] := by rw [← hsp, hsz]; rfl
    rw [hfin]
    refine ⟨a3, c3, by rw [List.length_append]; rfl, ?_, Ext.to (Ext.to (B0.vstep B2) e36 fun _ h => h.elim) q3 fun i hi => by have := R2.2.1 i hi; omega⟩
    rw [strC_append, List.length_append]
    exact q2.mono hz0
theorem splitLoopS {G N : Nat} {w0 w1 : World} {t : ByteArray} {a : Option Addr} {l c : Nat} {es : List ME} (hM : Ms N w1 a l c es) (B0 : Below w0.heap.size w0 w1) (hC : Chain G (L t).length 0 (es.map (·.1))) (hl : es.length ≤ 1000) (hn : (L t).length ≤ 200) {R : Ending → World → Prop} (hR : ∀ e w', RetSs (splitP (L t) 0 (es.map (·.1))) w0 e w' → R e w') :
    ∃ (I11 : Nat → Option Addr → Nat → Nat → Int → Int → World → Prop), (∃ (k13 : Nat), I11 k13 none 0 0 0 0 w1) ∧ ∀ (k12 : Nat) (d15 : Nat → Value) (a16 : Option Addr) (l16 : Nat) (c16 : Nat) (n17 : Int) (n18 : Int) (w14 : World), I11 k12 a16 l16 c16 n17 n18 w14 → (((decide ((n18 : Int) < ((l : Nat) : Int))) = true → ∃ (b19 : Nat) (o20 : Nat), ((a : Option Addr) = some ⟨b19, o20, none⟩ ∧ 0 ≤ (n18 : Int) ∧ (n18 : Int) < ((l : Nat) : Int)) ∧ ∃ (t21 : Bool), cellH w14.heap b19 (o20 + (Int.toNat n18) * 4) = some (.bool t21) ∧ ∃ (n22 : Int), cellH w14.heap b19 (o20 + (Int.toNat n18) * 4 + 1) = some (.int .i64 n22) ∧ ∃ (n23 : Int), cellH w14.heap b19 (o20 + (Int.toNat n18) * 4 + 2) = some (.int .i64 n23) ∧ ∃ (a24 : Option Addr), ∃ (l24 : Nat), ∃ (c24 : Nat), cellH w14.heap b19 (o20 + (Int.toNat n18) * 4 + 3) = some (.slice a24 l24 c24) ∧ newC [.bool false, .int .i64 0, .int .i64 0, .slice none 0 0] 29 (fun (b25 : Nat) (w26 : World) => stW b25 0 [.bool t21, .int .i64 n22, .int .i64 n23, .slice a24 l24 c24] (fun (w27 : World) => ∃ (n28 : Int), cellH w27.heap b25 2 = some (.int .i64 n28) ∧ ∃ (n29 : Int), cellH w27.heap b25 1 = some (.int .i64 n29) ∧ ((((n28 : Int) == n29) = true → ∃ (n30 : Int), cellH w27.heap b25 1 = some (.int .i64 n30) ∧ ((((n30 : Int) == 0) = true → (∃ (m31 : Nat), m31 < k12 ∧ I11 m31 a16 l16 c16 n17 (IntKind.wrap .i64 (n18 + 1)) w27)) ∧ (((n30 : Int) == 0) = false → ∃ (n32 : Int), cellH w27.heap b25 1 = some (.int .i64 n32) ∧ ((((n32 : Int) == ((ByteArray.size t : Nat) : Int)) = true → (∃ (m33 : Nat), m33 < k12 ∧ I11 m33 a16 l16 c16 n17 (IntKind.wrap .i64 (n18 + 1)) w27)) ∧ (((n32 : Int) == ((ByteArray.size t : Nat) : Int)) = false → ∃ (n34 : Int), cellH w27.heap b25 1 = some (.int .i64 n34) ∧ (0 ≤ (n17 : Int) ∧ (n17 : Int) ≤ n34 ∧ (n34 : Int) ≤ ((ByteArray.size t : Nat) : Int)) ∧ newC [.string (ByteArray.extract t (Int.toNat n17) (Int.toNat n34))] 9 (fun (b35 : Nat) (w36 : World) => ∃ (a37 : Option Addr), ∃ (l37 : Nat), ∃ (c37 : Nat), ∃ (w38 : World), (Builtin.append_ #[55, 55] 55 #[.slice a16 l16 c16, .slice (some ⟨b35, 0, none⟩) 1 1]).run Try.prog w36 = .ok (.slice a37 l37 c37) w38 ∧ ∃ (n39 : Int), cellH w38.heap b25 2 = some (.int .i64 n39) ∧ (∃ (m40 : Nat), m40 < k12 ∧ I11 m40 a37 l37 c37 n39 (IntKind.wrap .i64 (n18 + 1)) w38)) w27))))) ∧ (((n28 : Int) == n29) = false → ∃ (n41 : Int), cellH w27.heap b25 1 = some (.int .i64 n41) ∧ (0 ≤ (n17 : Int) ∧ (n17 : Int) ≤ n41 ∧ (n41 : Int) ≤ ((ByteArray.size t : Nat) : Int)) ∧ newC [.string (ByteArray.extract t (Int.toNat n17) (Int.toNat n41))] 9 (fun (b42 : Nat) (w43 : World) => ∃ (a44 : Option Addr), ∃ (l44 : Nat), ∃ (c44 : Nat), ∃ (w45 : World), (Builtin.append_ #[55, 55] 55 #[.slice a16 l16 c16, .slice (some ⟨b42, 0, none⟩) 1 1]).run Try.prog w43 = .ok (.slice a44 l44 c44) w45 ∧ ∃ (n46 : Int), cellH w45.heap b25 2 = some (.int .i64 n46) ∧ (∃ (m47 : Nat), m47 < k12 ∧ I11 m47 a44 l44 c44 n46 (IntKind.wrap .i64 (n18 + 1)) w45)) w27))) w26) w14) ∧ ((decide ((n18 : Int) < ((l : Nat) : Int))) = false → (0 ≤ (n17 : Int) ∧ (n17 : Int) ≤ ((ByteArray.size t : Nat) : Int)) ∧ newC [.string (ByteArray.extract t (Int.toNat n17) (ByteArray.size t))] 9 (fun (b48 : Nat) (w49 : World) => ∃ (a50 : Option Addr), ∃ (l50 : Nat), ∃ (c50 : Nat), ∃ (w51 : World), (Builtin.append_ #[55, 55] 55 #[.slice a16 l16 c16, .slice (some ⟨b48, 0, none⟩) 1 1]).run Try.prog w49 = .ok (.slice a50 l50 c50) w51 ∧ R (.returned (.slice a50 l50 c50)) w51) w14)) := by
  have hsz := size_L t
  have hlen := hM.len
  refine ⟨fun k a l c n m w' => ∃ (A D : List ME) (ss : List Bytes) (p i : Nat), es = A ++ D ∧ m = A.length ∧ k = D.length ∧ n = p ∧ l = ss.length ∧ ss.length ≤ A.length ∧ p ≤ i ∧ p ≤ (L t).length ∧ Chain G (L t).length i (D.map (·.1)) ∧ ss ++ splitP (L t) p (D.map (·.1)) = splitP (L t) 0 (es.map (·.1)) ∧ Row w1.heap.size w' 9 1 a l c (strC ss) ∧ Below w1.heap.size w1 w', ⟨_, [], es, [], 0, 0, rfl, rfl, rfl, rfl, rfl, Nat.le_refl _, Nat.le_refl _, Nat.zero_le _, hC, rfl, Row.nil _ _ (Nat.le_refl _), Below.refl _ _⟩, ?_⟩
  rintro k dd a2 l2 c2 n m w2 ⟨A, D, ss, p, i, hes, rfl, rfl, rfl, rfl, hss, hpi, hpn, hD, hsp, R2, B2⟩
  have hel : es.length = A.length + D.length := by rw [hes]; simp
  have e0 : Int.toNat (A.length : Int) = A.length := by omega
  have e1 : IntKind.wrap .i64 ((A.length : Int) + 1) = ((A.length + 1 : Nat) : Int) := by rw [w64 (by omega)]; omega
  have ep : Int.toNat (p : Int) = p := by omega
  rw [e0, e1, ep]
  have hz0 := B0.size
  refine ⟨fun g => ?_, fun g => ?_⟩
  · have g' : A.length < l := by have := of_decide_eq_true g; omega
    obtain ⟨e, D', rfl⟩ : ∃ x B', D = x :: B' := by
      cases D with
      | nil => simp only [List.length_nil] at hel; omega
      | cons x B' => exact ⟨x, B', rfl⟩
    rw [List.map_cons] at hD hsp
    obtain ⟨hi, hm, hr⟩ : i ≤ e.1.fr ∧ MtOk G (L t).length e.1.fr e.1 ∧ Chain G (L t).length (nextM e.1) (D'.map (·.1)) := by
      cases hD with
      | cons h1 h2 h3 => exact ⟨h1, h2, h3⟩
    have hlo := hm.lo
    have hhi := hm.hi
    have hnx : e.1.to ≤ nextM e.1 := by unfold nextM; split <;> omega
    have M2 := hM.below B2
    rw [hes] at M2
    obtain ⟨ba, hba, hc⟩ := M2.cells (i := A.length) (by simp)
    have hge : ∀ h, (A ++ e :: D')[A.length]'h = e := by intro h; simp
    rw [hge] at hc
    refine ⟨ba, 0, ⟨hba, by omega, by omega⟩, _, hc 0 (by decide), _, hc 1 (by decide), _, hc 2 (by decide), _, _, _, hc 3 (by decide), ?_⟩
    refine newC_in fun w3 s3 k3 e3 => ?_
    refine stW_in k3 (by show 0 + 4 ≤ 4; decide) fun w4 s4 k4 e4 => ?_
    have k4' : Blk w4.heap w2.heap.size 29 (mC e) := k4
    have B4' : Below w2.heap.size w2 w4 := Ext.to (Ext.to (Below.refl _ _) e3 fun _ h => h.elim) e4 fun i hi => by omega
    have hz2 := B2.size
    have B4 := B2.vstep B4'
    have R4 := R2.below B4'
    -- a piece goes into the list
    have happ : ¬ (e.1.fr = e.1.to ∧ (e.1.fr = 0 ∨ e.1.fr = (L t).length)) → (0 ≤ (p : Int) ∧ (p : Int) ≤ (e.1.fr : Int) ∧ (e.1.fr : Int) ≤ ((ByteArray.size t : Nat) : Int)) ∧ newC [.string (ByteArray.extract t p (Int.toNat (e.1.fr : Int)))] 9 (fun (b35 : Nat) (w36 : World) => ∃ (a37 : Option Addr), ∃ (l37 : Nat), ∃ (c37 : Nat), ∃ (w38 : World), (Builtin.append_ #[55, 55] 55 #[.slice a2 ss.length c2, .slice (some ⟨b35, 0, none⟩) 1 1]).run Try.prog w36 = .ok (.slice a37 l37 c37) w38 ∧ ∃ (n39 : Int), cellH w38.heap w2.heap.size 2 = some (.int .i64 n39) ∧ (∃ (m40 : Nat), m40 < (e :: D').length ∧ ∃ (A' D2 : List ME) (ss' : List Bytes) (p' i : Nat), es = A' ++ D2 ∧ ((A.length + 1 : Nat) : Int) = A'.length ∧ m40 = D2.length ∧ n39 = p' ∧ l37 = ss'.length ∧ ss'.length ≤ A'.length ∧ p' ≤ i ∧ p' ≤ (L t).length ∧ Chain G (L t).length i (D2.map (·.1)) ∧ ss' ++ splitP (L t) p' (D2.map (·.1)) = splitP (L t) 0 (es.map (·.1)) ∧ Row w1.heap.size w38 9 1 a37 l37 c37 (strC ss') ∧ Below w1.heap.size w1 w38)) w4 := by
      intro hno
      refine ⟨⟨by omega, by omega, by omega⟩, ?_⟩
      rw [show Int.toNat (e.1.fr : Int) = e.1.fr from by omega, ext_B]
      refine newC_in fun w36 s36 k36 e36 => ?_
      obtain ⟨a3, c3, w38, q1, q2, q3⟩ := (R4.keep e36 fun _ _ h => h).appX elemStr (n := 1) (c' := 1) (a' := some ⟨w4.heap.size, 0, none⟩) (ys := [.string (B (sub_ (L t) p e.1.fr))]) rfl rfl (.inr ⟨_, _, rfl, k36.cellsAt (n := 1) rfl rfl⟩) (by omega) (by omega)
      have k38 : cellH w38.heap w2.heap.size 2 = some (.int .i64 (e.1.to : Int)) := by
        have hlt := k4'.lt
        have h1 : Blk w36.heap w2.heap.size 29 (mC e) := k4'.keep e36 fun h => h
        exact (h1.keep q3 fun h => by have := R2.1.lt _ h; omega).cell 2
      refine ⟨a3, ss.length + 1, c3, w38, q1, _, k38, D'.length, by simp, A ++ [e], D', ss ++ [sub_ (L t) p e.1.fr], e.1.to, nextM e.1, by rw [hes]; simp, by simp, rfl, rfl, by simp, by simp; omega, hnx, hhi, hr, ?_, by rw [strC_append]; exact q2, ?_⟩
      · rw [← hsp, splitP, if_neg hno]; simp
      · exact Ext.to (Ext.to B4 e36 fun _ h => h.elim) q3 fun i hi => R2.2.1 i hi
    have hskip : (e.1.fr = e.1.to ∧ (e.1.fr = 0 ∨ e.1.fr = (L t).length)) → ∃ (m31 : Nat), m31 < (e :: D').length ∧ ∃ (A' D2 : List ME) (ss_ : List Bytes) (p_ i : Nat), es = A' ++ D2 ∧ ((A.length + 1 : Nat) : Int) = A'.length ∧ m31 = D2.length ∧ (p : Int) = p_ ∧ ss.length = ss_.length ∧ ss_.length ≤ A'.length ∧ p_ ≤ i ∧ p_ ≤ (L t).length ∧ Chain G (L t).length i (D2.map (·.1)) ∧ ss_ ++ splitP (L t) p_ (D2.map (·.1)) = splitP (L t) 0 (es.map (·.1)) ∧ Row w1.heap.size w4 9 1 a2 ss.length c2 (strC ss_) ∧ Below w1.heap.size w1 w4 := by
      intro hyes
      refine ⟨D'.length, by simp, A ++ [e], D', ss, p, nextM e.1, by rw [hes]; simp, by simp, rfl, rfl, rfl, by simp; omega, by omega, hpn, hr, ?_, R4, B4⟩
      rw [← hsp, splitP, if_pos hyes]
    refine ⟨_, k4'.cell 2, _, k4'.cell 1, fun g2 => ?_, fun g2 => ?_⟩
    · have g2' : e.1.fr = e.1.to := by have : ((e.1.to : Nat) : Int) = e.1.fr := by simpa using g2
                                       omega
      refine ⟨_, k4'.cell 1, fun g3 => ?_, fun g3 => ⟨_, k4'.cell 1, fun g4 => ?_, fun g4 => ⟨_, k4'.cell 1, ?_⟩⟩⟩
      · have g3' : e.1.fr = 0 := by have : ((e.1.fr : Nat) : Int) = 0 := by simpa using g3
                                    omega
        exact hskip ⟨g2', .inl g3'⟩
      · have g4' : e.1.fr = (L t).length := by have : ((e.1.fr : Nat) : Int) = t.size := by simpa using g4
                                               omega
        exact hskip ⟨g2', .inr g4'⟩
      · have g3' : ¬ e.1.fr = 0 := by have : ¬ ((e.1.fr : Nat) : Int) = 0 := by simpa using g3
                                      omega
        have g4' : ¬ e.1.fr = (L t).length := by have : ¬ ((e.1.fr : Nat) : Int) = t.size := by simpa using g4
                                                 omega
        exact happ fun h => by omega
    · have g2' : ¬ e.1.fr = e.1.to := by have : ¬ ((e.1.to : Nat) : Int) = e.1.fr := by simpa using g2
                                         omega
      exact ⟨_, k4'.cell 1, happ fun h => g2' h.1⟩
  · have g' : ¬ A.length < l := by have := of_decide_eq_false g; omega
    have : D = [] := by
      cases D with
      | nil => rfl
      | cons x r => simp only [List.length_cons] at hel; omega
    subst this
    rw [List.append_nil] at hes
    subst hes
    refine ⟨⟨by omega, by omega⟩, ?_⟩
    rw [ext_B]
    refine newC_in fun w36 s36 k36 e36 => ?_
    obtain ⟨a3, c3, w38, q1, q2, q3⟩ := (R2.keep e36 fun _ _ h => h).appX elemStr (n := 1) (c' := 1) (a' := some ⟨w2.heap.size, 0, none⟩) (ys := [.string (B (sub_ (L t) p t.size))]) rfl rfl (.inr ⟨_, _, rfl, k36.cellsAt (n := 1) rfl rfl⟩) (by omega) (by omega)
    refine ⟨a3, ss.length + 1, c3, w38, q1, hR _ _ ?_⟩
    have hfin : splitP (L t) 0 (es.map (·.1)) = ss ++ [sub_ (L t) p t.size] := by rw [← hsp, hsz]; rfl
    rw [hfin]
    refine ⟨a3, c3, by rw [List.length_append]; rfl, ?_, Ext.to (Ext.to (B0.vstep B2) e36 fun _ h => h.elim) q3 fun i hi => by have := R2.2.1 i hi; omega⟩
    rw [strC_append, List.length_append]
    exact q2.mono hz0
theorem retSs_nil {w w' : World} (B : Below w.heap.size w w') : RetSs [] w (.returned (.slice none 0 0)) w' := ⟨none, 0, rfl, Row.nil _ _ B.size, B⟩
theorem implSplit_ok (s1 s2 : ByteArray) (w : World) : Cl Try.prog 51 [.string s1, .string s2] w (RetSs (splitA (L s1) (L s2)) w) := by
  apply vc51
  unfold V51
  refine (newFinder_ok s1 s2 w).use fun e w6 he => ?_
  obtain ⟨b, rfl, B6, _⟩ := he
  refine ⟨b, 0, _, rfl, fun g => ?_, fun g => ?_⟩
  · have g' : okA (L s1) (L s2) = false := by simpa using g
    unfold splitA
    rw [if_neg (by rw [g']; simp)]
    exact retSs_nil B6
  · have g' : okA (L s1) (L s2) = true := by simpa using g
    have hpt := okA_pt g'
    have hA : allA (L s1) (L s2) = allP (readP (L s1)) (L s2) 0 := by unfold allA; rw [if_pos g']
    refine (implAll_ok s1 s2 w6).use fun e w9 he => ?_
    obtain ⟨a, l, c, es, rfl, M9, hes, B9⟩ := he
    have hc := hpt.chain _ 0 rfl
    have hl := hpt.allLen
    rw [hA] at hes
    have hel : es.length = (allP (readP (L s1)) (L s2) 0).length := by rw [← hes, List.length_map]
    rw [← hes] at hc
    refine ⟨a, l, c, rfl, splitLoopI M9 (B6.vstep B9) hc (by omega) hpt.n200 fun e w' h => ?_⟩
    unfold splitA
    rw [if_pos g', ← hes]
    exact h
theorem specSplit_ok (s1 s2 : ByteArray) (w : World) : Cl Try.prog 50 [.string s1, .string s2] w (RetSs (splitA (L s1) (L s2)) w) := by
  apply vc50
  unfold V50
  refine (l2of_ok s1 s2 w).use fun e w6 he => ?_
  obtain ⟨b, rfl, B6, hM⟩ := he
  refine ⟨b, 0, _, rfl, fun g => ?_, fun g => ?_⟩
  · have g' : okA (L s1) (L s2) = false := by simpa using g
    unfold splitA
    rw [if_neg (by rw [g']; simp)]
    exact retSs_nil B6
  · have g' : okA (L s1) (L s2) = true := by simpa using g
    obtain ⟨s, rfl, hP, rfl, hpt, hF, hm⟩ := hM g'
    refine (allS_ok hpt hF).use fun e w9 he => ?_
    obtain ⟨a, l, c, es, rfl, M9, hes, _, E9⟩ := he
    have hc := hpt.chain _ 0 rfl
    have hl := hpt.allLen
    have hel : es.length = (allP s.P (L s.t) 0).length := by rw [← hes, List.length_map]
    rw [← hes] at hc
    refine ⟨a, l, c, rfl, splitLoopS M9 (Ext.to B6 E9 fun x hx => by rcases hx with rfl | rfl <;> omega) hc (by omega) hpt.n200 fun e w' h => ?_⟩
    unfold splitA
    rw [if_pos g', ← hP, ← hes]
    exact h
theorem splitA_len (p t : Bytes) : (splitA p t).length ≤ 202 := by
  unfold splitA
  split
  · rename_i h
    have h1 := (okA_pt h).allLen
    have h2 := splitP_len t (allP (readP p) t 0) 0
    omega
  · simp
end Go.Proofs.Ytngbiaeliphdjaa.V
/- The law on Split. No statement of the seat is proved here. -/
namespace Go.Vc
open Go.RowKit
set_option linter.unusedVariables false
def digs (n : Nat) (acc : Bytes) : Bytes := if h : n = 0 then acc else digs (n / 10) (UInt8.ofNat (48 + n % 10) :: acc)
  termination_by n
  decreasing_by omega
def markT (n : Nat) : Bytes := if n = 0 then [109, 48] else 109 :: digs n []
def mkStr (k : Nat) : List Bytes → List Bytes
  | [] => []
  | _ :: r => markT k :: mkStr (k + 1) r
theorem mkStr_length (s : List Bytes) : ∀ k, (mkStr k s).length = s.length := by
  induction s with
  | nil => intro k; rfl
  | cons x r ih => intro k; simp [mkStr, ih]
theorem mkStr_append (s t : List Bytes) : ∀ k, mkStr k (s ++ t) = mkStr k s ++ mkStr (k + s.length) t := by
  induction s with
  | nil => intro k; rfl
  | cons x r ih => intro k; simp only [List.cons_append, mkStr, ih, List.length_cons]; rw [show k + 1 + r.length = k + (r.length + 1) from by omega]
theorem strC_at (l : List Bytes) (i : Nat) (h : i < l.length) : (strC l)[i]? = some (.string (B l[i])) := by simp [strC, h]
end Go.Vc
namespace Go.Proofs.Ytngbiaeliphdjaa.V
open Go.Vc Go.Proofs Go.RowKit
set_option linter.unusedVariables false
set_option linter.unusedSimpArgs false
theorem markText_ok (n : Nat) (hn : n ≤ 1000000) (w : World) : Cl Try.prog 93 [.int .i64 n] w (RetB (.string (B (markT n))) w) := by
  apply vc93
  unfold V93
  refine ⟨fun g => ?_, fun g => ?_⟩
  · have g' := of_decide_eq_true g
    have : n = 0 := by omega
    subst this
    exact ⟨rfl, Below.refl _ _⟩
  have g' := of_decide_eq_false g
  refine ⟨fun k m sp w' => ∃ (i : Nat) (acc : Bytes), m = i ∧ sp = B acc ∧ k = i ∧ digs i acc = digs n [] ∧ acc.length + i ≤ n ∧ Below w.heap.size w w', ⟨n, n, [], rfl, rfl, rfl, rfl, by simp, Below.refl _ _⟩, ?_⟩
  rintro k d m sp w1 ⟨i, acc, rfl, rfl, hk, hd, hl, hb⟩
  refine ⟨fun g1 => ?_, fun g1 => ?_⟩
  · have g1' : 0 < i := by have := of_decide_eq_true g1; omega
    refine ⟨by decide, ?_⟩
    have hm : Int.tmod (i : Int) 10 = ((i % 10 : Nat) : Int) := by rw [Int.tmod_eq_emod_of_nonneg (by omega)]; rfl
    have hv : Int.tdiv (i : Int) 10 = ((i / 10 : Nat) : Int) := by rw [Int.tdiv_eq_ediv_of_nonneg (by omega)]; rfl
    rw [hm, hv, w64 (by omega), w8, w64 (by omega)]
    have hx : ((48 : Int) + ((i % 10 : Nat) : Int)) % 256 = ((UInt8.ofNat (48 + i % 10)).toNat : Int) := by
      rw [UInt8.toNat_ofNat']; omega
    rw [hx]
    refine newC_in fun w2 s2 k2 e2 => ?_
    refine ⟨B [UInt8.ofNat (48 + i % 10)], conv_run Try.underlying22 Try.underlying9 Try.underlying5 rfl (k2.cellsAt (n := 1) rfl rfl), by rw [size_B, size_B]; simp; omega, by decide, ?_⟩
    rw [B_append]
    refine ⟨i / 10, by omega, i / 10, _, rfl, rfl, rfl, ?_, ?_, Ext.to hb e2 fun _ h => h.elim⟩
    · rw [← hd]; conv => rhs; rw [digs]
      rw [dif_neg (by omega)]; rfl
    · simp; omega
  · have : i = 0 := by have := of_decide_eq_false g1; omega
    subst this
    have hd' : acc = digs n [] := by rw [← hd, digs]; rfl
    refine ⟨by rw [size_B]; show 1 + acc.length ≤ _; omega, ?_⟩
    have : (⟨#[109]⟩ : ByteArray) ++ B acc = B (markT n) := by
      show B [109] ++ B acc = _
      rw [B_append, hd']; unfold markT; rw [if_neg (by omega)]; rfl
    rw [this]
    exact ⟨rfl, hb⟩
theorem eqStringS_ok {w : World} {N1 N2 : Nat} {a1 a2 : Option Addr} {c1 c2 : Nat} {ss : List Bytes} (h1 : Row N1 w 9 1 a1 ss.length c1 (strC ss)) (h2 : Row N2 w 9 1 a2 ss.length c2 (strC ss)) (hl : ss.length ≤ 1000) :
    Cl Try.prog 52 [.slice a1 ss.length c1, .slice a2 ss.length c2] w (RetB (.bool true) w) := by
  apply vc52
  unfold V52
  refine ⟨fun g => by simp at g, fun _ => ?_⟩
  refine ⟨fun k n w' => ∃ i : Nat, n = i ∧ i ≤ ss.length ∧ k = ss.length - i ∧ Below w.heap.size w w', ⟨_, 0, rfl, by omega, rfl, Below.refl _ _⟩, ?_⟩
  rintro k d n w1 ⟨i, rfl, hi, rfl, hb⟩
  refine ⟨fun g => ?_, fun g => ⟨rfl, hb⟩⟩
  have g' : i < ss.length := by have := of_decide_eq_true g; omega
  have e0 : Int.toNat (i : Int) = i := by omega
  have e1 : IntKind.wrap .i64 ((i : Int) + 1) = ((i + 1 : Nat) : Int) := by rw [w64 (by omega)]; omega
  rw [e0, e1]
  refine drw_in fun w2 q2 e2 => ?_
  have hb2 : Below w.heap.size w w2 := Ext.to hb e2 fun _ h => h.elim
  have v1 := (h1.below hb2).1
  have v2 := (h2.below hb2).1
  obtain ⟨b, hb1, hcell⟩ := v1.open (by omega)
  obtain ⟨b', hb', hcell'⟩ := v2.open (by omega)
  have hr := strC_at ss i g'
  exact ⟨b, 0, ⟨hb1, by omega, by omega⟩, _, by rw [Nat.zero_add, Nat.mul_one, hcell _ (by omega)]; exact hr, b', 0, ⟨hb', by omega, by omega⟩, _, by rw [Nat.zero_add, Nat.mul_one, hcell' _ (by omega)]; exact hr, fun q => by simp at q, fun _ => ⟨_, by omega, i + 1, rfl, by omega, rfl, hb2⟩⟩
theorem markStringS_ok {w : World} {N : Nat} {a : Option Addr} {c : Nat} {ss : List Bytes} (h : Row N w 9 1 a ss.length c (strC ss)) (hl : ss.length ≤ 1000) :
    Cl Try.prog 53 [.slice a ss.length c, .int .i64 1] w (fun e w' => e = .returned (.int .i64 ((1 + ss.length : Nat) : Int)) ∧ Row N w' 9 1 a ss.length c (strC (mkStr 1 ss)) ∧ Ext (fun x => blkOf a = some x) w w') := by
  apply vc53
  unfold V53
  refine ⟨fun m n j w' => ∃ (A B : List Bytes), ss = A ++ B ∧ n = ((1 + A.length : Nat) : Int) ∧ j = A.length ∧ m = B.length ∧ Row N w' 9 1 a ss.length c (strC (mkStr 1 A ++ B)) ∧ Ext (fun x => blkOf a = some x) w w', ⟨_, [], ss, rfl, by simp, rfl, rfl, h, Ext.refl _ _⟩, ?_⟩
  rintro m d n j w1 ⟨A, B, hs, rfl, rfl, rfl, hv, hE⟩
  have hsl : ss.length = A.length + B.length := by rw [hs]; simp
  refine ⟨fun g => ?_, fun g => ?_⟩
  · have g' : A.length < ss.length := by have := of_decide_eq_true g; omega
    obtain ⟨x, B', rfl⟩ : ∃ x B', B = x :: B' := by
      cases B with
      | nil => simp only [List.length_nil] at hsl; omega
      | cons x B' => exact ⟨x, B', rfl⟩
    have e0 : Int.toNat (A.length : Int) = A.length := by omega
    have e1 : IntKind.wrap .i64 ((A.length : Int) + 1) = ((A.length + 1 : Nat) : Int) := by rw [w64 (by omega)]; omega
    have e2 : IntKind.wrap .i64 (((1 + A.length : Nat) : Int) + 1) = ((1 + (A.length + 1) : Nat) : Int) := by rw [w64 (by omega)]; omega
    rw [e0, e1, e2]
    refine (markText_ok (1 + A.length) (by omega) w1).ret fun w2 b2 => ?_
    have v2 := hv.below b2
    obtain ⟨b, hb1, _⟩ := v2.1.open (by omega)
    subst hb1
    refine ⟨_, rfl, b, 0, ⟨rfl, by omega, by omega⟩, ?_⟩
    dsimp only
    rw [Nat.zero_add, Nat.mul_one]
    refine v2.st (by omega) fun w3 v3 e3 => ⟨B'.length, by simp, A ++ [x], B', by rw [hs]; simp, by simp, by simp, rfl, ?_, (hE.trans (Ext.of_below b2)).trans (Ext.mono e3 fun q _ hq => by subst hq; rfl)⟩
    rw [strC_append, List.set_append_right _ _ (by rw [strC_length, mkStr_length]; omega), strC_length, mkStr_length, Nat.sub_self] at v3
    rw [mkStr_append, List.append_assoc, strC_append]
    exact v3
  · have g' : ¬ A.length < ss.length := by have := of_decide_eq_false g; omega
    have : B = [] := by
      cases B with
      | nil => rfl
      | cons x r => simp only [List.length_cons] at hsl; omega
    subst this
    rw [List.append_nil] at hs hv
    subst hs
    exact ⟨rfl, hv, hE⟩
theorem heldStringS_ok {w : World} {N : Nat} {a : Option Addr} {c : Nat} {ss : List Bytes} (h : Row N w 9 1 a ss.length c (strC (mkStr 1 ss))) (hl : ss.length ≤ 1000) :
    Cl Try.prog 54 [.slice a ss.length c, .int .i64 1] w (RetB (.int .i64 ((1 + ss.length : Nat) : Int)) w) := by
  apply vc54
  unfold V54
  refine ⟨fun m n j w' => ∃ (A B : List Bytes), ss = A ++ B ∧ n = ((1 + A.length : Nat) : Int) ∧ j = A.length ∧ m = B.length ∧ Below w.heap.size w w', ⟨_, [], ss, rfl, by simp, rfl, rfl, Below.refl _ _⟩, ?_⟩
  rintro m d n j w1 ⟨A, B, hs, rfl, rfl, rfl, hb⟩
  have hsl : ss.length = A.length + B.length := by rw [hs]; simp
  refine ⟨fun g => ?_, fun g => ?_⟩
  · have g' : A.length < ss.length := by have := of_decide_eq_true g; omega
    obtain ⟨x, B', rfl⟩ : ∃ x B', B = x :: B' := by
      cases B with
      | nil => simp only [List.length_nil] at hsl; omega
      | cons x B' => exact ⟨x, B', rfl⟩
    have e0 : Int.toNat (A.length : Int) = A.length := by omega
    have e1 : IntKind.wrap .i64 ((A.length : Int) + 1) = ((A.length + 1 : Nat) : Int) := by rw [w64 (by omega)]; omega
    have e2 : IntKind.wrap .i64 (((1 + A.length : Nat) : Int) + 1) = ((1 + (A.length + 1) : Nat) : Int) := by rw [w64 (by omega)]; omega
    rw [e0, e1, e2]
    refine drw_in fun w2 q2 e2' => ?_
    have hb2 : Below w.heap.size w w2 := Ext.to hb e2' fun _ h => h.elim
    have hcellw : ∀ {w' : World}, Below w.heap.size w w' → ∃ b, a = some ⟨b, 0, none⟩ ∧ cellH w'.heap b (0 + A.length * 1) = some (.string (Go.Vc.B (markT (1 + A.length)))) := fun {w'} hb' => by
      obtain ⟨b, hb1, hc⟩ := (h.below hb').1.open (by omega)
      refine ⟨b, hb1, ?_⟩
      rw [Nat.zero_add, Nat.mul_one, hc _ (by omega), hs, mkStr_append, strC_append, List.getElem?_append_right (by rw [strC_length, mkStr_length]; omega), strC_length, mkStr_length, Nat.sub_self]
      rfl
    obtain ⟨b, hb1, hc⟩ := hcellw hb2
    refine ⟨b, 0, ⟨hb1, by omega, by omega⟩, _, hc, ?_⟩
    refine (markText_ok (1 + A.length) (by omega) w2).ret fun w3 b3 => ⟨_, rfl, ?_, fun q => by simp at q, fun _ => ⟨B'.length, by simp, A ++ [x], B', by rw [hs]; simp, by simp, by simp, rfl, hb2.vstep b3⟩⟩
    obtain ⟨b', hb1', hc'⟩ := hcellw (hb2.vstep b3)
    rw [hb1] at hb1'
    cases hb1'
    exact hc'
  · have g' : ¬ A.length < ss.length := by have := of_decide_eq_false g; omega
    have : A.length = ss.length := by omega
    rw [this]
    exact ⟨rfl, hb⟩
theorem lawSplit_ok (s1 s2 : ByteArray) (w : World) : Cl Try.prog 11 [.string s1, .string s2] w (RetB (.bool true) w) := by
  apply vc11
  unfold V11
  refine ⟨fun _ => ⟨rfl, Below.refl _ _⟩, fun _ => ⟨fun _ => ⟨rfl, Below.refl _ _⟩, fun _ => ?_⟩⟩
  have hS := splitA_len (L s1) (L s2)
  have hspec := specSplit_ok s1 s2
  have himpl := implSplit_ok s1 s2
  generalize splitA (L s1) (L s2) = ss at *
  refine (hspec w).use fun e w1 he => ?_
  obtain ⟨a1, c1, rfl, M1, B1⟩ := he
  refine ⟨a1, _, c1, rfl, (himpl w1).use fun e w2 he => ?_⟩
  obtain ⟨a2, c2, rfl, M2, B2⟩ := he
  refine ⟨a2, _, c2, rfl, ?_⟩
  have M1' := M1.below B2
  refine (eqStringS_ok M2 M1' (by omega)).ret fun w3 B3 => ⟨true, rfl, fun g => by simp at g, fun _ => ?_⟩
  refine (markStringS_ok (M2.below B3) (by omega)).use fun e w4 he => ?_
  obtain ⟨rfl, M4, E4⟩ := he
  refine ⟨_, rfl, ?_⟩
  have hlow := M2.2.1
  have Z3 := (B1.vstep B2).vstep B3
  have hz1 := B1.size
  have Z4 : Below w.heap.size w w4 := Ext.to Z3 E4 fun i h => by have := hlow i h; omega
  have hlt1 := M1.1.lt
  have M1'' : Row w.heap.size w4 9 1 a1 ss.length c1 (strC ss) := ⟨(M1'.below B3).1.keep E4 fun k hk h => by have := hlt1 k hk; have := hlow k h; omega, M1.2.1, Z4.size⟩
  refine (heldStringS_ok M4 (by omega)).ret fun w5 B5 => ⟨_, rfl, fun g => by have := of_decide_eq_true g; omega, fun _ => ⟨fun g => by simp at g, fun _ => ?_⟩⟩
  refine (himpl w5).use fun e w6 he => ?_
  obtain ⟨a3, c3, rfl, M6, B6⟩ := he
  refine ⟨a3, _, c3, rfl, ?_⟩
  refine (eqStringS_ok M6 ((M1''.below B5).below B6) (by omega)).ret fun w7 B7 => ⟨true, rfl, fun g => by simp at g, fun _ => ?_⟩
  have B57 := (B5.vstep B6).vstep B7
  exact (heldStringS_ok (M4.below B57) (by omega)).ret fun w8 B8 => ⟨_, rfl, fun g => by have := of_decide_eq_true g; omega, fun _ => ⟨fun g => by simp at g, fun _ => ⟨rfl, Z4.vstep (B57.vstep B8)⟩⟩⟩
end Go.Proofs.Ytngbiaeliphdjaa.V
/- For the rows: what was read stays readable where nothing old has changed; bytes among the arguments. No statement of the seat is proved here. -/
namespace Go.Vc
open Go.RowKit
set_option linter.unusedVariables false
set_option linter.unusedSimpArgs false
theorem trodAll_carry {H : Type} {enc : TypeId × Value → H} {P : Program} {w w' : World} {spare : Nat → Bool} {held : Bool} (hb : Below w.heap.size w w') :
    ∀ {ts : List TypeId} {vs : List Value} {ds : List (DataW H)} {ps : List MemPlace}, DataW.TrodAll enc P w 0 spare held ts vs ds ps → DataW.TrodAll enc P w' 0 spare held ts vs ds ps
  | [], [], [], ps, h => h
  | t :: ts, v :: vs, d :: ds, ps, ⟨p, q, ⟨n, h1⟩, h2, h3⟩ =>
    ⟨p, q, ⟨n, DataW.trod_carry n t v.cells.toList (d, p) h1 fun x hx => hb.same (DataW.trod_lt n t v.cells.toList (d, p) h1 x hx)⟩, trodAll_carry hb h2, h3⟩
  | [], [], _ :: _, _, h => h.elim
  | [], _ :: _, _, _, h => h.elim
  | _ :: _, [], _, _, h => h.elim
  | _ :: _, _ :: _, [], _, h => h.elim
theorem trodAll_back {H : Type} {enc : TypeId × Value → H} {P : Program} {w w' : World} (hb : Below w.heap.size w w') (hl : laidOutB P = true) (hm : mapsRowed P = true)
    (hf : ((List.range P.types.size).all fun t => match P.underlying t with | some (.slice e) => decide (0 < P.cellsOf e) | _ => true) = true) {ts : List TypeId} {vs : List Value} {ds : List (DataW H)} {ps : List MemPlace}
    (ht : (ts.all fun t => decide (t < P.types.size)) = true) (h : DataW.TrodAll enc P w 0 (fun _ => true) true ts vs ds ps) : DataW.TrodAll enc P w' 0 (fun b => decide (b < w.heap.size)) true ts vs ds ps :=
  trodAll_carry hb (DataW.TrodAll.respare (kids_rows hl hm) (fun t e h1 h2 => slices_full_of P hf t e h1 h2) (fun t h1 => of_decide_eq_true (List.all_eq_true.1 ht t h1)) h fun p hp => decide_eq_true (DataW.TrodAll.lt h p hp))

/-- The given bytes: readable, below B. -/
def GBytes (w : World) (B : Nat) (a : Option Addr) (l : Nat) : Prop :=
  l ≤ 1048576 ∧ (l = 0 ∨ ∃ b o, a = some ⟨b, o, none⟩ ∧ b < B ∧ ∀ i, i < l → ∃ n : Int, 0 ≤ n ∧ n ≤ 255 ∧ cellH w.heap b (o + i) = some (.int .u8 n))
theorem open_bytes {H : Type} {enc : TypeId × Value → H} {P : Program} {w : World} {base : Nat} {spare : Nat → Bool} {held : Bool} {r : Reach} {b0 : Nat} {t e : TypeId} {v : Value} {d : DataW H} {ps : List MemPlace}
    (ht : P.underlying t = some (.slice e)) (he : P.underlying e = some (.int .u8)) (hc : P.cellsOf e = 1) (hval : Value.okWide P w r b0 t v) (hd : DataW.Trod enc P w base spare held t v d ps) :
    ∃ a l c, v = .slice a l c ∧ (l ≤ 1048576 → GBytes w w.heap.size a l) := by
  obtain ⟨a0, l0, c0, rfl⟩ := Go.WideShapes.okWide_slice ht hval
  obtain ⟨fuel, hf⟩ := hd
  refine ⟨a0, l0, c0, rfl, fun hl => ⟨hl, ?_⟩⟩
  rcases Go.ChangeShapes.open_ints ht he hc hf with ⟨h1, _⟩ | ⟨a, len, cap, zs, h1, _, hle, _, hlen, _, hcell, hwf⟩
  · simp [Value.cells] at h1
    obtain ⟨rfl, rfl, rfl⟩ := h1
    exact .inl rfl
  · simp [Value.cells] at h1
    obtain ⟨rfl, rfl, rfl⟩ := h1
    by_cases h0 : l0 = 0
    · exact .inl h0
    have hz : l0 ≤ zs.length := by rw [hlen]; split <;> omega
    obtain ⟨b, o, rfl, hcell2⟩ := ints_at hcell (by omega)
    have hcell' : ∀ i, i < zs.length → cellH w.heap b (o + i) = some (.int .u8 (zs.getD i 0)) := fun i hi => by
      rw [← cell?_plain]; exact hcell2 i hi
    refine .inr ⟨b, o, rfl, ?_, fun i hi => ⟨zs.getD i 0, ?_, ?_, hcell' i (by omega)⟩⟩
    · have := hcell' 0 (by omega)
      rcases Nat.lt_or_ge b w.heap.size with h | h
      · exact h
      · unfold cellH at this; rw [Array.getElem?_eq_none h] at this; cases this
    · have := bounds_u8 (hwf (zs.getD i 0) (by rw [List.getD_eq_getElem?_getD, List.getElem?_eq_getElem (by omega)]; exact List.getElem_mem _)); omega
    · have := bounds_u8 (hwf (zs.getD i 0) (by rw [List.getD_eq_getElem?_getD, List.getElem?_eq_getElem (by omega)]; exact List.getElem_mem _)); omega
end Go.Vc

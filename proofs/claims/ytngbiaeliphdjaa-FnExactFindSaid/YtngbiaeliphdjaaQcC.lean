/- Parts of a proof, put together: definitions, formulas of Go functions and lemmas. No statement of the seat is proved here. -/
import Derived.Laws.StructEq
import Derived.Test.YtngbiaeliphdjaaProg
import Derived.MapKept
import Derived.Test.YtngbiaeliphdjaaQcB
/- Ways in the program's memory; its small functions on them. No statement of the seat is proved here. -/
namespace Go.Vc
open Go.RowKit
set_option linter.unusedVariables false
set_option linter.unusedSimpArgs false
/-- A group's span as two numbers, -1 for none. -/
def spI (g : Gr) (i : Nat) : Int := match g (i / 2) with
  | some p => if i % 2 = 0 then (p.1 : Int) else (p.2 : Int)
  | none => -1
def grC (g : Nat → Int) : List Value := (List.range 20).map fun i => .int .i64 (g i)
def wayC (w : Wy) : List Value := .int .i64 (w.1 : Int) :: grC (spI w.2)
def waysC (ws : List Wy) : List Value := ws.flatMap wayC
theorem grC_length (g : Nat → Int) : (grC g).length = 20 := by simp [grC]
theorem grC_get (g : Nat → Int) (i : Nat) (h : i < 20) : (grC g)[i]? = some (.int .i64 (g i)) := by simp [grC, h]
theorem grC_ext {f g : Nat → Int} (h : ∀ n, n < 20 → f n = g n) : grC f = grC g := by
  unfold grC
  apply List.map_congr_left
  intro i hi
  rw [h i (by simpa using hi)]
theorem grC_set (g : Nat → Int) (i : Nat) (x : Int) : (grC g).set i (.int .i64 x) = grC (fun n => if n = i then x else g n) := by
  apply List.ext_getElem?
  intro k
  rw [List.getElem?_set]
  by_cases hk : k < 20
  · rw [grC_get _ k hk, grC_get _ k hk, grC_length]
    by_cases hik : i = k
    · subst hik; simp [hk]
    · rw [if_neg hik, if_neg (by omega)]
  · have h1 : (grC g)[k]? = none := List.getElem?_eq_none (by rw [grC_length]; omega)
    have h2 : (grC fun n => if n = i then x else g n)[k]? = none := List.getElem?_eq_none (by rw [grC_length]; omega)
    rw [h1, h2, grC_length]
    by_cases hik : i = k
    · rw [if_pos hik, if_neg (by omega)]
    · rw [if_neg hik]
theorem wayC_length (w : Wy) : (wayC w).length = 21 := by simp [wayC, grC_length]
theorem waysC_append (l m : List Wy) : waysC (l ++ m) = waysC l ++ waysC m := by simp [waysC]
theorem waysC_one (w : Wy) : waysC [w] = wayC w := by simp [waysC]
theorem waysC_length (l : List Wy) : (waysC l).length = l.length * 21 := by
  induction l with
  | nil => rfl
  | cons b r ih => rw [show b :: r = [b] ++ r from rfl, waysC_append, List.length_append, ih, waysC_one, wayC_length]; simp; omega
theorem waysC_at : ∀ (l : List Wy) (i : Nat) (h : i < l.length) (o : Nat), o < 21 → (waysC l)[i * 21 + o]? = (wayC l[i])[o]?
  | b :: r, 0, h, o, ho => by
    rw [show waysC (b :: r) = wayC b ++ waysC r from by simp [waysC]]
    rw [List.getElem?_append_left (by rw [wayC_length]; omega)]; simp
  | b :: r, i + 1, h, o, ho => by
    rw [show waysC (b :: r) = wayC b ++ waysC r from by simp [waysC]]
    rw [List.getElem?_append_right (by rw [wayC_length]; omega), wayC_length, show (i + 1) * 21 + o - 21 = i * 21 + o from by omega]
    simpa using waysC_at r i (by simpa using h) o ho
theorem wayC_scal (w : Wy) : (wayC w).all scal = true := by simp [wayC, grC, scal]
/-- The numbers of a way, from memory. -/
theorem ints_of {h : Array Obj} {b o : Nat} {g : Nat → Int} (hc : ∀ i, i < 20 → cellH h b (o + i) = (grC g)[i]?) : intsAt h b o 20 g := fun i hi => by rw [hc i hi, grC_get g i hi]
theorem Blk.way {h : Array Obj} {b : Nat} {e : TypeId} {w : Wy} (hb : Blk h b e (wayC w)) : cellH h b 0 = some (.int .i64 (w.1 : Int)) ∧ intsAt h b 1 20 (spI w.2) := by
  refine ⟨hb.cell 0, ints_of fun i hi => ?_⟩
  rw [hb.cell, show 1 + i = i + 1 from by omega]
  rfl
theorem Blk.gr {h : Array Obj} {b : Nat} {e : TypeId} {g : Nat → Int} (hb : Blk h b e (grC g)) : intsAt h b 0 20 g := ints_of fun i hi => by rw [hb.cell, Nat.zero_add]
theorem Vec.way {h : Array Obj} {b l : Nat} {ws : List Wy} (hc : ∀ o, o < l * 21 → cellH h b o = (waysC ws)[o]?) (hl : ws.length = l) {i : Nat} (hi : i < ws.length) :
    cellH h b (0 + i * 21) = some (.int .i64 (ws[i].1 : Int)) ∧ intsAt h b (0 + i * 21 + 1) 20 (spI ws[i].2) := by
  refine ⟨?_, ints_of fun k hk => ?_⟩
  · rw [Nat.zero_add, hc _ (by omega)]
    exact waysC_at ws i hi 0 (by decide)
  · rw [Nat.zero_add, hc _ (by omega), show i * 21 + 1 + k = i * 21 + (k + 1) from by omega, waysC_at ws i hi (k + 1) (by omega)]
    rfl
/-- Few places, few ways. -/
theorem nodup_le : ∀ (n : Nat) (l : List Nat), l.Nodup → (∀ x ∈ l, x < n) → l.length ≤ n
  | 0, l, _, h => by
    cases l with
    | nil => simp
    | cons x r => have := h x (by simp); omega
  | n + 1, l, hn, h => by
    by_cases hm : n ∈ l
    · have h1 := nodup_le n (l.erase n) (hn.erase n) fun x hx => by
        have := (hn.mem_erase_iff).1 hx
        have := h x this.2
        omega
      rw [List.length_erase_of_mem hm] at h1
      omega
    · have h1 := nodup_le n l hn fun x hx => by
        have := h x hx
        have : x ≠ n := fun e => hm (e ▸ hx)
        omega
      omega
theorem DD.short {n : Nat} {ws : List Wy} (h : DD ws) (hb : ∀ x ∈ ws, x.1 ≤ n) : ws.length ≤ n + 1 := by
  have := nodup_le (n + 1) (ws.map Prod.fst) h (by
    intro x hx
    obtain ⟨y, hy, rfl⟩ := List.mem_map.1 hx
    have := hb y hy; omega)
  simpa using this
end Go.Vc
namespace Go.Proofs.Ytngbiaeliphdjaa.V
open Go.Vc Go.Proofs Go.RowKit
set_option linter.unusedVariables false
set_option linter.unusedSimpArgs false
theorem elemWay : Elem Try.prog 137 142 21 168 := ⟨by kernel_rfl, by kernel_rfl, by kernel_rfl, ⟨.int .i64 0 :: grC fun _ => 0, by kernel_rfl, by simp [grC_length]⟩⟩
theorem none_ok (w : World) : Cl Try.prog 130 [] w (RetB (.agg ⟨grC (spI gNone)⟩) w) := by
  apply vc130
  unfold V130
  refine newC_in fun w1 s1 k1 e1 => ?_
  have k1' : Blk w1.heap w.heap.size 140 (grC fun _ => 0) := k1
  have B1 : Below w.heap.size w w1 := Ext.to (Below.refl _ _) e1 fun _ h => h.elim
  generalize hb : w.heap.size = b at *
  refine ⟨fun k n w' => ∃ i : Nat, n = i ∧ i ≤ 10 ∧ k = 10 - i ∧ Blk w'.heap b 140 (grC fun j => if j < 2 * i then -1 else 0) ∧ Below w.heap.size w w', ⟨_, 0, rfl, by omega, rfl, ?_, hb ▸ B1⟩, ?_⟩
  · rw [grC_ext (g := fun _ => 0) fun j _ => by rw [if_neg (by omega)]]; exact k1'
  rintro k d n w2 ⟨i, rfl, hi, rfl, k2, B2⟩
  refine ⟨fun g => ?_, fun g => ?_⟩
  · have g' : i < 10 := by have := of_decide_eq_true g; omega
    refine ⟨⟨by omega, by omega⟩, ?_⟩
    rw [show 0 + Int.toNat (i : Int) * 2 = 2 * i from by omega]
    refine stW_in k2 (by rw [grC_length]; show 2 * i + 2 ≤ 20; omega) fun w3 s3 k3 e3 => ?_
    refine ⟨10 - (i + 1), by omega, i + 1, by rw [w64 (by omega)]; omega, by omega, rfl, ?_, Ext.to B2 e3 fun x hx => by omega⟩
    have : segSet (grC fun j => if j < 2 * i then -1 else 0) (2 * i) [.int .i64 (-1), .int .i64 (-1)] = grC fun j => if j < 2 * (i + 1) then -1 else 0 := by
      show ((grC _).set (2 * i) _).set (2 * i + 1) _ = _
      rw [grC_set, grC_set]
      apply grC_ext
      intro j hj
      by_cases h1 : j = 2 * i + 1
      · rw [if_pos h1, if_pos (by omega)]
      · rw [if_neg h1]
        by_cases h2 : j = 2 * i
        · rw [if_pos h2, if_pos (by omega)]
        · rw [if_neg h2]
          by_cases h3 : j < 2 * i
          · rw [if_pos h3, if_pos (by omega)]
          · rw [if_neg h3, if_neg (by omega)]
    rw [this] at k3; exact k3
  · have g' : i = 10 := by have := of_decide_eq_false g; omega
    subst g'
    rw [grC_ext (g := spI gNone) fun j hj => by rw [if_pos (by omega)]; rfl] at k2
    refine ⟨spI gNone, k2.gr, ?_⟩
    refine stW_in (vs := grC (spI gNone)) k2 (by rw [grC_length]; decide) fun w3 s3 k3 e3 => ?_
    have : segSet (grC (spI gNone)) 0 (grC (spI gNone)) = grC (spI gNone) := by rw [segSet_eq _ _ _ (by omega)]; simp
    rw [this] at k3
    exact ⟨spI gNone, k3.gr, rfl, Ext.to B2 e3 fun x hx => by omega⟩
theorem idx140 (g : Nat → Int) (n : Nat) (h : n < 10) (w : World) : (Instr.index 140 (.agg ⟨grC g⟩) (.int .i64 n)).run Try.prog w = .ok (.agg #[.int .i64 (g (2 * n)), .int .i64 (g (2 * n + 1))]) w := by
  unfold Instr.index
  rw [bind_run (show (asIntOf (.int .i64 (n : Int))).run Try.prog w = .ok (.i64, (n : Int)) w from rfl)]
  simp only []
  rw [bind_run (underlying_run (show Try.prog.underlying 140 = some (.array 10 31) from by kernel_rfl) w)]
  simp only []
  rw [if_pos (by omega), bind_run (sizeOf_run (show sizeP Try.prog 31 = some 2 from by kernel_rfl) w)]
  rw [show Int.toNat (n : Int) * 2 = 2 * n from by omega]
  rw [part_run_agg (n := 2) (show Try.prog.underlying 31 = some (.struct (Try.prog.fieldsOf 31)) from by kernel_rfl) (.inl ⟨_, rfl⟩) (by kernel_rfl)]
  have : ((grC g).drop (2 * n)).take 2 = [.int .i64 (g (2 * n)), .int .i64 (g (2 * n + 1))] := by
    apply List.ext_getElem?
    intro k
    rw [List.getElem?_take]
    match k with
    | 0 => rw [if_pos (by omega), List.getElem?_drop, grC_get _ _ (by omega)]; rfl
    | 1 => rw [if_pos (by omega), List.getElem?_drop, grC_get _ _ (by omega)]; rfl
    | k + 2 => rw [if_neg (by omega)]; rfl
  show Result.ok (Value.agg ⟨((grC g).drop (2 * n)).take 2⟩) w = _
  rw [this]
theorem with_ok (x y : Gr) (w : World) : Cl Try.prog 151 [.agg ⟨grC (spI x)⟩, .agg ⟨grC (spI y)⟩] w (RetB (.agg ⟨grC (spI (gOver x y))⟩) w) := by
  refine vc151 (g1 := spI x) (g2 := spI y) ?_
  unfold V151
  refine newC_in fun w1 s1 k1 e1 => ?_
  refine newC_in fun w2 s2 k2 e2 => ?_
  refine newC_in fun w3 s3 k3 e3 => ?_
  generalize hb1 : w.heap.size = b1 at *
  generalize hb2 : w1.heap.size = b2 at *
  generalize hb3 : w2.heap.size = b3 at *
  have k1' : Blk w3.heap b1 140 (grC (spI x)) := (k1.keep e2 fun h => h).keep e3 fun h => h
  have k2' : Blk w3.heap b2 140 (grC (spI y)) := k2.keep e3 fun h => h
  have k3' : Blk w3.heap b3 140 (grC fun _ => 0) := k3
  have B3 : Below w.heap.size w w3 := Ext.to (Ext.to (Ext.to (Below.refl _ _) e1 fun _ h => h.elim) e2 fun _ h => h.elim) e3 fun _ h => h.elim
  refine ⟨spI y, k2'.gr, fun k n w' => ∃ i : Nat, n = i ∧ i ≤ 10 ∧ k = 10 - i ∧ Blk w'.heap b1 140 (grC fun j => if j < 2 * i then spI (gOver x y) j else spI x j) ∧ Blk w'.heap b3 140 (grC fun _ => 0) ∧ Below w.heap.size w w', ⟨_, 0, rfl, by omega, rfl, ?_, k3', B3⟩, ?_⟩
  · rw [grC_ext (g := spI x) fun j _ => by rw [if_neg (by omega)]]; exact k1'
  rintro k d n w4 ⟨i, rfl, hi, rfl, k4, k4', B4⟩
  have hz4 := k4'.lt
  refine ⟨fun g => ?_, fun g => ?_⟩
  · have g' : i < 10 := by have := of_decide_eq_true g; omega
    refine ⟨_, _, idx140 (spI y) i g' w4, ?_⟩
    refine newC_in fun w5 s5 k5 e5 => ?_
    refine stW_in k5 (by show 0 + 2 ≤ 2; decide) fun w6 s6 k6 e6 => ?_
    have k6' : Blk w6.heap w4.heap.size 31 [.int .i64 (spI y (2 * i)), .int .i64 (spI y (2 * i + 1))] := k6
    have hn1 : b1 ≠ w4.heap.size := by have := k4.lt; omega
    have k46 := (k4.keep e5 fun h => h).keep e6 hn1
    have k46' := (k4'.keep e5 fun h => h).keep e6 (by omega)
    have B6 : Below w.heap.size w w6 := Ext.to (Ext.to B4 e5 fun _ h => h.elim) e6 fun z hz => by have := B4.size; omega
    have ev : (2 * i) / 2 = i ∧ (2 * i + 1) / 2 = i ∧ (2 * i) % 2 = 0 ∧ (2 * i + 1) % 2 ≠ 0 := by omega
    have e1w : IntKind.wrap .i64 ((i : Int) + 1) = ((i + 1 : Nat) : Int) := by rw [w64 (by omega)]; omega
    rw [e1w]
    -- what two numbers become
    have hstep : ∀ (f : Nat → Int), (∀ j, j < 2 * i → f j = spI (gOver x y) j) → f (2 * i) = spI (gOver x y) (2 * i) → f (2 * i + 1) = spI (gOver x y) (2 * i + 1) → (∀ j, 2 * i + 1 < j → f j = spI x j) → grC f = grC fun j => if j < 2 * (i + 1) then spI (gOver x y) j else spI x j := by
      intro f h1 h2 h3 h4
      apply grC_ext
      intro j hj
      by_cases hj1 : j < 2 * (i + 1)
      · rw [if_pos hj1]
        by_cases hj2 : j < 2 * i
        · exact h1 j hj2
        · by_cases hj3 : j = 2 * i
          · subst hj3; exact h2
          · obtain rfl : j = 2 * i + 1 := by omega
            exact h3
      · rw [if_neg hj1]; exact h4 j (by omega)
    refine ⟨_, k6'.cell 0, fun g2 => ?_, fun g2 => ?_⟩
    · have g2' := of_decide_eq_true g2
      obtain ⟨p, hp⟩ : ∃ p, y i = some p := by
        cases hy : y i with
        | some p => exact ⟨p, rfl⟩
        | none => unfold spI at g2'; rw [ev.1, hy] at g2'; simp at g2'
      refine ⟨_, k6'.cell 0, _, k6'.cell 1, ⟨by omega, by omega⟩, ?_⟩
      rw [show 0 + Int.toNat (i : Int) * 2 = 2 * i from by omega]
      refine stW_in k46 (by rw [grC_length]; show 2 * i + 2 ≤ 20; omega) fun w7 s7 k7 e7 => ?_
      refine ⟨10 - (i + 1), by omega, i + 1, rfl, by omega, rfl, ?_, k46'.keep e7 (by omega), Ext.to B6 e7 fun z hz => by omega⟩
      have hset : segSet (grC fun j => if j < 2 * i then spI (gOver x y) j else spI x j) (2 * i) [.int .i64 (spI y (2 * i)), .int .i64 (spI y (2 * i + 1))] = grC fun j => if j < 2 * (i + 1) then spI (gOver x y) j else spI x j := by
        show ((grC _).set (2 * i) _).set (2 * i + 1) _ = _
        rw [grC_set, grC_set]
        apply hstep
        · intro j hj; rw [if_neg (by omega), if_neg (by omega), if_pos hj]
        · rw [if_neg (by omega), if_pos rfl]; unfold spI gOver; rw [ev.1, hp]; rfl
        · rw [if_pos rfl]; unfold spI gOver; rw [ev.2.1, hp]; rfl
        · intro j hj; rw [if_neg (by omega), if_neg (by omega), if_neg (by omega)]
      rw [hset] at k7; exact k7
    · have g2' := of_decide_eq_false g2
      have hp : y i = none := by
        cases hy : y i with
        | none => rfl
        | some p => unfold spI at g2'; rw [ev.1, hy] at g2'; simp only [ev.2.2.1, if_true] at g2'; omega
      refine ⟨10 - (i + 1), by omega, i + 1, rfl, by omega, rfl, ?_, k46', B6⟩
      rw [← hstep (fun j => if j < 2 * i then spI (gOver x y) j else spI x j)]
      · exact k46
      · intro j hj; rw [if_pos hj]
      · rw [if_neg (by omega)]; unfold spI gOver; rw [ev.1, hp]; rfl
      · rw [if_neg (by omega)]; unfold spI gOver; rw [ev.2.1, hp]; rfl
      · intro j hj; rw [if_neg (by omega)]
  · have g' : i = 10 := by have := of_decide_eq_false g; omega
    subst g'
    rw [grC_ext (g := spI (gOver x y)) fun j hj => by rw [if_pos (by omega)]] at k4
    refine ⟨spI (gOver x y), k4.gr, ?_⟩
    refine stW_in (vs := grC (spI (gOver x y))) k4' (by rw [grC_length, grC_length]; decide) fun w5 s5 k5 e5 => ?_
    have : segSet (grC fun _ => 0) 0 (grC (spI (gOver x y))) = grC (spI (gOver x y)) := by
      rw [segSet_eq _ _ _ (by rw [grC_length, grC_length]; decide), grC_length]
      rw [List.drop_of_length_le (by rw [grC_length]; decide)]
      simp
    rw [this] at k5
    exact ⟨spI (gOver x y), k5.gr, rfl, Ext.to B4 e5 fun z hz => by omega⟩
end Go.Proofs.Ytngbiaeliphdjaa.V
/- Where a pattern matches a text: plain lists, no program in sight. No statement of the seat is proved here. -/
namespace Go.Vc
set_option linter.unusedVariables false
set_option linter.unusedSimpArgs false
structure Mt where
  ok : Bool
  fr : Nat
  to : Nat
  gs : List (Int × Int)
def mt0 : Mt := ⟨false, 0, 0, []⟩
def spanP (g : Gr) (j : Nat) : Int × Int := match g (j + 1) with
  | some p => ((p.1 : Int), (p.2 : Int))
  | none => (-1, -1)
def mtP (G i : Nat) (x : Wy) : Mt := ⟨true, i, x.1, (List.range G).map (spanP x.2)⟩
def waysP (P : Pat) (t : Bytes) (i : Nat) : List Mt := (endsP P.pieces t (P.pieces.length - 1) i).map (mtP P.groups i)
def findP (P : Pat) (t : Bytes) (i : Nat) : Mt := if i ≤ t.length then (match waysP P t i with
  | m :: _ => m
  | [] => findP P t (i + 1)) else mt0
  termination_by t.length + 1 - i
/-- Where the next one may begin. -/
def nextM (m : Mt) : Nat := if m.fr = m.to then m.to + 1 else m.to
def allP (P : Pat) (t : Bytes) (i : Nat) : List Mt :=
  if i ≤ t.length then (if (findP P t i).ok = true then findP P t i :: (if i < nextM (findP P t i) then allP P t (nextM (findP P t i)) else []) else []) else []
  termination_by t.length + 1 - i
def wholeP (P : Pat) (t : Bytes) : Mt := ((waysP P t 0).find? fun m => m.to == t.length).getD mt0
/-- A pattern and a text that are well-formed. -/
structure PtOk (P : Pat) (t : Bytes) : Prop where
  wf : Wf P.groups P.pieces
  g9 : P.groups ≤ 9
  len : P.pieces.length ≤ 482
  n200 : t.length ≤ 200
  small : AllS P.pieces
  pos : 0 < P.pieces.length
structure MtOk (G n i : Nat) (m : Mt) : Prop where
  ok : m.ok = true
  fr : m.fr = i
  lo : i ≤ m.to
  hi : m.to ≤ n
  gs : m.gs.length = G
  gr : ∀ g ∈ m.gs, g = (-1, -1) ∨ ∃ f e : Nat, g = ((f : Int), (e : Int)) ∧ i ≤ f ∧ f ≤ e ∧ e ≤ m.to
theorem PtOk.ends {P : Pat} {t : Bytes} (h : PtOk P t) (k i : Nat) (hi : i ≤ t.length) : ∀ w ∈ endsP P.pieces t k i, WOk P.groups t.length i w :=
  endsP_ok (fun x hx h5 => by
    obtain ⟨j, hj⟩ := List.getElem?_of_mem hx
    have := (h.wf j x hj).num h5
    omega) k i hi
theorem mtP_ok {G n i : Nat} {w : Wy} (h : WOk G n i w) : MtOk G n i (mtP G i w) := by
  refine ⟨rfl, rfl, h.lo, h.hi, by simp [mtP], fun g hg => ?_⟩
  obtain ⟨j, _, rfl⟩ := List.mem_map.1 hg
  unfold spanP
  cases hw : w.2 (j + 1) with
  | none => exact .inl rfl
  | some p =>
    have := h.gr (j + 1) p.1 p.2 hw
    exact .inr ⟨p.1, p.2, rfl, this.2.2.1, this.2.2.2.1, this.2.2.2.2⟩
theorem PtOk.ways {P : Pat} {t : Bytes} (h : PtOk P t) {i : Nat} (hi : i ≤ t.length) : ∀ m ∈ waysP P t i, MtOk P.groups t.length i m := by
  intro m hm
  obtain ⟨w, hw, rfl⟩ := List.mem_map.1 hm
  exact mtP_ok (h.ends _ i hi w hw)
theorem PtOk.waysLen {P : Pat} {t : Bytes} (h : PtOk P t) {i : Nat} (hi : i ≤ t.length) : (waysP P t i).length ≤ 201 := by
  unfold waysP
  rw [List.length_map]
  have := (endsP_dd P.pieces t (P.pieces.length - 1) i).short fun x hx => (h.ends _ i hi x hx).hi
  have := h.n200
  omega
theorem PtOk.find {P : Pat} {t : Bytes} (h : PtOk P t) : ∀ (m i : Nat), m = t.length + 1 - i → findP P t i = mt0 ∨ ∃ j, i ≤ j ∧ j ≤ t.length ∧ MtOk P.groups t.length j (findP P t i) := by
  intro m
  induction m using Nat.strongRecOn with
  | _ m ih =>
  intro i hm
  rw [findP]
  by_cases hi : i ≤ t.length
  · rw [if_pos hi]
    cases hw : waysP P t i with
    | nil =>
      rcases ih (t.length + 1 - (i + 1)) (by omega) (i + 1) rfl with h1 | ⟨j, h1, h2, h3⟩
      · exact .inl h1
      · exact .inr ⟨j, by omega, h2, h3⟩
    | cons x r => exact .inr ⟨i, Nat.le_refl _, hi, h.ways hi x (by rw [hw]; exact List.mem_cons_self ..)⟩
  · rw [if_neg hi]; exact .inl rfl
theorem PtOk.findOk {P : Pat} {t : Bytes} (h : PtOk P t) {i : Nat} (ho : (findP P t i).ok = true) : i ≤ (findP P t i).fr ∧ MtOk P.groups t.length (findP P t i).fr (findP P t i) := by
  rcases h.find _ i rfl with h1 | ⟨j, h1, h2, h3⟩
  · rw [h1] at ho; cases ho
  · rw [h3.fr]; exact ⟨h1, h3⟩
theorem PtOk.findNo {P : Pat} {t : Bytes} (h : PtOk P t) {i : Nat} (ho : (findP P t i).ok = false) : findP P t i = mt0 := by
  rcases h.find _ i rfl with h1 | ⟨j, h1, h2, h3⟩
  · exact h1
  · rw [h3.ok] at ho; cases ho
theorem PtOk.next {P : Pat} {t : Bytes} (h : PtOk P t) {i : Nat} (ho : (findP P t i).ok = true) : i < nextM (findP P t i) := by
  have h1 := h.findOk ho
  have := h1.2.lo
  unfold nextM
  split <;> omega
theorem allP_end {P : Pat} {t : Bytes} {i : Nat} (hi : ¬ i ≤ t.length) : allP P t i = [] := by rw [allP, if_neg hi]
theorem allP_no {P : Pat} {t : Bytes} {i : Nat} (ho : (findP P t i).ok = false) : allP P t i = [] := by
  rw [allP]
  split
  · rw [if_neg (by rw [ho]; decide)]
  · rfl
theorem PtOk.all_step {P : Pat} {t : Bytes} (h : PtOk P t) {i : Nat} (hi : i ≤ t.length) (ho : (findP P t i).ok = true) : allP P t i = findP P t i :: allP P t (nextM (findP P t i)) := by
  rw [allP, if_pos hi, if_pos ho, if_pos (h.next ho)]
/-- Matches one behind the other from a place on. -/
inductive Chain (G n : Nat) : Nat → List Mt → Prop
  | nil (i : Nat) : Chain G n i []
  | cons {i : Nat} {m : Mt} {r : List Mt} (h : i ≤ m.fr) (hm : MtOk G n m.fr m) (hr : Chain G n (nextM m) r) : Chain G n i (m :: r)
theorem PtOk.chain {P : Pat} {t : Bytes} (h : PtOk P t) : ∀ (m i : Nat), m = t.length + 1 - i → Chain P.groups t.length i (allP P t i) := by
  intro m
  induction m using Nat.strongRecOn with
  | _ m ih =>
  intro i hm
  by_cases hi : i ≤ t.length
  · cases ho : (findP P t i).ok with
    | false => rw [allP_no ho]; exact .nil _
    | true =>
      rw [h.all_step hi ho]
      have h1 := h.findOk ho
      exact .cons h1.1 h1.2 (ih _ (by have := h.next ho; omega) _ rfl)
  · rw [allP_end hi]; exact .nil _
theorem Chain.mem {G n i : Nat} {ms : List Mt} (h : Chain G n i ms) : ∀ m ∈ ms, i ≤ m.fr ∧ MtOk G n m.fr m := by
  induction h with
  | nil i => intro m hm; cases hm
  | @cons i m0 r h1 hm hr ih =>
    intro m h
    rcases List.mem_cons.1 h with rfl | h
    · exact ⟨h1, hm⟩
    · have h4 := ih m h
      have := hm.lo
      have h3 : i ≤ nextM m0 := by unfold nextM; split <;> omega
      exact ⟨Nat.le_trans h3 h4.1, h4.2⟩
theorem Chain.len {G n i : Nat} {ms : List Mt} (h : Chain G n i ms) : i ≤ n + 1 → ms.length + i ≤ n + 1 := by
  induction h with
  | nil i => intro h; simpa using h
  | @cons i m r h1 hm hr ih =>
    intro _
    have := hm.lo
    have := hm.hi
    have h3 : i < nextM m := by unfold nextM; split <;> omega
    have h4 : nextM m ≤ n + 1 := by unfold nextM; split <;> omega
    have := ih h4
    simp only [List.length_cons]
    omega
theorem PtOk.allLen {P : Pat} {t : Bytes} (h : PtOk P t) : (allP P t 0).length ≤ 201 := by
  have := (h.chain _ 0 rfl).len (by omega)
  have := h.n200
  omega
/-- Matches that a law can mark. -/
def MsS (ms : List Mt) : Prop := ms.length ≤ 201 ∧ ∀ m ∈ ms, m.gs.length ≤ 9
theorem PtOk.waysS {P : Pat} {t : Bytes} (h : PtOk P t) {i : Nat} (hi : i ≤ t.length) : MsS (waysP P t i) := ⟨h.waysLen hi, fun m hm => by have := (h.ways hi m hm).gs; have := h.g9; omega⟩
theorem PtOk.allS {P : Pat} {t : Bytes} (h : PtOk P t) : MsS (allP P t 0) := ⟨h.allLen, fun m hm => by have := ((h.chain _ 0 rfl).mem m hm).2.gs; have := h.g9; omega⟩
theorem PtOk.findS {P : Pat} {t : Bytes} (h : PtOk P t) (i : Nat) : (findP P t i).gs.length ≤ 9 := by
  rcases h.find _ i rfl with h1 | ⟨j, h1, h2, h3⟩
  · rw [h1]; simp [mt0]
  · have := h3.gs; have := h.g9; omega
theorem PtOk.wholeS {P : Pat} {t : Bytes} (h : PtOk P t) : (wholeP P t).gs.length ≤ 9 := by
  unfold wholeP
  cases hf : (waysP P t 0).find? fun m => m.to == t.length with
  | none => simp [mt0]
  | some m => exact (h.waysS (Nat.zero_le _)).2 m (List.mem_of_find?_eq_some hf)
end Go.Vc
/- Printed by vcgen.py, a program of this session: formulas of Go functions, each with the proof that it gives the function's contract. No statement of the seat is proved here. -/
namespace Go.Proofs.Ytngbiaeliphdjaa.V
open Go.Vc Go.Proofs
set_option linter.unusedVariables false
set_option maxRecDepth 100000
/-- laws.eqMatch -/
def V41 (t1 : Bool) (n2 : Int) (n3 : Int) (a4 : Option Addr) (l4 : Nat) (c4 : Nat) (t5 : Bool) (n6 : Int) (n7 : Int) (a8 : Option Addr) (l8 : Nat) (c8 : Nat) (R : Ending → World → Prop) : World → Prop := fun w =>
  newC [.bool t1, .int .i64 n2, .int .i64 n3, .slice a4 l4 c4] 29 (fun (b9 : Nat) (w10 : World) => newC [.bool t5, .int .i64 n6, .int .i64 n7, .slice a8 l8 c8] 29 (fun (b11 : Nat) (w12 : World) => ∃ (t13 : Bool), cellH w12.heap b9 0 = some (.bool t13) ∧ ∃ (t14 : Bool), cellH w12.heap b11 0 = some (.bool t14) ∧ (((!(t13 == t14)) = true → R (.returned (.bool false)) w12) ∧ ((!(t13 == t14)) = false → ∃ (n15 : Int), cellH w12.heap b9 1 = some (.int .i64 n15) ∧ ∃ (n16 : Int), cellH w12.heap b11 1 = some (.int .i64 n16) ∧ ((((n15 : Int) != n16) = true → R (.returned (.bool false)) w12) ∧ (((n15 : Int) != n16) = false → ∃ (n17 : Int), cellH w12.heap b9 2 = some (.int .i64 n17) ∧ ∃ (n18 : Int), cellH w12.heap b11 2 = some (.int .i64 n18) ∧ ((((n17 : Int) != n18) = true → R (.returned (.bool false)) w12) ∧ (((n17 : Int) != n18) = false → ∃ (a19 : Option Addr), ∃ (l19 : Nat), ∃ (c19 : Nat), cellH w12.heap b9 3 = some (.slice a19 l19 c19) ∧ ∃ (a20 : Option Addr), ∃ (l20 : Nat), ∃ (c20 : Nat), cellH w12.heap b11 3 = some (.slice a20 l20 c20) ∧ Cl Try.prog 89 ([.slice a19 l19 c19, .slice a20 l20 c20]) w12 (retG (fun (r23 : Value) (w22 : World) => ∃ (t21 : Bool), r23 = .bool t21 ∧ (((!t21) = true → R (.returned (.bool false)) w22) ∧ ((!t21) = false → R (.returned (.bool true)) w22))) (fun c w => R (.panicked c) w))))))))) w10) w
def scr41 : Scr := (.run [0, 1, 2] (.close (.run [0, 1, 2, 3, 4] (.close (.cond (.run [0] (.close .nil)) (.run [0, 1, 2, 3, 4] (.close (.cond (.run [0] (.close .nil)) (.run [0, 1, 2, 3, 4] (.close (.cond (.run [0] (.close .nil)) (.run [0, 1, 2, 3, 4, 5] (.close (.cond (.run [0] (.close .nil)) (.run [0] (.close .nil))))))))))))))))
theorem vc41 {t1 : Bool} {n2 : Int} {n3 : Int} {a4 : Option Addr} {l4 : Nat} {c4 : Nat} {t5 : Bool} {n6 : Int} {n7 : Int} {a8 : Option Addr} {l8 : Nat} {c8 : Nat} {R : Ending → World → Prop} {w : World} (h : V41 t1 n2 n3 a4 l4 c4 t5 n6 n7 a8 l8 c8 R w) : Cl Try.prog 41 [.agg #[.bool t1, .int .i64 n2, .int .i64 n3, .slice a4 l4 c4], .agg #[.bool t5, .int .i64 n6, .int .i64 n7, .slice a8 l8 c8]] w R :=
  cl_of scr41 Try.func41 (by kernel_rfl) [.agg #[.bool t1, .int .i64 n2, .int .i64 n3, .slice a4 l4 c4], .agg #[.bool t5, .int .i64 n6, .int .i64 n7, .slice a8 l8 c8]] (V41 t1 n2 n3 a4 l4 c4 t5 n6 n7 a8 l8 c8 R) (by kernel_rfl) h
/-- laws.markMatch -/
def V42 (t1 : Bool) (n2 : Int) (n3 : Int) (a4 : Option Addr) (l4 : Nat) (c4 : Nat) (n5 : Int) (R : Ending → World → Prop) : World → Prop := fun w =>
  newC [.bool t1, .int .i64 n2, .int .i64 n3, .slice a4 l4 c4] 29 (fun (b6 : Nat) (w7 : World) => ∃ (a8 : Option Addr), ∃ (l8 : Nat), ∃ (c8 : Nat), cellH w7.heap b6 3 = some (.slice a8 l8 c8) ∧ Cl Try.prog 90 ([.slice a8 l8 c8, .int .i64 n5]) w7 (retG (fun (r11 : Value) (w10 : World) => ∃ (n9 : Int), r11 = .int .i64 n9 ∧ R (.returned (.int .i64 n9)) w10) (fun c w => R (.panicked c) w))) w
def scr42 : Scr := (.run [0, 1] (.close (.run [0, 1, 2, 3, 4] (.close (.run [0, 1] (.close .nil))))))
theorem vc42 {t1 : Bool} {n2 : Int} {n3 : Int} {a4 : Option Addr} {l4 : Nat} {c4 : Nat} {n5 : Int} {R : Ending → World → Prop} {w : World} (h : V42 t1 n2 n3 a4 l4 c4 n5 R w) : Cl Try.prog 42 [.agg #[.bool t1, .int .i64 n2, .int .i64 n3, .slice a4 l4 c4], .int .i64 n5] w R :=
  cl_of scr42 Try.func42 (by kernel_rfl) [.agg #[.bool t1, .int .i64 n2, .int .i64 n3, .slice a4 l4 c4], .int .i64 n5] (V42 t1 n2 n3 a4 l4 c4 n5 R) (by kernel_rfl) h
/-- laws.heldMatch -/
def V43 (t1 : Bool) (n2 : Int) (n3 : Int) (a4 : Option Addr) (l4 : Nat) (c4 : Nat) (n5 : Int) (R : Ending → World → Prop) : World → Prop := fun w =>
  newC [.bool t1, .int .i64 n2, .int .i64 n3, .slice a4 l4 c4] 29 (fun (b6 : Nat) (w7 : World) => ∃ (a8 : Option Addr), ∃ (l8 : Nat), ∃ (c8 : Nat), cellH w7.heap b6 3 = some (.slice a8 l8 c8) ∧ Cl Try.prog 91 ([.slice a8 l8 c8, .int .i64 n5]) w7 (retG (fun (r11 : Value) (w10 : World) => ∃ (n9 : Int), r11 = .int .i64 n9 ∧ (((decide ((n9 : Int) < 0)) = true → R (.returned (.int .i64 (-1))) w10) ∧ ((decide ((n9 : Int) < 0)) = false → R (.returned (.int .i64 n9)) w10))) (fun c w => R (.panicked c) w))) w
def scr43 : Scr := (.run [0, 1] (.close (.run [0, 1, 2, 3, 4] (.close (.run [0, 1] (.close (.cond (.run [0] (.close .nil)) (.run [0, 1] (.close .nil)))))))))
theorem vc43 {t1 : Bool} {n2 : Int} {n3 : Int} {a4 : Option Addr} {l4 : Nat} {c4 : Nat} {n5 : Int} {R : Ending → World → Prop} {w : World} (h : V43 t1 n2 n3 a4 l4 c4 n5 R w) : Cl Try.prog 43 [.agg #[.bool t1, .int .i64 n2, .int .i64 n3, .slice a4 l4 c4], .int .i64 n5] w R :=
  cl_of scr43 Try.func43 (by kernel_rfl) [.agg #[.bool t1, .int .i64 n2, .int .i64 n3, .slice a4 l4 c4], .int .i64 n5] (V43 t1 n2 n3 a4 l4 c4 n5 R) (by kernel_rfl) h
/-- laws.eqMatchS -/
def V47 (a1 : Option Addr) (l1 : Nat) (c1 : Nat) (a2 : Option Addr) (l2 : Nat) (c2 : Nat) (R : Ending → World → Prop) : World → Prop := fun w =>
  ((((((l1 : Nat) : Int) : Int) != ((l2 : Nat) : Int)) = true → R (.returned (.bool false)) w) ∧ (((((l1 : Nat) : Int) : Int) != ((l2 : Nat) : Int)) = false → ∃ (I3 : Nat → Int → World → Prop), (∃ (k5 : Nat), I3 k5 0 w) ∧ ∀ (k4 : Nat) (d7 : Nat → Value) (n8 : Int) (w6 : World), I3 k4 n8 w6 → (((decide ((n8 : Int) < ((l1 : Nat) : Int))) = true → drw (fun (w9 : World) => ∃ (b10 : Nat) (o11 : Nat), ((a1 : Option Addr) = some ⟨b10, o11, none⟩ ∧ 0 ≤ (n8 : Int) ∧ (n8 : Int) < ((l1 : Nat) : Int)) ∧ ∃ (t12 : Bool), cellH w9.heap b10 (o11 + (Int.toNat n8) * 4) = some (.bool t12) ∧ ∃ (n13 : Int), cellH w9.heap b10 (o11 + (Int.toNat n8) * 4 + 1) = some (.int .i64 n13) ∧ ∃ (n14 : Int), cellH w9.heap b10 (o11 + (Int.toNat n8) * 4 + 2) = some (.int .i64 n14) ∧ ∃ (a15 : Option Addr), ∃ (l15 : Nat), ∃ (c15 : Nat), cellH w9.heap b10 (o11 + (Int.toNat n8) * 4 + 3) = some (.slice a15 l15 c15) ∧ ∃ (b16 : Nat) (o17 : Nat), ((a2 : Option Addr) = some ⟨b16, o17, none⟩ ∧ 0 ≤ (n8 : Int) ∧ (n8 : Int) < ((l2 : Nat) : Int)) ∧ ∃ (t18 : Bool), cellH w9.heap b16 (o17 + (Int.toNat n8) * 4) = some (.bool t18) ∧ ∃ (n19 : Int), cellH w9.heap b16 (o17 + (Int.toNat n8) * 4 + 1) = some (.int .i64 n19) ∧ ∃ (n20 : Int), cellH w9.heap b16 (o17 + (Int.toNat n8) * 4 + 2) = some (.int .i64 n20) ∧ ∃ (a21 : Option Addr), ∃ (l21 : Nat), ∃ (c21 : Nat), cellH w9.heap b16 (o17 + (Int.toNat n8) * 4 + 3) = some (.slice a21 l21 c21) ∧ Cl Try.prog 41 ([.agg #[.bool t12, .int .i64 n13, .int .i64 n14, .slice a15 l15 c15], .agg #[.bool t18, .int .i64 n19, .int .i64 n20, .slice a21 l21 c21]]) w9 (retG (fun (r24 : Value) (w23 : World) => ∃ (t22 : Bool), r24 = .bool t22 ∧ (((!t22) = true → R (.returned (.bool false)) w23) ∧ ((!t22) = false → (∃ (m25 : Nat), m25 < k4 ∧ I3 m25 (IntKind.wrap .i64 (n8 + 1)) w23)))) (fun c w => R (.panicked c) w))) w6) ∧ ((decide ((n8 : Int) < ((l1 : Nat) : Int))) = false → R (.returned (.bool true)) w6))))
def scr47 : Scr := (.run [0] (.close (.run [0, 1, 2, 3, 4] (.close (.cond (.run [0] (.close .nil)) (.run [0] (.close (.loop [(5, some (.int .i64)), (4, none), (11, none), (12, none), (13, none), (14, none), (15, none), (16, none), (17, none), (18, none), (19, none), (20, none), (21, none), (22, none), (23, none), (24, none), (25, none), (26, none)] (.run [0, 1, 2, 3] (.close (.cond (.run [0, 1, 2, 3, 4, 5, 6, 7, 8, 9] (.close (.cond (.run [0] (.close .nil)) (.run [0, 1, 2] (.close .nil))))) (.run [0] (.close .nil)))))))))))))
theorem vc47 {a1 : Option Addr} {l1 : Nat} {c1 : Nat} {a2 : Option Addr} {l2 : Nat} {c2 : Nat} {R : Ending → World → Prop} {w : World} (h : V47 a1 l1 c1 a2 l2 c2 R w) : Cl Try.prog 47 [.slice a1 l1 c1, .slice a2 l2 c2] w R :=
  cl_of scr47 Try.func47 (by kernel_rfl) [.slice a1 l1 c1, .slice a2 l2 c2] (V47 a1 l1 c1 a2 l2 c2 R) (by kernel_rfl) h
/-- laws.markMatchS -/
def V48 (a1 : Option Addr) (l1 : Nat) (c1 : Nat) (n2 : Int) (R : Ending → World → Prop) : World → Prop := fun w =>
  ∃ (I3 : Nat → Int → Int → World → Prop), (∃ (k5 : Nat), I3 k5 n2 0 w) ∧ ∀ (k4 : Nat) (d7 : Nat → Value) (n8 : Int) (n9 : Int) (w6 : World), I3 k4 n8 n9 w6 → (((decide ((n9 : Int) < ((l1 : Nat) : Int))) = true → ((3 : Int) ≠ 0) ∧ ∃ (b10 : Nat) (o11 : Nat), ((a1 : Option Addr) = some ⟨b10, o11, none⟩ ∧ 0 ≤ (n9 : Int) ∧ (n9 : Int) < ((l1 : Nat) : Int)) ∧ stW b10 (o11 + (Int.toNat n9) * 4) [.bool ((Int.tmod n8 3 : Int) == 0)] (fun (w12 : World) => ∃ (b13 : Nat) (o14 : Nat), ((a1 : Option Addr) = some ⟨b13, o14, none⟩ ∧ 0 ≤ (n9 : Int) ∧ (n9 : Int) < ((l1 : Nat) : Int)) ∧ stW b13 (o14 + (Int.toNat n9) * 4 + 1) [.int .i64 (IntKind.wrap .i64 (n8 + 1))] (fun (w15 : World) => ∃ (b16 : Nat) (o17 : Nat), ((a1 : Option Addr) = some ⟨b16, o17, none⟩ ∧ 0 ≤ (n9 : Int) ∧ (n9 : Int) < ((l1 : Nat) : Int)) ∧ stW b16 (o17 + (Int.toNat n9) * 4 + 2) [.int .i64 (IntKind.wrap .i64 ((IntKind.wrap .i64 (n8 + 1)) + 1))] (fun (w18 : World) => ∃ (b19 : Nat) (o20 : Nat), ((a1 : Option Addr) = some ⟨b19, o20, none⟩ ∧ 0 ≤ (n9 : Int) ∧ (n9 : Int) < ((l1 : Nat) : Int)) ∧ ∃ (a21 : Option Addr), ∃ (l21 : Nat), ∃ (c21 : Nat), cellH w18.heap b19 (o20 + (Int.toNat n9) * 4 + 3) = some (.slice a21 l21 c21) ∧ Cl Try.prog 90 ([.slice a21 l21 c21, .int .i64 (IntKind.wrap .i64 ((IntKind.wrap .i64 ((IntKind.wrap .i64 (n8 + 1)) + 1)) + 1))]) w18 (retG (fun (r24 : Value) (w23 : World) => ∃ (n22 : Int), r24 = .int .i64 n22 ∧ (∃ (m25 : Nat), m25 < k4 ∧ I3 m25 n22 (IntKind.wrap .i64 (n9 + 1)) w23)) (fun c w => R (.panicked c) w))) w15) w12) w6) ∧ ((decide ((n9 : Int) < ((l1 : Nat) : Int))) = false → R (.returned (.int .i64 n8)) w6))
def scr48 : Scr := (.run [0] (.close (.run [0] (.close (.loop [(1, some (.int .i64)), (5, some (.int .i64)), (6, none), (7, none), (8, none), (9, none), (10, none), (11, none), (12, none), (13, none), (14, none), (15, none), (16, none), (17, none), (18, none), (19, none), (20, none), (21, none), (22, none), (23, none), (24, none), (25, none), (26, none), (27, none), (28, none), (29, none), (30, none), (31, none), (32, none), (33, none), (34, none), (35, none), (36, none), (37, none), (38, none), (39, none), (40, none), (41, none)] (.run [0, 1, 2, 3] (.close (.cond (.run [0, 1, 2, 3, 4, 5, 6, 7] (.close (.run [0, 1, 2] (.close (.run [0, 1, 2, 3, 4, 5] (.close (.run [0, 1, 2] (.close (.run [0, 1, 2, 3, 4, 5] (.close (.run [0, 1, 2] (.close (.run [0, 1, 2, 3, 4, 5, 6, 7] (.close (.run [0, 1, 2] (.close .nil)))))))))))))))) (.run [0, 1] (.close .nil))))))))))
theorem vc48 {a1 : Option Addr} {l1 : Nat} {c1 : Nat} {n2 : Int} {R : Ending → World → Prop} {w : World} (h : V48 a1 l1 c1 n2 R w) : Cl Try.prog 48 [.slice a1 l1 c1, .int .i64 n2] w R :=
  cl_of scr48 Try.func48 (by kernel_rfl) [.slice a1 l1 c1, .int .i64 n2] (V48 a1 l1 c1 n2 R) (by kernel_rfl) h
/-- laws.heldMatchS -/
def V49 (a1 : Option Addr) (l1 : Nat) (c1 : Nat) (n2 : Int) (R : Ending → World → Prop) : World → Prop := fun w =>
  ∃ (I3 : Nat → Int → Int → World → Prop), (∃ (k5 : Nat), I3 k5 n2 0 w) ∧ ∀ (k4 : Nat) (d7 : Nat → Value) (n8 : Int) (n9 : Int) (w6 : World), I3 k4 n8 n9 w6 → (((decide ((n9 : Int) < ((l1 : Nat) : Int))) = true → ∃ (b10 : Nat) (o11 : Nat), ((a1 : Option Addr) = some ⟨b10, o11, none⟩ ∧ 0 ≤ (n9 : Int) ∧ (n9 : Int) < ((l1 : Nat) : Int)) ∧ ∃ (t12 : Bool), cellH w6.heap b10 (o11 + (Int.toNat n9) * 4) = some (.bool t12) ∧ ((3 : Int) ≠ 0) ∧ (((!(t12 == ((Int.tmod n8 3 : Int) == 0))) = true → R (.returned (.int .i64 (-1))) w6) ∧ ((!(t12 == ((Int.tmod n8 3 : Int) == 0))) = false → ∃ (b13 : Nat) (o14 : Nat), ((a1 : Option Addr) = some ⟨b13, o14, none⟩ ∧ 0 ≤ (n9 : Int) ∧ (n9 : Int) < ((l1 : Nat) : Int)) ∧ ∃ (n15 : Int), cellH w6.heap b13 (o14 + (Int.toNat n9) * 4 + 1) = some (.int .i64 n15) ∧ ((((n15 : Int) != (IntKind.wrap .i64 (n8 + 1))) = true → R (.returned (.int .i64 (-1))) w6) ∧ (((n15 : Int) != (IntKind.wrap .i64 (n8 + 1))) = false → ∃ (b16 : Nat) (o17 : Nat), ((a1 : Option Addr) = some ⟨b16, o17, none⟩ ∧ 0 ≤ (n9 : Int) ∧ (n9 : Int) < ((l1 : Nat) : Int)) ∧ ∃ (n18 : Int), cellH w6.heap b16 (o17 + (Int.toNat n9) * 4 + 2) = some (.int .i64 n18) ∧ ((((n18 : Int) != (IntKind.wrap .i64 ((IntKind.wrap .i64 (n8 + 1)) + 1))) = true → R (.returned (.int .i64 (-1))) w6) ∧ (((n18 : Int) != (IntKind.wrap .i64 ((IntKind.wrap .i64 (n8 + 1)) + 1))) = false → ∃ (b19 : Nat) (o20 : Nat), ((a1 : Option Addr) = some ⟨b19, o20, none⟩ ∧ 0 ≤ (n9 : Int) ∧ (n9 : Int) < ((l1 : Nat) : Int)) ∧ ∃ (a21 : Option Addr), ∃ (l21 : Nat), ∃ (c21 : Nat), cellH w6.heap b19 (o20 + (Int.toNat n9) * 4 + 3) = some (.slice a21 l21 c21) ∧ Cl Try.prog 91 ([.slice a21 l21 c21, .int .i64 (IntKind.wrap .i64 ((IntKind.wrap .i64 ((IntKind.wrap .i64 (n8 + 1)) + 1)) + 1))]) w6 (retG (fun (r24 : Value) (w23 : World) => ∃ (n22 : Int), r24 = .int .i64 n22 ∧ (((decide ((n22 : Int) < 0)) = true → R (.returned (.int .i64 (-1))) w23) ∧ ((decide ((n22 : Int) < 0)) = false → (∃ (m25 : Nat), m25 < k4 ∧ I3 m25 n22 (IntKind.wrap .i64 (n9 + 1)) w23)))) (fun c w => R (.panicked c) w))))))))) ∧ ((decide ((n9 : Int) < ((l1 : Nat) : Int))) = false → R (.returned (.int .i64 n8)) w6))
def scr49 : Scr := (.run [0] (.close (.run [0] (.close (.loop [(1, some (.int .i64)), (5, some (.int .i64)), (4, none), (6, none), (7, none), (8, none), (9, none), (10, none), (11, none), (12, none), (13, none), (14, none), (15, none), (16, none), (17, none), (18, none), (19, none), (20, none), (21, none), (22, none), (23, none), (24, none), (25, none), (26, none), (27, none), (28, none), (29, none), (30, none), (31, none), (32, none), (33, none), (34, none), (35, none), (36, none), (37, none), (38, none), (39, none), (40, none), (41, none), (42, none), (43, none), (44, none), (45, none), (46, none), (47, none), (48, none), (49, none)] (.run [0, 1, 2, 3] (.close (.cond (.run [0, 1, 2, 3, 4, 5, 6, 7, 8] (.close (.cond (.run [0] (.close .nil)) (.run [0, 1, 2] (.close (.run [0, 1, 2, 3, 4, 5, 6] (.close (.cond (.run [0] (.close .nil)) (.run [0, 1, 2] (.close (.run [0, 1, 2, 3, 4, 5, 6] (.close (.cond (.run [0] (.close .nil)) (.run [0, 1, 2] (.close (.run [0, 1, 2, 3, 4, 5, 6, 7] (.close (.run [0, 1] (.close (.cond (.run [0] (.close .nil)) (.run [0, 1, 2] (.close .nil)))))))))))))))))))))) (.run [0, 1] (.close .nil))))))))))
theorem vc49 {a1 : Option Addr} {l1 : Nat} {c1 : Nat} {n2 : Int} {R : Ending → World → Prop} {w : World} (h : V49 a1 l1 c1 n2 R w) : Cl Try.prog 49 [.slice a1 l1 c1, .int .i64 n2] w R :=
  cl_of scr49 Try.func49 (by kernel_rfl) [.slice a1 l1 c1, .int .i64 n2] (V49 a1 l1 c1 n2 R) (by kernel_rfl) h
/-- laws.eqSpanS -/
def V89 (a1 : Option Addr) (l1 : Nat) (c1 : Nat) (a2 : Option Addr) (l2 : Nat) (c2 : Nat) (R : Ending → World → Prop) : World → Prop := fun w =>
  ((((((l1 : Nat) : Int) : Int) != ((l2 : Nat) : Int)) = true → R (.returned (.bool false)) w) ∧ (((((l1 : Nat) : Int) : Int) != ((l2 : Nat) : Int)) = false → ∃ (I3 : Nat → Int → World → Prop), (∃ (k5 : Nat), I3 k5 0 w) ∧ ∀ (k4 : Nat) (d7 : Nat → Value) (n8 : Int) (w6 : World), I3 k4 n8 w6 → (((decide ((n8 : Int) < ((l1 : Nat) : Int))) = true → drw (fun (w9 : World) => ∃ (b10 : Nat) (o11 : Nat), ((a1 : Option Addr) = some ⟨b10, o11, none⟩ ∧ 0 ≤ (n8 : Int) ∧ (n8 : Int) < ((l1 : Nat) : Int)) ∧ ∃ (n12 : Int), cellH w9.heap b10 (o11 + (Int.toNat n8) * 2) = some (.int .i64 n12) ∧ ∃ (n13 : Int), cellH w9.heap b10 (o11 + (Int.toNat n8) * 2 + 1) = some (.int .i64 n13) ∧ ∃ (b14 : Nat) (o15 : Nat), ((a2 : Option Addr) = some ⟨b14, o15, none⟩ ∧ 0 ≤ (n8 : Int) ∧ (n8 : Int) < ((l2 : Nat) : Int)) ∧ ∃ (n16 : Int), cellH w9.heap b14 (o15 + (Int.toNat n8) * 2) = some (.int .i64 n16) ∧ ∃ (n17 : Int), cellH w9.heap b14 (o15 + (Int.toNat n8) * 2 + 1) = some (.int .i64 n17) ∧ Cl Try.prog 122 ([.agg #[.int .i64 n12, .int .i64 n13], .agg #[.int .i64 n16, .int .i64 n17]]) w9 (retG (fun (r20 : Value) (w19 : World) => ∃ (t18 : Bool), r20 = .bool t18 ∧ (((!t18) = true → R (.returned (.bool false)) w19) ∧ ((!t18) = false → (∃ (m21 : Nat), m21 < k4 ∧ I3 m21 (IntKind.wrap .i64 (n8 + 1)) w19)))) (fun c w => R (.panicked c) w))) w6) ∧ ((decide ((n8 : Int) < ((l1 : Nat) : Int))) = false → R (.returned (.bool true)) w6))))
def scr89 : Scr := (.run [0] (.close (.run [0, 1, 2, 3, 4] (.close (.cond (.run [0] (.close .nil)) (.run [0] (.close (.loop [(5, some (.int .i64)), (4, none), (11, none), (12, none), (13, none), (14, none), (15, none), (16, none), (17, none), (18, none), (19, none), (20, none), (21, none), (22, none), (23, none), (24, none), (25, none), (26, none)] (.run [0, 1, 2, 3] (.close (.cond (.run [0, 1, 2, 3, 4, 5, 6, 7, 8, 9] (.close (.cond (.run [0] (.close .nil)) (.run [0, 1, 2] (.close .nil))))) (.run [0] (.close .nil)))))))))))))
theorem vc89 {a1 : Option Addr} {l1 : Nat} {c1 : Nat} {a2 : Option Addr} {l2 : Nat} {c2 : Nat} {R : Ending → World → Prop} {w : World} (h : V89 a1 l1 c1 a2 l2 c2 R w) : Cl Try.prog 89 [.slice a1 l1 c1, .slice a2 l2 c2] w R :=
  cl_of scr89 Try.func89 (by kernel_rfl) [.slice a1 l1 c1, .slice a2 l2 c2] (V89 a1 l1 c1 a2 l2 c2 R) (by kernel_rfl) h
/-- laws.markSpanS -/
def V90 (a1 : Option Addr) (l1 : Nat) (c1 : Nat) (n2 : Int) (R : Ending → World → Prop) : World → Prop := fun w =>
  ∃ (I3 : Nat → Int → Int → World → Prop), (∃ (k5 : Nat), I3 k5 n2 0 w) ∧ ∀ (k4 : Nat) (d7 : Nat → Value) (n8 : Int) (n9 : Int) (w6 : World), I3 k4 n8 n9 w6 → (((decide ((n9 : Int) < ((l1 : Nat) : Int))) = true → ∃ (b10 : Nat) (o11 : Nat), ((a1 : Option Addr) = some ⟨b10, o11, none⟩ ∧ 0 ≤ (n9 : Int) ∧ (n9 : Int) < ((l1 : Nat) : Int)) ∧ stW b10 (o11 + (Int.toNat n9) * 2) [.int .i64 n8] (fun (w12 : World) => ∃ (b13 : Nat) (o14 : Nat), ((a1 : Option Addr) = some ⟨b13, o14, none⟩ ∧ 0 ≤ (n9 : Int) ∧ (n9 : Int) < ((l1 : Nat) : Int)) ∧ stW b13 (o14 + (Int.toNat n9) * 2 + 1) [.int .i64 (IntKind.wrap .i64 (n8 + 1))] (fun (w15 : World) => (∃ (m16 : Nat), m16 < k4 ∧ I3 m16 (IntKind.wrap .i64 ((IntKind.wrap .i64 (n8 + 1)) + 1)) (IntKind.wrap .i64 (n9 + 1)) w15)) w12) w6) ∧ ((decide ((n9 : Int) < ((l1 : Nat) : Int))) = false → R (.returned (.int .i64 n8)) w6))
def scr90 : Scr := (.run [0] (.close (.run [0] (.close (.loop [(1, some (.int .i64)), (5, some (.int .i64)), (6, none), (7, none), (8, none), (9, none), (10, none), (11, none), (12, none), (13, none), (14, none), (15, none), (16, none), (17, none), (18, none), (19, none), (20, none), (21, none), (22, none), (23, none), (24, none), (25, none)] (.run [0, 1, 2, 3] (.close (.cond (.run [0, 1, 2, 3, 4, 5] (.close (.run [0, 1, 2] (.close (.run [0, 1, 2, 3, 4, 5] (.close (.run [0, 1, 2] (.close (.run [0, 1, 2] (.close .nil)))))))))) (.run [0, 1] (.close .nil))))))))))
theorem vc90 {a1 : Option Addr} {l1 : Nat} {c1 : Nat} {n2 : Int} {R : Ending → World → Prop} {w : World} (h : V90 a1 l1 c1 n2 R w) : Cl Try.prog 90 [.slice a1 l1 c1, .int .i64 n2] w R :=
  cl_of scr90 Try.func90 (by kernel_rfl) [.slice a1 l1 c1, .int .i64 n2] (V90 a1 l1 c1 n2 R) (by kernel_rfl) h
/-- laws.heldSpanS -/
def V91 (a1 : Option Addr) (l1 : Nat) (c1 : Nat) (n2 : Int) (R : Ending → World → Prop) : World → Prop := fun w =>
  ∃ (I3 : Nat → Int → Int → World → Prop), (∃ (k5 : Nat), I3 k5 n2 0 w) ∧ ∀ (k4 : Nat) (d7 : Nat → Value) (n8 : Int) (n9 : Int) (w6 : World), I3 k4 n8 n9 w6 → (((decide ((n9 : Int) < ((l1 : Nat) : Int))) = true → ∃ (b10 : Nat) (o11 : Nat), ((a1 : Option Addr) = some ⟨b10, o11, none⟩ ∧ 0 ≤ (n9 : Int) ∧ (n9 : Int) < ((l1 : Nat) : Int)) ∧ ∃ (n12 : Int), cellH w6.heap b10 (o11 + (Int.toNat n9) * 2) = some (.int .i64 n12) ∧ ((((n12 : Int) != n8) = true → R (.returned (.int .i64 (-1))) w6) ∧ (((n12 : Int) != n8) = false → ∃ (b13 : Nat) (o14 : Nat), ((a1 : Option Addr) = some ⟨b13, o14, none⟩ ∧ 0 ≤ (n9 : Int) ∧ (n9 : Int) < ((l1 : Nat) : Int)) ∧ ∃ (n15 : Int), cellH w6.heap b13 (o14 + (Int.toNat n9) * 2 + 1) = some (.int .i64 n15) ∧ ((((n15 : Int) != (IntKind.wrap .i64 (n8 + 1))) = true → R (.returned (.int .i64 (-1))) w6) ∧ (((n15 : Int) != (IntKind.wrap .i64 (n8 + 1))) = false → (∃ (m16 : Nat), m16 < k4 ∧ I3 m16 (IntKind.wrap .i64 ((IntKind.wrap .i64 (n8 + 1)) + 1)) (IntKind.wrap .i64 (n9 + 1)) w6)))))) ∧ ((decide ((n9 : Int) < ((l1 : Nat) : Int))) = false → R (.returned (.int .i64 n8)) w6))
def scr91 : Scr := (.run [0] (.close (.run [0] (.close (.loop [(1, some (.int .i64)), (5, some (.int .i64)), (4, none), (6, none), (7, none), (8, none), (9, none), (10, none), (11, none), (12, none), (13, none), (14, none), (15, none), (16, none), (17, none), (18, none), (19, none), (20, none), (21, none), (22, none), (23, none), (24, none), (25, none), (26, none), (27, none), (28, none), (29, none)] (.run [0, 1, 2, 3] (.close (.cond (.run [0, 1, 2, 3, 4, 5, 6] (.close (.cond (.run [0] (.close .nil)) (.run [0, 1, 2] (.close (.run [0, 1, 2, 3, 4, 5, 6] (.close (.cond (.run [0] (.close .nil)) (.run [0, 1, 2] (.close (.run [0, 1, 2] (.close .nil)))))))))))) (.run [0, 1] (.close .nil))))))))))
theorem vc91 {a1 : Option Addr} {l1 : Nat} {c1 : Nat} {n2 : Int} {R : Ending → World → Prop} {w : World} (h : V91 a1 l1 c1 n2 R w) : Cl Try.prog 91 [.slice a1 l1 c1, .int .i64 n2] w R :=
  cl_of scr91 Try.func91 (by kernel_rfl) [.slice a1 l1 c1, .int .i64 n2] (V91 a1 l1 c1 n2 R) (by kernel_rfl) h
/-- laws.eqSpan -/
def V122 (n1 : Int) (n2 : Int) (n3 : Int) (n4 : Int) (R : Ending → World → Prop) : World → Prop := fun w =>
  newC [.int .i64 n1, .int .i64 n2] 31 (fun (b5 : Nat) (w6 : World) => newC [.int .i64 n3, .int .i64 n4] 31 (fun (b7 : Nat) (w8 : World) => ∃ (n9 : Int), cellH w8.heap b5 0 = some (.int .i64 n9) ∧ ∃ (n10 : Int), cellH w8.heap b7 0 = some (.int .i64 n10) ∧ ((((n9 : Int) != n10) = true → R (.returned (.bool false)) w8) ∧ (((n9 : Int) != n10) = false → ∃ (n11 : Int), cellH w8.heap b5 1 = some (.int .i64 n11) ∧ ∃ (n12 : Int), cellH w8.heap b7 1 = some (.int .i64 n12) ∧ ((((n11 : Int) != n12) = true → R (.returned (.bool false)) w8) ∧ (((n11 : Int) != n12) = false → R (.returned (.bool true)) w8))))) w6) w
def scr122 : Scr := (.run [0, 1, 2] (.close (.run [0, 1, 2, 3, 4] (.close (.cond (.run [0] (.close .nil)) (.run [0, 1, 2, 3, 4] (.close (.cond (.run [0] (.close .nil)) (.run [0] (.close .nil))))))))))
theorem vc122 {n1 : Int} {n2 : Int} {n3 : Int} {n4 : Int} {R : Ending → World → Prop} {w : World} (h : V122 n1 n2 n3 n4 R w) : Cl Try.prog 122 [.agg #[.int .i64 n1, .int .i64 n2], .agg #[.int .i64 n3, .int .i64 n4]] w R :=
  cl_of scr122 Try.func122 (by kernel_rfl) [.agg #[.int .i64 n1, .int .i64 n2], .agg #[.int .i64 n3, .int .i64 n4]] (V122 n1 n2 n3 n4 R) (by kernel_rfl) h
/-- laws.FnExactCount -/
def V7 (s1 : ByteArray) (s2 : ByteArray) (R : Ending → World → Prop) : World → Prop := fun w =>
  (((decide ((((ByteArray.size s1 : Nat) : Int) : Int) > 1048576)) = true → R (.returned (.bool true)) w) ∧ ((decide ((((ByteArray.size s1 : Nat) : Int) : Int) > 1048576)) = false → (((decide ((((ByteArray.size s2 : Nat) : Int) : Int) > 1048576)) = true → R (.returned (.bool true)) w) ∧ ((decide ((((ByteArray.size s2 : Nat) : Int) : Int) > 1048576)) = false → Cl Try.prog 39 ([.string s1, .string s2]) w (retG (fun (r5 : Value) (w4 : World) => ∃ (n3 : Int), r5 = .int .i64 n3 ∧ Cl Try.prog 24 ([.string s1, .string s2]) w4 (retG (fun (r8 : Value) (w7 : World) => ∃ (n6 : Int), r8 = .int .i64 n6 ∧ ((((n6 : Int) != n3) = true → R (.returned (.bool false)) w7) ∧ (((n6 : Int) != n3) = false → R (.returned (.bool true)) w7))) (fun c w => R (.panicked c) w))) (fun c w => R (.panicked c) w))))))
def scr7 : Scr := (.run [0] (.close (.run [0, 1, 2] (.close (.cond (.run [0] (.close .nil)) (.run [0, 1, 2] (.close (.cond (.run [0] (.close .nil)) (.run [0, 1, 2, 3] (.close (.run [0, 1, 2, 3] (.close (.run [0, 1, 2] (.close (.cond (.run [0] (.close .nil)) (.run [0] (.close .nil)))))))))))))))))
theorem vc7 {s1 : ByteArray} {s2 : ByteArray} {R : Ending → World → Prop} {w : World} (h : V7 s1 s2 R w) : Cl Try.prog 7 [.string s1, .string s2] w R :=
  cl_of scr7 Try.func7 (by kernel_rfl) [.string s1, .string s2] (V7 s1 s2 R) (by kernel_rfl) h
/-- laws.FnExactWhole -/
def V8 (s1 : ByteArray) (s2 : ByteArray) (R : Ending → World → Prop) : World → Prop := fun w =>
  (((decide ((((ByteArray.size s1 : Nat) : Int) : Int) > 1048576)) = true → R (.returned (.bool true)) w) ∧ ((decide ((((ByteArray.size s1 : Nat) : Int) : Int) > 1048576)) = false → (((decide ((((ByteArray.size s2 : Nat) : Int) : Int) > 1048576)) = true → R (.returned (.bool true)) w) ∧ ((decide ((((ByteArray.size s2 : Nat) : Int) : Int) > 1048576)) = false → Cl Try.prog 40 ([.string s1, .string s2]) w (retG (fun (r8 : Value) (w7 : World) => ∃ (t3 : Bool), ∃ (n4 : Int), ∃ (n5 : Int), ∃ (a6 : Option Addr), ∃ (l6 : Nat), ∃ (c6 : Nat), r8 = .agg #[.bool t3, .int .i64 n4, .int .i64 n5, .slice a6 l6 c6] ∧ newC [.bool false, .int .i64 0, .int .i64 0, .slice none 0 0] 29 (fun (b9 : Nat) (w10 : World) => stW b9 0 [.bool t3, .int .i64 n4, .int .i64 n5, .slice a6 l6 c6] (fun (w11 : World) => Cl Try.prog 35 ([.string s1, .string s2]) w11 (retG (fun (r17 : Value) (w16 : World) => ∃ (t12 : Bool), ∃ (n13 : Int), ∃ (n14 : Int), ∃ (a15 : Option Addr), ∃ (l15 : Nat), ∃ (c15 : Nat), r17 = .agg #[.bool t12, .int .i64 n13, .int .i64 n14, .slice a15 l15 c15] ∧ newC [.bool false, .int .i64 0, .int .i64 0, .slice none 0 0] 29 (fun (b18 : Nat) (w19 : World) => stW b18 0 [.bool t12, .int .i64 n13, .int .i64 n14, .slice a15 l15 c15] (fun (w20 : World) => ∃ (t21 : Bool), cellH w20.heap b18 0 = some (.bool t21) ∧ ∃ (n22 : Int), cellH w20.heap b18 1 = some (.int .i64 n22) ∧ ∃ (n23 : Int), cellH w20.heap b18 2 = some (.int .i64 n23) ∧ ∃ (a24 : Option Addr), ∃ (l24 : Nat), ∃ (c24 : Nat), cellH w20.heap b18 3 = some (.slice a24 l24 c24) ∧ ∃ (t25 : Bool), cellH w20.heap b9 0 = some (.bool t25) ∧ ∃ (n26 : Int), cellH w20.heap b9 1 = some (.int .i64 n26) ∧ ∃ (n27 : Int), cellH w20.heap b9 2 = some (.int .i64 n27) ∧ ∃ (a28 : Option Addr), ∃ (l28 : Nat), ∃ (c28 : Nat), cellH w20.heap b9 3 = some (.slice a28 l28 c28) ∧ Cl Try.prog 41 ([.agg #[.bool t21, .int .i64 n22, .int .i64 n23, .slice a24 l24 c24], .agg #[.bool t25, .int .i64 n26, .int .i64 n27, .slice a28 l28 c28]]) w20 (retG (fun (r31 : Value) (w30 : World) => ∃ (t29 : Bool), r31 = .bool t29 ∧ (((!t29) = true → R (.returned (.bool false)) w30) ∧ ((!t29) = false → ∃ (t32 : Bool), cellH w30.heap b18 0 = some (.bool t32) ∧ ∃ (n33 : Int), cellH w30.heap b18 1 = some (.int .i64 n33) ∧ ∃ (n34 : Int), cellH w30.heap b18 2 = some (.int .i64 n34) ∧ ∃ (a35 : Option Addr), ∃ (l35 : Nat), ∃ (c35 : Nat), cellH w30.heap b18 3 = some (.slice a35 l35 c35) ∧ Cl Try.prog 42 ([.agg #[.bool t32, .int .i64 n33, .int .i64 n34, .slice a35 l35 c35], .int .i64 1]) w30 (retG (fun (r38 : Value) (w37 : World) => ∃ (n36 : Int), r38 = .int .i64 n36 ∧ ∃ (t39 : Bool), cellH w37.heap b18 0 = some (.bool t39) ∧ ∃ (n40 : Int), cellH w37.heap b18 1 = some (.int .i64 n40) ∧ ∃ (n41 : Int), cellH w37.heap b18 2 = some (.int .i64 n41) ∧ ∃ (a42 : Option Addr), ∃ (l42 : Nat), ∃ (c42 : Nat), cellH w37.heap b18 3 = some (.slice a42 l42 c42) ∧ Cl Try.prog 43 ([.agg #[.bool t39, .int .i64 n40, .int .i64 n41, .slice a42 l42 c42], .int .i64 1]) w37 (retG (fun (r45 : Value) (w44 : World) => ∃ (n43 : Int), r45 = .int .i64 n43 ∧ (((decide ((n43 : Int) < 0)) = true → R (.returned (.bool false)) w44) ∧ ((decide ((n43 : Int) < 0)) = false → ((((n43 : Int) != n36) = true → R (.returned (.bool false)) w44) ∧ (((n43 : Int) != n36) = false → Cl Try.prog 35 ([.string s1, .string s2]) w44 (retG (fun (r51 : Value) (w50 : World) => ∃ (t46 : Bool), ∃ (n47 : Int), ∃ (n48 : Int), ∃ (a49 : Option Addr), ∃ (l49 : Nat), ∃ (c49 : Nat), r51 = .agg #[.bool t46, .int .i64 n47, .int .i64 n48, .slice a49 l49 c49] ∧ newC [.bool false, .int .i64 0, .int .i64 0, .slice none 0 0] 29 (fun (b52 : Nat) (w53 : World) => stW b52 0 [.bool t46, .int .i64 n47, .int .i64 n48, .slice a49 l49 c49] (fun (w54 : World) => ∃ (t55 : Bool), cellH w54.heap b52 0 = some (.bool t55) ∧ ∃ (n56 : Int), cellH w54.heap b52 1 = some (.int .i64 n56) ∧ ∃ (n57 : Int), cellH w54.heap b52 2 = some (.int .i64 n57) ∧ ∃ (a58 : Option Addr), ∃ (l58 : Nat), ∃ (c58 : Nat), cellH w54.heap b52 3 = some (.slice a58 l58 c58) ∧ ∃ (t59 : Bool), cellH w54.heap b9 0 = some (.bool t59) ∧ ∃ (n60 : Int), cellH w54.heap b9 1 = some (.int .i64 n60) ∧ ∃ (n61 : Int), cellH w54.heap b9 2 = some (.int .i64 n61) ∧ ∃ (a62 : Option Addr), ∃ (l62 : Nat), ∃ (c62 : Nat), cellH w54.heap b9 3 = some (.slice a62 l62 c62) ∧ Cl Try.prog 41 ([.agg #[.bool t55, .int .i64 n56, .int .i64 n57, .slice a58 l58 c58], .agg #[.bool t59, .int .i64 n60, .int .i64 n61, .slice a62 l62 c62]]) w54 (retG (fun (r65 : Value) (w64 : World) => ∃ (t63 : Bool), r65 = .bool t63 ∧ (((!t63) = true → R (.returned (.bool false)) w64) ∧ ((!t63) = false → ∃ (t66 : Bool), cellH w64.heap b18 0 = some (.bool t66) ∧ ∃ (n67 : Int), cellH w64.heap b18 1 = some (.int .i64 n67) ∧ ∃ (n68 : Int), cellH w64.heap b18 2 = some (.int .i64 n68) ∧ ∃ (a69 : Option Addr), ∃ (l69 : Nat), ∃ (c69 : Nat), cellH w64.heap b18 3 = some (.slice a69 l69 c69) ∧ Cl Try.prog 43 ([.agg #[.bool t66, .int .i64 n67, .int .i64 n68, .slice a69 l69 c69], .int .i64 1]) w64 (retG (fun (r72 : Value) (w71 : World) => ∃ (n70 : Int), r72 = .int .i64 n70 ∧ (((decide ((n70 : Int) < 0)) = true → R (.returned (.bool false)) w71) ∧ ((decide ((n70 : Int) < 0)) = false → ((((n70 : Int) != n36) = true → R (.returned (.bool false)) w71) ∧ (((n70 : Int) != n36) = false → R (.returned (.bool true)) w71))))) (fun c w => R (.panicked c) w))))) (fun c w => R (.panicked c) w))) w53) w50) (fun c w => R (.panicked c) w))))))) (fun c w => R (.panicked c) w))) (fun c w => R (.panicked c) w))))) (fun c w => R (.panicked c) w))) w19) w16) (fun c w => R (.panicked c) w))) w10) w7) (fun c w => R (.panicked c) w))))))
def scr8 : Scr := (.run [0] (.close (.run [0, 1, 2] (.close (.cond (.run [0] (.close .nil)) (.run [0, 1, 2] (.close (.cond (.run [0] (.close .nil)) (.run [0, 1, 2, 3, 4] (.close (.run [0, 1, 2, 3, 4] (.close (.run [0, 1, 2, 3] (.close (.cond (.run [0] (.close .nil)) (.run [0] (.close (.run [0, 1, 2, 3] (.close (.run [0] (.close (.run [0, 1, 2, 3] (.close (.run [0, 1] (.close (.cond (.run [0] (.close .nil)) (.run [0, 1, 2] (.close (.cond (.run [0] (.close .nil)) (.run [0, 1, 2, 3, 4] (.close (.run [0, 1, 2, 3] (.close (.cond (.run [0] (.close .nil)) (.run [0] (.close (.run [0, 1, 2, 3] (.close (.run [0, 1] (.close (.cond (.run [0] (.close .nil)) (.run [0, 1, 2] (.close (.cond (.run [0] (.close .nil)) (.run [0] (.close .nil))))))))))))))))))))))))))))))))))))))))))))))
theorem vc8 {s1 : ByteArray} {s2 : ByteArray} {R : Ending → World → Prop} {w : World} (h : V8 s1 s2 R w) : Cl Try.prog 8 [.string s1, .string s2] w R :=
  cl_of scr8 Try.func8 (by kernel_rfl) [.string s1, .string s2] (V8 s1 s2 R) (by kernel_rfl) h
/-- laws.FnExactFind -/
def V9 (s1 : ByteArray) (s2 : ByteArray) (n3 : Int) (R : Ending → World → Prop) : World → Prop := fun w =>
  (((decide ((((ByteArray.size s1 : Nat) : Int) : Int) > 1048576)) = true → R (.returned (.bool true)) w) ∧ ((decide ((((ByteArray.size s1 : Nat) : Int) : Int) > 1048576)) = false → (((decide ((((ByteArray.size s2 : Nat) : Int) : Int) > 1048576)) = true → R (.returned (.bool true)) w) ∧ ((decide ((((ByteArray.size s2 : Nat) : Int) : Int) > 1048576)) = false → Cl Try.prog 44 ([.string s1, .string s2, .int .i64 n3]) w (retG (fun (r9 : Value) (w8 : World) => ∃ (t4 : Bool), ∃ (n5 : Int), ∃ (n6 : Int), ∃ (a7 : Option Addr), ∃ (l7 : Nat), ∃ (c7 : Nat), r9 = .agg #[.bool t4, .int .i64 n5, .int .i64 n6, .slice a7 l7 c7] ∧ newC [.bool false, .int .i64 0, .int .i64 0, .slice none 0 0] 29 (fun (b10 : Nat) (w11 : World) => stW b10 0 [.bool t4, .int .i64 n5, .int .i64 n6, .slice a7 l7 c7] (fun (w12 : World) => Cl Try.prog 45 ([.string s1, .string s2, .int .i64 n3]) w12 (retG (fun (r18 : Value) (w17 : World) => ∃ (t13 : Bool), ∃ (n14 : Int), ∃ (n15 : Int), ∃ (a16 : Option Addr), ∃ (l16 : Nat), ∃ (c16 : Nat), r18 = .agg #[.bool t13, .int .i64 n14, .int .i64 n15, .slice a16 l16 c16] ∧ newC [.bool false, .int .i64 0, .int .i64 0, .slice none 0 0] 29 (fun (b19 : Nat) (w20 : World) => stW b19 0 [.bool t13, .int .i64 n14, .int .i64 n15, .slice a16 l16 c16] (fun (w21 : World) => ∃ (t22 : Bool), cellH w21.heap b19 0 = some (.bool t22) ∧ ∃ (n23 : Int), cellH w21.heap b19 1 = some (.int .i64 n23) ∧ ∃ (n24 : Int), cellH w21.heap b19 2 = some (.int .i64 n24) ∧ ∃ (a25 : Option Addr), ∃ (l25 : Nat), ∃ (c25 : Nat), cellH w21.heap b19 3 = some (.slice a25 l25 c25) ∧ ∃ (t26 : Bool), cellH w21.heap b10 0 = some (.bool t26) ∧ ∃ (n27 : Int), cellH w21.heap b10 1 = some (.int .i64 n27) ∧ ∃ (n28 : Int), cellH w21.heap b10 2 = some (.int .i64 n28) ∧ ∃ (a29 : Option Addr), ∃ (l29 : Nat), ∃ (c29 : Nat), cellH w21.heap b10 3 = some (.slice a29 l29 c29) ∧ Cl Try.prog 41 ([.agg #[.bool t22, .int .i64 n23, .int .i64 n24, .slice a25 l25 c25], .agg #[.bool t26, .int .i64 n27, .int .i64 n28, .slice a29 l29 c29]]) w21 (retG (fun (r32 : Value) (w31 : World) => ∃ (t30 : Bool), r32 = .bool t30 ∧ (((!t30) = true → R (.returned (.bool false)) w31) ∧ ((!t30) = false → ∃ (t33 : Bool), cellH w31.heap b19 0 = some (.bool t33) ∧ ∃ (n34 : Int), cellH w31.heap b19 1 = some (.int .i64 n34) ∧ ∃ (n35 : Int), cellH w31.heap b19 2 = some (.int .i64 n35) ∧ ∃ (a36 : Option Addr), ∃ (l36 : Nat), ∃ (c36 : Nat), cellH w31.heap b19 3 = some (.slice a36 l36 c36) ∧ Cl Try.prog 42 ([.agg #[.bool t33, .int .i64 n34, .int .i64 n35, .slice a36 l36 c36], .int .i64 1]) w31 (retG (fun (r39 : Value) (w38 : World) => ∃ (n37 : Int), r39 = .int .i64 n37 ∧ ∃ (t40 : Bool), cellH w38.heap b19 0 = some (.bool t40) ∧ ∃ (n41 : Int), cellH w38.heap b19 1 = some (.int .i64 n41) ∧ ∃ (n42 : Int), cellH w38.heap b19 2 = some (.int .i64 n42) ∧ ∃ (a43 : Option Addr), ∃ (l43 : Nat), ∃ (c43 : Nat), cellH w38.heap b19 3 = some (.slice a43 l43 c43) ∧ Cl Try.prog 43 ([.agg #[.bool t40, .int .i64 n41, .int .i64 n42, .slice a43 l43 c43], .int .i64 1]) w38 (retG (fun (r46 : Value) (w45 : World) => ∃ (n44 : Int), r46 = .int .i64 n44 ∧ (((decide ((n44 : Int) < 0)) = true → R (.returned (.bool false)) w45) ∧ ((decide ((n44 : Int) < 0)) = false → ((((n44 : Int) != n37) = true → R (.returned (.bool false)) w45) ∧ (((n44 : Int) != n37) = false → Cl Try.prog 45 ([.string s1, .string s2, .int .i64 n3]) w45 (retG (fun (r52 : Value) (w51 : World) => ∃ (t47 : Bool), ∃ (n48 : Int), ∃ (n49 : Int), ∃ (a50 : Option Addr), ∃ (l50 : Nat), ∃ (c50 : Nat), r52 = .agg #[.bool t47, .int .i64 n48, .int .i64 n49, .slice a50 l50 c50] ∧ newC [.bool false, .int .i64 0, .int .i64 0, .slice none 0 0] 29 (fun (b53 : Nat) (w54 : World) => stW b53 0 [.bool t47, .int .i64 n48, .int .i64 n49, .slice a50 l50 c50] (fun (w55 : World) => ∃ (t56 : Bool), cellH w55.heap b53 0 = some (.bool t56) ∧ ∃ (n57 : Int), cellH w55.heap b53 1 = some (.int .i64 n57) ∧ ∃ (n58 : Int), cellH w55.heap b53 2 = some (.int .i64 n58) ∧ ∃ (a59 : Option Addr), ∃ (l59 : Nat), ∃ (c59 : Nat), cellH w55.heap b53 3 = some (.slice a59 l59 c59) ∧ ∃ (t60 : Bool), cellH w55.heap b10 0 = some (.bool t60) ∧ ∃ (n61 : Int), cellH w55.heap b10 1 = some (.int .i64 n61) ∧ ∃ (n62 : Int), cellH w55.heap b10 2 = some (.int .i64 n62) ∧ ∃ (a63 : Option Addr), ∃ (l63 : Nat), ∃ (c63 : Nat), cellH w55.heap b10 3 = some (.slice a63 l63 c63) ∧ Cl Try.prog 41 ([.agg #[.bool t56, .int .i64 n57, .int .i64 n58, .slice a59 l59 c59], .agg #[.bool t60, .int .i64 n61, .int .i64 n62, .slice a63 l63 c63]]) w55 (retG (fun (r66 : Value) (w65 : World) => ∃ (t64 : Bool), r66 = .bool t64 ∧ (((!t64) = true → R (.returned (.bool false)) w65) ∧ ((!t64) = false → ∃ (t67 : Bool), cellH w65.heap b19 0 = some (.bool t67) ∧ ∃ (n68 : Int), cellH w65.heap b19 1 = some (.int .i64 n68) ∧ ∃ (n69 : Int), cellH w65.heap b19 2 = some (.int .i64 n69) ∧ ∃ (a70 : Option Addr), ∃ (l70 : Nat), ∃ (c70 : Nat), cellH w65.heap b19 3 = some (.slice a70 l70 c70) ∧ Cl Try.prog 43 ([.agg #[.bool t67, .int .i64 n68, .int .i64 n69, .slice a70 l70 c70], .int .i64 1]) w65 (retG (fun (r73 : Value) (w72 : World) => ∃ (n71 : Int), r73 = .int .i64 n71 ∧ (((decide ((n71 : Int) < 0)) = true → R (.returned (.bool false)) w72) ∧ ((decide ((n71 : Int) < 0)) = false → ((((n71 : Int) != n37) = true → R (.returned (.bool false)) w72) ∧ (((n71 : Int) != n37) = false → R (.returned (.bool true)) w72))))) (fun c w => R (.panicked c) w))))) (fun c w => R (.panicked c) w))) w54) w51) (fun c w => R (.panicked c) w))))))) (fun c w => R (.panicked c) w))) (fun c w => R (.panicked c) w))))) (fun c w => R (.panicked c) w))) w20) w17) (fun c w => R (.panicked c) w))) w11) w8) (fun c w => R (.panicked c) w))))))
def scr9 : Scr := (.run [0] (.close (.run [0, 1, 2] (.close (.cond (.run [0] (.close .nil)) (.run [0, 1, 2] (.close (.cond (.run [0] (.close .nil)) (.run [0, 1, 2, 3, 4, 5] (.close (.run [0, 1, 2, 3, 4, 5] (.close (.run [0, 1, 2, 3] (.close (.cond (.run [0] (.close .nil)) (.run [0] (.close (.run [0, 1, 2, 3] (.close (.run [0] (.close (.run [0, 1, 2, 3] (.close (.run [0, 1] (.close (.cond (.run [0] (.close .nil)) (.run [0, 1, 2] (.close (.cond (.run [0] (.close .nil)) (.run [0, 1, 2, 3, 4, 5] (.close (.run [0, 1, 2, 3] (.close (.cond (.run [0] (.close .nil)) (.run [0] (.close (.run [0, 1, 2, 3] (.close (.run [0, 1] (.close (.cond (.run [0] (.close .nil)) (.run [0, 1, 2] (.close (.cond (.run [0] (.close .nil)) (.run [0] (.close .nil))))))))))))))))))))))))))))))))))))))))))))))
theorem vc9 {s1 : ByteArray} {s2 : ByteArray} {n3 : Int} {R : Ending → World → Prop} {w : World} (h : V9 s1 s2 n3 R w) : Cl Try.prog 9 [.string s1, .string s2, .int .i64 n3] w R :=
  cl_of scr9 Try.func9 (by kernel_rfl) [.string s1, .string s2, .int .i64 n3] (V9 s1 s2 n3 R) (by kernel_rfl) h
/-- laws.FnExactWays -/
def V10 (s1 : ByteArray) (s2 : ByteArray) (n3 : Int) (R : Ending → World → Prop) : World → Prop := fun w =>
  (((decide ((((ByteArray.size s1 : Nat) : Int) : Int) > 1048576)) = true → R (.returned (.bool true)) w) ∧ ((decide ((((ByteArray.size s1 : Nat) : Int) : Int) > 1048576)) = false → (((decide ((((ByteArray.size s2 : Nat) : Int) : Int) > 1048576)) = true → R (.returned (.bool true)) w) ∧ ((decide ((((ByteArray.size s2 : Nat) : Int) : Int) > 1048576)) = false → Cl Try.prog 46 ([.string s1, .string s2, .int .i64 n3]) w (retG (fun (r6 : Value) (w5 : World) => ∃ (a4 : Option Addr), ∃ (l4 : Nat), ∃ (c4 : Nat), r6 = .slice a4 l4 c4 ∧ Cl Try.prog 30 ([.string s1, .string s2, .int .i64 n3]) w5 (retG (fun (r9 : Value) (w8 : World) => ∃ (a7 : Option Addr), ∃ (l7 : Nat), ∃ (c7 : Nat), r9 = .slice a7 l7 c7 ∧ Cl Try.prog 47 ([.slice a7 l7 c7, .slice a4 l4 c4]) w8 (retG (fun (r12 : Value) (w11 : World) => ∃ (t10 : Bool), r12 = .bool t10 ∧ (((!t10) = true → R (.returned (.bool false)) w11) ∧ ((!t10) = false → Cl Try.prog 48 ([.slice a7 l7 c7, .int .i64 1]) w11 (retG (fun (r15 : Value) (w14 : World) => ∃ (n13 : Int), r15 = .int .i64 n13 ∧ Cl Try.prog 49 ([.slice a7 l7 c7, .int .i64 1]) w14 (retG (fun (r18 : Value) (w17 : World) => ∃ (n16 : Int), r18 = .int .i64 n16 ∧ (((decide ((n16 : Int) < 0)) = true → R (.returned (.bool false)) w17) ∧ ((decide ((n16 : Int) < 0)) = false → ((((n16 : Int) != n13) = true → R (.returned (.bool false)) w17) ∧ (((n16 : Int) != n13) = false → Cl Try.prog 30 ([.string s1, .string s2, .int .i64 n3]) w17 (retG (fun (r21 : Value) (w20 : World) => ∃ (a19 : Option Addr), ∃ (l19 : Nat), ∃ (c19 : Nat), r21 = .slice a19 l19 c19 ∧ Cl Try.prog 47 ([.slice a19 l19 c19, .slice a4 l4 c4]) w20 (retG (fun (r24 : Value) (w23 : World) => ∃ (t22 : Bool), r24 = .bool t22 ∧ (((!t22) = true → R (.returned (.bool false)) w23) ∧ ((!t22) = false → Cl Try.prog 49 ([.slice a7 l7 c7, .int .i64 1]) w23 (retG (fun (r27 : Value) (w26 : World) => ∃ (n25 : Int), r27 = .int .i64 n25 ∧ (((decide ((n25 : Int) < 0)) = true → R (.returned (.bool false)) w26) ∧ ((decide ((n25 : Int) < 0)) = false → ((((n25 : Int) != n13) = true → R (.returned (.bool false)) w26) ∧ (((n25 : Int) != n13) = false → R (.returned (.bool true)) w26))))) (fun c w => R (.panicked c) w))))) (fun c w => R (.panicked c) w))) (fun c w => R (.panicked c) w))))))) (fun c w => R (.panicked c) w))) (fun c w => R (.panicked c) w))))) (fun c w => R (.panicked c) w))) (fun c w => R (.panicked c) w))) (fun c w => R (.panicked c) w))))))
def scr10 : Scr := (.run [0] (.close (.run [0, 1, 2] (.close (.cond (.run [0] (.close .nil)) (.run [0, 1, 2] (.close (.cond (.run [0] (.close .nil)) (.run [0, 1, 2, 3, 4] (.close (.run [0, 1, 2, 3, 4] (.close (.run [0, 1, 2, 3] (.close (.cond (.run [0] (.close .nil)) (.run [0] (.close (.run [0, 1, 2, 3] (.close (.run [0] (.close (.run [0, 1, 2, 3] (.close (.run [0, 1] (.close (.cond (.run [0] (.close .nil)) (.run [0, 1, 2] (.close (.cond (.run [0] (.close .nil)) (.run [0, 1, 2, 3, 4] (.close (.run [0, 1, 2, 3] (.close (.cond (.run [0] (.close .nil)) (.run [0] (.close (.run [0, 1, 2, 3] (.close (.run [0, 1] (.close (.cond (.run [0] (.close .nil)) (.run [0, 1, 2] (.close (.cond (.run [0] (.close .nil)) (.run [0] (.close .nil))))))))))))))))))))))))))))))))))))))))))))))
theorem vc10 {s1 : ByteArray} {s2 : ByteArray} {n3 : Int} {R : Ending → World → Prop} {w : World} (h : V10 s1 s2 n3 R w) : Cl Try.prog 10 [.string s1, .string s2, .int .i64 n3] w R :=
  cl_of scr10 Try.func10 (by kernel_rfl) [.string s1, .string s2, .int .i64 n3] (V10 s1 s2 n3 R) (by kernel_rfl) h
/-- laws.FnExactAll -/
def V14 (s1 : ByteArray) (s2 : ByteArray) (R : Ending → World → Prop) : World → Prop := fun w =>
  (((decide ((((ByteArray.size s1 : Nat) : Int) : Int) > 1048576)) = true → R (.returned (.bool true)) w) ∧ ((decide ((((ByteArray.size s1 : Nat) : Int) : Int) > 1048576)) = false → (((decide ((((ByteArray.size s2 : Nat) : Int) : Int) > 1048576)) = true → R (.returned (.bool true)) w) ∧ ((decide ((((ByteArray.size s2 : Nat) : Int) : Int) > 1048576)) = false → Cl Try.prog 21 ([.string s1, .string s2]) w (retG (fun (r5 : Value) (w4 : World) => ∃ (a3 : Option Addr), ∃ (l3 : Nat), ∃ (c3 : Nat), r5 = .slice a3 l3 c3 ∧ Cl Try.prog 22 ([.string s1, .string s2]) w4 (retG (fun (r8 : Value) (w7 : World) => ∃ (a6 : Option Addr), ∃ (l6 : Nat), ∃ (c6 : Nat), r8 = .slice a6 l6 c6 ∧ Cl Try.prog 47 ([.slice a6 l6 c6, .slice a3 l3 c3]) w7 (retG (fun (r11 : Value) (w10 : World) => ∃ (t9 : Bool), r11 = .bool t9 ∧ (((!t9) = true → R (.returned (.bool false)) w10) ∧ ((!t9) = false → Cl Try.prog 48 ([.slice a6 l6 c6, .int .i64 1]) w10 (retG (fun (r14 : Value) (w13 : World) => ∃ (n12 : Int), r14 = .int .i64 n12 ∧ Cl Try.prog 49 ([.slice a6 l6 c6, .int .i64 1]) w13 (retG (fun (r17 : Value) (w16 : World) => ∃ (n15 : Int), r17 = .int .i64 n15 ∧ (((decide ((n15 : Int) < 0)) = true → R (.returned (.bool false)) w16) ∧ ((decide ((n15 : Int) < 0)) = false → ((((n15 : Int) != n12) = true → R (.returned (.bool false)) w16) ∧ (((n15 : Int) != n12) = false → Cl Try.prog 22 ([.string s1, .string s2]) w16 (retG (fun (r20 : Value) (w19 : World) => ∃ (a18 : Option Addr), ∃ (l18 : Nat), ∃ (c18 : Nat), r20 = .slice a18 l18 c18 ∧ Cl Try.prog 47 ([.slice a18 l18 c18, .slice a3 l3 c3]) w19 (retG (fun (r23 : Value) (w22 : World) => ∃ (t21 : Bool), r23 = .bool t21 ∧ (((!t21) = true → R (.returned (.bool false)) w22) ∧ ((!t21) = false → Cl Try.prog 49 ([.slice a6 l6 c6, .int .i64 1]) w22 (retG (fun (r26 : Value) (w25 : World) => ∃ (n24 : Int), r26 = .int .i64 n24 ∧ (((decide ((n24 : Int) < 0)) = true → R (.returned (.bool false)) w25) ∧ ((decide ((n24 : Int) < 0)) = false → ((((n24 : Int) != n12) = true → R (.returned (.bool false)) w25) ∧ (((n24 : Int) != n12) = false → R (.returned (.bool true)) w25))))) (fun c w => R (.panicked c) w))))) (fun c w => R (.panicked c) w))) (fun c w => R (.panicked c) w))))))) (fun c w => R (.panicked c) w))) (fun c w => R (.panicked c) w))))) (fun c w => R (.panicked c) w))) (fun c w => R (.panicked c) w))) (fun c w => R (.panicked c) w))))))
def scr14 : Scr := (.run [0] (.close (.run [0, 1, 2] (.close (.cond (.run [0] (.close .nil)) (.run [0, 1, 2] (.close (.cond (.run [0] (.close .nil)) (.run [0, 1, 2, 3] (.close (.run [0, 1, 2, 3] (.close (.run [0, 1, 2, 3] (.close (.cond (.run [0] (.close .nil)) (.run [0] (.close (.run [0, 1, 2, 3] (.close (.run [0] (.close (.run [0, 1, 2, 3] (.close (.run [0, 1] (.close (.cond (.run [0] (.close .nil)) (.run [0, 1, 2] (.close (.cond (.run [0] (.close .nil)) (.run [0, 1, 2, 3] (.close (.run [0, 1, 2, 3] (.close (.cond (.run [0] (.close .nil)) (.run [0] (.close (.run [0, 1, 2, 3] (.close (.run [0, 1] (.close (.cond (.run [0] (.close .nil)) (.run [0, 1, 2] (.close (.cond (.run [0] (.close .nil)) (.run [0] (.close .nil))))))))))))))))))))))))))))))))))))))))))))))
theorem vc14 {s1 : ByteArray} {s2 : ByteArray} {R : Ending → World → Prop} {w : World} (h : V14 s1 s2 R w) : Cl Try.prog 14 [.string s1, .string s2] w R :=
  cl_of scr14 Try.func14 (by kernel_rfl) [.string s1, .string s2] (V14 s1 s2 R) (by kernel_rfl) h
end Go.Proofs.Ytngbiaeliphdjaa.V
/- Matches in memory; they are compared, marked, looked for. No statement of the seat is proved here. -/
namespace Go.Vc
open Go.RowKit
set_option linter.unusedVariables false
set_option linter.unusedSimpArgs false
abbrev G3' := Option Addr × Nat × Nat
abbrev ME := Mt × G3'
def mC (e : ME) : List Value := [.bool e.1.ok, .int .i64 (e.1.fr : Int), .int .i64 (e.1.to : Int), .slice e.2.1 e.2.2.1 e.2.2.2]
def msC (es : List ME) : List Value := es.flatMap mC
theorem msC_append (l m : List ME) : msC (l ++ m) = msC l ++ msC m := by simp [msC]
theorem msC_one (e : ME) : msC [e] = mC e := by simp [msC]
theorem msC_length (l : List ME) : (msC l).length = l.length * 4 := by
  induction l with
  | nil => rfl
  | cons b r ih => rw [show b :: r = [b] ++ r from rfl, msC_append, List.length_append, ih, msC_one]; simp [mC]; omega
theorem msC_at : ∀ (l : List ME) (i : Nat) (h : i < l.length) (o : Nat), o < 4 → (msC l)[i * 4 + o]? = (mC l[i])[o]?
  | b :: r, 0, h, o, ho => by
    rw [show msC (b :: r) = mC b ++ msC r from by simp [msC]]
    rw [List.getElem?_append_left (by simp [mC]; omega)]; simp
  | b :: r, i + 1, h, o, ho => by
    rw [show msC (b :: r) = mC b ++ msC r from by simp [msC]]
    have hl : (mC b).length = 4 := rfl
    rw [List.getElem?_append_right (by rw [hl]; omega), hl, show (i + 1) * 4 + o - 4 = i * 4 + o from by omega]
    simpa using msC_at r i (by simpa using h) o ho
/-- The groups of a match. -/
def MOk (w : World) (e : ME) : Prop := Vec w.heap 31 2 e.2.1 e.2.2.1 e.2.2.2 (rngC e.1.gs)
def mblk (e : ME) : List Nat := ob e.2.1
def mblks (a : Option Addr) (es : List ME) : List Nat := ob a ++ es.flatMap mblk
/-- Matches, in blocks of their own, no two of them one. -/
structure Ms (N : Nat) (w : World) (a : Option Addr) (l c : Nat) (es : List ME) : Prop where
  row : Vec w.heap 29 4 a l c (msC es)
  len : es.length = l
  all : ∀ e ∈ es, MOk w e
  nodup : (mblks a es).Nodup
  low : ∀ b ∈ mblks a es, N ≤ b
theorem Ms.nil (N : Nat) (w : World) : Ms N w none 0 0 [] := ⟨Vec.nil _ _ _, rfl, by simp, by simp [mblks, ob, blkOf], by simp [mblks, ob, blkOf]⟩
theorem MOk.keep {S : Nat → Prop} {w w' : World} {e : ME} (h : MOk w e) (E : Ext S w w') (hs : ∀ k ∈ mblk e, ¬ S k) : MOk w' e := Vec.keep h E fun b hb => hs b (mem_ob.2 hb)
theorem MOk.below {w w' : World} {e : ME} (h : MOk w e) (E : Below w.heap.size w w') : MOk w' e := h.keep (S := fun _ => False) (Ext.of_below E) fun _ _ h => h
theorem MOk.lt {w : World} {e : ME} (h : MOk w e) : ∀ b ∈ mblk e, b < w.heap.size := fun b hb => Vec.lt h b (mem_ob.1 hb)
theorem mem_mblks {a : Option Addr} {es : List ME} {e : ME} (he : e ∈ es) {k : Nat} (hk : k ∈ mblk e) : k ∈ mblks a es := List.mem_append_right _ (List.mem_flatMap.2 ⟨e, he, hk⟩)
section
variable {N : Nat} {w w' : World} {a : Option Addr} {l c : Nat} {es : List ME}
theorem Ms.lt (h : Ms N w a l c es) : ∀ b ∈ mblks a es, b < w.heap.size := by
  intro b hb
  rcases List.mem_append.1 hb with hb | hb
  · exact h.row.lt b (mem_ob.1 hb)
  · obtain ⟨e, he, hb⟩ := List.mem_flatMap.1 hb
    exact (h.all e he).lt b hb
theorem Ms.keep {S : Nat → Prop} (h : Ms N w a l c es) (E : Ext S w w') (hs : ∀ k ∈ mblks a es, ¬ S k) : Ms N w' a l c es :=
  ⟨h.row.keep E fun b hb => hs b (List.mem_append_left _ (mem_ob.2 hb)), h.len, fun e he => (h.all e he).keep E fun k hk => hs k (mem_mblks he hk), h.nodup, h.low⟩
theorem Ms.below (h : Ms N w a l c es) (E : Below w.heap.size w w') : Ms N w' a l c es := h.keep (S := fun _ => False) (Ext.of_below E) fun _ _ h => h
theorem Ms.mono (h : Ms N w a l c es) {M : Nat} (hm : M ≤ N) : Ms M w a l c es := ⟨h.row, h.len, h.all, h.nodup, fun b hb => Nat.le_trans hm (h.low b hb)⟩
theorem Ms.cells (h : Ms N w a l c es) {i : Nat} (hi : i < es.length) : ∃ b, a = some ⟨b, 0, none⟩ ∧ ∀ o, o < 4 → cellH w.heap b (0 + i * 4 + o) = (mC es[i])[o]? := by
  have hl := h.len
  obtain ⟨b, hb, hc⟩ := h.row.open (by omega)
  exact ⟨b, hb, fun o ho => by rw [Nat.zero_add, hc _ (by omega)]; exact msC_at es i hi o ho⟩
/-- One match of a row. -/
theorem Ms.mid {A B : List ME} {e : ME} (h : Ms N w a l c (A ++ e :: B)) : MOk w e ∧ A.length < l ∧ ∀ k ∈ mblk e, k ∉ ob a ∧ ∀ q ∈ A ++ B, k ∉ mblk q := by
  have hl := h.len
  rw [List.length_append, List.length_cons] at hl
  have hn := h.nodup
  unfold mblks at hn
  rw [List.flatMap_append, List.flatMap_cons] at hn
  obtain ⟨n1, n2, n3⟩ := List.nodup_append.1 hn
  obtain ⟨n4, n5, n6⟩ := List.nodup_append.1 n2
  obtain ⟨n7, n8, n9⟩ := List.nodup_append.1 n5
  refine ⟨h.all e (by simp), by omega, fun k hk => ⟨fun ha => n3 k ha k (by simp [hk]) rfl, fun q hq hkq => ?_⟩⟩
  rcases List.mem_append.1 hq with hq | hq
  · exact n6 k (List.mem_flatMap.2 ⟨q, hq, hkq⟩) k (by simp [hk]) rfl
  · exact n9 k hk k (List.mem_flatMap.2 ⟨q, hq, hkq⟩) rfl
theorem mblks_eq {A B : List ME} {e e' : ME} (hb : e'.2 = e.2) : mblks a (A ++ e' :: B) = mblks a (A ++ e :: B) := by
  unfold mblks
  rw [List.flatMap_append, List.flatMap_append, List.flatMap_cons, List.flatMap_cons, show mblk e' = mblk e from by unfold mblk; rw [hb]]
theorem Ms.upd {S : Nat → Prop} {A B : List ME} {e e' : ME} (h : Ms N w a l c (A ++ e :: B)) (hr : Vec w'.heap 29 4 a l c (msC (A ++ e' :: B))) (hok : MOk w' e') (hb : e'.2 = e.2) (E : Ext S w w') (hS : ∀ k, S k → k ∈ ob a ∨ k ∈ mblk e) : Ms N w' a l c (A ++ e' :: B) := by
  have hm := h.mid
  have hbl : mblks a (A ++ e' :: B) = mblks a (A ++ e :: B) := mblks_eq hb
  refine ⟨hr, by have := h.len; simpa using this, fun q hq => ?_, by rw [hbl]; exact h.nodup, by rw [hbl]; exact h.low⟩
  have other : ∀ q ∈ A ++ B, MOk w' q := fun q hq => by
    have hq' : q ∈ A ++ e :: B := by
      rcases List.mem_append.1 hq with h | h
      · exact List.mem_append_left _ h
      · exact List.mem_append_right _ (List.mem_cons_of_mem _ h)
    refine (h.all q hq').keep E fun k hk hs => ?_
    rcases hS k hs with h1 | h1
    · exact (List.nodup_append.1 h.nodup).2.2 k h1 k (List.mem_flatMap.2 ⟨q, hq', hk⟩) rfl
    · exact (hm.2.2 k h1).2 q hq hk
  rcases List.mem_append.1 hq with hq | hq
  · exact other q (List.mem_append_left _ hq)
  · rcases List.mem_cons.1 hq with rfl | hq
    · exact hok
    · exact other q (List.mem_append_right _ hq)
theorem msC_set {A B : List ME} {e e' : ME} {o : Nat} {v : Value} (ho : o < 4) (hc : mC e' = (mC e).set o v) : (msC (A ++ e :: B)).set (A.length * 4 + o) v = msC (A ++ e' :: B) := by
  rw [show A ++ e :: B = A ++ ([e] ++ B) from rfl, show A ++ e' :: B = A ++ ([e'] ++ B) from rfl, msC_append, msC_append, msC_append, msC_append, msC_one, msC_one, hc]
  rw [List.set_append_right _ _ (by rw [msC_length]; omega), msC_length, show A.length * 4 + o - A.length * 4 = o from by omega]
  rw [List.set_append_left _ _ (by show o < 4; exact ho)]
/-- A match's number is stored. -/
theorem Ms.st {b : Nat} {A B : List ME} {e e' : ME} (h : Ms N w (some ⟨b, 0, none⟩) l c (A ++ e :: B)) {o off : Nat} {v : Value} (ho : o < 4) (hoff : off = A.length * 4 + o) (hc : mC e' = (mC e).set o v) (hb : e'.2 = e.2) (hg : e'.1.gs = e.1.gs) {K : World → Prop} (hK : ∀ w1, Ms N w1 (some ⟨b, 0, none⟩) l c (A ++ e' :: B) → Ext (fun k => k = b) w w1 → K w1) : stW b off [v] K w := by
  subst hoff
  have hm := h.mid
  refine h.row.st (by omega) fun w1 s1 v1 e1 => hK w1 (h.upd (by rw [msC_set ho hc] at v1; exact v1) ?_ hb e1 fun k hk => .inl (by subst hk; simp [ob, blkOf])) e1
  have h1 : MOk w1 e := hm.1.keep e1 fun k hk hkb => (hm.2.2 k hk).1 (by subst hkb; simp [ob, blkOf])
  unfold MOk at *
  rw [hb, hg]; exact h1
/-- The groups of a match are changed. -/
theorem Ms.setG {A B : List ME} {e : ME} (h : Ms N w a l c (A ++ e :: B)) {s : List (Int × Int)} (hv : Vec w'.heap 31 2 e.2.1 e.2.2.1 e.2.2.2 (rngC s)) (E : Ext (fun x => blkOf e.2.1 = some x) w w') : Ms N w' a l c (A ++ ({ e.1 with gs := s }, e.2) :: B) := by
  have hm := h.mid
  refine h.upd ?_ hv rfl E fun k hk => .inr (mem_ob.2 hk)
  have := h.row.keep E fun k hk hk' => (hm.2.2 k (mem_ob.2 hk')).1 (mem_ob.2 hk)
  rw [show msC (A ++ ({ e.1 with gs := s }, e.2) :: B) = msC (A ++ e :: B) from by unfold msC; rw [List.flatMap_append, List.flatMap_append, List.flatMap_cons, List.flatMap_cons]; rfl]
  exact this
end
/-! ### Marks -/
def mkMt (k : Nat) (m : Mt) : Mt := ⟨Int.tmod (k : Int) 3 == 0, k + 1, k + 2, mkRng (k + 3) m.gs⟩
def szM (m : Mt) : Nat := 3 + 2 * m.gs.length
def szMs (ms : List Mt) : Nat := (ms.map szM).sum
def mkMs (k : Nat) : List ME → List ME
  | [] => []
  | e :: r => (mkMt k e.1, e.2) :: mkMs (k + szM e.1) r
def szE (es : List ME) : Nat := (es.map fun e => szM e.1).sum
theorem mkMs_length (s : List ME) : ∀ k, (mkMs k s).length = s.length := by
  induction s with
  | nil => intro k; rfl
  | cons x r ih => intro k; simp [mkMs, ih]
theorem szE_append (s t : List ME) : szE (s ++ t) = szE s + szE t := by simp [szE]
theorem szE_one (p : ME) : szE [p] = szM p.1 := by simp [szE]
theorem mkMs_append (s t : List ME) : ∀ k, mkMs k (s ++ t) = mkMs k s ++ mkMs (k + szE s) t := by
  induction s with
  | nil => intro k; rfl
  | cons x r ih => intro k; simp only [List.cons_append, mkMs, ih]; rw [show k + szM x.1 + szE r = k + szE (x :: r) from by simp [szE, Nat.add_assoc]]
theorem szE_le {es : List ME} (h : ∀ e ∈ es, e.1.gs.length ≤ 9) : szE es ≤ 21 * es.length := by
  induction es with
  | nil => simp [szE]
  | cons p r ih =>
    have h1 := ih fun q hq => h q (List.mem_cons_of_mem _ hq)
    have h2 := h p (List.mem_cons_self ..)
    have : szE (p :: r) = szM p.1 + szE r := by simp [szE]
    rw [this]
    unfold szM
    simp only [List.length_cons]
    omega
theorem mkMs_blks (a : Option Addr) (s : List ME) : ∀ k, mblks a (mkMs k s) = mblks a s := by
  induction s with
  | nil => intro k; rfl
  | cons x r ih =>
    intro k
    have := ih (k + szM x.1)
    unfold mblks at *
    have h2 := List.append_cancel_left this
    simp only [mkMs, List.flatMap_cons, h2]
    rfl
end Go.Vc
namespace Go.Proofs.Ytngbiaeliphdjaa.V
open Go.Vc Go.Proofs Go.RowKit
set_option linter.unusedVariables false
set_option linter.unusedSimpArgs false
theorem elemMt : Elem Try.prog 25 29 4 48 := ⟨by kernel_rfl, by kernel_rfl, by kernel_rfl, ⟨[.bool false, .int .i64 0, .int .i64 0, .slice none 0 0], by kernel_rfl, rfl⟩⟩
theorem elemSpan : Elem Try.prog 27 31 2 16 := ⟨by kernel_rfl, by kernel_rfl, by kernel_rfl, ⟨[.int .i64 0, .int .i64 0], by kernel_rfl, rfl⟩⟩
theorem eqSpan_ok (n m : Int) (w : World) : Cl Try.prog 122 [.agg #[.int .i64 n, .int .i64 m], .agg #[.int .i64 n, .int .i64 m]] w (RetB (.bool true) w) := by
  apply vc122
  unfold V122
  refine newC_in fun w1 s1 k1 e1 => ?_
  refine newC_in fun w2 s2 k2 e2 => ?_
  have k1' := k1.keep e2 fun h => h
  have hb : Below w.heap.size w w2 := Ext.to (Ext.to (Below.refl _ _) e1 fun _ h => h.elim) e2 fun _ h => h.elim
  exact ⟨n, k1'.cell 0, n, k2.cell 0, fun g => by simp at g, fun _ => ⟨m, k1'.cell 1, m, k2.cell 1, fun g => by simp at g, fun _ => ⟨rfl, hb⟩⟩⟩
theorem eqSpanS_ok {w : World} {a1 a2 : Option Addr} {l1 l2 c1 c2 : Nat} {s : List (Int × Int)} (h1 : Vec w.heap 31 2 a1 l1 c1 (rngC s)) (h2 : Vec w.heap 31 2 a2 l2 c2 (rngC s)) (hl : s.length ≤ 1000) :
    Cl Try.prog 89 [.slice a1 l1 c1, .slice a2 l2 c2] w (RetB (.bool true) w) := by
  apply vc89
  unfold V89
  have hl1 : l1 = s.length := by have := h1.1; rw [rngC_length] at this; omega
  have hl2 : l2 = s.length := by have := h2.1; rw [rngC_length] at this; omega
  subst hl1 hl2
  refine ⟨fun g => by simp at g, fun _ => ?_⟩
  refine ⟨fun k n w' => ∃ i : Nat, n = i ∧ i ≤ s.length ∧ k = s.length - i ∧ Below w.heap.size w w', ⟨_, 0, rfl, by omega, rfl, Below.refl _ _⟩, ?_⟩
  rintro k d n w1 ⟨i, rfl, hi, rfl, hb⟩
  refine ⟨fun g => ?_, fun g => ⟨rfl, hb⟩⟩
  have g' : i < s.length := by have := of_decide_eq_true g; omega
  have e0 : Int.toNat (i : Int) = i := by omega
  have e1 : IntKind.wrap .i64 ((i : Int) + 1) = ((i + 1 : Nat) : Int) := by rw [w64 (by omega)]; omega
  rw [e0, e1]
  refine drw_in fun w2 q2 e2 => ?_
  have hb2 : Below w.heap.size w w2 := Ext.to hb e2 fun _ h => h.elim
  have v1 := h1.keep (S := fun _ => False) (Ext.of_below hb2) fun _ _ h => h
  have v2 := h2.keep (S := fun _ => False) (Ext.of_below hb2) fun _ _ h => h
  obtain ⟨b, rfl, hcell⟩ := v1.open (by omega)
  obtain ⟨b', rfl, hcell'⟩ := v2.open (by omega)
  have hr := rngC_at s i g'
  refine ⟨b, 0, ⟨rfl, by omega, by omega⟩, s[i].1, by rw [Nat.zero_add, hcell _ (by omega)]; exact hr.1, s[i].2, by rw [Nat.zero_add, hcell _ (by omega)]; exact hr.2,
    b', 0, ⟨rfl, by omega, by omega⟩, s[i].1, by rw [Nat.zero_add, hcell' _ (by omega)]; exact hr.1, s[i].2, by rw [Nat.zero_add, hcell' _ (by omega)]; exact hr.2, ?_⟩
  exact (eqSpan_ok _ _ w2).ret fun w3 hb3 => ⟨true, rfl, fun h => by simp at h, fun _ => ⟨_, by omega, i + 1, rfl, by omega, rfl, hb2.vstep hb3⟩⟩
theorem eqMatch_ok {w : World} {e1 e2 : ME} (h1 : MOk w e1) (h2 : MOk w e2) (he : e1.1 = e2.1) (hp : e1.1.gs.length ≤ 1000) : Cl Try.prog 41 [.agg ⟨mC e1⟩, .agg ⟨mC e2⟩] w (RetB (.bool true) w) := by
  refine vc41 (t1 := e1.1.ok) (n2 := e1.1.fr) (n3 := e1.1.to) (a4 := e1.2.1) (l4 := e1.2.2.1) (c4 := e1.2.2.2) (t5 := e2.1.ok) (n6 := e2.1.fr) (n7 := e2.1.to) (a8 := e2.2.1) (l8 := e2.2.2.1) (c8 := e2.2.2.2) ?_
  unfold V41
  refine newC_in fun w1 s1 k1 x1 => ?_
  refine newC_in fun w2 s2 k2 x2 => ?_
  have k1' := k1.keep x2 fun h => h
  have hb : Below w.heap.size w w2 := Ext.to (Ext.to (Below.refl _ _) x1 fun _ h => h.elim) x2 fun _ h => h.elim
  have H1 := h1.below hb
  have H2 := h2.below hb
  unfold MOk at H1 H2
  rw [← he] at H2
  refine ⟨_, k1'.cell 0, _, k2.cell 0, fun g => by rw [he] at g; simp at g, fun _ => ⟨_, k1'.cell 1, _, k2.cell 1, fun g => by rw [he] at g; simp at g, fun _ => ⟨_, k1'.cell 2, _, k2.cell 2, fun g => by rw [he] at g; simp at g, fun _ => ⟨_, _, _, k1'.cell 3, _, _, _, k2.cell 3, ?_⟩⟩⟩⟩
  exact (eqSpanS_ok H1 H2 hp).ret fun w3 b3 => ⟨true, rfl, fun g => by simp at g, fun _ => ⟨rfl, hb.vstep b3⟩⟩
theorem eqMatchS_ok {w : World} {N1 N2 : Nat} {a1 a2 : Option Addr} {l1 l2 c1 c2 : Nat} {es1 es2 : List ME} (h1 : Ms N1 w a1 l1 c1 es1) (h2 : Ms N2 w a2 l2 c2 es2) (he : es1.map (·.1) = es2.map (·.1)) (hp : MsS (es1.map (·.1))) :
    Cl Try.prog 47 [.slice a1 l1 c1, .slice a2 l2 c2] w (RetB (.bool true) w) := by
  apply vc47
  unfold V47
  have hl1 := h1.len
  have hl2 := h2.len
  have hll : es1.length = es2.length := by have := congrArg List.length he; simpa using this
  have hps := hp.1
  rw [List.length_map] at hps
  refine ⟨fun g => ?_, fun _ => ?_⟩
  · rw [← hl1, ← hl2, hll] at g; simp at g
  refine ⟨fun k n w' => ∃ i : Nat, n = i ∧ i ≤ es1.length ∧ k = es1.length - i ∧ Below w.heap.size w w', ⟨_, 0, rfl, by omega, rfl, Below.refl _ _⟩, ?_⟩
  rintro k d n w1 ⟨i, rfl, hi, rfl, hb⟩
  refine ⟨fun g => ?_, fun g => ⟨rfl, hb⟩⟩
  have g' : i < es1.length := by have := of_decide_eq_true g; omega
  have e0 : Int.toNat (i : Int) = i := by omega
  have e1 : IntKind.wrap .i64 ((i : Int) + 1) = ((i + 1 : Nat) : Int) := by rw [w64 (by omega)]; omega
  rw [e0, e1]
  refine drw_in fun w2 q2 e2 => ?_
  have hb2 : Below w.heap.size w w2 := Ext.to hb e2 fun _ h => h.elim
  have P1 := h1.below hb2
  have P2 := h2.below hb2
  have g2 : i < es2.length := by omega
  obtain ⟨b, rfl, q1⟩ := P1.cells g'
  obtain ⟨b', rfl, q2⟩ := P2.cells g2
  refine ⟨b, 0, ⟨rfl, by omega, by omega⟩, _, q1 0 (by decide), _, q1 1 (by decide), _, q1 2 (by decide), _, _, _, q1 3 (by decide), b', 0, ⟨rfl, by omega, by omega⟩, _, q2 0 (by decide), _, q2 1 (by decide), _, q2 2 (by decide), _, _, _, q2 3 (by decide), ?_⟩
  have hee : es1[i].1 = es2[i].1 := by
    have : (es1.map (·.1))[i]'(by simpa using g') = (es2.map (·.1))[i]'(by simpa using g2) := List.getElem_of_eq he _
    simpa using this
  exact (eqMatch_ok (P1.all _ (List.getElem_mem g')) (P2.all _ (List.getElem_mem g2)) hee (by have := hp.2 es1[i].1 (List.mem_map_of_mem (List.getElem_mem g')); omega)).ret fun w3 hb3 => ⟨true, rfl, fun h => by simp at h, fun _ => ⟨_, by omega, i + 1, rfl, by omega, rfl, hb2.vstep hb3⟩⟩
theorem markSpanS_ok {w : World} {a : Option Addr} {l c : Nat} {s : List (Int × Int)} (h : Vec w.heap 31 2 a l c (rngC s)) (hl : s.length ≤ 1000) (k : Nat) (hk : k ≤ 1000000) {k' : Int} (hk' : k' = k) :
    Cl Try.prog 90 [.slice a l c, .int .i64 k'] w (fun e w' => e = .returned (.int .i64 ((k + 2 * s.length : Nat) : Int)) ∧ Vec w'.heap 31 2 a l c (rngC (mkRng k s)) ∧ Ext (fun x => blkOf a = some x) w w') := by
  subst hk'
  apply vc90
  unfold V90
  have hls : l = s.length := by have := h.1; rw [rngC_length] at this; omega
  subst hls
  refine ⟨fun m n j w' => ∃ (A B : List (Int × Int)), s = A ++ B ∧ n = ((k + 2 * A.length : Nat) : Int) ∧ j = A.length ∧ m = B.length ∧ Vec w'.heap 31 2 a s.length c (rngC (mkRng k A ++ B)) ∧ Ext (fun x => blkOf a = some x) w w', ⟨_, [], s, rfl, by simp, rfl, rfl, h, Ext.refl _ _⟩, ?_⟩
  rintro m d n j w1 ⟨A, B, hs, rfl, rfl, rfl, hv, hE⟩
  have hsl : s.length = A.length + B.length := by rw [hs]; simp
  refine ⟨fun g => ?_, fun g => ?_⟩
  · have g' : A.length < s.length := by have := of_decide_eq_true g; omega
    obtain ⟨x, B', rfl⟩ : ∃ x B', B = x :: B' := by
      cases B with
      | nil => simp at hsl; omega
      | cons x B' => exact ⟨x, B', rfl⟩
    have e0 : Int.toNat (A.length : Int) = A.length := by omega
    have e1 : IntKind.wrap .i64 ((A.length : Int) + 1) = ((A.length + 1 : Nat) : Int) := by rw [w64 (by omega)]; omega
    have e2 : IntKind.wrap .i64 (((k + 2 * A.length : Nat) : Int) + 1) = ((k + 2 * A.length + 1 : Nat) : Int) := by rw [w64 (by omega)]; omega
    have e3 : IntKind.wrap .i64 (((k + 2 * A.length + 1 : Nat) : Int) + 1) = ((k + 2 * (A.length + 1) : Nat) : Int) := by rw [w64 (by omega)]; omega
    rw [e0, e1, e2, e3]
    obtain ⟨b, rfl, _⟩ := hv.open (by omega)
    refine ⟨b, 0, ⟨rfl, by omega, by omega⟩, ?_⟩
    rw [Nat.zero_add]
    refine hv.st (by omega) fun w2 s2 v2 e2' => ⟨b, 0, ⟨rfl, by omega, by omega⟩, ?_⟩
    rw [Nat.zero_add]
    refine v2.st (by omega) fun w3 s3 v3 e3' => ⟨B'.length, by simp, A ++ [x], B', by rw [hs]; simp, by simp, by simp, rfl, ?_, (hE.trans (Ext.mono e2' fun q _ hq => by subst hq; rfl)).trans (Ext.mono e3' fun q _ hq => by subst hq; rfl)⟩
    rw [rngC_append, List.set_append_right _ _ (by rw [rngC_length, mkRng_length]; omega), List.set_append_right _ _ (by rw [rngC_length, mkRng_length]; omega), rngC_length, mkRng_length] at v3
    rw [show A.length * 2 - A.length * 2 = 0 from by omega, show A.length * 2 + 1 - A.length * 2 = 1 from by omega] at v3
    rw [mkRng_append, List.append_assoc, rngC_append]
    exact v3
  · have g' : ¬ A.length < s.length := by have := of_decide_eq_false g; omega
    have : B = [] := by
      cases B with
      | nil => rfl
      | cons x r => simp at hsl; omega
    subst this
    rw [List.append_nil] at hs hv
    subst hs
    exact ⟨rfl, hv, hE⟩
theorem heldSpanS_ok {w : World} {a : Option Addr} {l c : Nat} {s : List (Int × Int)} (k : Nat) (h : Vec w.heap 31 2 a l c (rngC (mkRng k s))) (hl : s.length ≤ 1000) (hk : k ≤ 1000000) {k' : Int} (hk' : k' = k) :
    Cl Try.prog 91 [.slice a l c, .int .i64 k'] w (RetB (.int .i64 ((k + 2 * s.length : Nat) : Int)) w) := by
  subst hk'
  apply vc91
  unfold V91
  have hls : l = s.length := by have := h.1; rw [rngC_length, mkRng_length] at this; omega
  subst hls
  refine ⟨fun m n j w' => ∃ (A B : List (Int × Int)), s = A ++ B ∧ n = ((k + 2 * A.length : Nat) : Int) ∧ j = A.length ∧ m = B.length ∧ w' = w, ⟨_, [], s, rfl, by simp, rfl, rfl, rfl⟩, ?_⟩
  rintro m d n j w1 ⟨A, B, hs, rfl, rfl, rfl, rfl⟩
  have hsl : s.length = A.length + B.length := by rw [hs]; simp
  refine ⟨fun g => ?_, fun g => ?_⟩
  · have g' : A.length < s.length := by have := of_decide_eq_true g; omega
    obtain ⟨x, B', rfl⟩ : ∃ x B', B = x :: B' := by
      cases B with
      | nil => simp at hsl; omega
      | cons x B' => exact ⟨x, B', rfl⟩
    have e0 : Int.toNat (A.length : Int) = A.length := by omega
    have e1 : IntKind.wrap .i64 ((A.length : Int) + 1) = ((A.length + 1 : Nat) : Int) := by rw [w64 (by omega)]; omega
    have e2 : IntKind.wrap .i64 (((k + 2 * A.length : Nat) : Int) + 1) = ((k + 2 * A.length + 1 : Nat) : Int) := by rw [w64 (by omega)]; omega
    have e3 : IntKind.wrap .i64 (((k + 2 * A.length + 1 : Nat) : Int) + 1) = ((k + 2 * (A.length + 1) : Nat) : Int) := by rw [w64 (by omega)]; omega
    rw [e0, e1, e2, e3]
    obtain ⟨b, rfl, hc⟩ := h.open (by omega)
    have hcell : ∀ o, o < 2 → cellH w1.heap b (A.length * 2 + o) = [Value.int .i64 ((k + 2 * A.length : Nat) : Int), Value.int .i64 ((k + 2 * A.length + 1 : Nat) : Int)][o]? := by
      intro o ho
      rw [hc _ (by omega), hs, mkRng_append, rngC_append, List.getElem?_append_right (by rw [rngC_length, mkRng_length]; omega), rngC_length, mkRng_length, show A.length * 2 + o - A.length * 2 = o from by omega]
      rw [show mkRng (k + 2 * A.length) (x :: B') = (((k + 2 * A.length : Nat) : Int), ((k + 2 * A.length + 1 : Nat) : Int)) :: mkRng (k + 2 * A.length + 2) B' from rfl]
      rw [show rngC ((((k + 2 * A.length : Nat) : Int), ((k + 2 * A.length + 1 : Nat) : Int)) :: mkRng (k + 2 * A.length + 2) B') = [Value.int .i64 ((k + 2 * A.length : Nat) : Int), Value.int .i64 ((k + 2 * A.length + 1 : Nat) : Int)] ++ rngC (mkRng (k + 2 * A.length + 2) B') from rfl]
      rw [List.getElem?_append_left (by simpa using ho)]
    refine ⟨b, 0, ⟨rfl, by omega, by omega⟩, _, by rw [Nat.zero_add]; exact hcell 0 (by decide), fun q => by simp at q, fun _ => ⟨b, 0, ⟨rfl, by omega, by omega⟩, _, by rw [Nat.zero_add]; exact hcell 1 (by decide), fun q => by simp at q, fun _ => ?_⟩⟩
    exact ⟨B'.length, by simp, A ++ [x], B', by rw [hs]; simp, by simp, by simp, rfl, rfl⟩
  · have g' : ¬ A.length < s.length := by have := of_decide_eq_false g; omega
    have : A.length = s.length := by omega
    rw [this]
    exact ⟨rfl, Below.refl _ _⟩
theorem markMatchS_ok {w : World} {N : Nat} {a : Option Addr} {l c : Nat} {es : List ME} (h : Ms N w a l c es) (hs : ∀ e ∈ es, e.1.gs.length ≤ 9) (hl : es.length ≤ 500) (k : Nat) (hk : k ≤ 1000) {k' : Int} (hk' : k' = k) :
    Cl Try.prog 48 [.slice a l c, .int .i64 k'] w (fun e w' => e = .returned (.int .i64 ((k + szE es : Nat) : Int)) ∧ Ms N w' a l c (mkMs k es) ∧ Ext (fun x => x ∈ mblks a es) w w') := by
  subst hk'
  apply vc48
  unfold V48
  have hlen := h.len
  refine ⟨fun m n j w' => ∃ (A B : List ME), es = A ++ B ∧ n = ((k + szE A : Nat) : Int) ∧ j = A.length ∧ m = B.length ∧ Ms N w' a l c (mkMs k A ++ B) ∧ Ext (fun x => x ∈ mblks a es) w w', ⟨_, [], es, rfl, by simp [szE], rfl, rfl, h, Ext.refl _ _⟩, ?_⟩
  rintro m d n j w1 ⟨A, B, hes, rfl, rfl, rfl, h1, hE⟩
  have hpl : es.length = A.length + B.length := by rw [hes]; simp
  have hA : ∀ e ∈ A, e.1.gs.length ≤ 9 := fun p hp => hs p (by rw [hes]; exact List.mem_append_left _ hp)
  have hsz := szE_le hA
  have hAl := mkMs_length A k
  refine ⟨fun g => ?_, fun g => ?_⟩
  · have g' : A.length < l := by have := of_decide_eq_true g; omega
    obtain ⟨e, B', rfl⟩ : ∃ x B', B = x :: B' := by
      cases B with
      | nil => simp only [List.length_nil] at hpl; omega
      | cons x B' => exact ⟨x, B', rfl⟩
    have hp := hs e (by rw [hes]; simp)
    have e0 : Int.toNat (A.length : Int) = A.length := by omega
    have e1 : IntKind.wrap .i64 ((A.length : Int) + 1) = ((A.length + 1 : Nat) : Int) := by rw [w64 (by omega)]; omega
    rw [e0, e1]
    generalize hkk : k + szE A = kk
    have hkk1 : kk ≤ 400000 := by omega
    have e2 : IntKind.wrap .i64 ((kk : Int) + 1) = ((kk + 1 : Nat) : Int) := by rw [w64 (by omega)]; omega
    have e3 : IntKind.wrap .i64 (((kk + 1 : Nat) : Int) + 1) = ((kk + 2 : Nat) : Int) := by rw [w64 (by omega)]; omega
    have e4 : IntKind.wrap .i64 (((kk + 2 : Nat) : Int) + 1) = ((kk + 3 : Nat) : Int) := by rw [w64 (by omega)]; omega
    rw [e2, e3, e4]
    obtain ⟨b, rfl, _⟩ := h1.row.open (by omega)
    have hbE : ∀ {w' w'' : World}, Ext (fun x => x ∈ mblks (some ⟨b, 0, none⟩) es) w w' → Ext (fun x => x = b) w' w'' → Ext (fun x => x ∈ mblks (some ⟨b, 0, none⟩) es) w w'' := fun h1 h2 => h1.trans (Ext.mono h2 fun x _ hx => by subst hx; simp [mblks, ob, blkOf])
    refine ⟨by decide, b, 0, ⟨rfl, by omega, by omega⟩, ?_⟩
    refine h1.st (e' := ({ e.1 with ok := Int.tmod (kk : Int) 3 == 0 }, e.2)) (o := 0) (by decide) (by omega) rfl rfl rfl fun w2 h2 E2 => ?_
    have hE2 := hbE hE E2
    refine ⟨b, 0, ⟨rfl, by omega, by omega⟩, ?_⟩
    refine h2.st (e' := ({ e.1 with ok := Int.tmod (kk : Int) 3 == 0, fr := kk + 1 }, e.2)) (o := 1) (by decide) (by omega) rfl rfl rfl fun w3 h3 E3 => ?_
    have hE3 := hbE hE2 E3
    refine ⟨b, 0, ⟨rfl, by omega, by omega⟩, ?_⟩
    refine h3.st (e' := ({ e.1 with ok := Int.tmod (kk : Int) 3 == 0, fr := kk + 1, to := kk + 2 }, e.2)) (o := 2) (by decide) (by omega) rfl rfl rfl fun w4 h4 E4 => ?_
    have hE4 := hbE hE3 E4
    have hc4 := (h4.cells (i := (mkMs k A).length) (by simp))
    obtain ⟨b', hb', hc4⟩ := hc4
    obtain rfl : b = b' := by injection hb' with hb'; injection hb'
    have hel : ∀ (h : (mkMs k A).length < (mkMs k A ++ (({ e.1 with ok := Int.tmod (kk : Int) 3 == 0, fr := kk + 1, to := kk + 2 } : Mt), e.2) :: B').length), (mkMs k A ++ (({ e.1 with ok := Int.tmod (kk : Int) 3 == 0, fr := kk + 1, to := kk + 2 } : Mt), e.2) :: B')[(mkMs k A).length] = (({ e.1 with ok := Int.tmod (kk : Int) 3 == 0, fr := kk + 1, to := kk + 2 } : Mt), e.2) := by intro h; simp
    refine ⟨b, 0, ⟨rfl, by omega, by omega⟩, e.2.1, e.2.2.1, e.2.2.2, ?_, ?_⟩
    · have := hc4 3 (by decide)
      rw [hel, hAl] at this
      exact this
    refine (markSpanS_ok h4.mid.1 (by show e.1.gs.length ≤ 1000; omega) (kk + 3) (by omega) rfl).use fun e5 w5 he => ?_
    obtain ⟨rfl, hv5, E5⟩ := he
    have h5 := h4.setG hv5 E5
    refine ⟨_, rfl, B'.length, by simp, A ++ [e], B', by rw [hes]; simp, ?_, by simp, rfl, ?_, ?_⟩
    · rw [szE_append, szE_one]
      unfold szM
      show ((kk + 3 + 2 * e.1.gs.length : Nat) : Int) = _
      omega
    · rw [mkMs_append, hkk, List.append_assoc]
      exact h5
    · refine hE4.trans (Ext.mono E5 fun x _ hx => ?_)
      rw [hes]
      exact mem_mblks (e := e) (by simp) (mem_ob.2 hx)
  · have g' : ¬ A.length < l := by have := of_decide_eq_false g; omega
    have : B = [] := by
      cases B with
      | nil => rfl
      | cons x r => simp only [List.length_cons] at hpl; omega
    subst this
    rw [List.append_nil] at hes h1
    subst hes
    exact ⟨rfl, h1, hE⟩
theorem heldMatchS_ok {w : World} {N : Nat} {a : Option Addr} {l c : Nat} {es : List ME} (k : Nat) (h : Ms N w a l c (mkMs k es)) (hs : ∀ e ∈ es, e.1.gs.length ≤ 9) (hl : es.length ≤ 500) (hk : k ≤ 1000) {k' : Int} (hk' : k' = k) :
    Cl Try.prog 49 [.slice a l c, .int .i64 k'] w (RetB (.int .i64 ((k + szE es : Nat) : Int)) w) := by
  subst hk'
  apply vc49
  unfold V49
  have hlen := h.len
  rw [mkMs_length] at hlen
  refine ⟨fun m n j w' => ∃ (A B : List ME), es = A ++ B ∧ n = ((k + szE A : Nat) : Int) ∧ j = A.length ∧ m = B.length ∧ Below w.heap.size w w', ⟨_, [], es, rfl, by simp [szE], rfl, rfl, Below.refl _ _⟩, ?_⟩
  rintro m d n j w1 ⟨A, B, hes, rfl, rfl, rfl, hb⟩
  have hpl : es.length = A.length + B.length := by rw [hes]; simp
  have hA : ∀ e ∈ A, e.1.gs.length ≤ 9 := fun p hp => hs p (by rw [hes]; exact List.mem_append_left _ hp)
  have hsz := szE_le hA
  have hAl := mkMs_length A k
  have h1 := h.below hb
  rw [hes, mkMs_append] at h1
  refine ⟨fun g => ?_, fun g => ?_⟩
  · have g' : A.length < l := by have := of_decide_eq_true g; omega
    obtain ⟨e, B', rfl⟩ : ∃ x B', B = x :: B' := by
      cases B with
      | nil => simp only [List.length_nil] at hpl; omega
      | cons x B' => exact ⟨x, B', rfl⟩
    have hp := hs e (by rw [hes]; simp)
    have e0 : Int.toNat (A.length : Int) = A.length := by omega
    have e1 : IntKind.wrap .i64 ((A.length : Int) + 1) = ((A.length + 1 : Nat) : Int) := by rw [w64 (by omega)]; omega
    rw [e0, e1]
    generalize hkk : k + szE A = kk at *
    have hkk1 : kk ≤ 400000 := by omega
    have e2 : IntKind.wrap .i64 ((kk : Int) + 1) = ((kk + 1 : Nat) : Int) := by rw [w64 (by omega)]; omega
    have e3 : IntKind.wrap .i64 (((kk + 1 : Nat) : Int) + 1) = ((kk + 2 : Nat) : Int) := by rw [w64 (by omega)]; omega
    have e4 : IntKind.wrap .i64 (((kk + 2 : Nat) : Int) + 1) = ((kk + 3 : Nat) : Int) := by rw [w64 (by omega)]; omega
    rw [e2, e3, e4]
    have h1' : Ms N w1 a l c (mkMs k A ++ (mkMt kk e.1, e.2) :: mkMs (kk + szM e.1) B') := h1
    obtain ⟨b, rfl, hc1⟩ := h1'.cells (i := (mkMs k A).length) (by simp)
    have hel : ∀ (h : (mkMs k A).length < (mkMs k A ++ (mkMt kk e.1, e.2) :: mkMs (kk + szM e.1) B').length), (mkMs k A ++ (mkMt kk e.1, e.2) :: mkMs (kk + szM e.1) B')[(mkMs k A).length] = (mkMt kk e.1, e.2) := by intro h; simp
    have hcell : ∀ o, o < 4 → cellH w1.heap b (0 + A.length * 4 + o) = (mC (mkMt kk e.1, e.2))[o]? := fun o ho => by
      have := hc1 o ho
      rw [hel, hAl] at this
      exact this
    refine ⟨b, 0, ⟨rfl, by omega, by omega⟩, _, hcell 0 (by decide), by decide, fun q => by simp [mkMt] at q, fun _ => ?_⟩
    refine ⟨b, 0, ⟨rfl, by omega, by omega⟩, _, hcell 1 (by decide), fun q => by simp [mkMt] at q, fun _ => ?_⟩
    refine ⟨b, 0, ⟨rfl, by omega, by omega⟩, _, hcell 2 (by decide), fun q => by simp [mkMt] at q, fun _ => ?_⟩
    refine ⟨b, 0, ⟨rfl, by omega, by omega⟩, _, _, _, hcell 3 (by decide), ?_⟩
    refine (heldSpanS_ok (kk + 3) h1'.mid.1 (by omega) (by omega) rfl).ret fun w2 b2 => ⟨_, rfl, fun q => ?_, fun _ => ?_⟩
    · have := of_decide_eq_true q; omega
    refine ⟨B'.length, by simp, A ++ [e], B', by rw [hes]; simp, ?_, by simp, rfl, hb.vstep b2⟩
    rw [szE_append, szE_one]
    unfold szM
    omega
  · have g' : ¬ A.length < l := by have := of_decide_eq_false g; omega
    have : B = [] := by
      cases B with
      | nil => rfl
      | cons x r => simp only [List.length_cons] at hpl; omega
    subst this
    rw [List.append_nil] at hes
    subst hes
    exact ⟨rfl, hb⟩
theorem markMatch_ok {w : World} {e : ME} (h : MOk w e) (hs : e.1.gs.length ≤ 9) : Cl Try.prog 42 [.agg ⟨mC e⟩, .int .i64 1] w (fun r w' => r = .returned (.int .i64 ((1 + 2 * e.1.gs.length : Nat) : Int)) ∧ MOk w' ({ e.1 with gs := mkRng 1 e.1.gs }, e.2) ∧ Ext (fun x => blkOf e.2.1 = some x) w w') := by
  refine vc42 (t1 := e.1.ok) (n2 := e.1.fr) (n3 := e.1.to) (a4 := e.2.1) (l4 := e.2.2.1) (c4 := e.2.2.2) (n5 := 1) ?_
  unfold V42
  refine newC_in fun w1 s1 k1 x1 => ?_
  have hb : Below w.heap.size w w1 := Ext.to (Below.refl _ _) x1 fun _ h => h.elim
  refine ⟨_, _, _, k1.cell 3, (markSpanS_ok (h.below hb) (by omega) 1 (by decide) rfl).use fun r w2 he => ?_⟩
  obtain ⟨rfl, hv, E⟩ := he
  exact ⟨_, rfl, rfl, hv, (Ext.of_below hb).trans E⟩
theorem heldMatch_ok {w : World} {e : ME} (h : MOk w ({ e.1 with gs := mkRng 1 e.1.gs }, e.2)) (hs : e.1.gs.length ≤ 9) : Cl Try.prog 43 [.agg ⟨mC e⟩, .int .i64 1] w (RetB (.int .i64 ((1 + 2 * e.1.gs.length : Nat) : Int)) w) := by
  refine vc43 (t1 := e.1.ok) (n2 := e.1.fr) (n3 := e.1.to) (a4 := e.2.1) (l4 := e.2.2.1) (c4 := e.2.2.2) (n5 := 1) ?_
  unfold V43
  refine newC_in fun w1 s1 k1 x1 => ?_
  have hb : Below w.heap.size w w1 := Ext.to (Below.refl _ _) x1 fun _ h => h.elim
  refine ⟨_, _, _, k1.cell 3, (heldSpanS_ok 1 (h.below hb) (by omega) (by decide) rfl).ret fun w2 b2 => ⟨_, rfl, fun g => ?_, fun _ => ⟨rfl, hb.vstep b2⟩⟩⟩
  have := of_decide_eq_true g; omega
end Go.Proofs.Ytngbiaeliphdjaa.V
/- Printed by vcgen.py, a program of this session: formulas of Go functions, each with the proof that it gives the function's contract. No statement of the seat is proved here. -/
namespace Go.Proofs.Ytngbiaeliphdjaa.V
open Go.Vc Go.Proofs
set_option linter.unusedVariables false
set_option maxRecDepth 100000
/-- impl.newFinder -/
def V70 (s1 : ByteArray) (s2 : ByteArray) (R : Ending → World → Prop) : World → Prop := fun w =>
  Cl Try.prog 26 ([.string s1]) w (retG (fun (r8 : Value) (w7 : World) => ∃ (t3 : Bool), ∃ (n4 : Int), ∃ (n5 : Int), ∃ (a6 : Option Addr), ∃ (l6 : Nat), ∃ (c6 : Nat), r8 = .agg #[.bool t3, .int .i64 n4, .int .i64 n5, .slice a6 l6 c6] ∧ newC [.bool false, .int .i64 0, .int .i64 0, .slice none 0 0] 37 (fun (b9 : Nat) (w10 : World) => stW b9 0 [.bool t3, .int .i64 n4, .int .i64 n5, .slice a6 l6 c6] (fun (w11 : World) => ∃ (t12 : Bool), cellH w11.heap b9 0 = some (.bool t12) ∧ ∃ (n13 : Int), cellH w11.heap b9 1 = some (.int .i64 n13) ∧ ∃ (n14 : Int), cellH w11.heap b9 2 = some (.int .i64 n14) ∧ ∃ (a15 : Option Addr), ∃ (l15 : Nat), ∃ (c15 : Nat), cellH w11.heap b9 3 = some (.slice a15 l15 c15) ∧ ∃ (m16 : Option Nat), ∃ (w17 : World), (Instr.makeMap 126 none).run Try.prog w11 = .ok (.map m16) w17 ∧ newC [.bool t12, .int .i64 n13, .int .i64 n14, .slice a15 l15 c15, .string s2, .map m16] 128 (fun (b18 : Nat) (w19 : World) => ∃ (t20 : Bool), cellH w19.heap b9 0 = some (.bool t20) ∧ ((t20 = true → R (.returned (.tuple #[.pointer (some ⟨b18, 0, none⟩), .bool (decide ((((ByteArray.size s2 : Nat) : Int) : Int) ≤ 200))])) w19) ∧ (t20 = false → R (.returned (.tuple #[.pointer (some ⟨b18, 0, none⟩), .bool false])) w19))) w17) w10) w7) (fun c w => R (.panicked c) w))
def scr70 : Scr := (.run [0, 1] (.close (.run [0, 1, 2, 3] (.close (.run [0, 1, 2, 3, 4, 5, 6, 7] (.split 16 (.run [8, 9, 10, 11, 12, 13] (.close .nil)) (.run [8, 9, 10, 11, 12, 13] (.close .nil))))))))
theorem vc70 {s1 : ByteArray} {s2 : ByteArray} {R : Ending → World → Prop} {w : World} (h : V70 s1 s2 R w) : Cl Try.prog 70 [.string s1, .string s2] w R :=
  cl_of scr70 Try.func70 (by kernel_rfl) [.string s1, .string s2] (V70 s1 s2 R) (by kernel_rfl) h
/-- (*impl.finder).from -/
def V80 (b1 : Nat) (o2 : Nat) (n3 : Int) (R : Ending → World → Prop) : World → Prop := fun w =>
  (((decide ((n3 : Int) < 0)) = true → R (.returned (.slice none 0 0)) w) ∧ ((decide ((n3 : Int) < 0)) = false → ∃ (s4 : ByteArray), cellH w.heap b1 (o2 + 4) = some (.string s4) ∧ (((decide ((n3 : Int) > ((ByteArray.size s4 : Nat) : Int))) = true → R (.returned (.slice none 0 0)) w) ∧ ((decide ((n3 : Int) > ((ByteArray.size s4 : Nat) : Int))) = false → ∃ (a5 : Option Addr), ∃ (l5 : Nat), ∃ (c5 : Nat), cellH w.heap b1 (o2 + 3) = some (.slice a5 l5 c5) ∧ Cl Try.prog 114 ([.pointer (some ⟨b1, o2, none⟩), .int .i64 (IntKind.wrap .i64 (((l5 : Nat) : Int) - 1)), .int .i64 n3]) w (retG (fun (r8 : Value) (w7 : World) => ∃ (a6 : Option Addr), ∃ (l6 : Nat), ∃ (c6 : Nat), r8 = .slice a6 l6 c6 ∧ ∃ (I9 : Nat → Option Addr → Nat → Nat → Int → World → Prop), (∃ (k11 : Nat), I9 k11 none 0 0 0 w7) ∧ ∀ (k10 : Nat) (d13 : Nat → Value) (a14 : Option Addr) (l14 : Nat) (c14 : Nat) (n15 : Int) (w12 : World), I9 k10 a14 l14 c14 n15 w12 → (((decide ((n15 : Int) < ((l6 : Nat) : Int))) = true → ∃ (b16 : Nat) (o17 : Nat), ((a6 : Option Addr) = some ⟨b16, o17, none⟩ ∧ 0 ≤ (n15 : Int) ∧ (n15 : Int) < ((l6 : Nat) : Int)) ∧ ∃ (n18 : Int), cellH w12.heap b16 (o17 + (Int.toNat n15) * 21) = some (.int .i64 n18) ∧ ∃ (g19 : Nat → Int), intsAt w12.heap b16 (o17 + (Int.toNat n15) * 21 + 1) 20 g19 ∧ newC [.int .i64 0, .int .i64 0, .int .i64 0, .int .i64 0, .int .i64 0, .int .i64 0, .int .i64 0, .int .i64 0, .int .i64 0, .int .i64 0, .int .i64 0, .int .i64 0, .int .i64 0, .int .i64 0, .int .i64 0, .int .i64 0, .int .i64 0, .int .i64 0, .int .i64 0, .int .i64 0, .int .i64 0] 142 (fun (b20 : Nat) (w21 : World) => stW b20 0 [.int .i64 n18, .int .i64 (g19 0), .int .i64 (g19 1), .int .i64 (g19 2), .int .i64 (g19 3), .int .i64 (g19 4), .int .i64 (g19 5), .int .i64 (g19 6), .int .i64 (g19 7), .int .i64 (g19 8), .int .i64 (g19 9), .int .i64 (g19 10), .int .i64 (g19 11), .int .i64 (g19 12), .int .i64 (g19 13), .int .i64 (g19 14), .int .i64 (g19 15), .int .i64 (g19 16), .int .i64 (g19 17), .int .i64 (g19 18), .int .i64 (g19 19)] (fun (w22 : World) => ∃ (n23 : Int), cellH w22.heap b20 0 = some (.int .i64 n23) ∧ newC [.bool false, .int .i64 0, .int .i64 0, .slice none 0 0] 29 (fun (b24 : Nat) (w25 : World) => stW b24 0 [.bool true, .int .i64 n3, .int .i64 n23, .slice none 0 0] (fun (w26 : World) => ∃ (I27 : Nat → Int → World → Prop), (∃ (k29 : Nat), I27 k29 1 w26) ∧ ∀ (k28 : Nat) (d31 : Nat → Value) (n32 : Int) (w30 : World), I27 k28 n32 w30 → ∃ (n33 : Int), cellH w30.heap b1 (o2 + 2) = some (.int .i64 n33) ∧ (((decide ((n32 : Int) ≤ n33)) = true → drw (fun (w34 : World) => ∃ (a35 : Option Addr), ∃ (l35 : Nat), ∃ (c35 : Nat), cellH w34.heap b24 3 = some (.slice a35 l35 c35) ∧ (0 ≤ (n32 : Int) ∧ (n32 : Int) < ((10 : Nat) : Int)) ∧ ∃ (n36 : Int), cellH w34.heap b20 (1 + (Int.toNat n32) * 2) = some (.int .i64 n36) ∧ ∃ (n37 : Int), cellH w34.heap b20 (1 + (Int.toNat n32) * 2 + 1) = some (.int .i64 n37) ∧ newC [.int .i64 n36, .int .i64 n37] 31 (fun (b38 : Nat) (w39 : World) => cellH w39.heap b24 3 = some (.slice a35 l35 c35) ∧ ∃ (a40 : Option Addr), ∃ (l40 : Nat), ∃ (c40 : Nat), ∃ (w41 : World), (Builtin.append_ #[27, 27] 27 #[.slice a35 l35 c35, .slice (some ⟨b38, 0, none⟩) 1 1]).run Try.prog w39 = .ok (.slice a40 l40 c40) w41 ∧ stW b24 3 [.slice a40 l40 c40] (fun (w42 : World) => (∃ (m43 : Nat), m43 < k28 ∧ I27 m43 (IntKind.wrap .i64 (n32 + 1)) w42)) w41) w34) w30) ∧ ((decide ((n32 : Int) ≤ n33)) = false → ∃ (t44 : Bool), cellH w30.heap b24 0 = some (.bool t44) ∧ ∃ (n45 : Int), cellH w30.heap b24 1 = some (.int .i64 n45) ∧ ∃ (n46 : Int), cellH w30.heap b24 2 = some (.int .i64 n46) ∧ ∃ (a47 : Option Addr), ∃ (l47 : Nat), ∃ (c47 : Nat), cellH w30.heap b24 3 = some (.slice a47 l47 c47) ∧ newC [.bool t44, .int .i64 n45, .int .i64 n46, .slice a47 l47 c47] 29 (fun (b48 : Nat) (w49 : World) => ∃ (a50 : Option Addr), ∃ (l50 : Nat), ∃ (c50 : Nat), ∃ (w51 : World), (Builtin.append_ #[25, 25] 25 #[.slice a14 l14 c14, .slice (some ⟨b48, 0, none⟩) 1 1]).run Try.prog w49 = .ok (.slice a50 l50 c50) w51 ∧ (∃ (m52 : Nat), m52 < k10 ∧ I9 m52 a50 l50 c50 (IntKind.wrap .i64 (n15 + 1)) w51)) w30))) w25) w22) w21) w12) ∧ ((decide ((n15 : Int) < ((l6 : Nat) : Int))) = false → R (.returned (.slice a14 l14 c14)) w12))) (fun c w => R (.panicked c) w))))))
def scr80 : Scr := (.run [0] (.close (.run [0, 1, 2] (.split 12 (.run [3, 4, 5, 6, 7, 8, 9, 10] (.close (.lit (.run [0] (.close .nil))))) (.run [3, 4, 5, 6, 7, 8, 9, 10] (.close (.cond (.run [0] (.close .nil)) (.run [0] (.close (.run [0, 1, 2, 3, 4, 5, 6, 7, 8, 9, 10, 11] (.close (.loop [(5, some .slice), (32, some (.int .i64)), (7, none), (8, none), (9, none), (33, none), (34, none), (35, none), (36, none), (37, none), (38, none), (39, none), (40, none), (41, none), (42, none), (43, none), (44, none), (45, none), (46, none), (47, none), (48, none), (49, none), (50, none), (51, none), (52, none), (53, none), (54, none), (55, none), (56, none), (57, none), (58, none), (59, none), (60, none), (61, none), (62, none)] (.run [0] (.close (.cond (.run [0, 1, 2, 3] (.close (.run [0, 1, 2, 3, 4, 5] (.close (.run [0] (.close (.loop [(9, some (.int .i64)), (40, none), (41, none), (42, none), (43, none), (44, none), (45, none), (46, none), (47, none), (48, none), (49, none), (50, none), (51, none), (52, none), (53, none), (54, none), (55, none), (56, none), (57, none)] (.run [0, 1, 2, 3, 4, 5, 6] (.close (.cond (.run [0, 1, 2, 3, 4, 5, 6, 7, 8, 9] (.close (.run [0, 1, 2] (.close .nil)))) (.run [0, 1, 2, 3, 4] (.close (.run [0, 1] (.close .nil)))))))))))))) (.run [0, 1] (.close .nil)))))))))))))))))
theorem vc80 {b1 : Nat} {o2 : Nat} {n3 : Int} {R : Ending → World → Prop} {w : World} (h : V80 b1 o2 n3 R w) : Cl Try.prog 80 [.pointer (some ⟨b1, o2, none⟩), .int .i64 n3] w R :=
  cl_of scr80 Try.func80 (by kernel_rfl) [.pointer (some ⟨b1, o2, none⟩), .int .i64 n3] (V80 b1 o2 n3 R) (by kernel_rfl) h
/-- (*impl.finder).find -/
def V71 (b1 : Nat) (o2 : Nat) (n3 : Int) (R : Ending → World → Prop) : World → Prop := fun w =>
  newC [.bool false, .int .i64 0, .int .i64 0, .slice none 0 0] 29 (fun (b4 : Nat) (w5 : World) => (((decide ((n3 : Int) < 0)) = true → stW b4 0 [.bool false, .int .i64 0, .int .i64 0, .slice none 0 0] (fun (w6 : World) => ∃ (t7 : Bool), cellH w6.heap b4 0 = some (.bool t7) ∧ ∃ (n8 : Int), cellH w6.heap b4 1 = some (.int .i64 n8) ∧ ∃ (n9 : Int), cellH w6.heap b4 2 = some (.int .i64 n9) ∧ ∃ (a10 : Option Addr), ∃ (l10 : Nat), ∃ (c10 : Nat), cellH w6.heap b4 3 = some (.slice a10 l10 c10) ∧ R (.returned (.agg #[.bool t7, .int .i64 n8, .int .i64 n9, .slice a10 l10 c10])) w6) w5) ∧ ((decide ((n3 : Int) < 0)) = false → ∃ (I11 : Nat → Int → World → Prop), (∃ (k13 : Nat), I11 k13 n3 w5) ∧ ∀ (k12 : Nat) (d15 : Nat → Value) (n16 : Int) (w14 : World), I11 k12 n16 w14 → ∃ (s17 : ByteArray), cellH w14.heap b1 (o2 + 4) = some (.string s17) ∧ (((decide ((n16 : Int) ≤ ((ByteArray.size s17 : Nat) : Int))) = true → Cl Try.prog 80 ([.pointer (some ⟨b1, o2, none⟩), .int .i64 n16]) w14 (retG (fun (r20 : Value) (w19 : World) => ∃ (a18 : Option Addr), ∃ (l18 : Nat), ∃ (c18 : Nat), r20 = .slice a18 l18 c18 ∧ (((decide ((((l18 : Nat) : Int) : Int) > 0)) = true → ∃ (b21 : Nat) (o22 : Nat), ((a18 : Option Addr) = some ⟨b21, o22, none⟩ ∧ 0 ≤ (0 : Int) ∧ (0 : Int) < ((l18 : Nat) : Int)) ∧ ∃ (t23 : Bool), cellH w19.heap b21 o22 = some (.bool t23) ∧ ∃ (n24 : Int), cellH w19.heap b21 (o22 + 1) = some (.int .i64 n24) ∧ ∃ (n25 : Int), cellH w19.heap b21 (o22 + 2) = some (.int .i64 n25) ∧ ∃ (a26 : Option Addr), ∃ (l26 : Nat), ∃ (c26 : Nat), cellH w19.heap b21 (o22 + 3) = some (.slice a26 l26 c26) ∧ stW b4 0 [.bool t23, .int .i64 n24, .int .i64 n25, .slice a26 l26 c26] (fun (w27 : World) => ∃ (t28 : Bool), cellH w27.heap b4 0 = some (.bool t28) ∧ ∃ (n29 : Int), cellH w27.heap b4 1 = some (.int .i64 n29) ∧ ∃ (n30 : Int), cellH w27.heap b4 2 = some (.int .i64 n30) ∧ ∃ (a31 : Option Addr), ∃ (l31 : Nat), ∃ (c31 : Nat), cellH w27.heap b4 3 = some (.slice a31 l31 c31) ∧ R (.returned (.agg #[.bool t28, .int .i64 n29, .int .i64 n30, .slice a31 l31 c31])) w27) w19) ∧ ((decide ((((l18 : Nat) : Int) : Int) > 0)) = false → (∃ (m32 : Nat), m32 < k12 ∧ I11 m32 (IntKind.wrap .i64 (n16 + 1)) w19)))) (fun c w => R (.panicked c) w))) ∧ ((decide ((n16 : Int) ≤ ((ByteArray.size s17 : Nat) : Int))) = false → stW b4 0 [.bool false, .int .i64 0, .int .i64 0, .slice none 0 0] (fun (w33 : World) => ∃ (t34 : Bool), cellH w33.heap b4 0 = some (.bool t34) ∧ ∃ (n35 : Int), cellH w33.heap b4 1 = some (.int .i64 n35) ∧ ∃ (n36 : Int), cellH w33.heap b4 2 = some (.int .i64 n36) ∧ ∃ (a37 : Option Addr), ∃ (l37 : Nat), ∃ (c37 : Nat), cellH w33.heap b4 3 = some (.slice a37 l37 c37) ∧ R (.returned (.agg #[.bool t34, .int .i64 n35, .int .i64 n36, .slice a37 l37 c37])) w33) w14))))) w
def scr71 : Scr := (.run [0] (.close (.run [0, 1] (.close (.cond (.run [0, 1] (.close .nil)) (.loop [(1, some (.int .i64)), (5, none), (9, none), (10, none), (11, none), (12, none), (13, none), (14, none), (15, none), (16, none), (17, none), (18, none), (19, none), (20, none), (21, none), (22, none), (23, none), (24, none), (25, none), (26, none)] (.run [0, 1, 2, 3, 4, 5, 6] (.close (.cond (.run [0, 1, 2, 3] (.close (.run [0, 1, 2] (.close (.cond (.run [0, 1, 2, 3] (.close .nil)) (.run [0, 1, 2] (.close .nil))))))) (.run [0, 1] (.close .nil)))))))))))
theorem vc71 {b1 : Nat} {o2 : Nat} {n3 : Int} {R : Ending → World → Prop} {w : World} (h : V71 b1 o2 n3 R w) : Cl Try.prog 71 [.pointer (some ⟨b1, o2, none⟩), .int .i64 n3] w R :=
  cl_of scr71 Try.func71 (by kernel_rfl) [.pointer (some ⟨b1, o2, none⟩), .int .i64 n3] (V71 b1 o2 n3 R) (by kernel_rfl) h
/-- impl.Ways -/
def V30 (s1 : ByteArray) (s2 : ByteArray) (n3 : Int) (R : Ending → World → Prop) : World → Prop := fun w =>
  Cl Try.prog 70 ([.string s1, .string s2]) w (retG (fun (r8 : Value) (w7 : World) => ∃ (b4 : Nat), ∃ (o5 : Nat), ∃ (t6 : Bool), r8 = .tuple #[.pointer (some ⟨b4, o5, none⟩), .bool t6] ∧ (((!t6) = true → R (.returned (.slice none 0 0)) w7) ∧ ((!t6) = false → Cl Try.prog 80 ([.pointer (some ⟨b4, o5, none⟩), .int .i64 n3]) w7 (retG (fun (r11 : Value) (w10 : World) => ∃ (a9 : Option Addr), ∃ (l9 : Nat), ∃ (c9 : Nat), r11 = .slice a9 l9 c9 ∧ R (.returned (.slice a9 l9 c9)) w10) (fun c w => R (.panicked c) w))))) (fun c w => R (.panicked c) w))
def scr30 : Scr := (.run [0] (.close (.run [0, 1, 2, 3, 4, 5, 6, 7] (.close (.run [0, 1] (.close (.cond (.run [0] (.close .nil)) (.run [0, 1, 2, 3] (.close .nil)))))))))
theorem vc30 {s1 : ByteArray} {s2 : ByteArray} {n3 : Int} {R : Ending → World → Prop} {w : World} (h : V30 s1 s2 n3 R w) : Cl Try.prog 30 [.string s1, .string s2, .int .i64 n3] w R :=
  cl_of scr30 Try.func30 (by kernel_rfl) [.string s1, .string s2, .int .i64 n3] (V30 s1 s2 n3 R) (by kernel_rfl) h
/-- impl.Find -/
def V45 (s1 : ByteArray) (s2 : ByteArray) (n3 : Int) (R : Ending → World → Prop) : World → Prop := fun w =>
  newC [.bool false, .int .i64 0, .int .i64 0, .slice none 0 0] 29 (fun (b4 : Nat) (w5 : World) => Cl Try.prog 70 ([.string s1, .string s2]) w5 (retG (fun (r10 : Value) (w9 : World) => ∃ (b6 : Nat), ∃ (o7 : Nat), ∃ (t8 : Bool), r10 = .tuple #[.pointer (some ⟨b6, o7, none⟩), .bool t8] ∧ (((!t8) = true → stW b4 0 [.bool false, .int .i64 0, .int .i64 0, .slice none 0 0] (fun (w11 : World) => ∃ (t12 : Bool), cellH w11.heap b4 0 = some (.bool t12) ∧ ∃ (n13 : Int), cellH w11.heap b4 1 = some (.int .i64 n13) ∧ ∃ (n14 : Int), cellH w11.heap b4 2 = some (.int .i64 n14) ∧ ∃ (a15 : Option Addr), ∃ (l15 : Nat), ∃ (c15 : Nat), cellH w11.heap b4 3 = some (.slice a15 l15 c15) ∧ R (.returned (.agg #[.bool t12, .int .i64 n13, .int .i64 n14, .slice a15 l15 c15])) w11) w9) ∧ ((!t8) = false → Cl Try.prog 71 ([.pointer (some ⟨b6, o7, none⟩), .int .i64 n3]) w9 (retG (fun (r21 : Value) (w20 : World) => ∃ (t16 : Bool), ∃ (n17 : Int), ∃ (n18 : Int), ∃ (a19 : Option Addr), ∃ (l19 : Nat), ∃ (c19 : Nat), r21 = .agg #[.bool t16, .int .i64 n17, .int .i64 n18, .slice a19 l19 c19] ∧ stW b4 0 [.bool t16, .int .i64 n17, .int .i64 n18, .slice a19 l19 c19] (fun (w22 : World) => ∃ (t23 : Bool), cellH w22.heap b4 0 = some (.bool t23) ∧ ∃ (n24 : Int), cellH w22.heap b4 1 = some (.int .i64 n24) ∧ ∃ (n25 : Int), cellH w22.heap b4 2 = some (.int .i64 n25) ∧ ∃ (a26 : Option Addr), ∃ (l26 : Nat), ∃ (c26 : Nat), cellH w22.heap b4 3 = some (.slice a26 l26 c26) ∧ R (.returned (.agg #[.bool t23, .int .i64 n24, .int .i64 n25, .slice a26 l26 c26])) w22) w20) (fun c w => R (.panicked c) w))))) (fun c w => R (.panicked c) w))) w
def scr45 : Scr := (.run [0] (.close (.run [0, 1, 2, 3, 4, 5, 6, 7] (.close (.run [0, 1] (.close (.cond (.run [0, 1] (.close .nil)) (.run [0, 1, 2, 3] (.close .nil)))))))))
theorem vc45 {s1 : ByteArray} {s2 : ByteArray} {n3 : Int} {R : Ending → World → Prop} {w : World} (h : V45 s1 s2 n3 R w) : Cl Try.prog 45 [.string s1, .string s2, .int .i64 n3] w R :=
  cl_of scr45 Try.func45 (by kernel_rfl) [.string s1, .string s2, .int .i64 n3] (V45 s1 s2 n3 R) (by kernel_rfl) h
/-- impl.Whole -/
def V35 (s1 : ByteArray) (s2 : ByteArray) (R : Ending → World → Prop) : World → Prop := fun w =>
  newC [.bool false, .int .i64 0, .int .i64 0, .slice none 0 0] 29 (fun (b3 : Nat) (w4 : World) => Cl Try.prog 30 ([.string s1, .string s2, .int .i64 0]) w4 (retG (fun (r7 : Value) (w6 : World) => ∃ (a5 : Option Addr), ∃ (l5 : Nat), ∃ (c5 : Nat), r7 = .slice a5 l5 c5 ∧ ∃ (I8 : Nat → Int → World → Prop), (∃ (k10 : Nat), I8 k10 0 w6) ∧ ∀ (k9 : Nat) (d12 : Nat → Value) (n13 : Int) (w11 : World), I8 k9 n13 w11 → (((decide ((n13 : Int) < ((l5 : Nat) : Int))) = true → ∃ (b14 : Nat) (o15 : Nat), ((a5 : Option Addr) = some ⟨b14, o15, none⟩ ∧ 0 ≤ (n13 : Int) ∧ (n13 : Int) < ((l5 : Nat) : Int)) ∧ ∃ (t16 : Bool), cellH w11.heap b14 (o15 + (Int.toNat n13) * 4) = some (.bool t16) ∧ ∃ (n17 : Int), cellH w11.heap b14 (o15 + (Int.toNat n13) * 4 + 1) = some (.int .i64 n17) ∧ ∃ (n18 : Int), cellH w11.heap b14 (o15 + (Int.toNat n13) * 4 + 2) = some (.int .i64 n18) ∧ ∃ (a19 : Option Addr), ∃ (l19 : Nat), ∃ (c19 : Nat), cellH w11.heap b14 (o15 + (Int.toNat n13) * 4 + 3) = some (.slice a19 l19 c19) ∧ newC [.bool false, .int .i64 0, .int .i64 0, .slice none 0 0] 29 (fun (b20 : Nat) (w21 : World) => stW b20 0 [.bool t16, .int .i64 n17, .int .i64 n18, .slice a19 l19 c19] (fun (w22 : World) => ∃ (n23 : Int), cellH w22.heap b20 2 = some (.int .i64 n23) ∧ ((((n23 : Int) == ((ByteArray.size s2 : Nat) : Int)) = true → ∃ (t24 : Bool), cellH w22.heap b20 0 = some (.bool t24) ∧ ∃ (n25 : Int), cellH w22.heap b20 1 = some (.int .i64 n25) ∧ ∃ (n26 : Int), cellH w22.heap b20 2 = some (.int .i64 n26) ∧ ∃ (a27 : Option Addr), ∃ (l27 : Nat), ∃ (c27 : Nat), cellH w22.heap b20 3 = some (.slice a27 l27 c27) ∧ stW b3 0 [.bool t24, .int .i64 n25, .int .i64 n26, .slice a27 l27 c27] (fun (w28 : World) => ∃ (t29 : Bool), cellH w28.heap b3 0 = some (.bool t29) ∧ ∃ (n30 : Int), cellH w28.heap b3 1 = some (.int .i64 n30) ∧ ∃ (n31 : Int), cellH w28.heap b3 2 = some (.int .i64 n31) ∧ ∃ (a32 : Option Addr), ∃ (l32 : Nat), ∃ (c32 : Nat), cellH w28.heap b3 3 = some (.slice a32 l32 c32) ∧ R (.returned (.agg #[.bool t29, .int .i64 n30, .int .i64 n31, .slice a32 l32 c32])) w28) w22) ∧ (((n23 : Int) == ((ByteArray.size s2 : Nat) : Int)) = false → (∃ (m33 : Nat), m33 < k9 ∧ I8 m33 (IntKind.wrap .i64 (n13 + 1)) w22)))) w21) w11) ∧ ((decide ((n13 : Int) < ((l5 : Nat) : Int))) = false → stW b3 0 [.bool false, .int .i64 0, .int .i64 0, .slice none 0 0] (fun (w34 : World) => ∃ (t35 : Bool), cellH w34.heap b3 0 = some (.bool t35) ∧ ∃ (n36 : Int), cellH w34.heap b3 1 = some (.int .i64 n36) ∧ ∃ (n37 : Int), cellH w34.heap b3 2 = some (.int .i64 n37) ∧ ∃ (a38 : Option Addr), ∃ (l38 : Nat), ∃ (c38 : Nat), cellH w34.heap b3 3 = some (.slice a38 l38 c38) ∧ R (.returned (.agg #[.bool t35, .int .i64 n36, .int .i64 n37, .slice a38 l38 c38])) w34) w11))) (fun c w => R (.panicked c) w))) w
def scr35 : Scr := (.run [0] (.close (.run [0, 1, 2, 3, 4] (.close (.loop [(11, some (.int .i64)), (6, none), (12, none), (13, none), (14, none), (15, none), (16, none), (17, none), (18, none), (19, none), (20, none), (21, none)] (.run [0] (.close (.cond (.run [0, 1, 2, 3] (.close (.run [0, 1, 2, 3, 4] (.close (.cond (.run [0, 1] (.close .nil)) (.run [0, 1] (.close .nil))))))) (.run [0, 1] (.close .nil))))))))))
theorem vc35 {s1 : ByteArray} {s2 : ByteArray} {R : Ending → World → Prop} {w : World} (h : V35 s1 s2 R w) : Cl Try.prog 35 [.string s1, .string s2] w R :=
  cl_of scr35 Try.func35 (by kernel_rfl) [.string s1, .string s2] (V35 s1 s2 R) (by kernel_rfl) h
/-- impl.All -/
def V22 (s1 : ByteArray) (s2 : ByteArray) (R : Ending → World → Prop) : World → Prop := fun w =>
  Cl Try.prog 70 ([.string s1, .string s2]) w (retG (fun (r7 : Value) (w6 : World) => ∃ (b3 : Nat), ∃ (o4 : Nat), ∃ (t5 : Bool), r7 = .tuple #[.pointer (some ⟨b3, o4, none⟩), .bool t5] ∧ (((!t5) = true → R (.returned (.slice none 0 0)) w6) ∧ ((!t5) = false → ∃ (I8 : Nat → Option Addr → Nat → Nat → Int → World → Prop), (∃ (k10 : Nat), I8 k10 none 0 0 0 w6) ∧ ∀ (k9 : Nat) (d12 : Nat → Value) (a13 : Option Addr) (l13 : Nat) (c13 : Nat) (n14 : Int) (w11 : World), I8 k9 a13 l13 c13 n14 w11 → (((decide ((n14 : Int) ≤ ((ByteArray.size s2 : Nat) : Int))) = true → Cl Try.prog 71 ([.pointer (some ⟨b3, o4, none⟩), .int .i64 n14]) w11 (retG (fun (r20 : Value) (w19 : World) => ∃ (t15 : Bool), ∃ (n16 : Int), ∃ (n17 : Int), ∃ (a18 : Option Addr), ∃ (l18 : Nat), ∃ (c18 : Nat), r20 = .agg #[.bool t15, .int .i64 n16, .int .i64 n17, .slice a18 l18 c18] ∧ newC [.bool false, .int .i64 0, .int .i64 0, .slice none 0 0] 29 (fun (b21 : Nat) (w22 : World) => stW b21 0 [.bool t15, .int .i64 n16, .int .i64 n17, .slice a18 l18 c18] (fun (w23 : World) => ∃ (t24 : Bool), cellH w23.heap b21 0 = some (.bool t24) ∧ (((!t24) = true → R (.returned (.slice a13 l13 c13)) w23) ∧ ((!t24) = false → ∃ (t25 : Bool), cellH w23.heap b21 0 = some (.bool t25) ∧ ∃ (n26 : Int), cellH w23.heap b21 1 = some (.int .i64 n26) ∧ ∃ (n27 : Int), cellH w23.heap b21 2 = some (.int .i64 n27) ∧ ∃ (a28 : Option Addr), ∃ (l28 : Nat), ∃ (c28 : Nat), cellH w23.heap b21 3 = some (.slice a28 l28 c28) ∧ newC [.bool t25, .int .i64 n26, .int .i64 n27, .slice a28 l28 c28] 29 (fun (b29 : Nat) (w30 : World) => ∃ (a31 : Option Addr), ∃ (l31 : Nat), ∃ (c31 : Nat), ∃ (w32 : World), (Builtin.append_ #[25, 25] 25 #[.slice a13 l13 c13, .slice (some ⟨b29, 0, none⟩) 1 1]).run Try.prog w30 = .ok (.slice a31 l31 c31) w32 ∧ ∃ (n33 : Int), cellH w32.heap b21 2 = some (.int .i64 n33) ∧ ∃ (n34 : Int), cellH w32.heap b21 1 = some (.int .i64 n34) ∧ ∃ (n35 : Int), cellH w32.heap b21 2 = some (.int .i64 n35) ∧ ((((n34 : Int) == n35) = true → (∃ (m36 : Nat), m36 < k9 ∧ I8 m36 a31 l31 c31 (IntKind.wrap .i64 (n33 + 1)) w32)) ∧ (((n34 : Int) == n35) = false → (∃ (m37 : Nat), m37 < k9 ∧ I8 m37 a31 l31 c31 n33 w32)))) w23))) w22) w19) (fun c w => R (.panicked c) w))) ∧ ((decide ((n14 : Int) ≤ ((ByteArray.size s2 : Nat) : Int))) = false → R (.returned (.slice a13 l13 c13)) w11))))) (fun c w => R (.panicked c) w))
def scr22 : Scr := (.run [0] (.close (.run [0, 1, 2, 3, 4, 5, 6, 7] (.close (.run [0, 1] (.close (.cond (.run [0] (.close .nil)) (.run [0] (.close (.run [0] (.close (.loop [(7, some .slice), (8, some (.int .i64)), (9, none), (18, none), (19, none), (20, none), (21, none), (22, none), (23, none), (24, none), (25, none), (26, none), (27, none), (28, none), (29, none), (30, none), (31, none), (32, none), (33, none), (34, none), (35, none), (36, none), (37, none), (38, none), (39, none), (40, none)] (.run [0, 1, 2, 3] (.close (.cond (.run [0, 1, 2, 3, 4] (.close (.run [0, 1, 2] (.close (.cond (.run [0, 1] (.close .nil)) (.run [0, 1, 2, 3, 4] (.close (.run [0, 1, 2] (.close (.run [0, 1, 2, 3, 4] (.close (.cond (.run [0, 1, 2] (.close .nil)) .nil)))))))))))) (.run [0, 1] (.close .nil)))))))))))))))))
theorem vc22 {s1 : ByteArray} {s2 : ByteArray} {R : Ending → World → Prop} {w : World} (h : V22 s1 s2 R w) : Cl Try.prog 22 [.string s1, .string s2] w R :=
  cl_of scr22 Try.func22 (by kernel_rfl) [.string s1, .string s2] (V22 s1 s2 R) (by kernel_rfl) h
/-- impl.Count -/
def V24 (s1 : ByteArray) (s2 : ByteArray) (R : Ending → World → Prop) : World → Prop := fun w =>
  Cl Try.prog 22 ([.string s1, .string s2]) w (retG (fun (r5 : Value) (w4 : World) => ∃ (a3 : Option Addr), ∃ (l3 : Nat), ∃ (c3 : Nat), r5 = .slice a3 l3 c3 ∧ R (.returned (.int .i64 ((l3 : Nat) : Int))) w4) (fun c w => R (.panicked c) w))
def scr24 : Scr := (.run [0] (.close (.run [0, 1, 2, 3, 4] (.close .nil))))
theorem vc24 {s1 : ByteArray} {s2 : ByteArray} {R : Ending → World → Prop} {w : World} (h : V24 s1 s2 R w) : Cl Try.prog 24 [.string s1, .string s2] w R :=
  cl_of scr24 Try.func24 (by kernel_rfl) [.string s1, .string s2] (V24 s1 s2 R) (by kernel_rfl) h
/-- impl.Split -/
def V51 (s1 : ByteArray) (s2 : ByteArray) (R : Ending → World → Prop) : World → Prop := fun w =>
  Cl Try.prog 70 ([.string s1, .string s2]) w (retG (fun (r7 : Value) (w6 : World) => ∃ (b3 : Nat), ∃ (o4 : Nat), ∃ (t5 : Bool), r7 = .tuple #[.pointer (some ⟨b3, o4, none⟩), .bool t5] ∧ (((!t5) = true → R (.returned (.slice none 0 0)) w6) ∧ ((!t5) = false → Cl Try.prog 22 ([.string s1, .string s2]) w6 (retG (fun (r10 : Value) (w9 : World) => ∃ (a8 : Option Addr), ∃ (l8 : Nat), ∃ (c8 : Nat), r10 = .slice a8 l8 c8 ∧ ∃ (I11 : Nat → Option Addr → Nat → Nat → Int → Int → World → Prop), (∃ (k13 : Nat), I11 k13 none 0 0 0 0 w9) ∧ ∀ (k12 : Nat) (d15 : Nat → Value) (a16 : Option Addr) (l16 : Nat) (c16 : Nat) (n17 : Int) (n18 : Int) (w14 : World), I11 k12 a16 l16 c16 n17 n18 w14 → (((decide ((n18 : Int) < ((l8 : Nat) : Int))) = true → ∃ (b19 : Nat) (o20 : Nat), ((a8 : Option Addr) = some ⟨b19, o20, none⟩ ∧ 0 ≤ (n18 : Int) ∧ (n18 : Int) < ((l8 : Nat) : Int)) ∧ ∃ (t21 : Bool), cellH w14.heap b19 (o20 + (Int.toNat n18) * 4) = some (.bool t21) ∧ ∃ (n22 : Int), cellH w14.heap b19 (o20 + (Int.toNat n18) * 4 + 1) = some (.int .i64 n22) ∧ ∃ (n23 : Int), cellH w14.heap b19 (o20 + (Int.toNat n18) * 4 + 2) = some (.int .i64 n23) ∧ ∃ (a24 : Option Addr), ∃ (l24 : Nat), ∃ (c24 : Nat), cellH w14.heap b19 (o20 + (Int.toNat n18) * 4 + 3) = some (.slice a24 l24 c24) ∧ newC [.bool false, .int .i64 0, .int .i64 0, .slice none 0 0] 29 (fun (b25 : Nat) (w26 : World) => stW b25 0 [.bool t21, .int .i64 n22, .int .i64 n23, .slice a24 l24 c24] (fun (w27 : World) => ∃ (n28 : Int), cellH w27.heap b25 1 = some (.int .i64 n28) ∧ ∃ (n29 : Int), cellH w27.heap b25 2 = some (.int .i64 n29) ∧ ((((n28 : Int) == n29) = true → ∃ (n30 : Int), cellH w27.heap b25 1 = some (.int .i64 n30) ∧ ((((n30 : Int) == 0) = true → (∃ (m31 : Nat), m31 < k12 ∧ I11 m31 a16 l16 c16 n17 (IntKind.wrap .i64 (n18 + 1)) w27)) ∧ (((n30 : Int) == 0) = false → ∃ (n32 : Int), cellH w27.heap b25 1 = some (.int .i64 n32) ∧ ((((n32 : Int) == ((ByteArray.size s2 : Nat) : Int)) = true → (∃ (m33 : Nat), m33 < k12 ∧ I11 m33 a16 l16 c16 n17 (IntKind.wrap .i64 (n18 + 1)) w27)) ∧ (((n32 : Int) == ((ByteArray.size s2 : Nat) : Int)) = false → ∃ (n34 : Int), cellH w27.heap b25 1 = some (.int .i64 n34) ∧ (0 ≤ (n17 : Int) ∧ (n17 : Int) ≤ n34 ∧ (n34 : Int) ≤ ((ByteArray.size s2 : Nat) : Int)) ∧ newC [.string (ByteArray.extract s2 (Int.toNat n17) (Int.toNat n34))] 9 (fun (b35 : Nat) (w36 : World) => ∃ (a37 : Option Addr), ∃ (l37 : Nat), ∃ (c37 : Nat), ∃ (w38 : World), (Builtin.append_ #[55, 55] 55 #[.slice a16 l16 c16, .slice (some ⟨b35, 0, none⟩) 1 1]).run Try.prog w36 = .ok (.slice a37 l37 c37) w38 ∧ ∃ (n39 : Int), cellH w38.heap b25 2 = some (.int .i64 n39) ∧ (∃ (m40 : Nat), m40 < k12 ∧ I11 m40 a37 l37 c37 n39 (IntKind.wrap .i64 (n18 + 1)) w38)) w27))))) ∧ (((n28 : Int) == n29) = false → ∃ (n41 : Int), cellH w27.heap b25 1 = some (.int .i64 n41) ∧ (0 ≤ (n17 : Int) ∧ (n17 : Int) ≤ n41 ∧ (n41 : Int) ≤ ((ByteArray.size s2 : Nat) : Int)) ∧ newC [.string (ByteArray.extract s2 (Int.toNat n17) (Int.toNat n41))] 9 (fun (b42 : Nat) (w43 : World) => ∃ (a44 : Option Addr), ∃ (l44 : Nat), ∃ (c44 : Nat), ∃ (w45 : World), (Builtin.append_ #[55, 55] 55 #[.slice a16 l16 c16, .slice (some ⟨b42, 0, none⟩) 1 1]).run Try.prog w43 = .ok (.slice a44 l44 c44) w45 ∧ ∃ (n46 : Int), cellH w45.heap b25 2 = some (.int .i64 n46) ∧ (∃ (m47 : Nat), m47 < k12 ∧ I11 m47 a44 l44 c44 n46 (IntKind.wrap .i64 (n18 + 1)) w45)) w27))) w26) w14) ∧ ((decide ((n18 : Int) < ((l8 : Nat) : Int))) = false → (0 ≤ (n17 : Int) ∧ (n17 : Int) ≤ ((ByteArray.size s2 : Nat) : Int)) ∧ newC [.string (ByteArray.extract s2 (Int.toNat n17) (ByteArray.size s2))] 9 (fun (b48 : Nat) (w49 : World) => ∃ (a50 : Option Addr), ∃ (l50 : Nat), ∃ (c50 : Nat), ∃ (w51 : World), (Builtin.append_ #[55, 55] 55 #[.slice a16 l16 c16, .slice (some ⟨b48, 0, none⟩) 1 1]).run Try.prog w49 = .ok (.slice a50 l50 c50) w51 ∧ R (.returned (.slice a50 l50 c50)) w51) w14))) (fun c w => R (.panicked c) w))))) (fun c w => R (.panicked c) w))
def scr51 : Scr := (.run [0] (.close (.run [0, 1, 2, 3, 4, 5, 6, 7] (.close (.run [0, 1] (.close (.cond (.run [0] (.close .nil)) (.run [0] (.close (.run [0] (.close (.run [0, 1, 2, 3, 4] (.close (.loop [(7, some .slice), (8, some (.int .i64)), (23, some (.int .i64)), (10, none), (24, none), (25, none), (26, none), (27, none), (28, none), (29, none), (30, none), (31, none), (32, none), (33, none), (34, none), (35, none), (36, none), (37, none), (38, none), (39, none), (40, none), (41, none), (42, none), (43, none), (44, none), (45, none), (46, none), (47, none), (48, none), (49, none), (50, none), (51, none), (52, none), (53, none), (54, none)] (.run [0] (.close (.cond (.run [0, 1, 2, 3] (.close (.run [0, 1, 2, 3, 4, 5] (.split 32 (.run [6, 7, 8, 9] (.split 36 (.run [10, 11, 12, 13, 14, 15, 16] (.close (.lit (.run [0, 1] (.close .nil))))) (.run [10, 11, 12, 13, 14, 15, 16] (.close (.cond (.run [0, 1] (.close .nil)) (.run [0, 1, 2, 3, 4, 5, 6, 7, 8] (.close (.run [0, 1, 2] (.close (.run [0, 1] (.close .nil))))))))))) (.run [6, 7, 8, 9, 10, 11, 12, 13, 14, 15, 16] (.close (.lit (.run [0, 1, 2, 3, 4, 5, 6, 7, 8] (.close (.run [0, 1, 2] (.close (.run [0, 1] (.close .nil))))))))))))) (.run [0, 1, 2, 3, 4, 5, 6] (.close .nil)))))))))))))))))))
theorem vc51 {s1 : ByteArray} {s2 : ByteArray} {R : Ending → World → Prop} {w : World} (h : V51 s1 s2 R w) : Cl Try.prog 51 [.string s1, .string s2] w R :=
  cl_of scr51 Try.func51 (by kernel_rfl) [.string s1, .string s2] (V51 s1 s2 R) (by kernel_rfl) h
end Go.Proofs.Ytngbiaeliphdjaa.V
/- Printed by vcgen.py, a program of this session: formulas of Go functions, each with the proof that it gives the function's contract. No statement of the seat is proved here. -/
namespace Go.Proofs.Ytngbiaeliphdjaa.V
open Go.Vc Go.Proofs
set_option linter.unusedVariables false
set_option maxRecDepth 100000
/-- spec.l2of -/
def V68 (s1 : ByteArray) (s2 : ByteArray) (R : Ending → World → Prop) : World → Prop := fun w =>
  Cl Try.prog 27 ([.string s1]) w (retG (fun (r8 : Value) (w7 : World) => ∃ (t3 : Bool), ∃ (n4 : Int), ∃ (n5 : Int), ∃ (a6 : Option Addr), ∃ (l6 : Nat), ∃ (c6 : Nat), r8 = .agg #[.bool t3, .int .i64 n4, .int .i64 n5, .slice a6 l6 c6] ∧ newC [.bool false, .int .i64 0, .int .i64 0, .slice none 0 0] 37 (fun (b9 : Nat) (w10 : World) => stW b9 0 [.bool t3, .int .i64 n4, .int .i64 n5, .slice a6 l6 c6] (fun (w11 : World) => ∃ (t12 : Bool), cellH w11.heap b9 0 = some (.bool t12) ∧ (((!t12) = true → newC [.bool false, .int .i64 0, .int .i64 0, .slice none 0 0, .string (⟨#[]⟩ : ByteArray), .slice none 0 0, .slice none 0 0] 124 (fun (b13 : Nat) (w14 : World) => R (.returned (.tuple #[.pointer (some ⟨b13, 0, none⟩), .bool false])) w14) w11) ∧ ((!t12) = false → (((decide ((((ByteArray.size s2 : Nat) : Int) : Int) > 200)) = true → newC [.bool false, .int .i64 0, .int .i64 0, .slice none 0 0, .string (⟨#[]⟩ : ByteArray), .slice none 0 0, .slice none 0 0] 124 (fun (b15 : Nat) (w16 : World) => R (.returned (.tuple #[.pointer (some ⟨b15, 0, none⟩), .bool false])) w16) w11) ∧ ((decide ((((ByteArray.size s2 : Nat) : Int) : Int) > 200)) = false → ∃ (t17 : Bool), cellH w11.heap b9 0 = some (.bool t17) ∧ ∃ (n18 : Int), cellH w11.heap b9 1 = some (.int .i64 n18) ∧ ∃ (n19 : Int), cellH w11.heap b9 2 = some (.int .i64 n19) ∧ ∃ (a20 : Option Addr), ∃ (l20 : Nat), ∃ (c20 : Nat), cellH w11.heap b9 3 = some (.slice a20 l20 c20) ∧ Cl Try.prog 108 ([.agg #[.bool t17, .int .i64 n18, .int .i64 n19, .slice a20 l20 c20], .string s2]) w11 (retG (fun (r24 : Value) (w23 : World) => ∃ (b21 : Nat), ∃ (o22 : Nat), r24 = .pointer (some ⟨b21, o22, none⟩) ∧ R (.returned (.tuple #[.pointer (some ⟨b21, o22, none⟩), .bool true])) w23) (fun c w => R (.panicked c) w))))))) w10) w7) (fun c w => R (.panicked c) w))
def scr68 : Scr := (.run [0, 1] (.close (.run [0, 1, 2, 3] (.close (.run [0, 1, 2, 3] (.split 12 (.run [4, 5, 6, 7] (.close (.lit (.run [0, 1, 2, 3] (.close .nil))))) (.run [4, 5, 6, 7] (.close (.cond (.run [0, 1, 2, 3] (.close .nil)) (.run [0, 1, 2, 3, 4] (.close .nil)))))))))))
theorem vc68 {s1 : ByteArray} {s2 : ByteArray} {R : Ending → World → Prop} {w : World} (h : V68 s1 s2 R w) : Cl Try.prog 68 [.string s1, .string s2] w R :=
  cl_of scr68 Try.func68 (by kernel_rfl) [.string s1, .string s2] (V68 s1 s2 R) (by kernel_rfl) h
/-- spec.l2machine -/
def V108 (t1 : Bool) (n2 : Int) (n3 : Int) (a4 : Option Addr) (l4 : Nat) (c4 : Nat) (s5 : ByteArray) (R : Ending → World → Prop) : World → Prop := fun w =>
  newC [.bool t1, .int .i64 n2, .int .i64 n3, .slice a4 l4 c4] 37 (fun (b6 : Nat) (w7 : World) => ∃ (a8 : Option Addr), ∃ (l8 : Nat), ∃ (c8 : Nat), cellH w7.heap b6 3 = some (.slice a8 l8 c8) ∧ drw (fun (w9 : World) => ∃ (t10 : Bool), cellH w9.heap b6 0 = some (.bool t10) ∧ ∃ (n11 : Int), cellH w9.heap b6 1 = some (.int .i64 n11) ∧ ∃ (n12 : Int), cellH w9.heap b6 2 = some (.int .i64 n12) ∧ ∃ (a13 : Option Addr), ∃ (l13 : Nat), ∃ (c13 : Nat), cellH w9.heap b6 3 = some (.slice a13 l13 c13) ∧ ((∃ (a14 : Option Addr), ∃ (l14 : Nat), ∃ (c14 : Nat), ∃ (w15 : World), (Instr.makeSlice 59 (.int .i64 (IntKind.wrap .i64 (((l8 : Nat) : Int) * (IntKind.wrap .i64 (((ByteArray.size s5 : Nat) : Int) + 1))))) (.int .i64 (IntKind.wrap .i64 (((l8 : Nat) : Int) * (IntKind.wrap .i64 (((ByteArray.size s5 : Nat) : Int) + 1)))))).run Try.prog w9 = .ok (.slice a14 l14 c14) w15 ∧ cellsAt w15.heap b6 0 [.bool t10, .int .i64 n11, .int .i64 n12, .slice a13 l13 c13] ∧ ∃ (a16 : Option Addr), ∃ (l16 : Nat), ∃ (c16 : Nat), ∃ (w17 : World), (Instr.makeSlice 122 (.int .i64 (IntKind.wrap .i64 (((l8 : Nat) : Int) * (IntKind.wrap .i64 (((ByteArray.size s5 : Nat) : Int) + 1))))) (.int .i64 (IntKind.wrap .i64 (((l8 : Nat) : Int) * (IntKind.wrap .i64 (((ByteArray.size s5 : Nat) : Int) + 1)))))).run Try.prog w15 = .ok (.slice a16 l16 c16) w17 ∧ cellsAt w17.heap b6 0 [.bool t10, .int .i64 n11, .int .i64 n12, .slice a13 l13 c13] ∧ newC [.bool t10, .int .i64 n11, .int .i64 n12, .slice a13 l13 c13, .string s5, .slice a14 l14 c14, .slice a16 l16 c16] 124 (fun (b18 : Nat) (w19 : World) => R (.returned (.pointer (some ⟨b18, 0, none⟩))) w19) w17) ∧ (∃ (a20 : Option Addr), ∃ (l20 : Nat), ∃ (c20 : Nat), ∃ (w21 : World), (Instr.makeSlice 122 (.int .i64 (IntKind.wrap .i64 (((l8 : Nat) : Int) * (IntKind.wrap .i64 (((ByteArray.size s5 : Nat) : Int) + 1))))) (.int .i64 (IntKind.wrap .i64 (((l8 : Nat) : Int) * (IntKind.wrap .i64 (((ByteArray.size s5 : Nat) : Int) + 1)))))).run Try.prog w9 = .ok (.slice a20 l20 c20) w21 ∧ cellsAt w21.heap b6 0 [.bool t10, .int .i64 n11, .int .i64 n12, .slice a13 l13 c13] ∧ ∃ (a22 : Option Addr), ∃ (l22 : Nat), ∃ (c22 : Nat), ∃ (w23 : World), (Instr.makeSlice 59 (.int .i64 (IntKind.wrap .i64 (((l8 : Nat) : Int) * (IntKind.wrap .i64 (((ByteArray.size s5 : Nat) : Int) + 1))))) (.int .i64 (IntKind.wrap .i64 (((l8 : Nat) : Int) * (IntKind.wrap .i64 (((ByteArray.size s5 : Nat) : Int) + 1)))))).run Try.prog w21 = .ok (.slice a22 l22 c22) w23 ∧ cellsAt w23.heap b6 0 [.bool t10, .int .i64 n11, .int .i64 n12, .slice a13 l13 c13] ∧ newC [.bool t10, .int .i64 n11, .int .i64 n12, .slice a13 l13 c13, .string s5, .slice a22 l22 c22, .slice a20 l20 c20] 124 (fun (b24 : Nat) (w25 : World) => R (.returned (.pointer (some ⟨b24, 0, none⟩))) w25) w23))) w7) w
def scr108 : Scr := (.run [0, 1] (.close (.run [0, 1, 2, 3, 4, 5, 6, 7] (.close (.run [0, 1, 2, 4] (.alt (.run [5, 6, 7, 8] (.close .nil)) (.run [3, 6, 7, 8] (.close .nil))))))))
theorem vc108 {t1 : Bool} {n2 : Int} {n3 : Int} {a4 : Option Addr} {l4 : Nat} {c4 : Nat} {s5 : ByteArray} {R : Ending → World → Prop} {w : World} (h : V108 t1 n2 n3 a4 l4 c4 s5 R w) : Cl Try.prog 108 [.agg #[.bool t1, .int .i64 n2, .int .i64 n3, .slice a4 l4 c4], .string s5] w R :=
  cl_of scr108 Try.func108 (by kernel_rfl) [.agg #[.bool t1, .int .i64 n2, .int .i64 n3, .slice a4 l4 c4], .string s5] (V108 t1 n2 n3 a4 l4 c4 s5 R) (by kernel_rfl) h
/-- (*spec.l2M).ways -/
def V88 (b1 : Nat) (o2 : Nat) (n3 : Int) (R : Ending → World → Prop) : World → Prop := fun w =>
  ∃ (a4 : Option Addr), ∃ (l4 : Nat), ∃ (c4 : Nat), cellH w.heap b1 (o2 + 3) = some (.slice a4 l4 c4) ∧ Cl Try.prog 121 ([.pointer (some ⟨b1, o2, none⟩), .int .i64 (IntKind.wrap .i64 (((l4 : Nat) : Int) - 1)), .int .i64 n3]) w (retG (fun (r7 : Value) (w6 : World) => ∃ (a5 : Option Addr), ∃ (l5 : Nat), ∃ (c5 : Nat), r7 = .slice a5 l5 c5 ∧ ∃ (I8 : Nat → Option Addr → Nat → Nat → Int → World → Prop), (∃ (k10 : Nat), I8 k10 none 0 0 0 w6) ∧ ∀ (k9 : Nat) (d12 : Nat → Value) (a13 : Option Addr) (l13 : Nat) (c13 : Nat) (n14 : Int) (w11 : World), I8 k9 a13 l13 c13 n14 w11 → (((decide ((n14 : Int) < ((l5 : Nat) : Int))) = true → ∃ (b15 : Nat) (o16 : Nat), ((a5 : Option Addr) = some ⟨b15, o16, none⟩ ∧ 0 ≤ (n14 : Int) ∧ (n14 : Int) < ((l5 : Nat) : Int)) ∧ ∃ (n17 : Int), cellH w11.heap b15 (o16 + (Int.toNat n14) * 2) = some (.int .i64 n17) ∧ ∃ (a18 : Option Addr), ∃ (l18 : Nat), ∃ (c18 : Nat), cellH w11.heap b15 (o16 + (Int.toNat n14) * 2 + 1) = some (.slice a18 l18 c18) ∧ newC [.int .i64 0, .slice none 0 0] 150 (fun (b19 : Nat) (w20 : World) => stW b19 0 [.int .i64 n17, .slice a18 l18 c18] (fun (w21 : World) => ∃ (n22 : Int), cellH w21.heap b19 0 = some (.int .i64 n22) ∧ newC [.bool false, .int .i64 0, .int .i64 0, .slice none 0 0] 29 (fun (b23 : Nat) (w24 : World) => stW b23 0 [.bool true, .int .i64 n3, .int .i64 n22, .slice none 0 0] (fun (w25 : World) => ∃ (a26 : Option Addr), ∃ (l26 : Nat), ∃ (c26 : Nat), cellH w25.heap b19 1 = some (.slice a26 l26 c26) ∧ ∃ (I27 : Nat → Int → World → Prop), (∃ (k29 : Nat), I27 k29 0 w25) ∧ ∀ (k28 : Nat) (d31 : Nat → Value) (n32 : Int) (w30 : World), I27 k28 n32 w30 → (((decide ((n32 : Int) < ((l26 : Nat) : Int))) = true → ∃ (b33 : Nat) (o34 : Nat), ((a26 : Option Addr) = some ⟨b33, o34, none⟩ ∧ 0 ≤ (n32 : Int) ∧ (n32 : Int) < ((l26 : Nat) : Int)) ∧ ∃ (n35 : Int), cellH w30.heap b33 (o34 + (Int.toNat n32) * 2) = some (.int .i64 n35) ∧ ∃ (n36 : Int), cellH w30.heap b33 (o34 + (Int.toNat n32) * 2 + 1) = some (.int .i64 n36) ∧ newC [.int .i64 0, .int .i64 0] 31 (fun (b37 : Nat) (w38 : World) => stW b37 0 [.int .i64 n35, .int .i64 n36] (fun (w39 : World) => ∃ (n40 : Int), cellH w39.heap b37 0 = some (.int .i64 n40) ∧ ((((n40 : Int) == (-2)) = true → stW b37 0 [.int .i64 (-1), .int .i64 (-1)] (fun (w41 : World) => ∃ (a42 : Option Addr), ∃ (l42 : Nat), ∃ (c42 : Nat), cellH w41.heap b23 3 = some (.slice a42 l42 c42) ∧ ∃ (n43 : Int), cellH w41.heap b37 0 = some (.int .i64 n43) ∧ ∃ (n44 : Int), cellH w41.heap b37 1 = some (.int .i64 n44) ∧ newC [.int .i64 n43, .int .i64 n44] 31 (fun (b45 : Nat) (w46 : World) => ∃ (a47 : Option Addr), ∃ (l47 : Nat), ∃ (c47 : Nat), ∃ (w48 : World), (Builtin.append_ #[27, 27] 27 #[.slice a42 l42 c42, .slice (some ⟨b45, 0, none⟩) 1 1]).run Try.prog w46 = .ok (.slice a47 l47 c47) w48 ∧ stW b23 3 [.slice a47 l47 c47] (fun (w49 : World) => (∃ (m50 : Nat), m50 < k28 ∧ I27 m50 (IntKind.wrap .i64 (n32 + 1)) w49)) w48) w41) w39) ∧ (((n40 : Int) == (-2)) = false → ∃ (a51 : Option Addr), ∃ (l51 : Nat), ∃ (c51 : Nat), cellH w39.heap b23 3 = some (.slice a51 l51 c51) ∧ ∃ (n52 : Int), cellH w39.heap b37 0 = some (.int .i64 n52) ∧ ∃ (n53 : Int), cellH w39.heap b37 1 = some (.int .i64 n53) ∧ newC [.int .i64 n52, .int .i64 n53] 31 (fun (b54 : Nat) (w55 : World) => ∃ (a56 : Option Addr), ∃ (l56 : Nat), ∃ (c56 : Nat), ∃ (w57 : World), (Builtin.append_ #[27, 27] 27 #[.slice a51 l51 c51, .slice (some ⟨b54, 0, none⟩) 1 1]).run Try.prog w55 = .ok (.slice a56 l56 c56) w57 ∧ stW b23 3 [.slice a56 l56 c56] (fun (w58 : World) => (∃ (m59 : Nat), m59 < k28 ∧ I27 m59 (IntKind.wrap .i64 (n32 + 1)) w58)) w57) w39))) w38) w30) ∧ ((decide ((n32 : Int) < ((l26 : Nat) : Int))) = false → ∃ (t60 : Bool), cellH w30.heap b23 0 = some (.bool t60) ∧ ∃ (n61 : Int), cellH w30.heap b23 1 = some (.int .i64 n61) ∧ ∃ (n62 : Int), cellH w30.heap b23 2 = some (.int .i64 n62) ∧ ∃ (a63 : Option Addr), ∃ (l63 : Nat), ∃ (c63 : Nat), cellH w30.heap b23 3 = some (.slice a63 l63 c63) ∧ newC [.bool t60, .int .i64 n61, .int .i64 n62, .slice a63 l63 c63] 29 (fun (b64 : Nat) (w65 : World) => ∃ (a66 : Option Addr), ∃ (l66 : Nat), ∃ (c66 : Nat), ∃ (w67 : World), (Builtin.append_ #[25, 25] 25 #[.slice a13 l13 c13, .slice (some ⟨b64, 0, none⟩) 1 1]).run Try.prog w65 = .ok (.slice a66 l66 c66) w67 ∧ (∃ (m68 : Nat), m68 < k9 ∧ I8 m68 a66 l66 c66 (IntKind.wrap .i64 (n14 + 1)) w67)) w30))) w24) w21) w20) w11) ∧ ((decide ((n14 : Int) < ((l5 : Nat) : Int))) = false → R (.returned (.slice a13 l13 c13)) w11))) (fun c w => R (.panicked c) w))
def scr88 : Scr := (.run [0] (.close (.run [0] (.close (.run [0, 1, 2, 3, 4, 5, 6, 7, 8, 9, 10, 11] (.close (.loop [(5, some .slice), (22, some (.int .i64)), (7, none), (8, none), (10, none), (23, none), (24, none), (25, none), (26, none), (27, none), (28, none), (29, none), (30, none), (31, none), (32, none), (33, none), (34, none), (35, none), (36, none), (37, none), (38, none), (39, none), (40, none), (41, none), (42, none), (43, none), (44, none), (45, none), (46, none), (47, none), (48, none), (49, none), (50, none), (51, none), (52, none)] (.run [0] (.close (.cond (.run [0, 1, 2, 3] (.close (.run [0, 1, 2, 3, 4, 5] (.close (.run [0, 1, 2, 3] (.close (.loop [(33, some (.int .i64)), (10, none), (34, none), (35, none), (36, none), (37, none), (38, none), (39, none), (40, none), (41, none), (42, none), (43, none), (44, none), (45, none), (46, none), (47, none)] (.run [0] (.close (.cond (.run [0, 1, 2, 3] (.close (.run [0, 1, 2] (.close (.cond (.run [0, 1] (.close (.run [0, 1, 2, 3, 4, 5, 6] (.close (.run [0, 1] (.close .nil)))))) (.run [0, 1, 2, 3, 4, 5, 6] (.close (.run [0, 1] (.close .nil))))))))) (.run [0, 1, 2, 3, 4] (.close (.run [0, 1] (.close .nil)))))))))))))) (.run [0, 1] (.close .nil))))))))))))
theorem vc88 {b1 : Nat} {o2 : Nat} {n3 : Int} {R : Ending → World → Prop} {w : World} (h : V88 b1 o2 n3 R w) : Cl Try.prog 88 [.pointer (some ⟨b1, o2, none⟩), .int .i64 n3] w R :=
  cl_of scr88 Try.func88 (by kernel_rfl) [.pointer (some ⟨b1, o2, none⟩), .int .i64 n3] (V88 b1 o2 n3 R) (by kernel_rfl) h
/-- (*spec.l2M).find -/
def V92 (b1 : Nat) (o2 : Nat) (n3 : Int) (R : Ending → World → Prop) : World → Prop := fun w =>
  newC [.bool false, .int .i64 0, .int .i64 0, .slice none 0 0] 29 (fun (b4 : Nat) (w5 : World) => ∃ (I6 : Nat → Int → World → Prop), (∃ (k8 : Nat), I6 k8 n3 w5) ∧ ∀ (k7 : Nat) (d10 : Nat → Value) (n11 : Int) (w9 : World), I6 k7 n11 w9 → ∃ (s12 : ByteArray), cellH w9.heap b1 (o2 + 4) = some (.string s12) ∧ (((decide ((n11 : Int) ≤ ((ByteArray.size s12 : Nat) : Int))) = true → Cl Try.prog 88 ([.pointer (some ⟨b1, o2, none⟩), .int .i64 n11]) w9 (retG (fun (r15 : Value) (w14 : World) => ∃ (a13 : Option Addr), ∃ (l13 : Nat), ∃ (c13 : Nat), r15 = .slice a13 l13 c13 ∧ (((decide ((((l13 : Nat) : Int) : Int) > 0)) = true → ∃ (b16 : Nat) (o17 : Nat), ((a13 : Option Addr) = some ⟨b16, o17, none⟩ ∧ 0 ≤ (0 : Int) ∧ (0 : Int) < ((l13 : Nat) : Int)) ∧ ∃ (t18 : Bool), cellH w14.heap b16 o17 = some (.bool t18) ∧ ∃ (n19 : Int), cellH w14.heap b16 (o17 + 1) = some (.int .i64 n19) ∧ ∃ (n20 : Int), cellH w14.heap b16 (o17 + 2) = some (.int .i64 n20) ∧ ∃ (a21 : Option Addr), ∃ (l21 : Nat), ∃ (c21 : Nat), cellH w14.heap b16 (o17 + 3) = some (.slice a21 l21 c21) ∧ stW b4 0 [.bool t18, .int .i64 n19, .int .i64 n20, .slice a21 l21 c21] (fun (w22 : World) => ∃ (t23 : Bool), cellH w22.heap b4 0 = some (.bool t23) ∧ ∃ (n24 : Int), cellH w22.heap b4 1 = some (.int .i64 n24) ∧ ∃ (n25 : Int), cellH w22.heap b4 2 = some (.int .i64 n25) ∧ ∃ (a26 : Option Addr), ∃ (l26 : Nat), ∃ (c26 : Nat), cellH w22.heap b4 3 = some (.slice a26 l26 c26) ∧ R (.returned (.agg #[.bool t23, .int .i64 n24, .int .i64 n25, .slice a26 l26 c26])) w22) w14) ∧ ((decide ((((l13 : Nat) : Int) : Int) > 0)) = false → (∃ (m27 : Nat), m27 < k7 ∧ I6 m27 (IntKind.wrap .i64 (n11 + 1)) w14)))) (fun c w => R (.panicked c) w))) ∧ ((decide ((n11 : Int) ≤ ((ByteArray.size s12 : Nat) : Int))) = false → stW b4 0 [.bool false, .int .i64 0, .int .i64 0, .slice none 0 0] (fun (w28 : World) => ∃ (t29 : Bool), cellH w28.heap b4 0 = some (.bool t29) ∧ ∃ (n30 : Int), cellH w28.heap b4 1 = some (.int .i64 n30) ∧ ∃ (n31 : Int), cellH w28.heap b4 2 = some (.int .i64 n31) ∧ ∃ (a32 : Option Addr), ∃ (l32 : Nat), ∃ (c32 : Nat), cellH w28.heap b4 3 = some (.slice a32 l32 c32) ∧ R (.returned (.agg #[.bool t29, .int .i64 n30, .int .i64 n31, .slice a32 l32 c32])) w28) w9))) w
def scr92 : Scr := (.run [0] (.close (.run [0, 1] (.close (.loop [(5, some (.int .i64)), (6, none), (8, none), (9, none), (10, none), (11, none), (12, none), (13, none), (14, none), (15, none), (16, none), (17, none), (18, none), (19, none), (20, none), (21, none), (22, none), (23, none), (24, none), (25, none)] (.run [0, 1, 2, 3, 4, 5, 6] (.close (.cond (.run [0, 1, 2, 3] (.close (.run [0, 1, 2] (.close (.cond (.run [0, 1, 2, 3] (.close .nil)) (.run [0, 1, 2] (.close .nil))))))) (.run [0, 1] (.close .nil))))))))))
theorem vc92 {b1 : Nat} {o2 : Nat} {n3 : Int} {R : Ending → World → Prop} {w : World} (h : V92 b1 o2 n3 R w) : Cl Try.prog 92 [.pointer (some ⟨b1, o2, none⟩), .int .i64 n3] w R :=
  cl_of scr92 Try.func92 (by kernel_rfl) [.pointer (some ⟨b1, o2, none⟩), .int .i64 n3] (V92 b1 o2 n3 R) (by kernel_rfl) h
/-- (*spec.l2M).all -/
def V69 (b1 : Nat) (o2 : Nat) (R : Ending → World → Prop) : World → Prop := fun w =>
  ∃ (I3 : Nat → Option Addr → Nat → Nat → Int → World → Prop), (∃ (k5 : Nat), I3 k5 none 0 0 0 w) ∧ ∀ (k4 : Nat) (d7 : Nat → Value) (a8 : Option Addr) (l8 : Nat) (c8 : Nat) (n9 : Int) (w6 : World), I3 k4 a8 l8 c8 n9 w6 → ∃ (s10 : ByteArray), cellH w6.heap b1 (o2 + 4) = some (.string s10) ∧ (((decide ((n9 : Int) ≤ ((ByteArray.size s10 : Nat) : Int))) = true → Cl Try.prog 92 ([.pointer (some ⟨b1, o2, none⟩), .int .i64 n9]) w6 (retG (fun (r16 : Value) (w15 : World) => ∃ (t11 : Bool), ∃ (n12 : Int), ∃ (n13 : Int), ∃ (a14 : Option Addr), ∃ (l14 : Nat), ∃ (c14 : Nat), r16 = .agg #[.bool t11, .int .i64 n12, .int .i64 n13, .slice a14 l14 c14] ∧ newC [.bool false, .int .i64 0, .int .i64 0, .slice none 0 0] 29 (fun (b17 : Nat) (w18 : World) => stW b17 0 [.bool t11, .int .i64 n12, .int .i64 n13, .slice a14 l14 c14] (fun (w19 : World) => ∃ (t20 : Bool), cellH w19.heap b17 0 = some (.bool t20) ∧ (((!t20) = true → R (.returned (.slice a8 l8 c8)) w19) ∧ ((!t20) = false → ∃ (t21 : Bool), cellH w19.heap b17 0 = some (.bool t21) ∧ ∃ (n22 : Int), cellH w19.heap b17 1 = some (.int .i64 n22) ∧ ∃ (n23 : Int), cellH w19.heap b17 2 = some (.int .i64 n23) ∧ ∃ (a24 : Option Addr), ∃ (l24 : Nat), ∃ (c24 : Nat), cellH w19.heap b17 3 = some (.slice a24 l24 c24) ∧ newC [.bool t21, .int .i64 n22, .int .i64 n23, .slice a24 l24 c24] 29 (fun (b25 : Nat) (w26 : World) => ∃ (a27 : Option Addr), ∃ (l27 : Nat), ∃ (c27 : Nat), ∃ (w28 : World), (Builtin.append_ #[25, 25] 25 #[.slice a8 l8 c8, .slice (some ⟨b25, 0, none⟩) 1 1]).run Try.prog w26 = .ok (.slice a27 l27 c27) w28 ∧ ∃ (n29 : Int), cellH w28.heap b17 2 = some (.int .i64 n29) ∧ ∃ (n30 : Int), cellH w28.heap b17 2 = some (.int .i64 n30) ∧ ∃ (n31 : Int), cellH w28.heap b17 1 = some (.int .i64 n31) ∧ ((((n30 : Int) == n31) = true → (∃ (m32 : Nat), m32 < k4 ∧ I3 m32 a27 l27 c27 (IntKind.wrap .i64 (n29 + 1)) w28)) ∧ (((n30 : Int) == n31) = false → (∃ (m33 : Nat), m33 < k4 ∧ I3 m33 a27 l27 c27 n29 w28)))) w19))) w18) w15) (fun c w => R (.panicked c) w))) ∧ ((decide ((n9 : Int) ≤ ((ByteArray.size s10 : Nat) : Int))) = false → R (.returned (.slice a8 l8 c8)) w6))
def scr69 : Scr := (.run [0] (.close (.run [0] (.close (.run [0] (.close (.loop [(3, some .slice), (4, some (.int .i64)), (2, none), (5, none), (6, none), (7, none), (8, none), (9, none), (10, none), (11, none), (12, none), (13, none), (14, none), (15, none), (16, none), (17, none), (18, none), (19, none), (20, none), (21, none), (22, none), (23, none), (24, none), (25, none), (26, none), (27, none), (28, none), (29, none), (30, none), (31, none), (32, none)] (.run [0, 1, 2, 3, 4, 5, 6] (.close (.cond (.run [0, 1, 2, 3, 4] (.close (.run [0, 1, 2] (.close (.cond (.run [0, 1] (.close .nil)) (.run [0, 1, 2, 3, 4] (.close (.run [0, 1, 2] (.close (.run [0, 1, 2, 3, 4] (.close (.cond (.run [0, 1, 2] (.close .nil)) .nil)))))))))))) (.run [0, 1] (.close .nil))))))))))))
theorem vc69 {b1 : Nat} {o2 : Nat} {R : Ending → World → Prop} {w : World} (h : V69 b1 o2 R w) : Cl Try.prog 69 [.pointer (some ⟨b1, o2, none⟩)] w R :=
  cl_of scr69 Try.func69 (by kernel_rfl) [.pointer (some ⟨b1, o2, none⟩)] (V69 b1 o2 R) (by kernel_rfl) h
/-- spec.All -/
def V21 (s1 : ByteArray) (s2 : ByteArray) (R : Ending → World → Prop) : World → Prop := fun w =>
  Cl Try.prog 68 ([.string s1, .string s2]) w (retG (fun (r7 : Value) (w6 : World) => ∃ (b3 : Nat), ∃ (o4 : Nat), ∃ (t5 : Bool), r7 = .tuple #[.pointer (some ⟨b3, o4, none⟩), .bool t5] ∧ (((!t5) = true → R (.returned (.slice none 0 0)) w6) ∧ ((!t5) = false → Cl Try.prog 69 ([.pointer (some ⟨b3, o4, none⟩)]) w6 (retG (fun (r10 : Value) (w9 : World) => ∃ (a8 : Option Addr), ∃ (l8 : Nat), ∃ (c8 : Nat), r10 = .slice a8 l8 c8 ∧ R (.returned (.slice a8 l8 c8)) w9) (fun c w => R (.panicked c) w))))) (fun c w => R (.panicked c) w))
def scr21 : Scr := (.run [0] (.close (.run [0, 1, 2, 3, 4, 5, 6, 7] (.close (.run [0, 1] (.close (.cond (.run [0] (.close .nil)) (.run [0, 1, 2] (.close .nil)))))))))
theorem vc21 {s1 : ByteArray} {s2 : ByteArray} {R : Ending → World → Prop} {w : World} (h : V21 s1 s2 R w) : Cl Try.prog 21 [.string s1, .string s2] w R :=
  cl_of scr21 Try.func21 (by kernel_rfl) [.string s1, .string s2] (V21 s1 s2 R) (by kernel_rfl) h
/-- spec.Count -/
def V39 (s1 : ByteArray) (s2 : ByteArray) (R : Ending → World → Prop) : World → Prop := fun w =>
  Cl Try.prog 21 ([.string s1, .string s2]) w (retG (fun (r5 : Value) (w4 : World) => ∃ (a3 : Option Addr), ∃ (l3 : Nat), ∃ (c3 : Nat), r5 = .slice a3 l3 c3 ∧ R (.returned (.int .i64 ((l3 : Nat) : Int))) w4) (fun c w => R (.panicked c) w))
def scr39 : Scr := (.run [0] (.close (.run [0, 1, 2, 3] (.close (.run [0, 1, 2] (.close .nil))))))
theorem vc39 {s1 : ByteArray} {s2 : ByteArray} {R : Ending → World → Prop} {w : World} (h : V39 s1 s2 R w) : Cl Try.prog 39 [.string s1, .string s2] w R :=
  cl_of scr39 Try.func39 (by kernel_rfl) [.string s1, .string s2] (V39 s1 s2 R) (by kernel_rfl) h
/-- spec.Ways -/
def V46 (s1 : ByteArray) (s2 : ByteArray) (n3 : Int) (R : Ending → World → Prop) : World → Prop := fun w =>
  Cl Try.prog 68 ([.string s1, .string s2]) w (retG (fun (r8 : Value) (w7 : World) => ∃ (b4 : Nat), ∃ (o5 : Nat), ∃ (t6 : Bool), r8 = .tuple #[.pointer (some ⟨b4, o5, none⟩), .bool t6] ∧ (((!t6) = true → R (.returned (.slice none 0 0)) w7) ∧ ((!t6) = false → (((decide ((n3 : Int) < 0)) = true → R (.returned (.slice none 0 0)) w7) ∧ ((decide ((n3 : Int) < 0)) = false → (((decide ((n3 : Int) > ((ByteArray.size s2 : Nat) : Int))) = true → R (.returned (.slice none 0 0)) w7) ∧ ((decide ((n3 : Int) > ((ByteArray.size s2 : Nat) : Int))) = false → Cl Try.prog 88 ([.pointer (some ⟨b4, o5, none⟩), .int .i64 n3]) w7 (retG (fun (r11 : Value) (w10 : World) => ∃ (a9 : Option Addr), ∃ (l9 : Nat), ∃ (c9 : Nat), r11 = .slice a9 l9 c9 ∧ R (.returned (.slice a9 l9 c9)) w10) (fun c w => R (.panicked c) w))))))))) (fun c w => R (.panicked c) w))
def scr46 : Scr := (.run [0] (.close (.run [0, 1, 2, 3, 4, 5, 6, 7] (.close (.run [0, 1, 2] (.split 17 (.run [3, 4, 5, 6, 7, 8, 9, 10, 11] (.close (.lit (.run [0] (.close .nil))))) (.run [3, 4, 5, 6] (.split 21 (.run [7, 8, 9, 10, 11] (.close (.lit (.run [0] (.close .nil))))) (.run [7, 8, 9, 10, 11] (.close (.cond (.run [0] (.close .nil)) (.run [0, 1, 2, 3] (.close .nil)))))))))))))
theorem vc46 {s1 : ByteArray} {s2 : ByteArray} {n3 : Int} {R : Ending → World → Prop} {w : World} (h : V46 s1 s2 n3 R w) : Cl Try.prog 46 [.string s1, .string s2, .int .i64 n3] w R :=
  cl_of scr46 Try.func46 (by kernel_rfl) [.string s1, .string s2, .int .i64 n3] (V46 s1 s2 n3 R) (by kernel_rfl) h
/-- spec.Find -/
def V44 (s1 : ByteArray) (s2 : ByteArray) (n3 : Int) (R : Ending → World → Prop) : World → Prop := fun w =>
  newC [.bool false, .int .i64 0, .int .i64 0, .slice none 0 0] 29 (fun (b4 : Nat) (w5 : World) => Cl Try.prog 68 ([.string s1, .string s2]) w5 (retG (fun (r10 : Value) (w9 : World) => ∃ (b6 : Nat), ∃ (o7 : Nat), ∃ (t8 : Bool), r10 = .tuple #[.pointer (some ⟨b6, o7, none⟩), .bool t8] ∧ (((!t8) = true → stW b4 0 [.bool false, .int .i64 0, .int .i64 0, .slice none 0 0] (fun (w11 : World) => ∃ (t12 : Bool), cellH w11.heap b4 0 = some (.bool t12) ∧ ∃ (n13 : Int), cellH w11.heap b4 1 = some (.int .i64 n13) ∧ ∃ (n14 : Int), cellH w11.heap b4 2 = some (.int .i64 n14) ∧ ∃ (a15 : Option Addr), ∃ (l15 : Nat), ∃ (c15 : Nat), cellH w11.heap b4 3 = some (.slice a15 l15 c15) ∧ R (.returned (.agg #[.bool t12, .int .i64 n13, .int .i64 n14, .slice a15 l15 c15])) w11) w9) ∧ ((!t8) = false → (((decide ((n3 : Int) < 0)) = true → stW b4 0 [.bool false, .int .i64 0, .int .i64 0, .slice none 0 0] (fun (w16 : World) => ∃ (t17 : Bool), cellH w16.heap b4 0 = some (.bool t17) ∧ ∃ (n18 : Int), cellH w16.heap b4 1 = some (.int .i64 n18) ∧ ∃ (n19 : Int), cellH w16.heap b4 2 = some (.int .i64 n19) ∧ ∃ (a20 : Option Addr), ∃ (l20 : Nat), ∃ (c20 : Nat), cellH w16.heap b4 3 = some (.slice a20 l20 c20) ∧ R (.returned (.agg #[.bool t17, .int .i64 n18, .int .i64 n19, .slice a20 l20 c20])) w16) w9) ∧ ((decide ((n3 : Int) < 0)) = false → (((decide ((n3 : Int) > ((ByteArray.size s2 : Nat) : Int))) = true → stW b4 0 [.bool false, .int .i64 0, .int .i64 0, .slice none 0 0] (fun (w21 : World) => ∃ (t22 : Bool), cellH w21.heap b4 0 = some (.bool t22) ∧ ∃ (n23 : Int), cellH w21.heap b4 1 = some (.int .i64 n23) ∧ ∃ (n24 : Int), cellH w21.heap b4 2 = some (.int .i64 n24) ∧ ∃ (a25 : Option Addr), ∃ (l25 : Nat), ∃ (c25 : Nat), cellH w21.heap b4 3 = some (.slice a25 l25 c25) ∧ R (.returned (.agg #[.bool t22, .int .i64 n23, .int .i64 n24, .slice a25 l25 c25])) w21) w9) ∧ ((decide ((n3 : Int) > ((ByteArray.size s2 : Nat) : Int))) = false → Cl Try.prog 92 ([.pointer (some ⟨b6, o7, none⟩), .int .i64 n3]) w9 (retG (fun (r31 : Value) (w30 : World) => ∃ (t26 : Bool), ∃ (n27 : Int), ∃ (n28 : Int), ∃ (a29 : Option Addr), ∃ (l29 : Nat), ∃ (c29 : Nat), r31 = .agg #[.bool t26, .int .i64 n27, .int .i64 n28, .slice a29 l29 c29] ∧ stW b4 0 [.bool t26, .int .i64 n27, .int .i64 n28, .slice a29 l29 c29] (fun (w32 : World) => ∃ (t33 : Bool), cellH w32.heap b4 0 = some (.bool t33) ∧ ∃ (n34 : Int), cellH w32.heap b4 1 = some (.int .i64 n34) ∧ ∃ (n35 : Int), cellH w32.heap b4 2 = some (.int .i64 n35) ∧ ∃ (a36 : Option Addr), ∃ (l36 : Nat), ∃ (c36 : Nat), cellH w32.heap b4 3 = some (.slice a36 l36 c36) ∧ R (.returned (.agg #[.bool t33, .int .i64 n34, .int .i64 n35, .slice a36 l36 c36])) w32) w30) (fun c w => R (.panicked c) w))))))))) (fun c w => R (.panicked c) w))) w
def scr44 : Scr := (.run [0] (.close (.run [0, 1, 2, 3, 4, 5, 6, 7] (.close (.run [0, 1, 2] (.split 17 (.run [3, 4, 5, 6, 7, 8, 9, 10, 11] (.close (.lit (.run [0, 1] (.close .nil))))) (.run [3, 4, 5, 6] (.split 21 (.run [7, 8, 9, 10, 11] (.close (.lit (.run [0, 1] (.close .nil))))) (.run [7, 8, 9, 10, 11] (.close (.cond (.run [0, 1] (.close .nil)) (.run [0, 1, 2, 3] (.close .nil)))))))))))))
theorem vc44 {s1 : ByteArray} {s2 : ByteArray} {n3 : Int} {R : Ending → World → Prop} {w : World} (h : V44 s1 s2 n3 R w) : Cl Try.prog 44 [.string s1, .string s2, .int .i64 n3] w R :=
  cl_of scr44 Try.func44 (by kernel_rfl) [.string s1, .string s2, .int .i64 n3] (V44 s1 s2 n3 R) (by kernel_rfl) h
/-- spec.Whole -/
def V40 (s1 : ByteArray) (s2 : ByteArray) (R : Ending → World → Prop) : World → Prop := fun w =>
  newC [.bool false, .int .i64 0, .int .i64 0, .slice none 0 0] 29 (fun (b3 : Nat) (w4 : World) => Cl Try.prog 68 ([.string s1, .string s2]) w4 (retG (fun (r9 : Value) (w8 : World) => ∃ (b5 : Nat), ∃ (o6 : Nat), ∃ (t7 : Bool), r9 = .tuple #[.pointer (some ⟨b5, o6, none⟩), .bool t7] ∧ (((!t7) = true → stW b3 0 [.bool false, .int .i64 0, .int .i64 0, .slice none 0 0] (fun (w10 : World) => ∃ (t11 : Bool), cellH w10.heap b3 0 = some (.bool t11) ∧ ∃ (n12 : Int), cellH w10.heap b3 1 = some (.int .i64 n12) ∧ ∃ (n13 : Int), cellH w10.heap b3 2 = some (.int .i64 n13) ∧ ∃ (a14 : Option Addr), ∃ (l14 : Nat), ∃ (c14 : Nat), cellH w10.heap b3 3 = some (.slice a14 l14 c14) ∧ R (.returned (.agg #[.bool t11, .int .i64 n12, .int .i64 n13, .slice a14 l14 c14])) w10) w8) ∧ ((!t7) = false → Cl Try.prog 88 ([.pointer (some ⟨b5, o6, none⟩), .int .i64 0]) w8 (retG (fun (r17 : Value) (w16 : World) => ∃ (a15 : Option Addr), ∃ (l15 : Nat), ∃ (c15 : Nat), r17 = .slice a15 l15 c15 ∧ ∃ (I18 : Nat → Int → World → Prop), (∃ (k20 : Nat), I18 k20 0 w16) ∧ ∀ (k19 : Nat) (d22 : Nat → Value) (n23 : Int) (w21 : World), I18 k19 n23 w21 → (((decide ((n23 : Int) < ((l15 : Nat) : Int))) = true → ∃ (b24 : Nat) (o25 : Nat), ((a15 : Option Addr) = some ⟨b24, o25, none⟩ ∧ 0 ≤ (n23 : Int) ∧ (n23 : Int) < ((l15 : Nat) : Int)) ∧ ∃ (t26 : Bool), cellH w21.heap b24 (o25 + (Int.toNat n23) * 4) = some (.bool t26) ∧ ∃ (n27 : Int), cellH w21.heap b24 (o25 + (Int.toNat n23) * 4 + 1) = some (.int .i64 n27) ∧ ∃ (n28 : Int), cellH w21.heap b24 (o25 + (Int.toNat n23) * 4 + 2) = some (.int .i64 n28) ∧ ∃ (a29 : Option Addr), ∃ (l29 : Nat), ∃ (c29 : Nat), cellH w21.heap b24 (o25 + (Int.toNat n23) * 4 + 3) = some (.slice a29 l29 c29) ∧ newC [.bool false, .int .i64 0, .int .i64 0, .slice none 0 0] 29 (fun (b30 : Nat) (w31 : World) => stW b30 0 [.bool t26, .int .i64 n27, .int .i64 n28, .slice a29 l29 c29] (fun (w32 : World) => ∃ (n33 : Int), cellH w32.heap b30 2 = some (.int .i64 n33) ∧ ((((n33 : Int) == ((ByteArray.size s2 : Nat) : Int)) = true → ∃ (t34 : Bool), cellH w32.heap b30 0 = some (.bool t34) ∧ ∃ (n35 : Int), cellH w32.heap b30 1 = some (.int .i64 n35) ∧ ∃ (n36 : Int), cellH w32.heap b30 2 = some (.int .i64 n36) ∧ ∃ (a37 : Option Addr), ∃ (l37 : Nat), ∃ (c37 : Nat), cellH w32.heap b30 3 = some (.slice a37 l37 c37) ∧ stW b3 0 [.bool t34, .int .i64 n35, .int .i64 n36, .slice a37 l37 c37] (fun (w38 : World) => ∃ (t39 : Bool), cellH w38.heap b3 0 = some (.bool t39) ∧ ∃ (n40 : Int), cellH w38.heap b3 1 = some (.int .i64 n40) ∧ ∃ (n41 : Int), cellH w38.heap b3 2 = some (.int .i64 n41) ∧ ∃ (a42 : Option Addr), ∃ (l42 : Nat), ∃ (c42 : Nat), cellH w38.heap b3 3 = some (.slice a42 l42 c42) ∧ R (.returned (.agg #[.bool t39, .int .i64 n40, .int .i64 n41, .slice a42 l42 c42])) w38) w32) ∧ (((n33 : Int) == ((ByteArray.size s2 : Nat) : Int)) = false → (∃ (m43 : Nat), m43 < k19 ∧ I18 m43 (IntKind.wrap .i64 (n23 + 1)) w32)))) w31) w21) ∧ ((decide ((n23 : Int) < ((l15 : Nat) : Int))) = false → stW b3 0 [.bool false, .int .i64 0, .int .i64 0, .slice none 0 0] (fun (w44 : World) => ∃ (t45 : Bool), cellH w44.heap b3 0 = some (.bool t45) ∧ ∃ (n46 : Int), cellH w44.heap b3 1 = some (.int .i64 n46) ∧ ∃ (n47 : Int), cellH w44.heap b3 2 = some (.int .i64 n47) ∧ ∃ (a48 : Option Addr), ∃ (l48 : Nat), ∃ (c48 : Nat), cellH w44.heap b3 3 = some (.slice a48 l48 c48) ∧ R (.returned (.agg #[.bool t45, .int .i64 n46, .int .i64 n47, .slice a48 l48 c48])) w44) w21))) (fun c w => R (.panicked c) w))))) (fun c w => R (.panicked c) w))) w
def scr40 : Scr := (.run [0] (.close (.run [0, 1, 2, 3, 4, 5, 6, 7] (.close (.run [0, 1] (.close (.cond (.run [0, 1] (.close .nil)) (.run [0, 1, 2, 3] (.close (.loop [(21, some (.int .i64)), (8, none), (22, none), (23, none), (24, none), (25, none), (26, none), (27, none), (28, none), (29, none), (30, none), (31, none)] (.run [0] (.close (.cond (.run [0, 1, 2, 3] (.close (.run [0, 1, 2, 3, 4] (.close (.cond (.run [0, 1] (.close .nil)) (.run [0, 1] (.close .nil))))))) (.run [0, 1] (.close .nil)))))))))))))))
theorem vc40 {s1 : ByteArray} {s2 : ByteArray} {R : Ending → World → Prop} {w : World} (h : V40 s1 s2 R w) : Cl Try.prog 40 [.string s1, .string s2] w R :=
  cl_of scr40 Try.func40 (by kernel_rfl) [.string s1, .string s2] (V40 s1 s2 R) (by kernel_rfl) h
/-- spec.Split -/
def V50 (s1 : ByteArray) (s2 : ByteArray) (R : Ending → World → Prop) : World → Prop := fun w =>
  Cl Try.prog 68 ([.string s1, .string s2]) w (retG (fun (r7 : Value) (w6 : World) => ∃ (b3 : Nat), ∃ (o4 : Nat), ∃ (t5 : Bool), r7 = .tuple #[.pointer (some ⟨b3, o4, none⟩), .bool t5] ∧ (((!t5) = true → R (.returned (.slice none 0 0)) w6) ∧ ((!t5) = false → Cl Try.prog 69 ([.pointer (some ⟨b3, o4, none⟩)]) w6 (retG (fun (r10 : Value) (w9 : World) => ∃ (a8 : Option Addr), ∃ (l8 : Nat), ∃ (c8 : Nat), r10 = .slice a8 l8 c8 ∧ ∃ (I11 : Nat → Option Addr → Nat → Nat → Int → Int → World → Prop), (∃ (k13 : Nat), I11 k13 none 0 0 0 0 w9) ∧ ∀ (k12 : Nat) (d15 : Nat → Value) (a16 : Option Addr) (l16 : Nat) (c16 : Nat) (n17 : Int) (n18 : Int) (w14 : World), I11 k12 a16 l16 c16 n17 n18 w14 → (((decide ((n18 : Int) < ((l8 : Nat) : Int))) = true → ∃ (b19 : Nat) (o20 : Nat), ((a8 : Option Addr) = some ⟨b19, o20, none⟩ ∧ 0 ≤ (n18 : Int) ∧ (n18 : Int) < ((l8 : Nat) : Int)) ∧ ∃ (t21 : Bool), cellH w14.heap b19 (o20 + (Int.toNat n18) * 4) = some (.bool t21) ∧ ∃ (n22 : Int), cellH w14.heap b19 (o20 + (Int.toNat n18) * 4 + 1) = some (.int .i64 n22) ∧ ∃ (n23 : Int), cellH w14.heap b19 (o20 + (Int.toNat n18) * 4 + 2) = some (.int .i64 n23) ∧ ∃ (a24 : Option Addr), ∃ (l24 : Nat), ∃ (c24 : Nat), cellH w14.heap b19 (o20 + (Int.toNat n18) * 4 + 3) = some (.slice a24 l24 c24) ∧ newC [.bool false, .int .i64 0, .int .i64 0, .slice none 0 0] 29 (fun (b25 : Nat) (w26 : World) => stW b25 0 [.bool t21, .int .i64 n22, .int .i64 n23, .slice a24 l24 c24] (fun (w27 : World) => ∃ (n28 : Int), cellH w27.heap b25 2 = some (.int .i64 n28) ∧ ∃ (n29 : Int), cellH w27.heap b25 1 = some (.int .i64 n29) ∧ ((((n28 : Int) == n29) = true → ∃ (n30 : Int), cellH w27.heap b25 1 = some (.int .i64 n30) ∧ ((((n30 : Int) == 0) = true → (∃ (m31 : Nat), m31 < k12 ∧ I11 m31 a16 l16 c16 n17 (IntKind.wrap .i64 (n18 + 1)) w27)) ∧ (((n30 : Int) == 0) = false → ∃ (n32 : Int), cellH w27.heap b25 1 = some (.int .i64 n32) ∧ ((((n32 : Int) == ((ByteArray.size s2 : Nat) : Int)) = true → (∃ (m33 : Nat), m33 < k12 ∧ I11 m33 a16 l16 c16 n17 (IntKind.wrap .i64 (n18 + 1)) w27)) ∧ (((n32 : Int) == ((ByteArray.size s2 : Nat) : Int)) = false → ∃ (n34 : Int), cellH w27.heap b25 1 = some (.int .i64 n34) ∧ (0 ≤ (n17 : Int) ∧ (n17 : Int) ≤ n34 ∧ (n34 : Int) ≤ ((ByteArray.size s2 : Nat) : Int)) ∧ newC [.string (ByteArray.extract s2 (Int.toNat n17) (Int.toNat n34))] 9 (fun (b35 : Nat) (w36 : World) => ∃ (a37 : Option Addr), ∃ (l37 : Nat), ∃ (c37 : Nat), ∃ (w38 : World), (Builtin.append_ #[55, 55] 55 #[.slice a16 l16 c16, .slice (some ⟨b35, 0, none⟩) 1 1]).run Try.prog w36 = .ok (.slice a37 l37 c37) w38 ∧ ∃ (n39 : Int), cellH w38.heap b25 2 = some (.int .i64 n39) ∧ (∃ (m40 : Nat), m40 < k12 ∧ I11 m40 a37 l37 c37 n39 (IntKind.wrap .i64 (n18 + 1)) w38)) w27))))) ∧ (((n28 : Int) == n29) = false → ∃ (n41 : Int), cellH w27.heap b25 1 = some (.int .i64 n41) ∧ (0 ≤ (n17 : Int) ∧ (n17 : Int) ≤ n41 ∧ (n41 : Int) ≤ ((ByteArray.size s2 : Nat) : Int)) ∧ newC [.string (ByteArray.extract s2 (Int.toNat n17) (Int.toNat n41))] 9 (fun (b42 : Nat) (w43 : World) => ∃ (a44 : Option Addr), ∃ (l44 : Nat), ∃ (c44 : Nat), ∃ (w45 : World), (Builtin.append_ #[55, 55] 55 #[.slice a16 l16 c16, .slice (some ⟨b42, 0, none⟩) 1 1]).run Try.prog w43 = .ok (.slice a44 l44 c44) w45 ∧ ∃ (n46 : Int), cellH w45.heap b25 2 = some (.int .i64 n46) ∧ (∃ (m47 : Nat), m47 < k12 ∧ I11 m47 a44 l44 c44 n46 (IntKind.wrap .i64 (n18 + 1)) w45)) w27))) w26) w14) ∧ ((decide ((n18 : Int) < ((l8 : Nat) : Int))) = false → (0 ≤ (n17 : Int) ∧ (n17 : Int) ≤ ((ByteArray.size s2 : Nat) : Int)) ∧ newC [.string (ByteArray.extract s2 (Int.toNat n17) (ByteArray.size s2))] 9 (fun (b48 : Nat) (w49 : World) => ∃ (a50 : Option Addr), ∃ (l50 : Nat), ∃ (c50 : Nat), ∃ (w51 : World), (Builtin.append_ #[55, 55] 55 #[.slice a16 l16 c16, .slice (some ⟨b48, 0, none⟩) 1 1]).run Try.prog w49 = .ok (.slice a50 l50 c50) w51 ∧ R (.returned (.slice a50 l50 c50)) w51) w14))) (fun c w => R (.panicked c) w))))) (fun c w => R (.panicked c) w))
def scr50 : Scr := (.run [0] (.close (.run [0, 1, 2, 3, 4, 5, 6, 7] (.close (.run [0, 1] (.close (.cond (.run [0] (.close .nil)) (.run [0] (.close (.run [0] (.close (.run [0, 1, 2, 3] (.close (.loop [(7, some .slice), (8, some (.int .i64)), (22, some (.int .i64)), (10, none), (23, none), (24, none), (25, none), (26, none), (27, none), (28, none), (29, none), (30, none), (31, none), (32, none), (33, none), (34, none), (35, none), (36, none), (37, none), (38, none), (39, none), (40, none), (41, none), (42, none), (43, none), (44, none), (45, none), (46, none), (47, none), (48, none), (49, none), (50, none), (51, none), (52, none), (53, none)] (.run [0] (.close (.cond (.run [0, 1, 2, 3] (.close (.run [0, 1, 2, 3, 4, 5] (.split 31 (.run [6, 7, 8, 9] (.split 35 (.run [10, 11, 12, 13, 14, 15, 16] (.close (.lit (.run [0, 1] (.close .nil))))) (.run [10, 11, 12, 13, 14, 15, 16] (.close (.cond (.run [0, 1] (.close .nil)) (.run [0, 1, 2, 3, 4, 5, 6, 7, 8] (.close (.run [0, 1, 2] (.close (.run [0, 1] (.close .nil))))))))))) (.run [6, 7, 8, 9, 10, 11, 12, 13, 14, 15, 16] (.close (.lit (.run [0, 1, 2, 3, 4, 5, 6, 7, 8] (.close (.run [0, 1, 2] (.close (.run [0, 1] (.close .nil))))))))))))) (.run [0, 1, 2, 3, 4, 5, 6] (.close .nil)))))))))))))))))))
theorem vc50 {s1 : ByteArray} {s2 : ByteArray} {R : Ending → World → Prop} {w : World} (h : V50 s1 s2 R w) : Cl Try.prog 50 [.string s1, .string s2] w R :=
  cl_of scr50 Try.func50 (by kernel_rfl) [.string s1, .string s2] (V50 s1 s2 R) (by kernel_rfl) h
end Go.Proofs.Ytngbiaeliphdjaa.V
/- The memo of the program's finder: a map with keys of three numbers. No statement of the seat is proved here. -/
namespace Go.Vc
open Go.RowKit
set_option linter.unusedVariables false
set_option linter.unusedSimpArgs false
abbrev GoodM := Int → Int → Int → Option Addr → Nat → Nat → Prop
def keyV (a b c : Int) : Value := .agg #[.int .i64 a, .int .i64 b, .int .i64 c]
/-- A map whose entries are good. -/
def MapIs (w : World) (m : Nat) (G : GoodM) : Prop := ∃ es clock, w.heap[m]? = some (.map es clock) ∧ ∀ e ∈ es.toList, ∃ k i j a l c, e.key = keyV k i j ∧ e.val = .slice a l c ∧ G k i j a l c
theorem MapIs.lt {w : World} {m : Nat} {G : GoodM} (h : MapIs w m G) : m < w.heap.size := by
  obtain ⟨es, clock, h, _⟩ := h
  exact (Array.getElem?_eq_some_iff.1 h).1
theorem MapIs.mono {w : World} {m : Nat} {G G' : GoodM} (h : MapIs w m G) (hg : ∀ k i j a l c, G k i j a l c → G' k i j a l c) : MapIs w m G' := by
  obtain ⟨es, clock, h, h2⟩ := h
  refine ⟨es, clock, h, fun e he => ?_⟩
  obtain ⟨k, i, j, a, l, c, h3, h4, h5⟩ := h2 e he
  exact ⟨k, i, j, a, l, c, h3, h4, hg _ _ _ _ _ _ h5⟩
theorem MapIs.keep {S : Nat → Prop} {w w' : World} {m : Nat} {G : GoodM} (h : MapIs w m G) (e : Ext S w w') (hs : ¬ S m) : MapIs w' m G := by
  have hl := h.lt
  obtain ⟨es, clock, h, h2⟩ := h
  exact ⟨es, clock, by rw [e.block m hl hs]; exact h, h2⟩
end Go.Vc
namespace Go.Proofs.Ytngbiaeliphdjaa.V
open Go.Vc Go.Proofs Go.RowKit
set_option linter.unusedVariables false
set_option linter.unusedSimpArgs false
theorem key_check (e : Bool) (a b c : Int) (w : World) : (Instr.checkKey e 10000 159 (.agg #[.int .i64 a, .int .i64 b, .int .i64 c])).run Try.prog w = .ok () w := by kernel_rfl
theorem eqF_step {f : Field} {fs : List Field} {xs ys : List Value} {o : Nat} {x y : Int} (hn : ¬ f.name = "_") (ht : f.type = 3) (ho : f.offset = o) (hx : xs[o]? = some (.int .i64 x)) (hy : ys[o]? = some (.int .i64 y)) (w : World) :
    (Op.eqFields (9998 + 1) ⟨xs⟩ ⟨ys⟩ (f :: fs)).run Try.prog w = if (x == y) = true then (Op.eqFields (9998 + 1) ⟨xs⟩ ⟨ys⟩ fs).run Try.prog w else .ok false w := by
  have hp : ∀ (xs : List Value) (o : Nat) (v : Value), xs[o]? = some v → (part 3 ⟨xs⟩ o).run Try.prog w = .ok v w := fun xs o v h => part_run_one (show Try.prog.underlying 3 = some (.int .i64) from by kernel_rfl) (by intro fs h; cases h) (by intro n e h; cases h) h w
  simp only [Op.eqFields]
  rw [if_pos (by simpa using hn), ht, ho, bind_run (hp xs o _ hx), bind_run (hp ys o _ hy), bind_run (run_equalIn_int w 9998 3 .i64 .i64 x y Try.underlying3)]
  cases h : (x == y) <;> simp
theorem key_eq (a b c a' b' c' : Int) (w : World) : ∃ r : Bool, (Op.equal 159 (.agg #[.int .i64 a, .int .i64 b, .int .i64 c]) (.agg #[.int .i64 a', .int .i64 b', .int .i64 c'])).run Try.prog w = .ok r w ∧ (r = true → a = a' ∧ b = b' ∧ c = c') := by
  unfold Op.equal
  rw [show Op.maxDepth = 9998 + 1 + 1 from rfl]
  rw [run_equalIn_struct w (9998 + 1) 159 _ _ (by kernel_rfl) (by kernel_rfl)]
  have h1 : (Try.prog.fieldsOf 159).toList.map (fun f => (f.name == "_", f.type, f.offset)) = [(false, 3, 0), (false, 3, 1), (false, 3, 2)] := by kernel_rfl
  generalize (Try.prog.fieldsOf 159).toList = fs at *
  rcases fs with _ | ⟨f1, _ | ⟨f2, _ | ⟨f3, _ | ⟨f4, r⟩⟩⟩⟩
  case cons.cons.cons.nil =>
    simp only [List.map_cons, List.map_nil, List.cons.injEq, Prod.mk.injEq, beq_eq_false_iff_ne, ne_eq, and_true] at h1
    obtain ⟨⟨n1, t1, o1⟩, ⟨n2, t2, o2⟩, n3, t3, o3⟩ := h1
    refine ⟨(a == a') && ((b == b') && (c == c')), ?_, by simp⟩
    rw [eqF_step n1 t1 o1 (x := a) (y := a') rfl rfl, eqF_step n2 t2 o2 (x := b) (y := b') rfl rfl, eqF_step n3 t3 o3 (x := c) (y := c') rfl rfl]
    cases h1 : (a == a') <;> cases h2 : (b == b') <;> cases h3 : (c == c') <;> simp [Op.eqFields]
  all_goals simp at h1

theorem find_run (a b c : Int) (w : World) : ∀ (es : List MapEntry) (i : Nat), (∀ e ∈ es, ∃ k i j, e.key = keyV k i j) →
    ∃ r, (Instr.findAsking 159 (keyV a b c) es i).run Try.prog w = .ok r w ∧ ∀ j v, r = some (j, v) → i ≤ j ∧ ∃ e, es[j - i]? = some e ∧ e.key = keyV a b c ∧ v = e.val
  | [], i, _ => ⟨none, rfl, by intro j v h; cases h⟩
  | e :: es, i, h => by
    obtain ⟨k, p, q, hk⟩ := h e (List.mem_cons_self ..)
    obtain ⟨r, hr, hrt⟩ := key_eq a b c k p q w
    simp only [Instr.findAsking]
    rw [hk, bind_run (show (Op.equal 159 (keyV a b c) (keyV k p q)).run Try.prog w = .ok r w from hr)]
    cases r with
    | true =>
      obtain ⟨rfl, rfl, rfl⟩ := hrt rfl
      refine ⟨some (i, e.val), rfl, fun j v hj => ?_⟩
      cases hj
      exact ⟨Nat.le_refl _, e, by simp, hk, rfl⟩
    | false =>
      obtain ⟨r, h1, h2⟩ := find_run a b c w es (i + 1) fun e he => h e (List.mem_cons_of_mem _ he)
      refine ⟨r, h1, fun j v hj => ?_⟩
      obtain ⟨h3, e', h4, h5, h6⟩ := h2 j v hj
      refine ⟨by omega, e', ?_, h5, h6⟩
      rw [show j - i = (j - (i + 1)) + 1 from by omega]
      simpa using h4
theorem findKey_run (a b c : Int) (w : World) (es : List MapEntry) (h : ∀ e ∈ es, ∃ k i j, e.key = keyV k i j) :
    ∃ r, (Instr.findKey 159 (keyV a b c) es).run Try.prog w = .ok r w ∧ ∀ j v, r = some (j, v) → ∃ e, es[j]? = some e ∧ e.key = keyV a b c ∧ v = e.val := by
  obtain ⟨r, h1, h2⟩ := find_run a b c w es 0 h
  have hu : Try.prog.underlying 159 = some (.struct (Try.prog.fieldsOf 159)) := by kernel_rfl
  unfold Instr.findKey
  rw [bind_run (underlying_run hu w)]
  cases es with
  | nil => exact ⟨none, rfl, by intro j v h; cases h⟩
  | cons e es =>
    simp only [Instr.findNow, Instr.sameNow]
    exact ⟨r, h1, fun j v hj => by simpa using (h2 j v hj).2⟩
theorem lookup_run {w : World} {m : Nat} {G : GoodM} (h : MapIs w m G) (a b c : Int) :
    ∃ (ad : Option Addr) (l cp : Nat) (t : Bool), (Instr.lookup 126 (.map (some m)) (.agg #[.int .i64 a, .int .i64 b, .int .i64 c]) true).run Try.prog w = .ok (.tuple #[.slice ad l cp, .bool t]) w ∧ (t = true → G a b c ad l cp) := by
  obtain ⟨es, clock, hm, hes⟩ := h
  have hu : Try.prog.underlying 126 = some (.map 159 137) := by kernel_rfl
  obtain ⟨r, h1, h2⟩ := findKey_run a b c w es.toList fun e he => by
    obtain ⟨k, i, j, _, _, _, h3, _⟩ := hes e he
    exact ⟨k, i, j, h3⟩
  have hrun : ∀ {v : Value} {t : Bool}, (r = none → v = .slice none 0 0 ∧ t = false) → (∀ y, r = some y → v = y.2 ∧ t = true) → (Instr.lookup 126 (.map (some m)) (.agg #[.int .i64 a, .int .i64 b, .int .i64 c]) true).run Try.prog w = .ok (.tuple #[v, .bool t]) w := by
    intro v t hn hy
    unfold Instr.lookup
    rw [bind_run (underlying_run hu w)]
    simp only []
    rw [bind_run (MapKept.run_getObj_map hm)]
    simp only []
    rw [bind_run (show (pure es : Sem (Array MapEntry)).run Try.prog w = .ok es w from rfl)]
    rw [bind_run (key_check _ a b c w)]
    rw [bind_run (show (Instr.findKey 159 (.agg #[.int .i64 a, .int .i64 b, .int .i64 c]) es.toList).run Try.prog w = .ok r w from h1)]
    cases r with
    | none =>
      obtain ⟨rfl, rfl⟩ := hn rfl
      simp only []
      rw [bind_run (show (zeroValue 137).run Try.prog w = .ok (.slice none 0 0) w from by kernel_rfl)]
      rfl
    | some y =>
      obtain ⟨j, v⟩ := y
      obtain ⟨rfl, rfl⟩ := hy _ rfl
      rfl
  cases r with
  | none => exact ⟨none, 0, 0, false, hrun (fun _ => ⟨rfl, rfl⟩) (fun y h => by cases h), by simp⟩
  | some y =>
    obtain ⟨j, v⟩ := y
    obtain ⟨e, h3, h4, rfl⟩ := h2 j v rfl
    obtain ⟨k, i, q, ad, l, cp, h5, h6, h7⟩ := hes e (List.mem_of_getElem? h3)
    rw [h5] at h4
    unfold keyV at h4
    simp only [Value.agg.injEq, Array.mk.injEq, List.cons.injEq, Value.int.injEq, true_and, and_true] at h4
    obtain ⟨rfl, rfl, rfl⟩ := h4
    exact ⟨ad, l, cp, true, hrun (fun h => by cases h) (fun y h => by cases h; exact ⟨h6.symm, rfl⟩), fun _ => h7⟩
theorem update_run {w : World} {m : Nat} {G : GoodM} (h : MapIs w m G) {a b c : Int} {ad : Option Addr} {l cp : Nat} (hg : G a b c ad l cp) :
    ∃ w', (Instr.mapUpdate 126 (.map (some m)) (.agg #[.int .i64 a, .int .i64 b, .int .i64 c]) (.slice ad l cp)).run Try.prog w = .ok () w' ∧ w'.heap.size = w.heap.size ∧ MapIs w' m G ∧ Ext (fun k => k = m) w w' := by
  have hlt := h.lt
  obtain ⟨es, clock, hm, hes⟩ := h
  have hu : Try.prog.underlying 126 = some (.map 159 137) := by kernel_rfl
  obtain ⟨r, h1, h2⟩ := findKey_run a b c w es.toList fun e he => by
    obtain ⟨k, i, j, _, _, _, h3, _⟩ := hes e he
    exact ⟨k, i, j, h3⟩
  have hset : ∀ (es' : Array MapEntry) (clock' : Nat), (∀ e ∈ es'.toList, e ∈ es.toList ∨ (e.key = keyV a b c ∧ e.val = .slice ad l cp)) → ∃ w', (setObj m (.map es' clock')).run Try.prog w = .ok () w' ∧ w'.heap.size = w.heap.size ∧ MapIs w' m G ∧ Ext (fun k => k = m) w w' := by
    intro es' clock' hall
    refine ⟨{ w with heap := w.heap.setIfInBounds m (.map es' clock') }, ?_, by simp, ⟨es', clock', by simp [hlt], fun e he => ?_⟩, ⟨rfl, rfl, rfl, by simp, fun k hk hkm => by simp [Ne.symm hkm]⟩⟩
    · exact MapKept.run_setObj_map _ hm
    · rcases hall e he with h3 | ⟨h3, h4⟩
      · exact hes e h3
      · exact ⟨a, b, c, ad, l, cp, h3, h4, hg⟩
  have hrun : ∀ {es' : Array MapEntry} {clock' : Nat} {w' : World}, (r = none → es' = es.push { key := keyV a b c, val := .slice ad l cp, born := clock } ∧ clock' = clock + 1) → (∀ y, r = some y → es' = es.modify y.1 (fun e => { e with key := keyV a b c, val := .slice ad l cp }) ∧ clock' = clock) → (setObj m (.map es' clock')).run Try.prog w = .ok () w' → (Instr.mapUpdate 126 (.map (some m)) (.agg #[.int .i64 a, .int .i64 b, .int .i64 c]) (.slice ad l cp)).run Try.prog w = .ok () w' := by
    intro es' clock' w' hn hy hs
    unfold Instr.mapUpdate
    rw [bind_run (underlying_run hu w)]
    simp only []
    rw [bind_run (MapKept.run_getObj_map hm)]
    simp only []
    rw [bind_run (key_check _ a b c w), bind_run (show (Instr.findKey 159 (.agg #[.int .i64 a, .int .i64 b, .int .i64 c]) es.toList).run Try.prog w = .ok r w from h1)]
    cases r with
    | none =>
      obtain ⟨rfl, rfl⟩ := hn rfl
      exact hs
    | some y =>
      obtain ⟨j, v⟩ := y
      obtain ⟨rfl, rfl⟩ := hy _ rfl
      obtain ⟨e, h3, h4, rfl⟩ := h2 j v rfl
      simp only []
      have hej : es[j]? = some e := by simpa using h3
      have hk : (Instr.keyThatStays (((es[j]?).map (·.key)).getD (.agg #[.int .i64 a, .int .i64 b, .int .i64 c])) (.agg #[.int .i64 a, .int .i64 b, .int .i64 c])).run Try.prog w = .ok (.agg #[.int .i64 a, .int .i64 b, .int .i64 c]) w := by
        rw [hej]
        show (Instr.keyThatStays e.key _).run Try.prog w = _
        rw [h4]
        unfold Instr.keyThatStays
        rw [if_pos (by unfold keyV; simp [Instr.sameBits])]
        rfl
      rw [bind_run hk]
      exact hs
  cases r with
  | none =>
    obtain ⟨w', e1, rest⟩ := hset (es.push { key := keyV a b c, val := .slice ad l cp, born := clock }) (clock + 1) fun e he => by
      simp only [Array.toList_push, List.mem_append, List.mem_singleton] at he
      rcases he with he | rfl
      · exact .inl he
      · exact .inr ⟨rfl, rfl⟩
    exact ⟨w', hrun (fun _ => ⟨rfl, rfl⟩) (fun y h => by cases h) e1, rest⟩
  | some y =>
    obtain ⟨j, v⟩ := y
    obtain ⟨w', e1, rest⟩ := hset (es.modify j fun e => { e with key := keyV a b c, val := .slice ad l cp }) clock fun e' he' => by
      obtain ⟨q, hq⟩ := List.getElem?_of_mem he'
      rw [Array.toList_modify, List.getElem?_modify] at hq
      cases hh : es.toList[q]? with
      | none => rw [hh] at hq; cases hq
      | some y =>
        rw [hh] at hq
        by_cases hjq : j = q
        · simp only [Option.map_eq_map, Option.map_some, Option.some.injEq, if_pos hjq] at hq; subst hq; exact .inr ⟨rfl, rfl⟩
        · simp only [Option.map_eq_map, Option.map_some, Option.some.injEq, if_neg hjq] at hq; subst hq; exact .inl (List.mem_of_getElem? hh)
    exact ⟨w', hrun (fun h => by cases h) (fun y h => by cases h; exact ⟨rfl, rfl⟩) e1, rest⟩
end Go.Proofs.Ytngbiaeliphdjaa.V
/- The program's finder in memory; what add does. No statement of the seat is proved here. -/
namespace Go.Proofs.Ytngbiaeliphdjaa.V
open Go.Vc Go.Proofs Go.RowKit
set_option linter.unusedVariables false
set_option linter.unusedSimpArgs false
/-- A finder: its block, its memo, its pattern's pieces, its text. -/
structure Cx where
  bf : Nat
  m : Nat
  N : Nat
  P : Pat
  t : ByteArray
  pa : Option Addr
  pl : Nat
  pc : Nat
  rs : List Raw
def Cx.ps (c : Cx) : List Pc := c.P.pieces
def Cx.n (c : Cx) : Nat := (L c.t).length
def Cx.ends (c : Cx) (k i : Nat) : List Wy := endsP c.P.pieces (L c.t) k i
def Cx.sub (c : Cx) (k : Nat) : Nat → List Wy := c.ends ((c.P.pieces.getD k pSta).kids.getD 0 0).toNat
def Cx.more (c : Cx) (k : Nat) (left : Option Nat) (i : Nat) : List Wy := moreP (c.sub k) c.n (c.P.pieces.getD k pSta).lazy left i
def leftI : Option Nat → Int
  | none => -1
  | some n => n
/-- Ways in memory, apart from the blocks X. -/
def WaysAt (c : Cx) (X : Nat → Prop) (w : World) (a : Option Addr) (l cp : Nat) (ws : List Wy) : Prop := Vec w.heap 142 21 a l cp (waysC ws) ∧ ∀ k, blkOf a = some k → ¬ X k ∧ k ≠ c.m
def Good (c : Cx) (X : Nat → Prop) (w : World) : GoodM := fun x y z a l cp => (∀ k i : Nat, x = k → y = i → z = -2 → WaysAt c X w a l cp (c.ends k i)) ∧ (∀ (k i : Nat) (left : Option Nat), x = k → y = i → z = leftI left → WaysAt c X w a l cp (c.more k left i))
/-- The finder stands; what it holds is apart from X. -/
structure FInv (c : Cx) (X : Nat → Prop) (w : World) : Prop where
  fb : Blk w.heap c.bf 128 [.bool c.P.ok, .int .i64 (c.P.at_ : Int), .int .i64 (c.P.groups : Int), .slice c.pa c.pl c.pc, .string c.t, .map (some c.m)]
  pcs : Pcs c.N w c.pa c.pl c.pc c.rs c.P.pieces
  memo : MapIs w c.m (Good c X w)
  ne1 : c.bf ≠ c.m
  ne2 : c.m ∉ blks c.pa c.rs
  priv : ∀ x, X x → x ≠ c.bf ∧ x ≠ c.m ∧ x ∉ blks c.pa c.rs ∧ x < w.heap.size
theorem WaysAt.lt {c : Cx} {X : Nat → Prop} {w : World} {a : Option Addr} {l cp : Nat} {ws : List Wy} (h : WaysAt c X w a l cp ws) : ∀ k, blkOf a = some k → k < w.heap.size := h.1.lt
theorem WaysAt.len {c : Cx} {X : Nat → Prop} {w : World} {a : Option Addr} {l cp : Nat} {ws : List Wy} (h : WaysAt c X w a l cp ws) : ws.length = l := by
  have := h.1.1; rw [waysC_length] at this; omega
/-- Private blocks change, new ones become private. -/
theorem WaysAt.grow {c : Cx} {X Y S : Nat → Prop} {w w' : World} {a : Option Addr} {l cp : Nat} {ws : List Wy} (h : WaysAt c X w a l cp ws) (e : Ext S w w') (hS : ∀ x, S x → X x ∨ x = c.m) (hY : ∀ x, Y x → X x ∨ w.heap.size ≤ x) : WaysAt c Y w' a l cp ws :=
  ⟨h.1.keep e fun b hb hs => by
    rcases hS b hs with h1 | h1
    · exact (h.2 b hb).1 h1
    · exact (h.2 b hb).2 h1, fun k hk => ⟨fun hy => by
    rcases hY k hy with h1 | h1
    · exact (h.2 k hk).1 h1
    · have := h.lt k hk; omega, (h.2 k hk).2⟩⟩
theorem WaysAt.below {c : Cx} {X : Nat → Prop} {w w' : World} {a : Option Addr} {l cp : Nat} {ws : List Wy} (h : WaysAt c X w a l cp ws) (e : Below w.heap.size w w') : WaysAt c X w' a l cp ws :=
  h.grow (S := fun _ => False) (Ext.of_below e) (fun _ h => h.elim) fun _ h => .inl h
theorem FInv.grow {c : Cx} {X Y S : Nat → Prop} {w w' : World} (h : FInv c X w) (e : Ext S w w') (hS : ∀ x, S x → X x) (hY : ∀ x, Y x → X x ∨ w.heap.size ≤ x) (hYl : ∀ x, Y x → x < w'.heap.size) : FInv c Y w' := by
  have hp := h.priv
  have hm := h.memo.lt
  have hb := h.fb.lt
  have hB := h.pcs.lt
  refine ⟨h.fb.keep e fun hs => (hp _ (hS _ hs)).1 rfl, h.pcs.keep e fun k hk hs => (hp _ (hS _ hs)).2.2.1 hk, (h.memo.keep e fun hs => (hp _ (hS _ hs)).2.1 rfl).mono fun x y z a l cp hg => ?_, h.ne1, h.ne2, fun x hx => ?_⟩
  · exact ⟨fun k i h1 h2 h3 => (hg.1 k i h1 h2 h3).grow e (fun x hx => .inl (hS x hx)) hY, fun k i left h1 h2 h3 => (hg.2 k i left h1 h2 h3).grow e (fun x hx => .inl (hS x hx)) hY⟩
  · rcases hY x hx with h1 | h1
    · have := hp x h1
      exact ⟨this.1, this.2.1, this.2.2.1, hYl x hx⟩
    · exact ⟨by omega, by omega, fun hk => by have := hB x hk; omega, hYl x hx⟩
theorem FInv.below {c : Cx} {X : Nat → Prop} {w w' : World} (h : FInv c X w) (e : Below w.heap.size w w') : FInv c X w' :=
  h.grow (S := fun _ => False) (Ext.of_below e) (fun _ h => h.elim) (fun _ h => .inl h) fun x hx => Nat.lt_of_lt_of_le (h.priv x hx).2.2.2 e.size
theorem FInv.drop {c : Cx} {X Y : Nat → Prop} {w : World} (h : FInv c X w) (hY : ∀ x, Y x → X x) : FInv c Y w :=
  h.grow (S := fun _ => False) (Ext.refl _ _) (fun _ h => h.elim) (fun x hx => .inl (hY x hx)) fun x hx => (h.priv x (hY x hx)).2.2.2
/-- Ways, as a call gives them. -/
def ResW (c : Cx) (X : Nat → Prop) (w : World) (ws : List Wy) : Ending → World → Prop := fun e w' => ∃ a l cp, e = .returned (.slice a l cp) ∧ WaysAt c X w' a l cp ws ∧ FInv c X w' ∧ Ext (fun x => x = c.m) w w'
/-- The contract of ways at a piece. -/
def WaysC (c : Cx) (k : Nat) : Prop := ∀ (X : Nat → Prop) (w : World) (i : Nat), FInv c X w → i ≤ c.n → Cl Try.prog 114 [.pointer (some ⟨c.bf, 0, none⟩), .int .i64 k, .int .i64 i] w (ResW c X w (c.ends k i))
def MoreC (c : Cx) (k : Nat) : Prop := ∀ (X : Nat → Prop) (w : World) (i : Nat) (left : Option Nat), FInv c X w → i ≤ c.n → (∀ q, left = some q → q ≤ 50) → Cl Try.prog 135 [.pointer (some ⟨c.bf, 0, none⟩), .int .i64 k, .int .i64 i, .int .i64 (leftI left)] w (ResW c X w (c.more k left i))
/-! ### Lists -/
def seenL (ws : List Wy) : List Value := (List.range 201).map fun p => .bool (has ws p)
theorem seenL_get (ws : List Wy) (p : Nat) (h : p < 201) : (seenL ws)[p]? = some (.bool (has ws p)) := by simp [seenL, h]
theorem seenL_length (ws : List Wy) : (seenL ws).length = 201 := by simp [seenL]
theorem seenL_nil : seenL [] = List.replicate 201 (.bool false) := by simp [seenL, has, List.map_const']
theorem seenL_set (ws : List Wy) (x : Wy) (hx : x.1 < 201) : (seenL ws).set x.1 (.bool true) = seenL (ws ++ [x]) := by
  apply List.ext_getElem?
  intro k
  rw [List.getElem?_set, seenL_length]
  by_cases hk : k < 201
  · rw [seenL_get _ k hk, seenL_get _ k hk, has_append]
    by_cases hxk : x.1 = k
    · rw [if_pos hxk, if_pos (by omega)]; simp [has, hxk]
    · rw [if_neg hxk]; simp [has, hxk]
  · have h1 : (seenL ws)[k]? = none := List.getElem?_eq_none (by rw [seenL_length]; omega)
    have h2 : (seenL (ws ++ [x]))[k]? = none := List.getElem?_eq_none (by rw [seenL_length]; omega)
    rw [h1, h2, if_neg (by omega)]
/-- A list of ways that is gathered: the block b, its row. -/
def LisAt (w : World) (b : Nat) (a : Option Addr) (l cp : Nat) (ws : List Wy) : Prop := Blk w.heap b 163 (.slice a l cp :: seenL ws) ∧ Vec w.heap 142 21 a l cp (waysC ws)
theorem LisAt.keep {S : Nat → Prop} {w w' : World} {b : Nat} {a : Option Addr} {l cp : Nat} {ws : List Wy} (h : LisAt w b a l cp ws) (e : Ext S w w') (hb : ¬ S b) (ha : ∀ k, blkOf a = some k → ¬ S k) : LisAt w' b a l cp ws := ⟨h.1.keep e hb, h.2.keep e ha⟩
theorem LisAt.ne {w : World} {b : Nat} {a : Option Addr} {l cp : Nat} {ws : List Wy} (h : LisAt w b a l cp ws) : ∀ k, blkOf a = some k → k ≠ b := by
  intro k hk hkb
  subst hkb
  obtain ⟨h0, _, _, h3⟩ := h
  rcases h3 with ⟨rfl, _⟩ | ⟨b', cs', rfl, hb, _⟩
  · simp [blkOf] at hk
  · simp only [blkOf, Option.some.injEq] at hk
    subst hk
    unfold Blk at hb h0
    rw [h0] at hb
    simp at hb
theorem add_way {w : World} {b : Nat} {a : Option Addr} {l cp : Nat} {ws : List Wy} (h : LisAt w b a l cp ws) (x : Wy) (hx : x.1 ≤ 200) (hl : ws.length ≤ 1000) :
    Cl Try.prog 129 [.pointer (some ⟨b, 0, none⟩), .agg ⟨wayC x⟩] w (fun e w' => e = .returned (.tuple #[]) ∧ ∃ a' l' cp', LisAt w' b a' l' cp' (addW ws x) ∧ Ext (fun k => k = b ∨ blkOf a = some k) w w' ∧ ∀ k, blkOf a' = some k → blkOf a = some k ∨ w.heap.size ≤ k) := by
  refine vc129 (n3 := (x.1 : Int)) (g4 := spI x.2) ?_
  unfold V129
  have hbl := h.1.lt
  have hll : ws.length = l := by have := h.2.1; rw [waysC_length] at this; omega
  refine newC_in fun w1 s1 k1 e1 => ?_
  have k1' : Blk w1.heap w.heap.size 142 (wayC x) := k1
  refine drw_in fun w2 q2 e2 => ?_
  have B2 : Below w.heap.size w w2 := Ext.to (Ext.to (Below.refl _ _) e1 fun _ h => h.elim) e2 fun _ h => h.elim
  have k2 := k1'.keep e2 fun h => h
  have h2 : LisAt w2 b a l cp ws := h.keep (S := fun _ => False) (Ext.of_below B2) (fun h => h) fun _ _ h => h
  have e0 : 0 + 1 + Int.toNat (x.1 : Int) * 1 = x.1 + 1 := by omega
  refine ⟨_, k2.way.1, ⟨by omega, by omega⟩, has ws x.1, ?_, fun g => ?_, fun g => ?_⟩
  · rw [e0, h2.1.cell]
    show (seenL ws)[x.1]? = _
    exact seenL_get ws x.1 (by omega)
  · have g' : has ws x.1 = false := by simpa using g
    refine drw_in fun w3 q3 e3 => ?_
    have k3 := k2.keep e3 fun h => h
    have h3 := h2.keep e3 (fun h => h) fun _ _ h => h
    refine ⟨_, k3.way.1, ⟨by omega, by omega⟩, ?_⟩
    rw [e0]
    refine stW_in h3.1 (by show x.1 + 1 + 1 ≤ (seenL ws).length + 1; rw [seenL_length]; omega) fun w4 s4 k4 e4 => ?_
    have hset : segSet (.slice a l cp :: seenL ws) (x.1 + 1) [.bool true] = .slice a l cp :: seenL (ws ++ [x]) := by
      show (Value.slice a l cp :: seenL ws).set (x.1 + 1) _ = _
      rw [List.set_cons_succ, seenL_set ws x (by omega)]
    rw [hset] at k4
    refine drw_in fun w5 q5 e5 => ?_
    have k5 := k4.keep e5 fun h => h
    have E5 : Ext (fun k => k = b) w w5 := (((Ext.of_below B2).trans (Ext.mono e3 fun _ _ h => h.elim)).trans e4).trans (Ext.mono e5 fun _ _ h => h.elim)
    have kw5 : Blk w5.heap w.heap.size 142 (wayC x) := (k3.keep e4 (by omega)).keep e5 fun h => h
    have v5 : Vec w5.heap 142 21 a l cp (waysC ws) := h.2.keep E5 fun k hk hkb => h.ne k hk hkb
    refine ⟨a, l, cp, k5.cell 0, _, kw5.way.1, _, kw5.way.2, ?_⟩
    have E6 : Ext (fun _ => False) w5 (newW w5 (.cells ⟨wayC x⟩ 142)) := (Ext.refl _ w5).vnew _
    obtain ⟨a2, c2, w7, r1, r2, r3, r4⟩ := append_run (P := Try.prog) (T := 137) (T' := 137) (T'' := 137) elemWay.und elemWay.und elemWay.size elemWay.bytes (by rw [show zeroL Try.prog 142 = some _ from elemWay.zero.choose_spec.1]; simp)
      (by rw [show zeroL Try.prog 142 = some _ from elemWay.zero.choose_spec.1]; intro y hy; cases hy; exact elemWay.zero.choose_spec.2) (v5.keep E6 fun _ _ h => h) (a' := some ⟨w5.heap.size, 0, none⟩) (n := 1) (c' := 1) (ys := wayC x) (by rw [wayC_length]) (wayC_scal x) (.inr ⟨_, _, rfl, cellsAt_newW w5 _ _⟩) (fun h => by cases h) (by omega) (by omega)
    rw [size_newW] at r4
    have E7 : Ext (fun k => blkOf a = some k) w5 w7 := (Ext.mono E6 fun _ _ h => h.elim).trans r3
    refine ⟨k5.vnew _ |>.cell 0, a2, l + 1, c2, w7, r1, ?_⟩
    have k7 : Blk w7.heap b 163 (.slice a l cp :: seenL (ws ++ [x])) := k5.keep E7 fun hk => h.ne b hk rfl
    refine stW_in k7 (by show 0 + 1 ≤ (seenL (ws ++ [x])).length + 1; omega) fun w8 s8 k8 e8 => ?_
    have hz5 := E5.size
    have hne : ∀ k, blkOf a2 = some k → k ≠ b := by
      intro k hk
      rcases r4 with rfl | rfl
      · exact h.ne k hk
      · simp only [blkOf, Option.some.injEq] at hk; omega
    refine ⟨rfl, a2, l + 1, c2, ?_, ?_, ?_⟩
    · rw [show addW ws x = ws ++ [x] from by simp [addW, g']]
      refine ⟨k8, ?_⟩
      rw [waysC_append, waysC_one]
      exact r2.keep e8 fun k hk hkb => hne k hk hkb
    · exact ((Ext.mono E5 fun _ _ h => .inl h).trans (Ext.mono E7 fun _ _ h => .inr h)).trans (Ext.mono e8 fun _ _ h => .inl h)
    · intro k hk
      rcases r4 with rfl | rfl
      · exact .inl hk
      · simp only [blkOf, Option.some.injEq] at hk; exact .inr (by omega)
  · refine ⟨rfl, a, l, cp, ?_, Ext.of_below B2, fun k hk => .inl hk⟩
    rw [addW_has (by simpa using g : has ws x.1 = true)]
    exact h2
/-- A list that is gathered while the finder stands. -/
structure LSt (c : Cx) (X0 : Nat → Prop) (w0 : World) (b : Nat) (X : Nat → Prop) (w : World) (ws : List Wy) : Prop where
  sub : ∀ x, X0 x → X x
  mem : X b
  new : w0.heap.size ≤ b
  row : ∃ a l cp, LisAt w b a l cp ws ∧ ∀ k, blkOf a = some k → X k ∧ w0.heap.size ≤ k
  fin : FInv c X w
  ext : Ext (fun x => x = c.m) w0 w
theorem LSt.below {c : Cx} {X0 X : Nat → Prop} {w0 w w' : World} {b : Nat} {ws : List Wy} (h : LSt c X0 w0 b X w ws) (e : Below w.heap.size w w') : LSt c X0 w0 b X w' ws := by
  obtain ⟨a, l, cp, h1, h2⟩ := h.row
  exact ⟨h.sub, h.mem, h.new, ⟨a, l, cp, h1.keep (S := fun _ => False) (Ext.of_below e) (fun h => h) (fun _ _ h => h), h2⟩, h.fin.below e, h.ext.trans (Ext.of_below e)⟩
/-- A call of the finder leaves the list. -/
theorem LSt.call {c : Cx} {X0 X : Nat → Prop} {w0 w w' : World} {b : Nat} {ws : List Wy} (h : LSt c X0 w0 b X w ws) (hf : FInv c X w') (e : Ext (fun x => x = c.m) w w') : LSt c X0 w0 b X w' ws := by
  obtain ⟨a, l, cp, h1, h2⟩ := h.row
  exact ⟨h.sub, h.mem, h.new, ⟨a, l, cp, h1.keep e (fun hb => (h.fin.priv b h.mem).2.1 hb) (fun k hk hkm => (h.fin.priv k (h2 k hk).1).2.1 hkm), h2⟩, hf, h.ext.trans e⟩
theorem LSt.add {c : Cx} {X0 X : Nat → Prop} {w0 w : World} {b : Nat} {ws : List Wy} (h : LSt c X0 w0 b X w ws) (x : Wy) (hx : x.1 ≤ 200) (hl : ws.length ≤ 1000) :
    Cl Try.prog 129 [.pointer (some ⟨b, 0, none⟩), .agg ⟨wayC x⟩] w (fun e w' => e = .returned (.tuple #[]) ∧ ∃ X', LSt c X0 w0 b X' w' (addW ws x) ∧ Ext X w w' ∧ ∀ y, X' y → X y ∨ w.heap.size ≤ y) := by
  obtain ⟨a, l, cp, h1, h2⟩ := h.row
  refine (add_way h1 x hx hl).use fun e w' he => ?_
  obtain ⟨rfl, a', l', cp', h3, h4, h5⟩ := he
  have hE : Ext X w w' := Ext.mono h4 fun k _ hk => by
    rcases hk with rfl | hk
    · exact h.mem
    · exact (h2 k hk).1
  have hz := h.ext.size
  refine ⟨rfl, fun y => X y ∨ (blkOf a' = some y ∧ w.heap.size ≤ y), ⟨fun y hy => .inl (h.sub y hy), .inl h.mem, h.new, ⟨a', l', cp', h3, fun k hk => ?_⟩, h.fin.grow hE (fun _ h => h) (fun y hy => ?_) (fun y hy => ?_), h.ext.step h4 fun i hi hk => ?_⟩, hE, fun y hy => ?_⟩
  · rcases h5 k hk with h6 | h6
    · exact ⟨.inl (h2 k h6).1, (h2 k h6).2⟩
    · exact ⟨.inr ⟨hk, h6⟩, by omega⟩
  · rcases hy with hy | hy
    · exact .inl hy
    · exact .inr hy.2
  · rcases hy with hy | hy
    · exact Nat.lt_of_lt_of_le (h.fin.priv y hy).2.2.2 hE.size
    · exact h3.2.lt y hy.1
  · rcases hk with rfl | hk
    · have := h.new; omega
    · have := (h2 i hk).2; omega
  · rcases hy with hy | hy
    · exact .inl hy
    · exact .inr hy.2
/-- A new list. -/
theorem LSt.start {c : Cx} {X0 : Nat → Prop} {w0 w w' : World} (hf : FInv c X0 w) (e0 : Ext (fun x => x = c.m) w0 w) (k : Blk w'.heap w.heap.size 163 ([.slice none 0 0] ++ List.replicate 201 (.bool false))) (e : Ext (fun _ => False) w w') : LSt c X0 w0 w.heap.size (fun y => X0 y ∨ y = w.heap.size) w' [] := by
  refine ⟨fun _ h => .inl h, .inr rfl, e0.size, ⟨none, 0, 0, ⟨?_, Vec.nil _ _ _⟩, by simp [blkOf]⟩, hf.grow e (fun _ h => h.elim) (fun y hy => ?_) (fun y hy => ?_), e0.trans (Ext.mono e fun _ _ h => h.elim)⟩
  · rw [seenL_nil]; exact k
  · rcases hy with hy | rfl
    · exact .inl hy
    · exact .inr (Nat.le_refl _)
  · rcases hy with hy | rfl
    · exact Nat.lt_of_lt_of_le (hf.priv y hy).2.2.2 e.size
    · exact k.lt
/-- What was gathered is handed back. -/
theorem LSt.res {c : Cx} {X0 X : Nat → Prop} {w0 w : World} {b : Nat} {ws : List Wy} (h : LSt c X0 w0 b X w ws) (hX0 : ∀ x, X0 x → x < w0.heap.size) (hm : c.m < w0.heap.size) : ∃ a l cp, cellH w.heap b 0 = some (.slice a l cp) ∧ WaysAt c X0 w a l cp ws ∧ FInv c X0 w := by
  obtain ⟨a, l, cp, h1, h2⟩ := h.row
  refine ⟨a, l, cp, h1.1.cell 0, ⟨h1.2, fun k hk => ⟨fun hx => ?_, ?_⟩⟩, h.fin.drop h.sub⟩
  · have := hX0 k hx; have := (h2 k hk).2; omega
  · have := (h2 k hk).2; omega
end Go.Proofs.Ytngbiaeliphdjaa.V
/- What then does in the program's finder. No statement of the seat is proved here. -/
namespace Go.Vc
set_option linter.unusedVariables false
def ovW (g : Gr) (b : Wy) : Wy := (b.1, gOver g b.2)
def ovL (next : Nat → List Wy) (x : Wy) : List Wy := (next x.1).map (ovW x.2)
theorem thenP_eq (cur : List Wy) (next : Nat → List Wy) : thenP cur next = addA [] (cur.flatMap (ovL next)) := rfl
theorem addA_short {n : Nat} {l : List Wy} (h : ∀ z ∈ l, z.1 ≤ n) : (addA [] l).length ≤ n + 1 :=
  (DD.addA (xs := l) (l := []) (by simp [DD])).short fun z hz => by
    rcases mem_addA hz with hz | hz
    · cases hz
    · exact h z hz
end Go.Vc
namespace Go.Proofs.Ytngbiaeliphdjaa.V
open Go.Vc Go.Proofs Go.RowKit
set_option linter.unusedVariables false
set_option linter.unusedSimpArgs false
/-- A way is copied into a block of its own. -/
theorem copy_way {w : World} {b : Nat} {cs : List Value} (hb : Blk w.heap b 142 cs) (hl : cs.length = 21) (x : Wy) {K : World → Prop} (h : ∀ w1, w1.heap.size = w.heap.size → Blk w1.heap b 142 (wayC x) → Ext (fun k => k = b) w w1 → K w1) : stW b 0 (wayC x) K w := by
  refine stW_in hb (by rw [wayC_length, hl]; decide) fun w1 s1 k1 e1 => h w1 s1 ?_ e1
  rw [segSet_eq _ _ _ (by rw [wayC_length, hl]; decide), wayC_length] at k1
  rw [List.drop_of_length_le (by omega)] at k1
  simpa using k1
/-- The element of a row of ways. -/
theorem WaysAt.elem {c : Cx} {X : Nat → Prop} {w : World} {a : Option Addr} {l cp : Nat} {A B : List Wy} {x : Wy} (h : WaysAt c X w a l cp (A ++ x :: B)) :
    ∃ b, a = some ⟨b, 0, none⟩ ∧ A.length < l ∧ cellH w.heap b (0 + A.length * 21) = some (.int .i64 (x.1 : Int)) ∧ intsAt w.heap b (0 + A.length * 21 + 1) 20 (spI x.2) := by
  have hl := h.len
  have hl' : A.length < l := by rw [← hl]; simp
  obtain ⟨b, rfl, hc⟩ := h.1.open (by omega)
  have := Vec.way hc hl (i := A.length) (by simp)
  simp only [List.getElem_append_right (Nat.le_refl _), Nat.sub_self, List.getElem_cons_zero] at this
  exact ⟨b, rfl, hl', this.1, this.2⟩
theorem then_ok {c : Cx} {X : Nat → Prop} {w : World} {cur : List Wy} {a : Option Addr} {l cp : Nat} {f : FuncId} {fi cv : Array Value} {next : Nat → List Wy} {b0 o0 : Nat} (hF : FInv c X w) (hcur : WaysAt c X w a l cp cur) (hcl : cur.length ≤ 1000) (hcb : ∀ x ∈ cur, x.1 ≤ c.n) (hn : c.n ≤ 200) (hnb : ∀ p, p ≤ c.n → ∀ x ∈ next p, x.1 ≤ c.n) (hnl : ∀ p, p ≤ c.n → (next p).length ≤ 1000)
    (hnext : ∀ (X' : Nat → Prop) (w' : World) (p : Nat), p ≤ c.n → FInv c X' w' → Ext (fun x => x = c.m) w w' → Cl Try.prog f (fi.toList ++ [.int .i64 p] ++ cv.toList) w' (ResW c X' w' (next p))) :
    Cl Try.prog 131 [.pointer (some ⟨b0, o0, none⟩), .slice a l cp, .func (.func f) fi cv] w (ResW c X w (thenP cur next)) := by
  apply vc131
  unfold V131
  have hm := hF.memo.lt
  have hX0 : ∀ x, X x → x < w.heap.size := fun x hx => (hF.priv x hx).2.2.2
  have hlen := hcur.len
  refine newC_in fun w6 s6 k6 e6 => ?_
  have S6 := LSt.start hF (Ext.refl _ w) k6 e6
  generalize hb5 : w.heap.size = b5 at *
  have c6 : WaysAt c (fun y => X y ∨ y = b5) w6 a l cp cur := hcur.grow e6 (fun _ h => h.elim) fun y hy => by
    rcases hy with hy | hy
    · exact .inl hy
    · exact .inr (by omega)
  refine ⟨fun k n w' => ∃ (A B : List Wy) (X' : Nat → Prop), cur = A ++ B ∧ n = A.length ∧ k = B.length ∧ LSt c X w b5 X' w' (addA [] (A.flatMap (ovL next))) ∧ WaysAt c X' w' a l cp cur, ⟨_, [], cur, _, rfl, rfl, rfl, S6, c6⟩, ?_⟩
  clear c6 S6 k6 e6 s6
  rintro k d n w10 ⟨A, B, X1, hAB, rfl, rfl, S10, c10⟩
  have hABl : cur.length = A.length + B.length := by rw [hAB]; simp
  have e0 : Int.toNat (A.length : Int) = A.length := by omega
  have e1 : IntKind.wrap .i64 ((A.length : Int) + 1) = ((A.length + 1 : Nat) : Int) := by rw [w64 (by omega)]; omega
  rw [e0, e1]
  have hbnd : ∀ (A' : List Wy), (∀ z ∈ A', z ∈ cur) → ∀ z ∈ A'.flatMap (ovL next), z.1 ≤ 200 := by
    intro A' hA' z hz
    simp only [List.mem_flatMap, ovL, List.mem_map] at hz
    obtain ⟨x, hx, b, hb, rfl⟩ := hz
    exact Nat.le_trans (hnb x.1 (hcb x (hA' x hx)) b hb) hn
  refine ⟨fun g => ?_, fun g => ?_⟩
  · have g' : A.length < l := by have := of_decide_eq_true g; omega
    obtain ⟨x, B', rfl⟩ : ∃ x B', B = x :: B' := by
      cases B with
      | nil => simp at hABl; omega
      | cons x B' => exact ⟨x, B', rfl⟩
    have hxm : x ∈ cur := by rw [hAB]; simp
    have hxb := hcb x hxm
    have c10' := c10
    rw [hAB] at c10'
    obtain ⟨ba, hba, _, hx1, hx2⟩ := c10'.elem
    refine ⟨ba, 0, ⟨hba, by omega, by omega⟩, _, hx1, _, hx2, ?_⟩
    refine newC_in fun w18 s18 k18 e18 => ?_
    generalize hb17 : w10.heap.size = b17 at *
    refine copy_way k18 rfl x fun w19 s19 k19 e19 => ?_
    have B19 : Below w10.heap.size w10 w19 := Ext.to (Ext.to (Below.refl _ _) e18 fun _ h => h.elim) e19 fun i hi => by omega
    have S19 := S10.below B19
    have c19 := c10.below B19
    have hz10 := S10.ext.size
    have hX17 : ¬ X1 b17 := fun h => by have := (S10.fin.priv b17 h).2.2.2; omega
    refine ⟨_, k19.way.1, ?_⟩
    refine (hnext X1 w19 x.1 hxb S19.fin S19.ext).use fun e w22 he => ?_
    obtain ⟨a21, l21, c21, rfl, r22, f22, e22⟩ := he
    refine ⟨a21, l21, c21, rfl, ?_⟩
    have S22 := S19.call f22 e22
    have c22 : WaysAt c X1 w22 a l cp cur := c19.grow e22 (fun _ h => .inr h) fun _ h => .inl h
    have hm17 : b17 ≠ c.m := by omega
    have k22 := k19.keep e22 hm17
    have hl21 := r22.len
    have hnl' := hnl x.1 hxb
    refine ⟨fun k n w' => ∃ (C D : List Wy) (X2 : Nat → Prop), next x.1 = C ++ D ∧ n = C.length ∧ k = D.length ∧ LSt c X w b5 X2 w' (addA (addA [] (A.flatMap (ovL next))) (C.map (ovW x.2))) ∧ WaysAt c X2 w' a l cp cur ∧ WaysAt c X2 w' a21 l21 c21 (next x.1) ∧ Blk w'.heap b17 142 (wayC x) ∧ ¬ X2 b17, ⟨_, [], next x.1, X1, rfl, rfl, rfl, S22, c22, r22, k22, hX17⟩, ?_⟩
    clear k22 c22 S22 r22 f22 e22 hX17 c19 S19 B19 k19 e19 s19 k18 e18 s18 hx1 hx2 c10' c10 S10
    rintro k d2 n w27 ⟨C, D, X2, hCD, rfl, rfl, S27, c27, r27, k27, hX27⟩
    have hCDl : (next x.1).length = C.length + D.length := by rw [hCD]; simp
    have e0' : Int.toNat (C.length : Int) = C.length := by omega
    have e1' : IntKind.wrap .i64 ((C.length : Int) + 1) = ((C.length + 1 : Nat) : Int) := by rw [w64 (by omega)]; omega
    rw [e0', e1']
    refine ⟨fun g2 => ?_, fun g2 => ?_⟩
    · have g2' : C.length < l21 := by have := of_decide_eq_true g2; omega
      obtain ⟨y, D', rfl⟩ : ∃ x B', D = x :: B' := by
        cases D with
        | nil => simp at hCDl; omega
        | cons x B' => exact ⟨x, B', rfl⟩
      have hym : y ∈ next x.1 := by rw [hCD]; simp
      have hyb := hnb x.1 hxb y hym
      have r27' := r27
      rw [hCD] at r27'
      obtain ⟨br, hbr, _, hy1, hy2⟩ := r27'.elem
      refine ⟨br, 0, ⟨hbr, by omega, by omega⟩, _, hy1, _, hy2, ?_⟩
      refine newC_in fun w35 s35 k35 e35 => ?_
      generalize hb34 : w27.heap.size = b34 at *
      refine copy_way k35 rfl y fun w36 s36 k36 e36 => ?_
      refine drw_in fun w37 q37 e37 => ?_
      have B37 : Below w27.heap.size w27 w37 := Ext.to (Ext.to (Ext.to (Below.refl _ _) e35 fun _ h => h.elim) e36 fun i hi => by omega) e37 fun _ h => h.elim
      have k37 := k36.keep e37 fun h => h
      have kx37 := k27.below B37
      refine ⟨_, k37.way.1, _, kx37.way.2, _, k37.way.2, ?_⟩
      refine (with_ok x.2 y.2 w37).ret fun w42 b42 => ⟨spI (gOver x.2 y.2), rfl, (k37.below b42).way.1, ?_⟩
      have B42 := B37.vstep b42
      have S42 := S27.below B42
      refine (S42.add (y.1, gOver x.2 y.2) (by show y.1 ≤ 200; omega) ?_).use fun e w44 he => ?_
      · rw [← addA_append]
        refine Nat.le_trans (addA_short (n := 200) fun z hz => ?_) (by decide)
        rcases List.mem_append.1 hz with hz | hz
        · exact hbnd A (fun z hz => by rw [hAB]; exact List.mem_append_left _ hz) z hz
        · obtain ⟨b, hb, rfl⟩ := List.mem_map.1 hz
          exact Nat.le_trans (hnb x.1 hxb b (by rw [hCD]; exact List.mem_append_left _ hb)) hn
      obtain ⟨rfl, X3, S44, e44, hX3⟩ := he
      have hz42 := B42.size
      refine ⟨rfl, D'.length, by simp, C ++ [y], D', X3, by rw [hCD]; simp, by simp, rfl, ?_, (c27.below B42).grow e44 (fun _ h => .inl h) hX3, (r27.below B42).grow e44 (fun _ h => .inl h) hX3, (k27.below B42).keep e44 hX27, fun h => ?_⟩
      · rw [List.map_append, addA_append]; exact S44
      · rcases hX3 b17 h with h | h
        · exact hX27 h
        · have := k27.lt; omega
    · have g2' : ¬ C.length < l21 := by have := of_decide_eq_false g2; omega
      have : D = [] := by
        cases D with
        | nil => rfl
        | cons x r => have := r27.len; simp at hCDl; omega
      subst this
      rw [List.append_nil] at hCD
      refine ⟨B'.length, by simp, A ++ [x], B', X2, by rw [hAB]; simp, by simp, rfl, ?_, c27⟩
      rw [List.flatMap_append, addA_append, List.flatMap_cons, List.flatMap_nil, List.append_nil]
      unfold ovL at *
      rw [hCD]
      exact S27
  · have g' : ¬ A.length < l := by have := of_decide_eq_false g; omega
    have : B = [] := by
      cases B with
      | nil => rfl
      | cons x r => simp at hABl; omega
    subst this
    rw [List.append_nil] at hAB
    subst hAB
    obtain ⟨a4, l4, c4, h1, h2, h3⟩ := S10.res (fun x hx => by have := hX0 x hx; omega) (by omega)
    exact ⟨a4, l4, c4, h1, a4, l4, c4, rfl, h2, h3, S10.ext⟩
end Go.Proofs.Ytngbiaeliphdjaa.V
/- What more does in the program's finder. No statement of the seat is proved here. -/
namespace Go.Proofs.Ytngbiaeliphdjaa.V
open Go.Vc Go.Proofs Go.RowKit
set_option linter.unusedVariables false
set_option linter.unusedSimpArgs false
structure CxOk (c : Cx) : Prop where
  wf : Wf c.P.groups c.P.pieces
  g9 : c.P.groups ≤ 9
  len : c.P.pieces.length ≤ 482
  n200 : c.n ≤ 200
  small : AllS c.P.pieces
theorem CxOk.wok {c : Cx} (h : CxOk c) (k i : Nat) (hi : i ≤ c.n) : ∀ w ∈ c.ends k i, WOk c.P.groups c.n i w :=
  endsP_ok (fun x hx h5 => by
    obtain ⟨j, hj⟩ := List.getElem?_of_mem hx
    have := (h.wf j x hj).num h5
    omega) k i hi
theorem CxOk.short {c : Cx} (h : CxOk c) (k i : Nat) (hi : i ≤ c.n) : (c.ends k i).length ≤ 201 := by
  have := (endsP_dd c.P.pieces (L c.t) k i).short fun x hx => (h.wok k i hi x hx).hi
  have := h.n200
  show (endsP c.P.pieces (L c.t) k i).length ≤ 201
  omega
theorem CxOk.mok {c : Cx} (h : CxOk c) (k i : Nat) (left : Option Nat) (hi : i ≤ c.n) : ∀ w ∈ c.more k left i, WOk c.P.groups c.n i w :=
  moreP_ok (fun p hp => h.wok _ p hp) _ i left rfl hi
theorem CxOk.mshort {c : Cx} (h : CxOk c) (k i : Nat) (left : Option Nat) (hi : i ≤ c.n) : (c.more k left i).length ≤ 201 := by
  have := (moreP_dd (c.sub k) c.n (c.P.pieces.getD k pSta).lazy left i).short fun x hx => (h.mok k i left hi x hx).hi
  have := h.n200
  show (moreP (c.sub k) c.n (c.P.pieces.getD k pSta).lazy left i).length ≤ 201
  omega
/-- One piece in memory. -/
theorem FInv.piece {c : Cx} {X : Nat → Prop} {w : World} (h : FInv c X w) {k : Nat} (hk : k < c.P.pieces.length) :
    ∃ bp r, c.pa = some ⟨bp, 0, none⟩ ∧ k < c.pl ∧ (∀ o, o < 7 → cellH w.heap bp (0 + k * 7 + o) = r.cells[o]?) ∧ RawOk w r (c.P.pieces.getD k pSta) ∧ ∀ q ∈ r.blocks, q ∈ blks c.pa c.rs := by
  have h1 := h.pcs.len
  have h2 := h.pcs.len'
  obtain ⟨b, hb, hc⟩ := h.pcs.row.open (by omega)
  refine ⟨b, c.rs[k]'(by omega), hb, by omega, raw_at hc h1 (i := k) (by omega), ?_, fun q hq => List.mem_append_right _ (List.mem_flatMap.2 ⟨_, List.getElem_mem _, hq⟩)⟩
  refine h.pcs.all k _ _ (List.getElem?_eq_getElem (by omega)) ?_
  rw [List.getD_eq_getElem?_getD, List.getElem?_eq_getElem hk]; rfl
/-- The memo has it. -/
theorem memo_get {c : Cx} {X : Nat → Prop} {w0 w : World} (h : FInv c X w) (E : Ext (fun x => x = c.m) w0 w) (x y z : Int) :
    ∃ (a : Option Addr) (l cp : Nat) (t : Bool), (Instr.lookup 126 (.map (some c.m)) (.agg #[.int .i64 x, .int .i64 y, .int .i64 z]) true).run Try.prog w = .ok (.tuple #[.slice a l cp, .bool t]) w ∧ (t = true → Good c X w x y z a l cp) := lookup_run h.memo x y z
/-- The memo is told. -/
theorem memo_put {c : Cx} {X X1 : Nat → Prop} {w0 w : World} {b : Nat} {ws : List Wy} (S : LSt c X w0 b X1 w ws) (hX0 : ∀ x, X x → x < w0.heap.size) (hm : c.m < w0.heap.size) (x y z : Int) (hg : ∀ (w : World) (a : Option Addr) (l cp : Nat), WaysAt c X w a l cp ws → Good c X w x y z a l cp) :
    ∃ (a : Option Addr) (l cp : Nat) (w' : World), cellH w.heap b 0 = some (.slice a l cp) ∧ (Instr.mapUpdate 126 (.map (some c.m)) (.agg #[.int .i64 x, .int .i64 y, .int .i64 z]) (.slice a l cp)).run Try.prog w = .ok () w' ∧ cellH w'.heap b 0 = some (.slice a l cp) ∧ ResW c X w0 ws (.returned (.slice a l cp)) w' := by
  obtain ⟨a, l, cp, h1, h2, h3⟩ := S.res hX0 hm
  obtain ⟨w', r1, r2, r3, r4⟩ := update_run h3.memo (hg w a l cp h2)
  have hbm : b ≠ c.m := by have := S.new; omega
  have hbl : b < w.heap.size := (S.fin.priv b S.mem).2.2.2
  have hgrow : ∀ {a : Option Addr} {l cp : Nat} {ws : List Wy}, WaysAt c X w a l cp ws → WaysAt c X w' a l cp ws := fun h => h.grow r4 (fun _ h => .inr h) fun _ h => .inl h
  refine ⟨a, l, cp, w', h1, r1, by rw [Ext.cellH r4 hbl hbm]; exact h1, a, l, cp, rfl, hgrow h2, ⟨h3.fb.keep r4 h3.ne1, h3.pcs.keep r4 fun k hk hkm => h3.ne2 (hkm ▸ hk), r3.mono fun x y z a l cp hg => ?_, h3.ne1, h3.ne2, fun q hq => ?_⟩, S.ext.trans r4⟩
  · exact ⟨fun k i e1 e2 e3 => hgrow (hg.1 k i e1 e2 e3), fun k i left e1 e2 e3 => hgrow (hg.2 k i left e1 e2 e3)⟩
  · have := h3.priv q hq
    exact ⟨this.1, this.2.1, this.2.2.1, by omega⟩
theorem leftI_inj {a b : Option Nat} (h : leftI a = leftI b) : a = b := by
  cases a <;> cases b <;> simp only [leftI] at h
  · rfl
  · omega
  · omega
  · congr 1; omega
theorem leftI_ge (a : Option Nat) : -1 ≤ leftI a := by cases a <;> simp only [leftI] <;> omega
theorem good_more {c : Cx} {X : Nat → Prop} {w : World} {k i : Nat} {left : Option Nat} {a : Option Addr} {l cp : Nat} (h : WaysAt c X w a l cp (c.more k left i)) : Good c X w k i (leftI left) a l cp := by
  refine ⟨fun k' i' _ _ h3 => ?_, fun k' i' left' h1 h2 h3 => ?_⟩
  · have := leftI_ge left; omega
  · obtain rfl : k = k' := by omega
    obtain rfl : i = i' := by omega
    obtain rfl := leftI_inj h3
    exact h
theorem good_ways {c : Cx} {X : Nat → Prop} {w : World} {k i : Nat} {a : Option Addr} {l cp : Nat} (h : WaysAt c X w a l cp (c.ends k i)) : Good c X w k i (-2) a l cp := by
  refine ⟨fun k' i' h1 h2 _ => ?_, fun k' i' left' h1 h2 h3 => ?_⟩
  · obtain rfl : k = k' := by omega
    obtain rfl : i = i' := by omega
    exact h
  · have := leftI_ge left'; omega
/-- What a way on gives. -/
def stepM (c : Cx) (k : Nat) (left : Option Nat) (i : Nat) (a : Wy) : List Wy := if i < a.1 ∧ a.1 ≤ c.n then (c.more k (left.map (· - 1)) a.1).map (ovW a.2) else []
theorem more_eq (c : Cx) (k : Nat) (left : Option Nat) (i : Nat) : c.more k left i = addA [] ((if (c.P.pieces.getD k pSta).lazy then [(i, gNone)] else []) ++ (if left = some 0 then [] else (c.sub k i).flatMap (stepM c k left i)) ++ [(i, gNone)]) := by
  show moreP _ _ _ _ _ = _
  rw [moreP]
  congr 3
theorem fmore_ok {c : Cx} (ok : CxOk c) {k : Nat} (hk : k < c.P.pieces.length) (h4 : (c.P.pieces.getD k pSta).kind = 4) (hsub : ∀ k', k' < k → WaysC c k') : MoreC c k := by
  have hpk : c.P.pieces[k]? = some (c.P.pieces.getD k pSta) := by rw [List.getD_eq_getElem?_getD, List.getElem?_eq_getElem hk]; rfl
  have hpo := ok.wf k _ hpk
  obtain ⟨kid, hkid⟩ := hpo.one (.inl h4)
  have hkb := hpo.kids kid (by rw [hkid]; simp)
  have hkt : (kid.toNat : Int) = kid := by omega
  have hsubk : c.sub k = c.ends kid.toNat := by funext i; unfold Cx.sub; rw [hkid]; rfl
  intro X w i left hF hi hlq
  induction hm : c.n - i using Nat.strongRecOn generalizing X w i left with
  | _ m ih =>
  apply vc135
  unfold V135
  have hX0 : ∀ x, X x → x < w.heap.size := fun x hx => (hF.priv x hx).2.2.2
  have hml := hF.memo.lt
  have hn200 := ok.n200
  have hlen482 := ok.len
  refine newC_in fun w7 s7 k7 e7 => ?_
  generalize hb6 : w.heap.size = b6 at *
  refine stW_in k7 (by show 0 + 3 ≤ 3; decide) fun w8 s8 k8 e8 => ?_
  have k8' : Blk w8.heap b6 159 [.int .i64 k, .int .i64 i, .int .i64 (leftI left)] := k8
  refine drw_in fun w9 q9 e9 => ?_
  have B9 : Below w.heap.size w w9 := Ext.to (Ext.to (Ext.to (Below.refl _ _) e7 fun _ h => h.elim) e8 fun i hi => by omega) e9 fun _ h => h.elim
  have k9 := k8'.keep e9 fun h => h
  have F9 := hF.below B9
  obtain ⟨a0, l0, c0, t0, hl1, hl2⟩ := memo_get F9 (Ext.refl _ _) (k : Int) (i : Int) (leftI left)
  refine ⟨some c.m, F9.fb.cell 5, _, k9.cell 0, _, k9.cell 1, _, k9.cell 2, a0, l0, c0, t0, hl1, fun ht => ?_, fun ht => ?_⟩
  · exact ⟨a0, l0, c0, rfl, (hl2 ht).2 k i left rfl rfl rfl, F9, Ext.of_below (hb6 ▸ B9)⟩
  clear hl1 hl2
  obtain ⟨bp, r, hpa, hkpl, hcell, hraw, hrb⟩ := F9.piece hk
  have e0 : Int.toNat (k : Int) = k := by omega
  rw [e0]
  refine ⟨_, _, _, F9.fb.cell 3, bp, 0, ⟨hpa, by omega, by omega⟩, _, hcell 0 (by decide), _, _, _, hcell 1 (by decide), _, hcell 2 (by decide), _, hcell 3 (by decide), _, hcell 4 (by decide), _, hcell 5 (by decide), _, _, _, hcell 6 (by decide), ?_⟩
  refine newC_in fun w27 s27 k27 e27 => ?_
  generalize hb26 : w9.heap.size = b26 at *
  refine stW_in k27 (by show 0 + 7 ≤ 7; decide) fun w28 s28 k28 e28 => ?_
  have k28' : Blk w28.heap b26 111 r.cells := k28
  have B28 : Below w9.heap.size w9 w28 := Ext.to (Ext.to (Below.refl _ _) e27 fun _ h => h.elim) e28 fun i hi => by omega
  have F28 := F9.below B28
  have k28b := k9.below B28
  have hraw28 := hraw.keep (S := fun _ => False) (Ext.of_below B28) fun _ _ h => h
  have hz9 := B9.size
  refine newC_in fun w30 s30 k30 e30 => ?_
  have E28 : Ext (fun x => x = c.m) w w28 := (Ext.of_below (hb6 ▸ B9)).trans (Ext.of_below B28)
  have S30 := LSt.start F28 E28 k30 e30
  have k30a := k28'.keep e30 fun h => h
  have k30b := k28b.keep e30 fun h => h
  have hraw30 := hraw28.keep e30 fun _ _ h => h
  have hb6l := k28b.lt
  have hb26l := k28'.lt
  generalize hb29 : w28.heap.size = b29 at *
  have hn6 : ¬ (X b6 ∨ b6 = b29) := fun h => by
    rcases h with h | h
    · have := hX0 b6 h; omega
    · omega
  have hn26 : ¬ (X b26 ∨ b26 = b29) := fun h => by
    rcases h with h | h
    · have := hX0 b26 h; omega
    · omega
  have hm6 : b6 ≠ c.m := by omega
  have hm26 : b26 ≠ c.m := by omega
  have hlz : r.lazy = (c.P.pieces.getD k pSta).lazy := hraw.lazy
  refine ⟨r.lazy, k30a.cell 4, fun w' => ∃ X', LSt c X w b29 X' w' (addA [] (if (c.P.pieces.getD k pSta).lazy then [(i, gNone)] else [])) ∧ Blk w'.heap b26 111 r.cells ∧ Blk w'.heap b6 159 [.int .i64 k, .int .i64 i, .int .i64 (leftI left)] ∧ RawOk w' r (c.P.pieces.getD k pSta) ∧ ¬ X' b6 ∧ ¬ X' b26, ⟨fun g => ?_, fun g => ?_⟩, ?_⟩
  · refine (none_ok w30).ret fun w34 b34 => ⟨spI gNone, rfl, ?_⟩
    refine ((S30.below b34).add (i, gNone) (by show i ≤ 200; omega) (by simp)).use fun e w36 he => ?_
    obtain ⟨rfl, X3, S36, e36, hX3⟩ := he
    have hz34 := b34.size
    refine ⟨rfl, X3, ?_, (k30a.below b34).keep e36 hn26, (k30b.below b34).keep e36 hn6, (hraw30.keep (S := fun _ => False) (Ext.of_below b34) fun _ _ h => h).keep e36 fun q hq hX => ?_, fun h => ?_, fun h => ?_⟩
    · rw [← hlz, g]; exact S36
    · rcases hX with h | h
      · exact (hF.priv q h).2.2.1 (hrb q hq)
      · have := hF.pcs.lt q (hrb q hq); omega
    · rcases hX3 b6 h with h | h
      · exact hn6 h
      · have := k30b.lt; omega
    · rcases hX3 b26 h with h | h
      · exact hn26 h
      · have := k30a.lt; omega
  · exact ⟨_, by rw [← hlz, g]; exact S30, k30a, k30b, hraw30, hn6, hn26⟩
  clear hn26 hn6 hraw30 k30b k30a S30 e30 k30 s30 hraw28 k28b F28 k28' k28 e28 s28 k27 e27 s27 hcell F9 k9 B9 e9 q9 k8' k8 e8 s8 k7 e7 s7
  rintro d39 w39 ⟨X1, S39, kp39, kk39, hr39, hx6, hx26⟩
  -- the end
  have hfin : ∀ {w' : World} {X' : Nat → Prop} {ws : List Wy}, LSt c X w b29 X' w' ws → Blk w'.heap b6 159 [.int .i64 k, .int .i64 i, .int .i64 (leftI left)] → ¬ X' b6 → ws.length ≤ 1000 → addA ws [(i, gNone)] = c.more k left i → Cl Try.prog 130 ([]) w' (retG (fun (r96 : Value) (w95 : World) => ∃ (g94 : Nat → Int), r96 = .agg #[.int .i64 (g94 0), .int .i64 (g94 1), .int .i64 (g94 2), .int .i64 (g94 3), .int .i64 (g94 4), .int .i64 (g94 5), .int .i64 (g94 6), .int .i64 (g94 7), .int .i64 (g94 8), .int .i64 (g94 9), .int .i64 (g94 10), .int .i64 (g94 11), .int .i64 (g94 12), .int .i64 (g94 13), .int .i64 (g94 14), .int .i64 (g94 15), .int .i64 (g94 16), .int .i64 (g94 17), .int .i64 (g94 18), .int .i64 (g94 19)] ∧ Cl Try.prog 129 ([.pointer (some ⟨b29, 0, none⟩), .agg #[.int .i64 (i : Int), .int .i64 (g94 0), .int .i64 (g94 1), .int .i64 (g94 2), .int .i64 (g94 3), .int .i64 (g94 4), .int .i64 (g94 5), .int .i64 (g94 6), .int .i64 (g94 7), .int .i64 (g94 8), .int .i64 (g94 9), .int .i64 (g94 10), .int .i64 (g94 11), .int .i64 (g94 12), .int .i64 (g94 13), .int .i64 (g94 14), .int .i64 (g94 15), .int .i64 (g94 16), .int .i64 (g94 17), .int .i64 (g94 18), .int .i64 (g94 19)]]) w95 (retG (fun (r98 : Value) (w97 : World) => r98 = .tuple #[] ∧ drw (fun (w99 : World) => ∃ (m100 : Option Nat), cellH w99.heap c.bf (0 + 5) = some (.map m100) ∧ ∃ (n101 : Int), cellH w99.heap b6 0 = some (.int .i64 n101) ∧ ∃ (n102 : Int), cellH w99.heap b6 1 = some (.int .i64 n102) ∧ ∃ (n103 : Int), cellH w99.heap b6 2 = some (.int .i64 n103) ∧ ∃ (a104 : Option Addr), ∃ (l104 : Nat), ∃ (c104 : Nat), cellH w99.heap b29 0 = some (.slice a104 l104 c104) ∧ ∃ (w105 : World), (Instr.mapUpdate 126 (.map m100) (.agg #[.int .i64 n101, .int .i64 n102, .int .i64 n103]) (.slice a104 l104 c104)).run Try.prog w99 = .ok () w105 ∧ ∃ (a106 : Option Addr), ∃ (l106 : Nat), ∃ (c106 : Nat), cellH w105.heap b29 0 = some (.slice a106 l106 c106) ∧ ResW c X w (c.more k left i) (.returned (.slice a106 l106 c106)) w105) w97) (fun c1 w1' => ResW c X w (c.more k left i) (.panicked c1) w1'))) (fun c1 w1' => ResW c X w (c.more k left i) (.panicked c1) w1')) := by
    intro w' X' ws S' k' hx' hl' hws
    refine (none_ok w').ret fun w95 b95 => ⟨spI gNone, rfl, ?_⟩
    refine ((S'.below b95).add (i, gNone) (by show i ≤ 200; omega) hl').use fun e w97 he => ?_
    obtain ⟨rfl, X3, S97, e97, hX3⟩ := he
    refine ⟨rfl, drw_in fun w99 q99 e99 => ?_⟩
    have B99 : Below w97.heap.size w97 w99 := Ext.to (Below.refl _ _) e99 fun _ h => h.elim
    have S99 := S97.below B99
    have k99 := ((k'.below b95).keep e97 hx').below B99
    have S99' : LSt c X w b29 X3 w99 (c.more k left i) := by rw [← hws]; exact S99
    obtain ⟨a1, l1, c1, w105, p1, p2, p3, p4⟩ := memo_put S99' (fun x hx => by have := hX0 x hx; omega) (by omega) (k : Int) (i : Int) (leftI left) fun _ _ _ _ h => good_more h
    exact ⟨some c.m, S99.fin.fb.cell 5, _, k99.cell 0, _, k99.cell 1, _, k99.cell 2, a1, l1, c1, p1, w105, p2, a1, l1, c1, p3, p4⟩
  have hsh : ∀ {l : List Wy}, (∀ z ∈ l, z.1 ≤ 200) → (addA [] l).length ≤ 1000 := fun h => Nat.le_trans (addA_short h) (by decide)
  have hlz1 : ∀ z ∈ (if (c.P.pieces.getD k pSta).lazy = true then [((i : Nat), gNone)] else [] : List Wy), z.1 ≤ 200 := by
    intro z hz
    split at hz
    · simp only [List.mem_singleton] at hz; subst hz; show i ≤ 200; omega
    · cases hz
  refine ⟨fun g => ?_, fun g => ?_⟩
  rotate_left
  · have g' : left = some 0 := by
      have : leftI left = 0 := by simpa using g
      exact leftI_inj (by rw [this]; rfl)
    refine hfin S39 kk39 hx6 (hsh hlz1) ?_
    rw [more_eq, if_pos g', List.append_nil, addA_append]
  have g' : left ≠ some 0 := fun h => by subst h; simp [leftI] at g
  refine ⟨fun n' w' => n' = leftI (left.map (· - 1)) ∧ w' = w39, ⟨fun g2 => ?_, fun g2 => ?_⟩, ?_⟩
  · have g2' := of_decide_eq_true g2
    cases left with
    | none => simp [leftI] at g2'
    | some q =>
      simp only [leftI] at g2'
      have := hlq q rfl
      refine ⟨?_, rfl⟩
      show IntKind.wrap .i64 ((q : Int) - 1) = ((q - 1 : Nat) : Int)
      rw [w64 (by omega)]; omega
  · have g2' := of_decide_eq_false g2
    cases left with
    | none => exact ⟨rfl, rfl⟩
    | some q =>
      simp only [leftI] at g2'
      have : q = 0 := by omega
      subst this; exact absurd rfl g'
  rintro dn n42 w43 ⟨rfl, rfl⟩
  -- the kid
  have hkv := hr39.kids
  rw [hkid] at hkv
  have hkl : r.kl = 1 := by have := hkv.1; rw [intC_length] at this; simp at this; omega
  obtain ⟨bk, hbk, hkc⟩ := hkv.open (by omega)
  refine ⟨_, _, _, kp39.cell 6, bk, 0, ⟨hbk, by omega, by omega⟩, kid, by rw [hkc 0 (by omega)]; rfl, ?_⟩
  have hl50 : ∀ q, left.map (· - 1) = some q → q ≤ 50 := by
    intro q hq
    cases left with
    | none => cases hq
    | some q' => have := hlq q' rfl; simp only [Option.map_some, Option.some.injEq] at hq; omega
  have hcall := hsub kid.toNat (by omega) X1 w43 i S39.fin hi
  rw [hkt] at hcall
  refine hcall.use fun e w49 he => ?_
  obtain ⟨a48, l48, c48, rfl, r48, f48, e48⟩ := he
  have S49 := S39.call f48 e48
  have kk49 := kk39.keep e48 hm6
  have hwk := ok.wok kid.toNat i hi
  have hlw := ok.short kid.toNat i hi
  have hl48 := r48.len
  refine ⟨a48, l48, c48, rfl, fun m' n' w' => ∃ (A B : List Wy) (X2 : Nat → Prop), c.ends kid.toNat i = A ++ B ∧ n' = A.length ∧ m' = B.length ∧ LSt c X w b29 X2 w' (addA (addA [] (if (c.P.pieces.getD k pSta).lazy then [(i, gNone)] else [])) (A.flatMap (stepM c k left i))) ∧ WaysAt c X2 w' a48 l48 c48 (c.ends kid.toNat i) ∧ Blk w'.heap b6 159 [.int .i64 k, .int .i64 i, .int .i64 (leftI left)] ∧ ¬ X2 b6, ⟨_, [], _, X1, rfl, rfl, rfl, S49, r48, kk49, hx6⟩, ?_⟩
  clear S49 kk49 r48 f48 e48 hcall hkc hkv kp39 hr39 hx26 kk39 S39 hx6
  have hbndS : ∀ (A : List Wy), ∀ z ∈ A.flatMap (stepM c k left i), z.1 ≤ 200 := by
    intro A z hz
    simp only [List.mem_flatMap] at hz
    obtain ⟨x, hx, hz⟩ := hz
    unfold stepM at hz
    split at hz
    · rename_i hc
      obtain ⟨y, hy, rfl⟩ := List.mem_map.1 hz
      exact Nat.le_trans (ok.mok k x.1 _ hc.2 y hy).hi hn200
    · cases hz
  rintro m' d n' w54 ⟨A, B, X2, hAB, rfl, rfl, S54, r54, kk54, hx54⟩
  have hABl : (c.ends kid.toNat i).length = A.length + B.length := by rw [hAB]; simp
  have e0 : Int.toNat (A.length : Int) = A.length := by omega
  have e1 : IntKind.wrap .i64 ((A.length : Int) + 1) = ((A.length + 1 : Nat) : Int) := by rw [w64 (by omega)]; omega
  rw [e0, e1]
  have hbnd2 : ∀ z ∈ (if (c.P.pieces.getD k pSta).lazy = true then [((i : Nat), gNone)] else [] : List Wy) ++ A.flatMap (stepM c k left i), z.1 ≤ 200 := fun z hz => by
    rcases List.mem_append.1 hz with hz | hz
    · exact hlz1 z hz
    · exact hbndS A z hz
  refine ⟨fun g2 => ?_, fun g2 => ?_⟩
  · have g2' : A.length < l48 := by have := of_decide_eq_true g2; omega
    obtain ⟨x, B', rfl⟩ : ∃ x B', B = x :: B' := by
      cases B with
      | nil => simp at hABl; omega
      | cons x B' => exact ⟨x, B', rfl⟩
    have hxm : x ∈ c.ends kid.toNat i := by rw [hAB]; simp
    have hxb := hwk x hxm
    have r54' := r54
    rw [hAB] at r54'
    obtain ⟨ba, hba, _, hx1, hx2⟩ := r54'.elem
    refine ⟨ba, 0, ⟨hba, by omega, by omega⟩, _, hx1, _, hx2, ?_⟩
    refine newC_in fun w62 s62 k62 e62 => ?_
    generalize hb61 : w54.heap.size = b61 at *
    refine copy_way k62 rfl x fun w63 s63 k63 e63 => ?_
    have B63 : Below w54.heap.size w54 w63 := Ext.to (Ext.to (Below.refl _ _) e62 fun _ h => h.elim) e63 fun i hi => by omega
    have S63 := S54.below B63
    have r63 := r54.below B63
    have kk63 := kk54.below B63
    have hz54 := S54.ext.size
    have hX61 : ¬ X2 b61 := fun h => by have := (S54.fin.priv b61 h).2.2.2; omega
    refine ⟨_, k63.way.1, fun g3 => ?_, fun g3 => ?_⟩
    · have g3' : x.1 = i := by have : ((x.1 : Nat) : Int) = i := by simpa using g3
                               omega
      refine ⟨B'.length, by simp, A ++ [x], B', X2, by rw [hAB]; simp, by simp, rfl, ?_, r63, kk63, hx54⟩
      rw [List.flatMap_append, List.flatMap_cons, List.flatMap_nil, List.append_nil]
      rw [show stepM c k left i x = [] from by unfold stepM; rw [if_neg (by omega)], List.append_nil]
      exact S63
    · have g3' : x.1 ≠ i := by have : ¬ ((x.1 : Nat) : Int) = i := by simpa using g3
                               omega
      have hlo := hxb.lo
      have hhi := hxb.hi
      refine ⟨_, k63.way.1, ?_⟩
      refine (ih (c.n - x.1) (by omega) X2 w63 x.1 (left.map (· - 1)) S63.fin hhi hl50 rfl).use fun e w68 he => ?_
      obtain ⟨a67, l67, c67, rfl, r67, f67, e67⟩ := he
      have S68 := S63.call f67 e67
      have r68 : WaysAt c X2 w68 a48 l48 c48 (c.ends kid.toNat i) := r63.grow e67 (fun _ h => .inr h) fun _ h => .inl h
      have hm61 : b61 ≠ c.m := by omega
      have k68 := k63.keep e67 hm61
      have kk68 := kk63.keep e67 hm6
      have hl67 := r67.len
      have hml' := ok.mshort k x.1 (left.map (· - 1)) hhi
      have hmw := ok.mok k x.1 (left.map (· - 1)) hhi
      refine ⟨a67, l67, c67, rfl, fun m3 n3 w' => ∃ (C D : List Wy) (X3 : Nat → Prop), c.more k (left.map (· - 1)) x.1 = C ++ D ∧ n3 = C.length ∧ m3 = D.length ∧ LSt c X w b29 X3 w' (addA (addA (addA [] (if (c.P.pieces.getD k pSta).lazy then [(i, gNone)] else [])) (A.flatMap (stepM c k left i))) (C.map (ovW x.2))) ∧ WaysAt c X3 w' a48 l48 c48 (c.ends kid.toNat i) ∧ WaysAt c X3 w' a67 l67 c67 (c.more k (left.map (· - 1)) x.1) ∧ Blk w'.heap b6 159 [.int .i64 k, .int .i64 i, .int .i64 (leftI left)] ∧ Blk w'.heap b61 142 (wayC x) ∧ ¬ X3 b6 ∧ ¬ X3 b61, ⟨_, [], _, X2, rfl, rfl, rfl, S68, r68, r67, kk68, k68, hx54, hX61⟩, ?_⟩
      clear S68 r68 r67 kk68 k68 hX61 hx54 f67 e67 kk63 r63 S63 B63 k63 e63 s63 k62 e62 s62 hx1 hx2 r54' r54 S54 kk54
      rintro m3 d3 n3 w73 ⟨C, D, X3, hCD, rfl, rfl, S73, r73, q73, kk73, k73, hx73, hx61⟩
      have hCDl : (c.more k (left.map (· - 1)) x.1).length = C.length + D.length := by rw [hCD]; simp
      have e0' : Int.toNat (C.length : Int) = C.length := by omega
      have e1' : IntKind.wrap .i64 ((C.length : Int) + 1) = ((C.length + 1 : Nat) : Int) := by rw [w64 (by omega)]; omega
      rw [e0', e1']
      refine ⟨fun g4 => ?_, fun g4 => ?_⟩
      · have g4' : C.length < l67 := by have := of_decide_eq_true g4; omega
        obtain ⟨y, D', rfl⟩ : ∃ x B', D = x :: B' := by
          cases D with
          | nil => simp at hCDl; omega
          | cons x B' => exact ⟨x, B', rfl⟩
        have hym : y ∈ c.more k (left.map (· - 1)) x.1 := by rw [hCD]; simp
        have hyb := (hmw y hym).hi
        have q73' := q73
        rw [hCD] at q73'
        obtain ⟨br, hbr, _, hy1, hy2⟩ := q73'.elem
        refine ⟨br, 0, ⟨hbr, by omega, by omega⟩, _, hy1, _, hy2, ?_⟩
        refine newC_in fun w81 s81 k81 e81 => ?_
        generalize hb80 : w73.heap.size = b80 at *
        refine copy_way k81 rfl y fun w82 s82 k82 e82 => ?_
        refine drw_in fun w83 q83 e83 => ?_
        have B83 : Below w73.heap.size w73 w83 := Ext.to (Ext.to (Ext.to (Below.refl _ _) e81 fun _ h => h.elim) e82 fun i hi => by omega) e83 fun _ h => h.elim
        have k83 := k82.keep e83 fun h => h
        have kx83 := k73.below B83
        refine ⟨_, k83.way.1, _, kx83.way.2, _, k83.way.2, ?_⟩
        refine (with_ok x.2 y.2 w83).ret fun w88 b88 => ⟨spI (gOver x.2 y.2), rfl, (k83.below b88).way.1, ?_⟩
        have B88 := B83.vstep b88
        have S88 := S73.below B88
        have hz88 := B88.size
        refine (S88.add (ovW x.2 y) (by show y.1 ≤ 200; omega) ?_).use fun e w90 he => ?_
        · rw [← addA_append, ← addA_append]
          refine hsh fun z hz => ?_
          have hz' : z ∈ ((if (c.P.pieces.getD k pSta).lazy = true then [((i : Nat), gNone)] else [] : List Wy) ++ A.flatMap (stepM c k left i)) ++ C.map (ovW x.2) := by rw [List.append_assoc]; exact hz
          rcases List.mem_append.1 hz' with hz | hz
          · exact hbnd2 z hz
          · obtain ⟨b, hb, rfl⟩ := List.mem_map.1 hz
            exact Nat.le_trans (hmw b (by rw [hCD]; exact List.mem_append_left _ hb)).hi hn200
        obtain ⟨rfl, X4, S90, e90, hX4⟩ := he
        refine ⟨rfl, D'.length, by simp, C ++ [y], D', X4, by rw [hCD]; simp, by simp, rfl, ?_, (r73.below B88).grow e90 (fun _ h => .inl h) hX4, (q73.below B88).grow e90 (fun _ h => .inl h) hX4, (kk73.below B88).keep e90 hx73, (k73.below B88).keep e90 hx61, fun h => ?_, fun h => ?_⟩
        · rw [List.map_append, addA_append]; exact S90
        · rcases hX4 b6 h with h | h
          · exact hx73 h
          · have := kk73.lt; omega
        · rcases hX4 b61 h with h | h
          · exact hx61 h
          · have := k73.lt; omega
      · have g4' : ¬ C.length < l67 := by have := of_decide_eq_false g4; omega
        have : D = [] := by
          cases D with
          | nil => rfl
          | cons x r => have := q73.len; simp at hCDl; omega
        subst this
        rw [List.append_nil] at hCD
        refine ⟨B'.length, by simp, A ++ [x], B', X3, by rw [hAB]; simp, by simp, rfl, ?_, r73, kk73, hx73⟩
        rw [List.flatMap_append, addA_append, List.flatMap_cons, List.flatMap_nil, List.append_nil]
        rw [show stepM c k left i x = (c.more k (left.map (· - 1)) x.1).map (ovW x.2) from by unfold stepM; rw [if_pos ⟨by omega, hhi⟩], hCD]
        exact S73
  · have g2' : ¬ A.length < l48 := by have := of_decide_eq_false g2; omega
    have : B = [] := by
      cases B with
      | nil => rfl
      | cons x r => simp at hABl; omega
    subst this
    rw [List.append_nil] at hAB
    subst hAB
    refine hfin S54 kk54 hx54 ?_ ?_
    · rw [← addA_append]; exact hsh hbnd2
    · rw [more_eq, if_neg g', addA_append, addA_append, hsubk]
end Go.Proofs.Ytngbiaeliphdjaa.V
/- The reference's sets, byte by byte: plain lists, no program in sight. No statement of the seat is proved here. -/
namespace Go.Vc
set_option linter.unusedVariables false
set_option linter.unusedSimpArgs false
theorem runsF_no {f : Nat → Bool} {b : Nat} (hb : b < 256) (h : f b = false) : runsF f b = runsF f (b + 1) := by
  conv => lhs; rw [runsF]
  rw [dif_pos hb, h]; simp
theorem runsF_yes {f : Nat → Bool} {b : Nat} (hb : b < 256) (h : f b = true) : runsF f b = ((b : Int), (runEnd f b : Int)) :: runsF f (runEnd f b + 1) := by
  conv => lhs; rw [runsF]
  rw [dif_pos hb, h]; simp
theorem runsF_out {f : Nat → Bool} {b : Nat} (hb : ¬ b < 256) : runsF f b = [] := by rw [runsF, dif_neg hb]
theorem runEnd_no {f : Nat → Bool} {j : Nat} (h : f (j + 1) = false) : runEnd f j = j := by
  rw [runEnd]; split
  · rw [h]; simp
  · rfl
theorem runEnd_yes {f : Nat → Bool} {j : Nat} (hj : j < 255) (h : f (j + 1) = true) : runEnd f j = runEnd f (j + 1) := by
  conv => lhs; rw [runEnd]
  rw [dif_pos hj, h]; simp
theorem runEnd_255 (f : Nat → Bool) : runEnd f 255 = 255 := by rw [runEnd]; simp
/-- What was gathered of the bytes below b: the last row is done with, or goes on. -/
def SetInv (f : Nat → Bool) (b : Nat) (xs : List (Int × Int)) : Prop :=
  (xs ++ runsF f b = runs f ∧ ∀ ys lo hi, xs = ys ++ [(lo, hi)] → hi + 1 < (b : Int)) ∨
  (∃ c, b = c + 1 ∧ ∃ ys lo, xs = ys ++ [(lo, (c : Int))] ∧ ys ++ (lo, (runEnd f c : Int)) :: runsF f (runEnd f c + 1) = runs f)
theorem SetInv.init (f : Nat → Bool) : SetInv f 0 [] := .inl ⟨rfl, by intro ys lo hi h; simp at h⟩
theorem SetInv.no {f : Nat → Bool} {b : Nat} {xs : List (Int × Int)} (h : SetInv f b xs) (hb : b < 256) (hf : f b = false) : SetInv f (b + 1) xs := by
  rcases h with ⟨h1, h2⟩ | ⟨c, rfl, ys, lo, rfl, h⟩
  · exact .inl ⟨by rw [← runsF_no hb hf]; exact h1, fun ys lo hi e => by have := h2 ys lo hi e; omega⟩
  · rw [runEnd_no hf, runsF_no hb hf] at h
    refine .inl ⟨by rw [← h]; simp, fun ys' lo' hi' e => ?_⟩
    have := List.append_inj_right' e rfl
    simp only [List.cons.injEq, Prod.mk.injEq, and_true] at this
    omega
theorem SetInv.on {f : Nat → Bool} {b : Nat} {ys : List (Int × Int)} {lo hi : Int} (h : SetInv f b (ys ++ [(lo, hi)])) (hb : b < 256) (hf : f b = true) (hh : hi = (b : Int) - 1) : SetInv f (b + 1) (ys ++ [(lo, (b : Int))]) := by
  rcases h with ⟨h1, h2⟩ | ⟨c, rfl, ys', lo', e, h⟩
  · have := h2 ys lo hi rfl; omega
  · have e2 := List.append_inj_right' e rfl
    have e1 := List.append_inj_left' e rfl
    simp only [List.cons.injEq, Prod.mk.injEq, and_true] at e2
    obtain ⟨rfl, _⟩ := e2
    subst e1
    rw [runEnd_yes (by omega) hf] at h
    exact .inr ⟨c + 1, rfl, ys, lo, rfl, h⟩
theorem SetInv.new {f : Nat → Bool} {b : Nat} {xs : List (Int × Int)} (h : SetInv f b xs) (hb : b < 256) (hf : f b = true) (hn : ∀ ys lo hi, xs = ys ++ [(lo, hi)] → hi ≠ (b : Int) - 1) : SetInv f (b + 1) (xs ++ [((b : Int), (b : Int))]) := by
  rcases h with ⟨h1, h2⟩ | ⟨c, rfl, ys', lo', rfl, h⟩
  · rw [runsF_yes hb hf] at h1
    exact .inr ⟨b, rfl, xs, b, rfl, h1⟩
  · exact absurd (by omega) (hn _ _ _ rfl)
theorem SetInv.done {f : Nat → Bool} {xs : List (Int × Int)} (h : SetInv f 256 xs) : xs = runs f := by
  rcases h with ⟨h1, h2⟩ | ⟨c, hc, ys', lo', rfl, h⟩
  · rw [runsF_out (by omega)] at h1; simpa using h1
  · obtain rfl : c = 255 := by omega
    rw [runEnd_255, runsF_out (by omega)] at h; exact h
end Go.Vc

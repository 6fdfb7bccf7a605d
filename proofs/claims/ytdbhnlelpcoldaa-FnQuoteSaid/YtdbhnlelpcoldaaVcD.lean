/- The calculus: struct and slice literals, loads, stores and what is made; what each gives is what the model gives. No statement of the seat is proved here. -/
import Derived.Test.YtdbhnlelpcoldaaVcC
namespace Go.Vc
set_option linter.unusedVariables false
set_option linter.unusedSimpArgs false

/-! ### Literals of structs -/
def segSet (cs : List Value) (off : Nat) : List Value → List Value
  | [] => cs
  | v :: r => segSet (cs.set off v) (off + 1) r
def fillL (place : Nat → Option (Nat × Nat)) : List Value → List (Nat × Value) → Option (List Value)
  | cs, [] => some cs
  | cs, (i, v) :: r => match place i with
    | none => none
    | some (off, size) => if v.cells.toList.length = size ∧ off + size ≤ cs.length then fillL place (segSet cs off v.cells.toList) r else none
def zeroL (P : Program) (t : TypeId) : Option (List Value) := match P.info? t with
  | some i => match i.zero with
    | some v => some v.cells.toList
    | none => none
  | none => none
def placesL (P : Program) : List Field → Option (List (Nat × Nat))
  | [] => some []
  | f :: r => match sizeP P f.type, placesL P r with
    | some n, some l => some ((f.offset, n) :: l)
    | _, _ => none
def buildV (P : Program) (t : TypeId) (parts : List (Nat × Value)) : PV :=
  match P.underlying t, zeroL P t with
  | some (.struct fs), some z => match placesL P fs.toList with
    | some ps => match fillL (fun i => ps[i]?) z parts with
      | some cs => .val (.agg ⟨cs⟩)
      | none => .no
    | none => .no
  | _, _ => .no

theorem segSet_foldl (vs : List Value) : ∀ (cs : Array Value) (off k : Nat),
    ((vs.zipIdx k).foldl (fun cs (x : Value × Nat) => cs.setIfInBounds (off + x.2) x.1) cs) = ⟨segSet cs.toList (off + k) vs⟩ := by
  induction vs with
  | nil => intro cs off k; simp [segSet]
  | cons v r ih =>
    intro cs off k
    simp only [List.zipIdx_cons, List.foldl_cons, segSet]
    rw [ih]
    simp [Nat.add_assoc]
theorem segSet_length (vs : List Value) : ∀ (cs : List Value) (off : Nat), (segSet cs off vs).length = cs.length := by
  induction vs with
  | nil => intro cs off; rfl
  | cons v r ih => intro cs off; simp [segSet, ih]
theorem fill_eq (place : Nat → Option (Nat × Nat)) : ∀ (parts : List (Nat × Value)) (cs r : List Value), fillL place cs parts = some r →
    Instr.fill place ⟨cs⟩ parts = some ⟨r⟩ := by
  intro parts
  induction parts with
  | nil => intro cs r h; simp only [fillL, Option.some.injEq] at h; simp [Instr.fill, h]
  | cons x rest ih =>
    intro cs r h
    obtain ⟨i, v⟩ := x
    simp only [fillL] at h
    simp only [Instr.fill]
    cases hp : place i with
    | none => simp [hp] at h
    | some os =>
      obtain ⟨off, size⟩ := os
      simp only [hp] at h ⊢
      split at h
      · rename_i hc
        have h1 : v.cells.size = size := by simpa using hc.1
        have h2 : off + v.cells.size ≤ cs.length := by rw [h1]; exact hc.2
        have h3 : (decide (v.cells.size ≠ size) || decide (off + v.cells.size > (⟨cs⟩ : Array Value).size)) = false := by
          simp only [Bool.or_eq_false_iff, decide_eq_false_iff_not, Decidable.not_not]
          exact ⟨h1, by simpa using h2⟩
        rw [if_neg (by rw [h3]; simp)]
        have h4 : (v.cells.zipIdx.foldl (fun cs (x : Value × Nat) => cs.setIfInBounds (off + x.2) x.1) (⟨cs⟩ : Array Value)) = ⟨segSet cs off v.cells.toList⟩ := by
          have := segSet_foldl v.cells.toList ⟨cs⟩ off 0
          rw [← Array.foldl_toList]
          simpa using this
        have h5 : (v.cells.zipIdx.foldl (fun cs (x : Value × Nat) => match x with | (c, j) => cs.setIfInBounds (off + j) c) (⟨cs⟩ : Array Value)) = ⟨segSet cs off v.cells.toList⟩ := h4
        rw [h5]
        exact ih _ _ h
      · cases h
theorem zero_run {P : Program} {t : TypeId} {z : List Value} (h : zeroL P t = some z) : ∃ v, v.cells = ⟨z⟩ ∧ ∀ w, (zeroValue t).run P w = .ok v w := by
  unfold zeroL at h
  cases hi : P.info? t with
  | none => simp [hi] at h
  | some i =>
    simp only [hi] at h
    cases hz : i.zero with
    | none => simp [hz] at h
    | some v =>
      simp only [hz, Option.some.injEq] at h
      refine ⟨v, by rw [← h], fun w => ?_⟩
      simp [zeroValue, typeInfo, program, bind, Sem.bind, Sem.run, hi, pure, hz]
theorem places_run {P : Program} : ∀ (fs : List Field) (ps : List (Nat × Nat)), placesL P fs = some ps →
    ∀ w, (fs.mapM fun f => (do pure (f.offset, ← sizeOf f.type) : Sem (Nat × Nat))).run P w = .ok ps w
  | [], ps, h, w => by simp only [placesL, Option.some.injEq] at h; subst h; rfl
  | f :: r, ps, h, w => by
    simp only [placesL] at h
    cases h1 : sizeP P f.type with
    | none => simp [h1] at h
    | some n =>
      cases h2 : placesL P r with
      | none => simp [h1, h2] at h
      | some l =>
        simp only [h1, h2, Option.some.injEq] at h
        subst h
        rw [List.mapM_cons]
        rw [bind_run (a := (f.offset, n)) (w' := w) ((bind_run (sizeOf_run h1 w)).trans rfl), bind_run (places_run r l h2 w)]
        rfl
theorem build_holds (P : Program) (o : Oper) (ρ : Operand → Value) (t : TypeId) (parts : Array (Nat × Operand)) (h : o.op = .build t parts) :
    (buildV P t (parts.toList.map fun x => (x.1, ρ x.2))).holds P o ρ := by
  unfold buildV
  split
  · rename_i fs z hu hz
    split
    · rename_i ps hp
      split
      · rename_i cs hc
        intro w
        simp only [execOp, h]
        refine (bind_run (a := .agg ⟨cs⟩) (w' := w) ?_).trans rfl
        obtain ⟨v, hv, hr⟩ := zero_run hz
        unfold Instr.build
        rw [bind_run (hr w)]
        simp only [hv]
        rw [bind_run (underlying_run hu w)]
        simp only []
        have hm : (fs.mapM fun f => (do pure (f.offset, ← sizeOf f.type) : Sem (Nat × Nat))).run P w = .ok ps.toArray w := by
          rw [Array.mapM_eq_mapM_toList]
          rw [Sem.run_map, places_run _ _ hp w]
          rfl
        rw [bind_run hm]
        have hf := fill_eq (fun i => ps[i]?) (parts.toList.map fun x => (x.1, ρ x.2)) z cs hc
        have he : (parts.map fun x => match x with | (i, y) => (i, ρ y)).toList = parts.toList.map fun x => (x.1, ρ x.2) := by simp
        have hg : (fun i : Nat => ps.toArray[i]?) = fun i : Nat => ps[i]? := by funext i; simp
        rw [he, hg, hf]
        rfl
      · trivial
    · trivial
  · trivial

/-! ### Loads -/
theorem cell?_plain (w : World) (b o : Nat) : w.cell? ⟨b, o, none⟩ = cellH w.heap b o := by
  unfold World.cell? cellH
  simp only [Option.isSome_none, Bool.false_eq_true, if_false]
  cases w.heap[b]? with
  | none => rfl
  | some x => cases x <;> rfl
theorem load_run {P : Program} {b o : Nat} {v : Value} {w : World} (h : cellH w.heap b o = some v) : (load ⟨b, o, none⟩).run P w = .ok v w := by
  simp [load, Sem.run, cell?_plain, h]
theorem loadCellsFrom_run {P : Program} {w : World} (b o : Nat) : ∀ (vs : List Value) (i : Nat) (acc : Array Value), cellsAt w.heap b (o + i) vs →
    (loadCellsFrom ⟨b, o, none⟩ i vs.length acc).run P w = .ok ⟨acc.toList ++ vs⟩ w
  | [], i, acc, _ => by
    simp only [List.length_nil, loadCellsFrom, List.append_nil]; rfl
  | v :: r, i, acc, h => by
    simp only [List.length_cons, loadCellsFrom]
    rw [add_spot, bind_run (load_run h.1)]
    rw [loadCellsFrom_run b o r (i + 1) (acc.push v) (by have := h.2; rwa [Nat.add_assoc] at this)]
    simp
theorem loadCells_run {P : Program} {w : World} {b o : Nat} {vs : List Value} (h : cellsAt w.heap b o vs) : (loadCells ⟨b, o, none⟩ vs.length).run P w = .ok ⟨vs⟩ w := by
  unfold loadCells
  rw [loadCellsFrom_run b o vs 0 #[] h]
  simp
def aggP (P : Program) (t : TypeId) : Option Bool := match P.underlying t with
  | some (.struct _) => some true
  | some (.array _ _) => some true
  | some _ => some false
  | none => none
theorem isAgg_run {P : Program} {t : TypeId} {x : Bool} (h : aggP P t = some x) (w : World) : (isAgg t).run P w = .ok x w := by
  unfold aggP at h
  cases hu : P.underlying t with
  | none => simp [hu] at h
  | some d =>
    unfold isAgg
    rw [bind_run (underlying_run hu w)]
    cases d <;> simp only [hu, Option.some.injEq] at h <;> subst h <;> rfl
theorem loadVar_one {P : Program} {t : TypeId} (h : aggP P t = some false) {w : World} {b o : Nat} {v : Value} (hc : cellH w.heap b o = some v) : (loadVar t ⟨b, o, none⟩).run P w = .ok v w := by
  unfold loadVar
  rw [bind_run (isAgg_run h w)]
  exact load_run hc
theorem loadVar_agg {P : Program} {t : TypeId} (h : aggP P t = some true) {n : Nat} (hn : sizeP P t = some n) {w : World} {b o : Nat} {vs : List Value} (hl : vs.length = n) (hc : cellsAt w.heap b o vs) :
    (loadVar t ⟨b, o, none⟩).run P w = .ok (.agg ⟨vs⟩) w := by
  unfold loadVar
  rw [bind_run (isAgg_run h w)]
  simp only [if_true]
  rw [bind_run (sizeOf_run hn w), ← hl, bind_run (loadCells_run hc)]
  rfl

/-- What a load of a type asks of memory and gives; the second thing handed on: what it found, said of any world. -/
def intsAt (h : Array Obj) (b o n : Nat) (g : Nat → Int) : Prop := ∀ i, i < n → cellH h b (o + i) = some (.int .i64 (g i))
def ldL : List Bs → Nat → Nat → (List Value → Pred) → Pred
  | [], b, o, K => K []
  | x :: r, b, o, K => fun w => exB x fun v => cellH w.heap b o = some v ∧ ldL r b (o + 1) (fun vs => K (v :: vs)) w
def ldS (s : Sh) (n b o : Nat) (K : Value → Pred → Pred) : Pred :=
  match s with
  | .b x => fun w => exB x fun v => cellH w.heap b o = some v ∧ K v (fun w' => cellH w'.heap b o = some v) w
  | .agg l => ldL l b o fun vs => K (.agg ⟨vs⟩) (fun w' => cellsAt w'.heap b o vs)
  | .mix l m => ldL l b o fun vs w => ∃ g : Nat → Int, intsAt w.heap b (o + l.length) m g ∧
      K (.agg ⟨vs ++ (List.range m).map fun i => .int .i64 (g i)⟩) (fun w' => cellsAt w'.heap b o (vs ++ (List.range m).map fun i => .int .i64 (g i))) w
  | .arr => fun w => ∃ cs : Array Value, cs.size = n ∧ cellsAt w.heap b o cs.toList ∧ K (.agg cs) (fun w' => cellsAt w'.heap b o cs.toList) w
  | _ => fun _ => False
def okS : Sh → Bool → Nat → Bool
  | .b _, x, _ => !x
  | .agg l, x, n => x && l.length == n
  | .mix l m, x, n => x && l.length + m == n
  | .arr, x, _ => x
  | _, _, _ => false
theorem cellsAt_append {h : Array Obj} {b : Nat} : ∀ (xs ys : List Value) (o : Nat), cellsAt h b o (xs ++ ys) ↔ cellsAt h b o xs ∧ cellsAt h b (o + xs.length) ys
  | [], ys, o => by simp [cellsAt]
  | x :: r, ys, o => by
    simp only [List.cons_append, cellsAt, cellsAt_append r ys (o + 1), List.length_cons, and_assoc]
    have : o + 1 + r.length = o + (r.length + 1) := by omega
    rw [this]
theorem cellsAt_iff {h : Array Obj} {b : Nat} : ∀ (xs : List Value) (o : Nat), cellsAt h b o xs ↔ ∀ i, i < xs.length → cellH h b (o + i) = xs[i]?
  | [], o => by simp [cellsAt]
  | x :: r, o => by
    simp only [cellsAt, cellsAt_iff r (o + 1)]
    constructor
    · rintro ⟨h0, h1⟩ i hi
      cases i with
      | zero => simpa using h0
      | succ i =>
        have := h1 i (by simpa using hi)
        rw [Nat.add_assoc, Nat.add_comm 1 i] at this
        simpa using this
    · intro hh
      refine ⟨by simpa using hh 0 (by simp), fun i hi => ?_⟩
      have := hh (i + 1) (by simpa using hi)
      rw [Nat.add_assoc, Nat.add_comm 1 i]
      simpa using this
theorem ldL_elim : ∀ (l : List Bs) (b o : Nat) (K : List Value → Pred) (w : World), ldL l b o K w → ∃ vs, vs.length = l.length ∧ cellsAt w.heap b o vs ∧ K vs w
  | [], b, o, K, w, h => ⟨[], rfl, trivial, h⟩
  | x :: r, b, o, K, w, h => by
    obtain ⟨v, hc, h⟩ := exB_ex h
    obtain ⟨vs, h1, h2, h3⟩ := ldL_elim r b (o + 1) _ w h
    exact ⟨v :: vs, by simp [h1], ⟨hc, h2⟩, h3⟩
theorem ldS_elim {P : Program} {t : TypeId} {x : Bool} {n : Nat} (hx : aggP P t = some x) (hn : sizeP P t = some n) {s : Sh} (hs : okS s x n = true) {b o : Nat} {K : Value → Pred → Pred} {w : World}
    (h : ldS s n b o K w) : ∃ v f, K v f w ∧ f w ∧ ∀ w', f w' → (loadVar t ⟨b, o, none⟩).run P w' = .ok v w' := by
  cases s with
  | b y =>
    simp only [okS, Bool.not_eq_true'] at hs
    subst hs
    obtain ⟨v, hc, hk⟩ := exB_ex h
    exact ⟨v, _, hk, hc, fun w' hc' => loadVar_one hx hc'⟩
  | agg l =>
    simp only [okS, Bool.and_eq_true, beq_iff_eq] at hs
    obtain ⟨rfl, rfl⟩ := hs
    obtain ⟨vs, h1, h2, h3⟩ := ldL_elim l b o _ w h
    exact ⟨_, _, h3, h2, fun w' hc' => loadVar_agg hx hn h1 hc'⟩
  | mix l m =>
    simp only [okS, Bool.and_eq_true, beq_iff_eq] at hs
    obtain ⟨rfl, rfl⟩ := hs
    obtain ⟨vs, h1, h2, g, h3, h4⟩ := ldL_elim l b o _ w h
    refine ⟨_, _, h4, ?_, fun w' hc' => loadVar_agg hx hn (by simp [h1]) hc'⟩
    rw [cellsAt_append]
    refine ⟨h2, ?_⟩
    rw [cellsAt_iff]
    intro i hi
    have hi' : i < m := by simpa using hi
    rw [h1, h3 i hi']
    simp [List.getElem?_eq_getElem, hi']
  | arr =>
    simp only [okS] at hs
    subst hs
    obtain ⟨cs, h1, h2, h3⟩ := h
    exact ⟨_, _, h3, h2, fun w' hc' => loadVar_agg hx hn (by simpa using h1) hc'⟩
  | tup2 a c => exact h.elim
  | unit => exact h.elim

end Go.Vc

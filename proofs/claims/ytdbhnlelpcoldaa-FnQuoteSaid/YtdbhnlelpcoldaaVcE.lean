/- The calculus: quiet operations and effects, each with its soundness. No statement of the seat is proved here. -/
import Derived.Test.YtdbhnlelpcoldaaVcD
import Derived.OrdersHeld
namespace Go.Vc
set_option linter.unusedVariables false
set_option linter.unusedSimpArgs false

/-! ### Shapes of types -/
def flatP (P : Program) : Nat → TypeId → Option (List Bs)
  | 0, _ => none
  | n + 1, t => match P.underlying t with
    | some (.int k) => some [.int k]
    | some .bool => some [.bool]
    | some .string => some [.str]
    | some (.slice _) => some [.slice]
    | some (.pointer _) => some [.ptr]
    | some (.map _ _) => some [.map]
    | some (.func _ _ _) => some [.any]
    | some (.interface _) => some [.any]
    | some (.struct fs) => fs.toList.foldr (fun f acc => match flatP P n f.type, acc with
      | some l, some r => some (l ++ r)
      | _, _ => none) (some [])
    | _ => none
def shV (P : Program) (t : TypeId) : Option Sh := match P.underlying t with
  | some (.int k) => some (.b (.int k))
  | some .bool => some (.b .bool)
  | some .string => some (.b .str)
  | some (.slice _) => some (.b .slice)
  | some (.pointer _) => some (.b .ptr)
  | some (.map _ _) => some (.b .map)
  | some (.func _ _ _) => some (.b .any)
  | some (.interface _) => some (.b .any)
  | some (.struct _) => match sizeP P t with
    | some 21 => some (.mix [.int .i64] 20)
    | some n => if n ≤ 8 then (flatP P 5 t).map .agg else some .arr
    | none => none
  | some (.array _ _) => match sizeP P t with
    | some 20 => some (.mix [] 20)
    | some _ => some .arr
    | none => none
  | _ => none
def shOf (P : Program) (t : TypeId) : Option Sh := match P.underlying t with
  | some (.tuple ts) => match ts.toList with
    | [] => some .unit
    | [a, b] => match shV P a, shV P b with
      | some x, some y => some (.tup2 x y)
      | _, _ => none
    | _ => none
  | _ => shV P t

/-! ### Quiet operations that look at the world -/
def semQ (P : Program) (o : Oper) (ρ : Operand → Value) : Option (Sem Value) :=
  match o.op with
  | .slice t x l h m => some (Instr.sliceAt t (ρ x) (l.map ρ) (h.map ρ) (m.map ρ))
  | .index t x i => some (Instr.index t (ρ x) (ρ i))
  | .lookup t x i ok => some (Instr.lookup t (ρ x) (ρ i) ok)
  | .convert s d x => match P.underlying s with
    | some (.slice _) => some (convert s d (ρ x))
    | _ => none
  | .binOp .eql t x y _ => match ρ x, ρ y with
    | .agg a, .agg b => some (do pure (.bool (← Op.equal t (.agg a) (.agg b))))
    | _, _ => none
  | .binOp .neq t x y _ => match ρ x, ρ y with
    | .agg a, .agg b => some (do pure (.bool (!(← Op.equal t (.agg a) (.agg b)))))
    | _, _ => none
  | .call { callee := .builtin .min, argTypes, args } => some (Builtin.min_ argTypes o.type ⟨args.toList.map ρ⟩)
  | _ => none
/-- No == or != on structs that hold interfaces. -/
def eqOk (P : Program) (o : Oper) : Bool := match o.op with
  | .binOp _ t _ _ _ => !P.eqGuardType P.depth t
  | _ => true
def quietC (P : Program) (o : Oper) (ρ : Operand → Value) (K : Value → Option Pred → Pred) : Option Pred :=
  match pureV P o ρ with
  | .val v => some (K v none)
  | .cond c v => some fun w => c ∧ K v none w
  | .adr c v => some fun w => ∃ b o, c b o ∧ K (v b o) none w
  | .no => match o.op with
    | .build t parts => match buildV P t (parts.toList.map fun x => (x.1, ρ x.2)) with
      | .val v => some (K v none)
      | _ => none
    | .load t a => match ρ a, shOf P t, aggP P t, sizeP P t with
      | .pointer (some ⟨b, o, none⟩), some s, some x, some n => if okS s x n then some (ldS s n b o fun v f => K v (some f)) else none
      | _, _, _, _ => none
    | _ => match semQ P o ρ, shOf P o.type with
      | some s, some sh => if eqOk P o then some fun w => exV sh fun v => s.run P w = .ok v w ∧ K v (some fun w' => s.run P w' = .ok v w') w else none
      | _, _ => none

theorem semQ_run {P : Program} {o : Oper} {ρ : Operand → Value} {s : Sem Value} (h : semQ P o ρ = some s) (he : eqOk P o = true) {v : Value} {w : World} (hr : s.run P w = .ok v w) :
    (execOp ρ o).run P w = .ok (.value v) w := by
  unfold semQ at h
  split at h
  · rename_i t x l h' m ho
    simp only [Option.some.injEq] at h; subst h
    simp only [execOp, ho]
    exact (bind_run hr).trans rfl
  · rename_i t x i ho
    simp only [Option.some.injEq] at h; subst h
    simp only [execOp, ho]
    exact (bind_run hr).trans rfl
  · rename_i t x i ok ho
    simp only [Option.some.injEq] at h; subst h
    simp only [execOp, ho]
    exact (bind_run hr).trans rfl
  · rename_i s' d x ho
    split at h
    · simp only [Option.some.injEq] at h; subst h
      simp only [execOp, ho]
      exact (bind_run hr).trans rfl
    · cases h
  · rename_i t x y yt ho
    split at h
    · rename_i a b hx hy
      simp only [Option.some.injEq] at h; subst h
      simp only [execOp, ho]
      refine (bind_run (a := v) (w' := w) ?_).trans rfl
      have hg : (eqGuard .eql t x y (ρ x) (ρ y)).run P w = .ok () w := by
        simp only [eqOk, ho, Bool.not_eq_true'] at he
        rw [hx, hy]
        simp [eqGuard, Sem.run_bind, program, Sem.run, he, pure]
      rw [bind_run hg, hx, hy]
      exact hr
    · cases h
  · rename_i t x y yt ho
    split at h
    · rename_i a b hx hy
      simp only [Option.some.injEq] at h; subst h
      simp only [execOp, ho]
      refine (bind_run (a := v) (w' := w) ?_).trans rfl
      have hg : (eqGuard .neq t x y (ρ x) (ρ y)).run P w = .ok () w := by
        simp only [eqOk, ho, Bool.not_eq_true'] at he
        rw [hx, hy]
        simp [eqGuard, Sem.run_bind, program, Sem.run, he, pure]
      rw [bind_run hg, hx, hy]
      exact hr
    · cases h
  · rename_i args argTypes ho
    simp only [Option.some.injEq] at h; subst h
    simp only [execOp, ho, resolve]
    have e1 : args.map ρ = ⟨args.toList.map ρ⟩ := by apply Array.toList_inj.1; simp
    rw [bind_run (a := { target := .builtin .min argTypes o.type _, args := args.map ρ }) (w' := w) rfl]
    simp only [invoke, builtin]
    rw [e1, bind_run hr]
    rfl
  · cases h

/-- What a quiet operation hands on. -/
theorem quietC_elim {P : Program} {o : Oper} {ρ : Operand → Value} {K : Value → Option Pred → Pred} {p : Pred} (h : quietC P o ρ K = some p) {w : World} (hp : p w) :
    ∃ v f, K v f w ∧ ((f = none ∧ ∀ w', (execOp ρ o).run P w' = .ok (.value v) w') ∨ ∃ g, f = some g ∧ g w ∧ ∀ w', g w' → (execOp ρ o).run P w' = .ok (.value v) w') := by
  have H := pureV_holds P o ρ
  unfold quietC at h
  cases hv : pureV P o ρ with
  | val v =>
    rw [hv] at H
    simp only [hv, Option.some.injEq] at h; subst h
    exact ⟨v, none, hp, .inl ⟨rfl, H⟩⟩
  | cond c v =>
    rw [hv] at H
    simp only [hv, Option.some.injEq] at h; subst h
    exact ⟨v, none, hp.2, .inl ⟨rfl, H hp.1⟩⟩
  | adr c v =>
    rw [hv] at H
    simp only [hv, Option.some.injEq] at h; subst h
    obtain ⟨b, o', hc, hk⟩ := hp
    exact ⟨_, none, hk, .inl ⟨rfl, H b o' hc⟩⟩
  | no =>
    simp only [hv] at h
    split at h
    · rename_i t parts ho
      have Hb := build_holds P o ρ t parts ho
      split at h
      · rename_i v hb
        rw [hb] at Hb
        simp only [Option.some.injEq] at h; subst h
        exact ⟨v, none, hp, .inl ⟨rfl, Hb⟩⟩
      · cases h
    · rename_i t a ho
      split at h
      · rename_i b o' s x n ha hs hx hn
        split at h
        · rename_i hok
          simp only [Option.some.injEq] at h; subst h
          obtain ⟨v, f, h1, h2, h3⟩ := ldS_elim hx hn hok hp
          refine ⟨v, some f, h1, .inr ⟨f, rfl, h2, fun w' hw' => ?_⟩⟩
          simp only [execOp, ho, ha]
          exact (bind_run (h3 w' hw')).trans rfl
        · cases h
      · cases h
    · split at h
      · rename_i s sh hs hsh
        split at h
        · rename_i he
          simp only [Option.some.injEq] at h; subst h
          obtain ⟨v, hr, hk⟩ := exV_ex hp
          exact ⟨v, _, hk, .inr ⟨_, rfl, hr, fun w' hw' => semQ_run hs he hw'⟩⟩
        · cases h
      · cases h

/-! ### Effects -/
def scal : Value → Bool
  | .agg _ => false
  | .tuple _ => false
  | _ => true
def setsW (w : World) (b o : Nat) : List Value → World
  | [] => w
  | v :: r => setsW (setW w b o v) b (o + 1) r
def wrL (h : Array Obj) (b o : Nat) : List Value → Prop
  | [] => True
  | [v] => wrH h b o
  | v :: u :: r => wrH h b o ∧ wrL h b (o + 1) (u :: r)
def stW (b o : Nat) (vs : List Value) (K : Pred) : Pred := fun w => wrL w.heap b o vs ∧ K (setsW w b o vs)
def stA (b o n : Nat) (cs : Array Value) (K : Pred) : Pred := fun w => cs.size = n ∧ cs.toList.all scal = true ∧ wrL w.heap b o cs.toList ∧ K (setsW w b o cs.toList)
def newC (z : List Value) (t : TypeId) (K : Nat → Pred) : Pred := fun w => K w.heap.size (newW w (.cells ⟨z⟩ t))
def callable (P : Program) (f : FuncId) : Bool := match P.funcs[f]? with
  | some fn => fn.body.isSome && !(fn.name == "runtime.NumGoroutine")
  | none => false
def Cl (P : Program) (f : FuncId) (args : List Value) (w : World) (R : Ending → World → Prop) : Prop := callable P f = true ∧ Calls P f ⟨args⟩ w R
def retV (s : Sh) (K : Value → Pred) (Qp : List PanicEntry → Pred) : Ending → World → Prop
  | .returned v, w => exV s fun u => v = u ∧ K u w
  | .panicked c, w => Qp c w
  | .outgrown, _ => False
def runE (P : Program) (sh : Sh) (s : Sem Value) (K : Value → Pred) : Pred := fun w => exV sh fun v => ∃ w', s.run P w = .ok v w' ∧ K v w'
def runU (P : Program) (s : Sem Unit) (K : Pred) : Pred := fun w => ∃ w', s.run P w = .ok () w' ∧ K w'
def rowL (P : Program) (e : TypeId) (len : Nat) (parts : List (Nat × Value)) : Option (List Value) :=
  match sizeP P e, zeroL P e with
  | some (n + 1), some z => if z.length = n + 1 ∧ len * (n + 1) ≤ 4096 then
      fillL (fun i => some (i * (n + 1), n + 1)) ((List.range (len * (n + 1))).map fun i => z.getD (i % (n + 1)) undef) parts
    else none
  | _, _ => none

def semE (P : Program) (o : Oper) (ρ : Operand → Value) : Option (Sem Value) :=
  match o.op with
  | .call { callee := .builtin .append, argTypes, args } => some (Builtin.append_ argTypes o.type ⟨args.toList.map ρ⟩)
  | .makeSlice t l c => some (Instr.makeSlice t (ρ l) (ρ c))
  | .makeMap t r => some (Instr.makeMap t (r.map ρ))
  | .convert s d x => some (convert s d (ρ x))
  | _ => none

def effC (P : Program) (o : Oper) (ρ : Operand → Value) (Qp : List PanicEntry → Pred) (K : Value → Pred) : Pred :=
  match o.op with
  | .alloc t => match zeroL P t with
    | some z => newC z t fun b => K (.pointer (some ⟨b, 0, none⟩))
    | none => fun _ => False
  | .box t x => newC (ρ x).cells.toList t fun b => K (.pointer (some ⟨b, 0, none⟩))
  | .store t a x => match ρ a, sizeP P t with
    | .pointer (some ⟨b, o, none⟩), some n => if n ≤ 21 then
        if (ρ x).cells.toList.length = n ∧ (ρ x).cells.toList.all scal = true then stW b o (ρ x).cells.toList (K undef) else fun _ => False
      else match ρ x with
        | .agg cs => stA b o n cs (K undef)
        | _ => fun _ => False
    | _, _ => fun _ => False
  | .buildSlice t len parts => match P.underlying t with
    | some (.slice e) => match rowL P e len (parts.toList.map fun x => (x.1, ρ x.2)) with
      | some cs => newC cs e fun b => K (.slice (some ⟨b, 0, none⟩) len len)
      | none => fun _ => False
    | _ => fun _ => False
  | .mapUpdate t m k x => runU P (Instr.mapUpdate t (ρ m) (ρ k) (ρ x)) (K undef)
  | .panic x => match ρ x with
    | .iface t v => Qp [{ v := .iface t v, recovered := false }]
    | _ => fun _ => False
  | .call { callee := .value f, args, .. } => match ρ f, shOf P o.type with
    | .func (.func fid) first captured, some sh => fun w => Cl P fid (first.toList ++ args.toList.map ρ ++ captured.toList) w (retV sh K Qp)
    | _, _ => fun _ => False
  | _ => match semE P o ρ, shOf P o.type with
    | some s, some sh => runE P sh s K
    | _, _ => fun _ => False

theorem frozen?_plain (w : World) (b o : Nat) : w.frozen? ⟨b, o, none⟩ = frozH w.heap b o := by
  unfold World.frozen? frozH
  cases w.heap[b]? with
  | none => rfl
  | some x => cases x <;> rfl
theorem setCell_plain (w : World) (b o : Nat) (v : Value) : w.setCell ⟨b, o, none⟩ v = setW w b o v := by
  unfold World.setCell setW setH
  refine congrArg (fun h => ({ w with heap := h } : World)) ?_
  refine congrArg (w.heap.modify b) ?_
  funext x
  cases x <;> rfl
theorem setH_get (h : Array Obj) (b o : Nat) (v : Value) (b' : Nat) : (setH h b o v)[b']? = if b = b' then (h[b']?).map (setO o v) else h[b']? := by
  unfold setH
  rw [Array.getElem?_modify]
theorem cellH_setH (h : Array Obj) (b o : Nat) (v : Value) (b' o' : Nat) : cellH (setH h b o v) b' o' = if b = b' ∧ o = o' then (cellH h b' o').map (fun _ => v) else cellH h b' o' := by
  unfold cellH
  rw [setH_get]
  by_cases hb : b = b'
  · subst hb
    simp only [if_true, true_and]
    cases h[b]? with
    | none => simp
    | some x =>
      cases x <;> simp only [Option.map_some, setO] <;> try simp
      rename_i c e f
      by_cases ho : o = o'
      · subst ho
        simp [Array.getElem?_setIfInBounds]
        split <;> simp_all
      · simp [ho, Array.getElem?_setIfInBounds]
  · simp [hb]
theorem frozH_setH (h : Array Obj) (b o : Nat) (v : Value) (b' o' : Nat) : frozH (setH h b o v) b' o' = frozH h b' o' := by
  unfold frozH
  rw [setH_get]
  by_cases hb : b = b'
  · subst hb
    simp only [if_true]
    cases h[b]? with
    | none => simp
    | some x => cases x <;> simp [setO]
  · simp [hb]
theorem wrH_setH {h : Array Obj} {b o : Nat} {v : Value} {b' o' : Nat} (hw : wrH h b' o') : wrH (setH h b o v) b' o' := by
  obtain ⟨⟨u, hu⟩, hf⟩ := hw
  refine ⟨?_, by rw [frozH_setH]; exact hf⟩
  rw [cellH_setH, hu]
  split <;> exact ⟨_, rfl⟩
theorem wrL_cons {h : Array Obj} {b o : Nat} {v : Value} {r : List Value} : wrL h b o (v :: r) ↔ wrH h b o ∧ wrL h b (o + 1) r := by
  cases r <;> simp [wrL]
theorem wrL_setH {h : Array Obj} {b o : Nat} {v : Value} {b' : Nat} : ∀ {vs : List Value} {o' : Nat}, wrL h b' o' vs → wrL (setH h b o v) b' o' vs
  | [], _, _ => trivial
  | x :: r, o', hw => by rw [wrL_cons] at *; exact ⟨wrH_setH hw.1, wrL_setH hw.2⟩
theorem store_run {P : Program} {w : World} {b o : Nat} {v : Value} (hs : scal v = true) (hw : wrH w.heap b o) : (store ⟨b, o, none⟩ v).run P w = .ok () (setW w b o v) := by
  obtain ⟨⟨u, hu⟩, hf⟩ := hw
  cases v <;> simp only [scal, Bool.false_eq_true] at hs <;>
    simp [store, Sem.run, cell?_plain, hu, frozen?_plain, hf, setCell_plain]
theorem storeCells_run {P : Program} {b o : Nat} : ∀ (vs : List Value) (i : Nat) (w : World), vs.all scal = true → wrL w.heap b (o + i) vs →
    (storeCells ⟨b, o, none⟩ vs i).run P w = .ok () (setsW w b (o + i) vs)
  | [], i, w, _, _ => rfl
  | v :: r, i, w, hs, hw => by
    simp only [List.all_cons, Bool.and_eq_true] at hs
    rw [wrL_cons] at hw
    unfold storeCells
    rw [add_spot, bind_run (store_run hs.1 hw.1)]
    rw [storeCells_run r (i + 1) (setW w b (o + i) v) hs.2 (by have := wrL_setH (h := w.heap) (b := b) (o := o + i) (v := v) hw.2; rwa [Nat.add_assoc] at this)]
    simp only [setsW, Nat.add_assoc]
theorem storeVar_run {P : Program} {t : TypeId} {n : Nat} (hn : sizeP P t = some n) {w : World} {b o : Nat} {v : Value} (hl : v.cells.toList.length = n) (hs : v.cells.toList.all scal = true) (hw : wrL w.heap b o v.cells.toList) :
    (storeVar t ⟨b, o, none⟩ v).run P w = .ok () (setsW w b o v.cells.toList) := by
  unfold storeVar
  rw [bind_run (sizeOf_run hn w)]
  have h1 : ¬ (v.cells.size ≠ n) := by simp [← hl]
  simp only [h1, if_false]
  exact storeCells_run _ 0 w hs hw
theorem run_value {P : Program} {o : Oper} {a : Act} {w w' : World} {v : Value} {next : Act → World → Prop} {Q : Exit → Act → World → Prop}
    (h : (execOp a.eval o).run P w = .ok (.value v) w') (hn : next (a.put o.dst v) w') : o.wp P a w next Q := by
  unfold Oper.wp; rw [h]; exact hn
theorem run_skip {P : Program} {o : Oper} {a : Act} {w w' : World} {next : Act → World → Prop} {Q : Exit → Act → World → Prop}
    (h : (execOp a.eval o).run P w = .ok .skip w') (hn : next (a.put o.dst undef) w') : o.wp P a w next Q := by
  unfold Oper.wp; rw [h]; exact hn
theorem rowL_run {P : Program} {t e : TypeId} (hu : P.underlying t = some (.slice e)) {len : Nat} {parts : List (Nat × Value)} {cs : List Value} (h : rowL P e len parts = some cs) (w : World) :
    (Instr.buildSlice t len ⟨parts⟩).run P w = .ok (.slice (some ⟨w.heap.size, 0, none⟩) len len) (newW w (.cells ⟨cs⟩ e)) := by
  unfold rowL at h
  split at h
  · rename_i n z hn hz
    split at h
    · rename_i hc
      obtain ⟨hzl, hle⟩ := hc
      obtain ⟨v, hv, hr⟩ := zero_run hz
      unfold Instr.buildSlice
      rw [bind_run (underlying_run hu w)]
      simp only []
      rw [bind_run (sizeOf_run hn w)]
      have h1 : ¬ (len * (n + 1) > 2 ^ 24) := by omega
      simp only [h1, if_false]
      have hf := fill_eq _ _ _ _ h
      by_cases h0 : len * n.succ = 0
      · simp only [h0, if_true]
        rw [bind_run (show (pure #[] : Sem (Array Value)).run P w = .ok #[] w from rfl)]
        have h3 : ((Array.range 0).map fun i => (#[] : Array Value)[i % (#[] : Array Value).size]!) = ⟨(List.range (len * (n + 1))).map fun i => z.getD (i % (n + 1)) undef⟩ := by
          have : len * (n + 1) = 0 := h0
          rw [this]
          apply Array.toList_inj.1
          simp
        rw [h3, hf]
        rfl
      · simp only [h0, if_false]
        rw [bind_run (hr w), hv]
        rw [bind_run (show (pure (⟨z⟩ : Array Value) : Sem (Array Value)).run P w = .ok ⟨z⟩ w from rfl)]
        have h3 : ((Array.range (len * n.succ)).map fun i => (⟨z⟩ : Array Value)[i % (⟨z⟩ : Array Value).size]!) = ⟨(List.range (len * (n + 1))).map fun i => z.getD (i % (n + 1)) undef⟩ := by
          apply Array.toList_inj.1
          rw [Array.toList_map, Array.toList_range]
          refine List.map_congr_left fun i hi => ?_
          have hlt : i % (n + 1) < z.length := by rw [hzl]; exact Nat.mod_lt _ (by omega)
          have hs : (⟨z⟩ : Array Value).size = n + 1 := hzl
          rw [hs]
          simp [getElem!_pos, hlt, List.getD_eq_getElem?_getD, List.getElem?_eq_getElem hlt]
        rw [h3, hf]
        rfl
    · cases h
  · cases h

theorem callFunc_run {P : Program} {f : FuncId} (h : callable P f = true) (args : Array Value) (w : World) : (callFunc f args).run P w = .ok (.enter f args) w := by
  unfold callable at h
  cases hf : P.funcs[f]? with
  | none => simp [hf] at h
  | some fn =>
    simp only [hf, Bool.and_eq_true, Bool.not_eq_true'] at h
    unfold callFunc
    rw [bind_run (show program.run P w = .ok P w from rfl)]
    simp only [hf, h.2, Bool.false_eq_true, if_false]
    have h1 : fn.body.isNone = false := by
      cases hb : fn.body with
      | none => rw [hb] at h; exact absurd h.1 (by simp)
      | some c => rfl
    simp only [h1, Bool.false_eq_true, if_false]
    rfl

theorem effC_wp {P : Program} {o : Oper} {a : Act} {Qp : List PanicEntry → Pred} {K : Value → Pred} {w : World} {next : Act → World → Prop} {Q : Exit → Act → World → Prop}
    (h : effC P o a.eval Qp K w) (hn : ∀ v w', K v w' → next (a.put o.dst v) w') (hq : ∀ c w', Qp c w' → Q (.panic c) a w') : o.wp P a w next Q := by
  obtain ⟨p, hp⟩ : ∃ p, effC P o a.eval Qp K = p := ⟨_, rfl⟩
  rw [hp] at h
  unfold effC at hp
  split at hp
  · rename_i t ho
    split at hp
    · rename_i z hz
      subst hp
      obtain ⟨v, hv, hr⟩ := zero_run hz
      refine run_value ?_ (hn _ _ h)
      simp only [execOp, ho]
      refine (bind_run (a := .pointer (some ⟨w.heap.size, 0, none⟩)) (w' := newW w (.cells ⟨z⟩ t)) ?_).trans rfl
      unfold Instr.alloc
      rw [bind_run (hr w)]
      simp only [newVar, newRow, hv]
      rfl
    · (subst hp; exact h.elim)
  · rename_i t x ho
    subst hp
    refine run_value ?_ (hn _ _ h)
    simp only [execOp, ho]
    rfl
  · rename_i t x y ho
    split at hp
    · rename_i b o' n ha hs
      split at hp
      · rename_i hle
        split at hp
        · rename_i hc
          subst hp
          refine run_skip (w' := setsW w b o' (a.eval y).cells.toList) ?_ (hn _ _ h.2)
          simp only [execOp, ho, ha]
          refine (bind_run (a := ()) (w' := setsW w b o' (a.eval y).cells.toList) ?_).trans rfl
          unfold Instr.storeAt
          rw [bind_run (show (Instr.sureAddr (.pointer (some ⟨b, o', none⟩))).run P w = .ok ⟨b, o', none⟩ w from rfl)]
          exact storeVar_run hs hc.1 hc.2 h.1
        · (subst hp; exact h.elim)
      · split at hp
        · rename_i cs hx
          subst hp
          obtain ⟨h1, h2, h3, h4⟩ := h
          refine run_skip (w' := setsW w b o' cs.toList) ?_ (hn _ _ h4)
          simp only [execOp, ho, ha, hx]
          refine (bind_run (a := ()) (w' := setsW w b o' cs.toList) ?_).trans rfl
          unfold Instr.storeAt
          rw [bind_run (show (Instr.sureAddr (.pointer (some ⟨b, o', none⟩))).run P w = .ok ⟨b, o', none⟩ w from rfl)]
          exact storeVar_run (v := .agg cs) hs (by simpa [Value.cells] using h1) h2 h3
        · (subst hp; exact h.elim)
    · (subst hp; exact h.elim)
  · rename_i t len parts ho
    split at hp
    · rename_i e hu
      split at hp
      · rename_i cs hr
        subst hp
        refine run_value ?_ (hn _ _ h)
        simp only [execOp, ho]
        have he : (parts.map fun x => match x with | (i, y) => (i, a.eval y)) = ⟨parts.toList.map fun x => (x.1, a.eval x.2)⟩ := by
          apply Array.toList_inj.1; simp
        rw [he]
        exact (bind_run (rowL_run hu hr w)).trans rfl
      · (subst hp; exact h.elim)
    · (subst hp; exact h.elim)
  · rename_i t m k x ho
    subst hp
    obtain ⟨w', hr, hk⟩ := h
    refine run_skip ?_ (hn _ _ hk)
    simp only [execOp, ho]
    exact (bind_run hr).trans rfl
  · rename_i x ho
    split at hp
    · rename_i t v hx
      subst hp
      unfold Oper.wp
      have : (execOp a.eval o).run P w = .halt (.panic (.iface t v)) w := by
        simp only [execOp, ho, hx, Instr.panic, goPanic]; rfl
      rw [this]
      exact hq _ _ h
    · (subst hp; exact h.elim)
  · rename_i f args argTypes ho
    split at hp
    · rename_i fid first captured sh hf hsh
      subst hp
      obtain ⟨hc, hcall⟩ := h
      unfold Oper.wp
      have : (execOp a.eval o).run P w = .ok (.enter fid ⟨first.toList ++ args.toList.map a.eval ++ captured.toList⟩) w := by
        simp only [execOp, ho, resolve, hf, Deferred.ofValue]
        rw [bind_run (a := { target := .fn (.func fid) captured, args := first ++ args.map a.eval }) (w' := w) rfl]
        simp only [invoke]
        rw [callFunc_run hc]
        congr 2
        apply Array.toList_inj.1
        simp
      rw [this]
      refine Calls.mono hcall fun e w'' he => ?_
      cases e with
      | returned v =>
        obtain ⟨u, hu, hk⟩ := exV_ex he
        subst hu
        exact hn _ _ hk
      | panicked c => exact hq _ _ he
      | outgrown => exact he.elim
    · (subst hp; exact h.elim)
  · split at hp
    · rename_i s sh hs hsh
      subst hp
      obtain ⟨v, w', hr, hk⟩ := exV_ex h
      refine run_value ?_ (hn _ _ hk)
      unfold semE at hs
      split at hs
      · rename_i args argTypes ho
        simp only [Option.some.injEq] at hs; subst hs
        simp only [execOp, ho, resolve]
        have e1 : args.map a.eval = ⟨args.toList.map a.eval⟩ := by apply Array.toList_inj.1; simp
        rw [bind_run (a := { target := .builtin .append argTypes o.type _, args := args.map a.eval }) (w' := w) rfl]
        simp only [invoke, builtin]
        rw [e1, bind_run hr]
        rfl
      · rename_i t l c ho
        simp only [Option.some.injEq] at hs; subst hs
        simp only [execOp, ho]
        exact (bind_run hr).trans rfl
      · rename_i t r ho
        simp only [Option.some.injEq] at hs; subst hs
        simp only [execOp, ho]
        exact (bind_run hr).trans rfl
      · rename_i s' d x ho
        simp only [Option.some.injEq] at hs; subst hs
        simp only [execOp, ho]
        exact (bind_run hr).trans rfl
      · cases hs
    · (subst hp; exact h.elim)

end Go.Vc

/- The calculus: a function's code, told by a script of the ways through it, as one formula; the formula gives the function's contract. No statement of the seat is proved here. -/
import Derived.Test.YtdbhnlelpcoldaaVcF
namespace Go.Vc
set_option linter.unusedVariables false
set_option linter.unusedSimpArgs false

inductive Scr
  | nil
  | run (l : List Nat) (k : Scr)
  | split (slot : Nat) (a b : Scr)
  | close (k : Scr)
  | cond (a b : Scr)
  | lit (k : Scr)
  | loop (s : Shp) (k : Scr)
  | cut (s : Shp) (a b : Scr)
  | alt (a b : Scr)
  | splitL (slot : Nat) (more : List Nat) (a b : Scr)

def splitC (fr : Fr) (s : Nat) (x y : Fr → Pred) : Pred :=
  match fr.getD s undef with
  | .bool t => fun w => (t = true → x (fr.set s (.bool true)) w) ∧ (t = false → y (fr.set s (.bool false)) w)
  | _ => fun _ => False

/-- The frame where the slots hold this truth value. -/
def setsB (fr : Fr) (x : Bool) : List Nat → Fr
  | [] => fr
  | e :: r => setsB (fr.set e (.bool x)) x r
def sameB (fr : Fr) (t : Bool) (p : Pred) : List Nat → Pred
  | [] => p
  | e :: r => match fr.getD e undef with
    | .bool u => fun w => u = t ∧ sameB fr t p r w
    | _ => fun _ => False
/-- Slots that hold one truth value are taken apart together. -/
def splitLC (fr : Fr) (s : Nat) (more : List Nat) (x y : Fr → Pred) : Pred :=
  match fr.getD s undef with
  | .bool t => sameB fr t (fun w => (t = true → x (setsB fr true (s :: more)) w) ∧ (t = false → y (setsB fr false (s :: more)) w)) more
  | _ => fun _ => False

/-! ### A region in the text's order -/
def stepU (P : Program) (opsL : List Oper) (o : Oper) (Qp : List PanicEntry → Pred) (K : Fr → Pred) (fr : Fr) : Pred :=
  match guardL opsL o fr with
  | some true => match quietC P o (gS fr) (fun v _ => K (setS fr o.dst v)) with
    | some p => p
    | none => effC P o (gS fr) Qp (fun v => K (setS fr o.dst v))
  | some false => K (setS fr o.dst undef)
  | none => fun _ => False
def runT (P : Program) (opsL : List Oper) (Qp : List PanicEntry → Pred) : List Nat → List Oper → (List Oper → Fr → Pred) → Fr → Pred
  | [], rest, K, fr => K rest fr
  | _ :: l, o :: rest, K, fr => stepU P opsL o Qp (fun fr => runT P opsL Qp l rest K fr) fr
  | _ :: _, [], _, _ => fun _ => False
def regU (P : Program) (opsL : List Oper) (Qp : List PanicEntry → Pred) (K : Scr → Fr → Pred) : Scr → List Oper → Fr → Pred
  | .run l k, rest, fr => runT P opsL Qp l rest (fun rest fr => regU P opsL Qp K k rest fr) fr
  | .split s a b, rest, fr => splitC fr s (regU P opsL Qp K a rest) (regU P opsL Qp K b rest)
  | .splitL s more a b, rest, fr => splitLC fr s more (regU P opsL Qp K a rest) (regU P opsL Qp K b rest)
  | .close k, [], fr => K k fr
  | _, _, _ => fun _ => False
/-! ### A region whose order is drawn -/
/-- One of two effects that may come up now. -/
def effD (P : Program) (ops : Array Oper) (tbl : List (List Nat)) (Qp : List PanicEntry → Pred) (i : Nat) (K : Array Bool → Fr → Pred) (listed : Array Bool) (F : List (Nat × Pred)) (fr : Fr) : Pred :=
  match ops.toList[i]? with
  | none => fun _ => False
  | some o => match guardL ops.toList o fr with
    | some true => effC P o (gS fr) Qp (fun v => wrapF tbl F i (K (listed.setIfInBounds i true) (setS fr o.dst v)))
    | _ => fun _ => False
def regD (P : Program) (ops : Array Oper) (tbl : List (List Nat)) (Qp : List PanicEntry → Pred) (K : Scr → Fr → Pred) : Scr → Nat → Array Bool → List (Nat × Pred) → Fr → Pred
  | .run l k, n, listed, F, fr => runD P ops tbl Qp l (fun n listed F fr => regD P ops tbl Qp K k n listed F fr) n listed F fr
  | .split s a b, n, listed, F, fr => splitC fr s (regD P ops tbl Qp K a n listed F) (regD P ops tbl Qp K b n listed F)
  | .splitL s more a b, n, listed, F, fr => splitLC fr s more (regD P ops tbl Qp K a n listed F) (regD P ops tbl Qp K b n listed F)
  | .alt a b, n + 1, listed, F, fr => match Region.ready .any ops listed with
    | [i, j] => fun w => effD P ops tbl Qp i (fun listed fr => regD P ops tbl Qp K a n listed F fr) listed F fr w ∧ effD P ops tbl Qp j (fun listed fr => regD P ops tbl Qp K b n listed F fr) listed F fr w
    | _ => fun _ => False
  | .close k, 0, listed, _, fr => if Region.ready .any ops listed = [] then K k fr else fun _ => False
  | _, _, _, _, _ => fun _ => False
def drw (p : Pred) : Pred := fun w => p (drewW w)

/-! ### Code -/
def dsts : Code → List Nat
  | .region _ ops _ => dstsOps ops.toList
  | .seq a b => dsts a ++ dsts b
  | .cond _ a b => dsts a ++ dsts b
  | .block _ a => dsts a
  | .loop a => dsts a
  | _ => []
def subS (l : List Nat) (s : Shp) : Bool := l.all fun t => s.any fun x => x.1 == t
def loopC (s : Shp) (B : (Fr → Pred) → Fr → Pred) (fr : Fr) : Pred := fun w => ∃ I : Nat → InvT s, (∃ n, appI s (I n) fr w) ∧
  ∀ (n : Nat) (d : Nat → Value), hv s (I n) fr d fun Iw f => ∀ w', Iw w' → B (fun f' w'' => ∃ m, m < n ∧ appI s (I m) f' w'') f w'
def cutC (s : Shp) (A : (Fr → Pred) → Pred) (B : Fr → Pred) (fr : Fr) : Pred := fun w => ∃ J : InvT s, A (appI s J) w ∧
  ∀ d : Nat → Value, hv s J fr d fun Jw f => ∀ w', Jw w' → B f w'
def condC (v : Value) (x y : Scr → Pred) : Scr → Pred
  | .cond a b => match v with
    | .bool t => fun w => (t = true → x a w) ∧ (t = false → y b w)
    | _ => fun _ => False
  | .lit k => match v with
    | .bool true => x k
    | .bool false => y k
    | _ => fun _ => False
  | _ => fun _ => False
/-- Behind a test the tested slot holds what the test said. -/
def setC (fr : Fr) (c : Operand) (x : Bool) : Fr := match c with
  | .tmp d => fr.set d (.bool x)
  | _ => fr
def seqK (K : Exit → Scr → Fr → Pred) (n : Scr → Fr → Pred) : Exit → Scr → Fr → Pred
  | .normal, s, f => n s f
  | .exit id, s, f => K (.exit id) s f
  | .goto l, s, f => K (.goto l) s f
  | .ret, s, f => K .ret s f
  | .panic c, s, f => K (.panic c) s f
  | .outgrown, s, f => K .outgrown s f
def blockK (id : Nat) (K : Exit → Scr → Fr → Pred) : Exit → Scr → Fr → Pred
  | .normal, s, f => K .normal s f
  | .exit i, s, f => if i = id then K .normal s f else K (.exit i) s f
  | .goto l, s, f => K (.goto l) s f
  | .ret, s, f => K .ret s f
  | .panic c, s, f => K (.panic c) s f
  | .outgrown, s, f => K .outgrown s f

def wpC (P : Program) (Qp : List PanicEntry → Pred) : Code → (Exit → Scr → Fr → Pred) → Scr → Fr → Pred
  | .skip, K, s, fr => K .normal s fr
  | .region _ ops false, K, s, fr => regU P ops.toList Qp (K .normal) s ops.toList fr
  | .region _ ops true, K, s, fr => if P.follows .mixedOrders && Region.noSelect ops then
      drw (regD P ops (befL ops.toList []) Qp (K .normal) s ops.toList.length (Array.replicate ops.size false) [] fr) else fun _ => False
  | .seq a b, K, s, fr => wpC P Qp a (seqK K (fun s f => wpC P Qp b K s f)) s fr
  | .cond c x y, K, s, fr => match s with
    | .cut sh sa sb => if subS (dsts x ++ dsts y) sh then
        cutC sh (fun J => condC (gS fr c) (fun s => wpC P Qp x (seqK K fun _ f => J f) s (setC fr c true)) (fun s => wpC P Qp y (seqK K fun _ f => J f) s (setC fr c false)) sa) (fun f => K .normal sb f) fr else fun _ => False
    | s => condC (gS fr c) (fun s => wpC P Qp x K s (setC fr c true)) (fun s => wpC P Qp y K s (setC fr c false)) s
  | .block id a, K, s, fr => match s with
    | .cut sh sa sb => if subS (dsts a) sh then
        cutC sh (fun J => wpC P Qp a (blockK id (seqK K fun _ f => J f)) sa fr) (fun f => K .normal sb f) fr else fun _ => False
    | s => wpC P Qp a (blockK id K) s fr
  | .loop a, K, s, fr => match s with
    | .loop sh k => if subS (dsts a) sh then loopC sh (fun N f => wpC P Qp a (seqK K fun _ f => N f) k f) fr else fun _ => False
    | _ => fun _ => False
  | .exit id, K, s, fr => K (.exit id) s fr
  | .ret, K, s, fr => K .ret s fr
  | .label _, K, s, fr => K .normal s fr
  | _, _, _, _ => fun _ => False

/-! ### Soundness -/
def KS (K : Exit → Scr → Fr → Pred) : Exit → Fr → Pred := fun e f w => ∃ s, K e s f w

theorem set_same {fr : Fr} {s : Nat} {t : Bool} (hv : fr.getD s undef = .bool t) : fr.set s (.bool t) = fr := by
  refine List.ext_getElem (by simp) fun i h1 h2 => ?_
  rw [List.getElem_set]
  split
  · rename_i hi
    subst hi
    have : fr[s]? = some fr[s] := List.getElem?_eq_getElem h2
    rw [List.getD_eq_getElem?_getD, this] at hv
    exact hv.symm
  · rfl
theorem sameB_elim {fr : Fr} {t : Bool} {p : Pred} {w : World} : ∀ {l : List Nat}, sameB fr t p l w → p w ∧ setsB fr t l = fr
  | [], h => ⟨h, rfl⟩
  | e :: r, h => by
    obtain ⟨q, hq⟩ : ∃ q, sameB fr t p (e :: r) = q := ⟨_, rfl⟩
    rw [hq] at h
    unfold sameB at hq
    cases hv : fr.getD e undef with
    | bool u =>
      simp only [hv] at hq
      subst hq
      obtain ⟨rfl, h⟩ := h
      obtain ⟨h1, h2⟩ := sameB_elim h
      exact ⟨h1, by simp only [setsB, set_same hv]; exact h2⟩
    | _ => simp only [hv] at hq; subst hq; exact h.elim
theorem splitLC_elim {fr : Fr} {s : Nat} {more : List Nat} {x y : Fr → Pred} {w : World} (h : splitLC fr s more x y w) : x fr w ∨ y fr w := by
  obtain ⟨q, hq⟩ : ∃ q, splitLC fr s more x y = q := ⟨_, rfl⟩
  rw [hq] at h
  unfold splitLC at hq
  cases hv : fr.getD s undef with
  | bool t =>
    simp only [hv] at hq
    subst hq
    obtain ⟨h1, h2⟩ := sameB_elim h
    have he : setsB fr t (s :: more) = fr := by simp only [setsB, set_same hv]; exact h2
    cases t with
    | true => exact .inl (by have := h1.1 rfl; rwa [he] at this)
    | false => exact .inr (by have := h1.2 rfl; rwa [he] at this)
  | _ => simp only [hv] at hq; subst hq; exact h.elim
theorem splitC_elim {fr : Fr} {s : Nat} {x y : Fr → Pred} {w : World} (h : splitC fr s x y w) : x fr w ∨ y fr w := by
  unfold splitC at h
  cases hv : fr.getD s undef with
  | bool t =>
    simp only [hv] at h
    have he : fr.set s (.bool t) = fr := by
      refine List.ext_getElem (by simp) fun i h1 h2 => ?_
      rw [List.getElem_set]
      split
      · rename_i hi
        subst hi
        have : fr[s]? = some fr[s] := List.getElem?_eq_getElem h2
        rw [List.getD_eq_getElem?_getD, this] at hv
        exact hv.symm
      · rfl
    cases t with
    | true => exact .inl (by have := h.1 rfl; rwa [he] at this)
    | false => exact .inr (by have := h.2 rfl; rwa [he] at this)
  | _ => simp only [hv] at h

theorem stepU_sound {P : Program} {ops : Array Oper} {o : Oper} {Qp : List PanicEntry → Pred} {K : Fr → Pred} {fr : Fr} {w : World} {ds : List Deferred} {Q : Exit → Act → World → Prop} {rest : List Oper}
    (hQ : ∀ c a w, a.defers = ds → Qp c w → Q (.panic c) a w)
    (hK : ∀ v w, K (setS fr o.dst v) w → wpList P ops Q rest (act (setS fr o.dst v) ds) w)
    (h : stepU P ops.toList o Qp K fr w) : wpList P ops Q (o :: rest) (act fr ds) w := by
  obtain ⟨p, hp⟩ : ∃ p, stepU P ops.toList o Qp K fr = p := ⟨_, rfl⟩
  rw [hp] at h
  unfold stepU at hp
  unfold wpList
  cases hg : guardL ops.toList o fr with
  | none => simp only [hg] at hp; subst hp; exact h.elim
  | some x =>
    have hw := guardL_wanted (ds := ds) hg
    rw [hw]
    cases x with
    | false =>
      simp only [hg] at hp
      subst hp
      simp only [Bool.false_eq_true, if_false]
      rw [put_act]
      exact hK _ _ h
    | true =>
      simp only [hg] at hp
      simp only [if_true]
      refine .inl ?_
      cases hq : quietC P o (gS fr) (fun v _ => K (setS fr o.dst v)) with
      | some q =>
        simp only [hq] at hp
        subst hp
        obtain ⟨v, f, hk, hf⟩ := quietC_elim hq h
        have hrun : (execOp (act fr ds).eval o).run P w = .ok (.value v) w := by
          rw [gS_eval]
          rcases hf with ⟨_, hrun⟩ | ⟨g, _, hg0, hrun⟩
          · exact hrun w
          · exact hrun w hg0
        refine run_value hrun ?_
        rw [put_act]
        exact hK _ _ hk
      | none =>
        simp only [hq] at hp
        subst hp
        rw [← gS_eval fr ds] at h
        refine effC_wp h (fun v w' hk => ?_) (fun c w' hc => hQ _ _ _ rfl hc)
        rw [put_act]
        exact hK _ _ hk

theorem regU_sound {P : Program} {ops : Array Oper} {Qp : List PanicEntry → Pred} {K : Scr → Fr → Pred} {ds : List Deferred} {Q : Exit → Act → World → Prop} {fr0 : Fr} {S : List Nat}
    (hQ : ∀ c a w, a.defers = ds → Qp c w → Q (.panic c) a w) (hN : ∀ s f w, Agr S fr0 f → K s f w → Q .normal (act f ds) w) :
    ∀ (s : Scr) (rest : List Oper) (fr : Fr) (w : World), (∀ o ∈ rest, ∀ t, o.dst = some t → t ∈ S) → Agr S fr0 fr → regU P ops.toList Qp K s rest fr w → wpList P ops Q rest (act fr ds) w := by
  intro s
  induction s with
  | run l k ih =>
    intro rest fr w hS hA h
    simp only [regU] at h
    induction l generalizing rest fr w with
    | nil => exact ih rest fr w hS hA h
    | cons i l ihl =>
      cases rest with
      | nil => exact h.elim
      | cons o rest =>
        refine stepU_sound hQ (fun v w' hk => ihl rest _ w' (fun o' ho' => hS o' (List.mem_cons_of_mem _ ho')) (Agr.setS hA (hS o (List.mem_cons_self ..)) v) hk) h
  | split sl a b iha ihb =>
    intro rest fr w hS hA h
    rcases splitC_elim h with h | h
    · exact iha rest fr w hS hA h
    · exact ihb rest fr w hS hA h
  | splitL sl more a b iha ihb =>
    intro rest fr w hS hA h
    rcases splitLC_elim h with h | h
    · exact iha rest fr w hS hA h
    · exact ihb rest fr w hS hA h
  | close k _ =>
    intro rest fr w hS hA h
    cases rest with
    | nil => exact wpList_nil (hN k fr w hA h)
    | cons o r => exact h.elim
  | nil => intro rest fr w hS hA h; cases rest <;> exact h.elim
  | cond a b _ _ => intro rest fr w hS hA h; cases rest <;> exact h.elim
  | lit k _ => intro rest fr w hS hA h; cases rest <;> exact h.elim
  | loop s k _ => intro rest fr w hS hA h; cases rest <;> exact h.elim
  | cut s a b _ _ => intro rest fr w hS hA h; cases rest <;> exact h.elim
  | alt a b _ _ => intro rest fr w hS hA h; cases rest <;> exact h.elim

theorem effD_sound {P : Program} {ops : Array Oper} {Qp : List PanicEntry → Pred} {i : Nat} {K : Array Bool → Fr → Pred}
    {n : Nat} {listed : Array Bool} {F : List (Nat × Pred)} {fr : Fr} {w : World} {ds : List Deferred} {Q : Exit → Act → World → Prop} (hQ : ∀ c a w, Q (.panic c) a w ↔ a.defers = ds ∧ Qp c w)
    (hK : ∀ f w, (f.length = fr.length ∧ ∀ S fr0, (∀ t ∈ dstsOps ops.toList, t ∈ S) → Agr S fr0 fr → Agr S fr0 f) → K (listed.setIfInBounds i true) f w → wpG P ops Q (befL ops.toList []) F n (listed.setIfInBounds i true) (act f ds) w)
    (h : effD P ops (befL ops.toList []) Qp i K listed F fr w) :
    wpOp P ops Q i (fun a' w' => (w' = w ∨ factsF (befL ops.toList []) F i w') ∧ wpG P ops Q (befL ops.toList []) F n (listed.setIfInBounds i true) a' w') (act fr ds) w := by
  obtain ⟨p, hp⟩ : ∃ p, effD P ops (befL ops.toList []) Qp i K listed F fr = p := ⟨_, rfl⟩
  rw [hp] at h
  unfold effD at hp
  cases ho : ops.toList[i]? with
  | none => simp only [ho] at hp; subst hp; exact h.elim
  | some o =>
    have ho' : ops[i]? = some o := by simpa using ho
    have hdst : ∀ v, (setS fr o.dst v).length = fr.length ∧ ∀ S fr0, (∀ t ∈ dstsOps ops.toList, t ∈ S) → Agr S fr0 fr → Agr S fr0 (setS fr o.dst v) := by
      intro v
      refine ⟨?_, fun S fr0 hS hA => Agr.setS hA (fun t ht => hS t (List.mem_filterMap.2 ⟨o, List.mem_of_getElem? ho, ht⟩)) v⟩
      cases o.dst <;> simp [setS]
    simp only [ho] at hp
    cases hg : guardL ops.toList o fr with
    | none => simp only [hg] at hp; subst hp; exact h.elim
    | some x =>
      have hw := guardL_wanted (ds := ds) hg
      cases x with
      | false => simp only [hg] at hp; subst hp; exact h.elim
      | true =>
        simp only [hg] at hp
        subst hp
        unfold wpOp
        simp only [ho', hw, if_true]
        refine .inl ?_
        rw [← gS_eval fr ds] at h
        refine effC_wp h (fun v w' hk => ?_) (fun c w' hc => (hQ _ _ _).2 ⟨rfl, hc⟩)
        obtain ⟨h1, h2⟩ := wrapF_elim hk
        refine ⟨.inr h1, ?_⟩
        rw [put_act]
        exact hK _ _ (hdst _) h2

theorem regD_sound {P : Program} {ops : Array Oper} (hsel : Region.noSelect ops = true) {Qp : List PanicEntry → Pred} {K : Scr → Fr → Pred} {ds : List Deferred} {Q : Exit → Act → World → Prop} {fr0 : Fr} {S : List Nat}
    (hQ : ∀ c a w, Q (.panic c) a w ↔ a.defers = ds ∧ Qp c w) (hN : ∀ s f w, Agr S fr0 f → K s f w → Q .normal (act f ds) w) (hS : ∀ t ∈ dstsOps ops.toList, t ∈ S) :
    ∀ (s : Scr) (n : Nat) (listed : Array Bool) (F : List (Nat × Pred)) (fr : Fr) (w : World), DC (befL ops.toList []) listed → Agr S fr0 fr →
      regD P ops (befL ops.toList []) Qp K s n listed F fr w → wpG P ops Q (befL ops.toList []) F n listed (act fr ds) w := by
  intro s
  induction s with
  | run l k ih =>
    intro n listed F fr w hd hA h
    simp only [regD] at h
    induction l generalizing n listed F fr w with
    | nil => exact ih n listed F fr w hd hA h
    | cons i l ihl =>
      cases n with
      | zero => exact h.elim
      | succ n =>
        refine stepD_sound hsel hQ hd (fun listed' F' f w' hd' hf hk => ?_) h
        exact ihl n listed' F' f w' hd' (hf.2 S fr0 hS hA) hk
  | split sl a b iha ihb =>
    intro n listed F fr w hd hA h
    rcases splitC_elim h with h | h
    · exact iha n listed F fr w hd hA h
    · exact ihb n listed F fr w hd hA h
  | splitL sl more a b iha ihb =>
    intro n listed F fr w hd hA h
    rcases splitLC_elim h with h | h
    · exact iha n listed F fr w hd hA h
    · exact ihb n listed F fr w hd hA h
  | close k _ =>
    intro n listed F fr w hd hA h
    cases n with
    | succ n => exact h.elim
    | zero =>
      obtain ⟨p, hp⟩ : ∃ p, regD P ops (befL ops.toList []) Qp K (.close k) 0 listed F fr = p := ⟨_, rfl⟩
      rw [hp] at h
      simp only [regD] at hp
      split at hp
      · rename_i hr
        subst hp
        exact ⟨hr, hN k fr w hA h⟩
      · subst hp; exact h.elim
  | nil => intro n listed F fr w hd hA h; cases n <;> exact h.elim
  | cond a b _ _ => intro n listed F fr w hd hA h; cases n <;> exact h.elim
  | lit k _ => intro n listed F fr w hd hA h; cases n <;> exact h.elim
  | loop s k _ => intro n listed F fr w hd hA h; cases n <;> exact h.elim
  | cut s a b _ _ => intro n listed F fr w hd hA h; cases n <;> exact h.elim
  | alt a b iha ihb =>
    intro n listed F fr w hd hA h
    cases n with
    | zero => exact h.elim
    | succ n =>
      obtain ⟨p, hp⟩ : ∃ p, regD P ops (befL ops.toList []) Qp K (.alt a b) (n + 1) listed F fr = p := ⟨_, rfl⟩
      rw [hp] at h
      simp only [regD] at hp
      split at hp
      · rename_i i j hr
        subst hp
        have ht := befL_ok ops
        refine ⟨fun h0 => absurd (hr.symm.trans h0) (by simp), fun k hk => ?_⟩
        have hk' := hk
        rw [hr] at hk'
        rcases List.mem_cons.1 hk' with rfl | hk'
        · exact effD_sound hQ (fun f w hf hk => iha n _ F f w (DC_set ht hd (by rw [hr]; simp)) (hf.2 S fr0 hS hA) hk) h.1
        · simp only [List.mem_singleton] at hk'
          subst hk'
          exact effD_sound hQ (fun f w hf hk => ihb n _ F f w (DC_set ht hd (by rw [hr]; simp)) (hf.2 S fr0 hS hA) hk) h.2
      · subst hp; exact h.elim

theorem wpC_region {P : Program} {Qp : List PanicEntry → Pred} {id : Nat} {ops : Array Oper} {K : Exit → Scr → Fr → Pred} {s : Scr} {x : Bool} {fr : Fr} {ds : List Deferred} {w : World}
    (h : wpC P Qp (.region id ops x) K s fr w) : (Code.region id ops x).wp P (Good ds (dstsOps ops.toList) fr (KS K) Qp) (act fr ds) w := by
  have hmem : ∀ o ∈ ops.toList, ∀ t, o.dst = some t → t ∈ dstsOps ops.toList := fun o ho t ht => List.mem_filterMap.2 ⟨o, ho, ht⟩
  cases x with
  | false =>
    refine wp_region_list ?_
    exact regU_sound (S := dstsOps ops.toList) (fr0 := fr) (fun c a w hd hq => ⟨hd, hq⟩) (fun s f w hA hk => ⟨f, rfl, hA, s, hk⟩) s ops.toList fr w hmem (Agr.refl _ _) h
  | true =>
    obtain ⟨p, hp⟩ : ∃ p, wpC P Qp (.region id ops true) K s fr = p := ⟨_, rfl⟩
    rw [hp] at h
    simp only [wpC] at hp
    split at hp
    · rename_i hc
      simp only [Bool.and_eq_true] at hc
      subst hp
      refine wp_region_any hc.1 (wpG_any _ _ _ _ (F := []) (tbl := befL ops.toList []) ?_)
      have := regD_sound (S := dstsOps ops.toList) (fr0 := fr) (ds := ds) (Q := Good ds (dstsOps ops.toList) fr (KS K) Qp) hc.2 (fun c a w => Iff.rfl) (fun s f w hA hk => ⟨f, rfl, hA, s, hk⟩) (fun t ht => ht) s _ _ _ fr _ (DC_none _) (Agr.refl _ _) h
      have e : ops.toList.length = ops.size := by simp
      rw [e] at this
      exact this
    · subst hp; exact h.elim

theorem Good.mono {ds : List Deferred} {S T : List Nat} {fr fr' : Fr} {K K' : Exit → Fr → Pred} {Qp : List PanicEntry → Pred} (hs : ∀ t ∈ S, t ∈ T) (hA : Agr T fr' fr)
    (hk : ∀ e f w, Agr T fr' f → K e f w → K' e f w) {e : Exit} {a : Act} {w : World} (h : Good ds S fr K Qp e a w) : Good ds T fr' K' Qp e a w := by
  cases e with
  | panic c => exact h
  | outgrown => exact h.elim
  | _ => obtain ⟨f, h1, h2, h3⟩ := h; exact ⟨f, h1, hA.trans (h2.mono hs), hk _ _ _ (hA.trans (h2.mono hs)) h3⟩

theorem condC_elim {v : Value} {x y : Scr → Pred} {s : Scr} {w : World} (h : condC v x y s w) : ∃ t : Bool, v = .bool t ∧ ((t = true ∧ ∃ k, x k w) ∨ (t = false ∧ ∃ k, y k w)) := by
  obtain ⟨p, hp⟩ : ∃ p, condC v x y s = p := ⟨_, rfl⟩
  rw [hp] at h
  unfold condC at hp
  split at hp
  · rename_i a b
    cases v with
    | bool t =>
      simp only at hp
      subst hp
      cases t with
      | true => exact ⟨true, rfl, .inl ⟨rfl, a, h.1 rfl⟩⟩
      | false => exact ⟨false, rfl, .inr ⟨rfl, b, h.2 rfl⟩⟩
    | _ => subst hp; exact h.elim
  · rename_i k
    cases v with
    | bool t =>
      cases t with
      | true => simp only at hp; subst hp; exact ⟨true, rfl, .inl ⟨rfl, k, h⟩⟩
      | false => simp only at hp; subst hp; exact ⟨false, rfl, .inr ⟨rfl, k, h⟩⟩
    | _ => subst hp; exact h.elim
  · subst hp; exact h.elim

theorem subS_mem {l : List Nat} {s : Shp} (h : subS l s = true) : ∀ t ∈ l, t ∈ s.map (·.1) := by
  intro t ht
  have := List.all_eq_true.1 h t ht
  obtain ⟨x, hx, he⟩ := List.any_eq_true.1 this
  exact List.mem_map.2 ⟨x, hx, by simpa using he⟩

theorem cutC_sound {P : Program} {Qp : List PanicEntry → Pred} {sh : Shp} {A : (Fr → Pred) → Pred} {B : Fr → Pred} {fr : Fr} {w : World} {ds : List Deferred} {S : List Nat} {K : Exit → Fr → Pred} {c : Code}
    (hs : subS S sh = true)
    (hA : ∀ J : Fr → Pred, A J w → c.wp P (Good ds S fr (fun e f w => match e with | .normal => J f w | e => K e f w) Qp) (act fr ds) w)
    (hB : ∀ f w, B f w → K .normal f w) (h : cutC sh A B fr w) : c.wp P (Good ds S fr K Qp) (act fr ds) w := by
  obtain ⟨J, h1, h2⟩ := h
  refine wp_mono (hA _ h1) fun e a w' hg => ?_
  cases e with
  | normal =>
    obtain ⟨f, h3, h4, h5⟩ := hg
    refine ⟨f, h3, h4, ?_⟩
    obtain ⟨Iw, h6, h7⟩ := hv_elim sh J fr f _ w' (h2 fun t => f.getD t undef) h5
    rw [fillS_eq h4 (subS_mem hs)] at h7
    exact hB _ _ (h7 w' h6)
  | panic c => exact hg
  | outgrown => exact hg
  | exit i => exact hg
  | goto l => exact hg
  | ret => exact hg

theorem wpC_sound {P : Program} {Qp : List PanicEntry → Pred} {ds : List Deferred} : ∀ (c : Code) (K : Exit → Scr → Fr → Pred) (s : Scr) (fr : Fr) (w : World),
    wpC P Qp c K s fr w → c.wp P (Good ds (dsts c) fr (KS K) Qp) (act fr ds) w := by
  intro c
  induction c with
  | skip => intro K s fr w h; exact wp_skip ⟨fr, rfl, Agr.refl _ _, s, h⟩
  | region id ops x => intro K s fr w h; exact wpC_region h
  | seq a b iha ihb =>
    intro K s fr w h
    refine wp_seq (wp_mono (iha _ _ _ _ h) fun e a' w' hg => ?_)
    have hsub : ∀ t ∈ dsts a, t ∈ dsts (.seq a b) := fun t ht => List.mem_append_left _ ht
    cases e with
    | normal =>
      obtain ⟨f, rfl, h2, s', h3⟩ := hg
      refine wp_mono (ihb K s' f w' h3) fun e a'' w'' hg' => ?_
      exact Good.mono (fun t ht => List.mem_append_right _ ht) (h2.mono hsub) (fun e f w _ h => h) hg'
    | panic c => exact hg
    | outgrown => exact hg
    | exit i => exact Good.mono (K := KS K) (Qp := Qp) hsub (Agr.refl _ _) (fun e f w _ h => h) (e := .exit i) hg
    | goto l => exact Good.mono (K := KS K) (Qp := Qp) hsub (Agr.refl _ _) (fun e f w _ h => h) (e := .goto l) hg
    | ret => exact Good.mono (K := KS K) (Qp := Qp) hsub (Agr.refl _ _) (fun e f w _ h => h) (e := .ret) hg
  | cond c x y ihx ihy =>
    have hx : ∀ t ∈ dsts x, t ∈ dsts (.cond c x y) := fun t ht => List.mem_append_left _ ht
    have hy : ∀ t ∈ dsts y, t ∈ dsts (.cond c x y) := fun t ht => List.mem_append_right _ ht
    have key : ∀ (K : Exit → Scr → Fr → Pred) (s : Scr) (fr : Fr) (w : World), condC (gS fr c) (fun s => wpC P Qp x K s (setC fr c true)) (fun s => wpC P Qp y K s (setC fr c false)) s w →
        (Code.cond c x y).wp P (Good ds (dsts (.cond c x y)) fr (KS K) Qp) (act fr ds) w := by
      intro K s fr w h
      obtain ⟨t, hc, h⟩ := condC_elim h
      have hc' : (act fr ds).eval c = .bool t := by rw [gS_eval]; exact hc
      have hset : setC fr c t = fr := by
        cases c with
        | tmp d => exact set_same hc
        | _ => rfl
      rcases h with ⟨rfl, k, h⟩ | ⟨rfl, k, h⟩ <;> rw [hset] at h
      · exact wp_cond_true hc' (wp_mono (ihx K k fr w h) fun e a w hg => Good.mono hx (Agr.refl _ _) (fun _ _ _ _ h => h) hg)
      · exact wp_cond_false hc' (wp_mono (ihy K k fr w h) fun e a w hg => Good.mono hy (Agr.refl _ _) (fun _ _ _ _ h => h) hg)
    intro K s fr w h
    cases s with
    | cut sh sa sb =>
      obtain ⟨p, hp⟩ : ∃ p, wpC P Qp (.cond c x y) K (.cut sh sa sb) fr = p := ⟨_, rfl⟩
      rw [hp] at h
      simp only [wpC] at hp
      split at hp
      · rename_i hs
        subst hp
        refine cutC_sound hs (fun J hJ => ?_) (fun f w h => ⟨sb, h⟩) h
        refine wp_mono (key _ _ _ _ hJ) fun e a w hg => Good.mono (fun t h => h) (Agr.refl _ _) (fun e f w _ h => ?_) hg
        cases e with
        | normal => obtain ⟨s, h⟩ := h; exact h
        | _ => exact h
      · subst hp; exact h.elim
    | nil => exact key K .nil fr w h
    | run l k => exact key K (.run l k) fr w h
    | split n b1 b2 => exact key K (.split n b1 b2) fr w h
    | close k => exact key K (.close k) fr w h
    | cond a b => exact key K (.cond a b) fr w h
    | lit k => exact key K (.lit k) fr w h
    | loop a b => exact key K (.loop a b) fr w h
    | alt a b => exact key K (.alt a b) fr w h
    | splitL n l b1 b2 => exact key K (.splitL n l b1 b2) fr w h
  | block id a ih =>
    have key : ∀ (K : Exit → Scr → Fr → Pred) (s : Scr) (fr : Fr) (w : World), wpC P Qp a (blockK id K) s fr w →
        (Code.block id a).wp P (Good ds (dsts a) fr (KS K) Qp) (act fr ds) w := by
      intro K s fr w h
      refine wp_block (wp_mono (ih _ _ _ _ h) fun e a' w' hg => ?_)
      cases e with
      | normal => exact hg
      | panic c => exact hg
      | outgrown => exact hg
      | exit i =>
        obtain ⟨f, h1, h2, s', h3⟩ := hg
        simp only [Exit.inBlock]
        obtain ⟨p, hp⟩ : ∃ p, blockK id K (.exit i) s' f = p := ⟨_, rfl⟩
        rw [hp] at h3
        simp only [blockK] at hp
        split
        · rename_i hi
          rw [if_pos hi] at hp
          subst hp
          exact ⟨f, h1, h2, s', h3⟩
        · rename_i hi
          rw [if_neg hi] at hp
          subst hp
          exact ⟨f, h1, h2, s', h3⟩
      | goto l => exact hg
      | ret => exact hg
    intro K s fr w h
    cases s with
    | cut sh sa sb =>
      obtain ⟨p, hp⟩ : ∃ p, wpC P Qp (.block id a) K (.cut sh sa sb) fr = p := ⟨_, rfl⟩
      rw [hp] at h
      simp only [wpC] at hp
      split at hp
      · rename_i hs
        subst hp
        refine cutC_sound hs (fun J hJ => ?_) (fun f w h => ⟨sb, h⟩) h
        refine wp_mono (key _ _ _ _ hJ) fun e a w hg => Good.mono (fun t h => h) (Agr.refl _ _) (fun e f w _ h => ?_) hg
        cases e with
        | normal => obtain ⟨s, h⟩ := h; exact h
        | _ => exact h
      · subst hp; exact h.elim
    | nil => exact key K .nil fr w h
    | run l k => exact key K (.run l k) fr w h
    | split n b1 b2 => exact key K (.split n b1 b2) fr w h
    | close k => exact key K (.close k) fr w h
    | cond a b => exact key K (.cond a b) fr w h
    | lit k => exact key K (.lit k) fr w h
    | loop a b => exact key K (.loop a b) fr w h
    | alt a b => exact key K (.alt a b) fr w h
    | splitL n l b1 b2 => exact key K (.splitL n l b1 b2) fr w h
  | loop a ih =>
    intro K s fr w h
    obtain ⟨p, hp⟩ : ∃ p, wpC P Qp (.loop a) K s fr = p := ⟨_, rfl⟩
    rw [hp] at h
    cases s with
    | loop sh k =>
      simp only [wpC] at hp
      split at hp
      · rename_i hs
        subst hp
        obtain ⟨I, ⟨n0, h0⟩, hround⟩ := h
        refine wp_loop_ghost (fun n a' w' => ∃ f, a' = act f ds ∧ Agr (dsts a) fr f ∧ appI sh (I n) f w') n0 ⟨fr, rfl, Agr.refl _ _, h0⟩ ?_
        rintro n a' w' ⟨f, rfl, hA, hi⟩
        obtain ⟨Iw, h1, h2⟩ := hv_elim sh (I n) fr f _ w' (hround n fun t => f.getD t undef) hi
        rw [fillS_eq hA (subS_mem hs)] at h2
        refine wp_mono (ih _ _ _ _ (h2 w' h1)) fun e a'' w'' hg => ?_
        cases e with
        | normal =>
          obtain ⟨f', h3, h4, s', m, h5, h6⟩ := hg
          exact ⟨m, h5, f', h3, hA.trans h4, h6⟩
        | panic c => exact hg
        | outgrown => exact hg
        | exit i => exact Good.mono (K := KS K) (Qp := Qp) (fun t h => h) hA (fun e f w _ h => h) (e := .exit i) hg
        | goto l => exact Good.mono (K := KS K) (Qp := Qp) (fun t h => h) hA (fun e f w _ h => h) (e := .goto l) hg
        | ret => exact Good.mono (K := KS K) (Qp := Qp) (fun t h => h) hA (fun e f w _ h => h) (e := .ret) hg
      · subst hp; exact h.elim
    | _ => simp only [wpC] at hp; subst hp; exact h.elim
  | exit id => intro K s fr w h; exact wp_exit ⟨fr, rfl, Agr.refl _ _, s, h⟩
  | ret => intro K s fr w h; exact wp_ret ⟨fr, rfl, Agr.refl _ _, s, h⟩
  | label l => intro K s fr w h; exact wp_label ⟨fr, rfl, Agr.refl _ _, s, h⟩
  | rangeFunc f params assign body _ _ => intro K s fr w h; exact h.elim
  | scope b _ => intro K s fr w h; exact h.elim
  | goto l => intro K s fr w h; exact h.elim
  | refuse why => intro K s fr w h; exact h.elim

/-! ### A function -/
/-- What a function hands back: from its temporaries, or out of a variable in memory. -/
def resV (P : Program) (fr : Fr) (r : ResultVar) (K : Value → Pred) : Pred :=
  match r with
  | .tmp t => K (fr.getD t undef)
  | .cell a t => match fr.getD a undef, shOf P t, aggP P t, sizeP P t with
    | .pointer (some ⟨b, o, none⟩), some s, some x, some n => if okS s x n then ldS s n b o fun v _ => K v else fun _ => False
    | _, _, _, _ => fun _ => False
def retC (P : Program) (rs : List ResultVar) (fr : Fr) (R : Ending → World → Prop) : Pred :=
  match rs with
  | [] => fun w => R (.returned (.tuple #[])) w
  | [r] => resV P fr r fun v w => R (.returned v) w
  | [r, s] => resV P fr r fun v => resV P fr s fun u w => R (.returned (.tuple #[v, u])) w
  | _ => fun _ => False
def resS (tmps : Array Value) : ResultVar → Sem Value
  | .tmp t => pure (tmps.getD t undef)
  | .cell a t => do loadVar t (← asAddr (tmps.getD a undef))
theorem results_eq (fn : Func) (tmps : Array Value) : results fn tmps = ((List.toArray <$> fn.results.toList.mapM (resS tmps)) >>= fun vs => pure (if h : vs.size = 1 then vs[0] else .tuple vs)) := by
  unfold results
  rw [← Array.mapM_eq_mapM_toList]
  refine congrArg (fun f : ResultVar → Sem Value => (fn.results.mapM f >>= fun vs => pure (if h : vs.size = 1 then vs[0] else .tuple vs))) ?_
  funext r
  cases r <;> rfl
theorem resV_run {P : Program} {fr : Fr} {r : ResultVar} {K : Value → Pred} {w : World} (h : resV P fr r K w) :
    ∃ v, K v w ∧ (resS fr.toArray r).run P w = .ok v w := by
  cases r with
  | tmp t => exact ⟨_, h, by simp [resS]⟩
  | cell a t =>
    obtain ⟨p, hp⟩ : ∃ p, resV P fr (.cell a t) K = p := ⟨_, rfl⟩
    rw [hp] at h
    simp only [resV] at hp
    split at hp
    · rename_i b o s x n h1 h2 h3 h4
      split at hp
      · rename_i hok
        subst hp
        obtain ⟨v, f, h5, h6, h7⟩ := ldS_elim h3 h4 hok h
        refine ⟨v, h5, ?_⟩
        have he : fr.toArray.getD a undef = .pointer (some ⟨b, o, none⟩) := by simpa using h1
        simp only [resS, he]
        rw [bind_run (show (asAddr (.pointer (some ⟨b, o, none⟩))).run P w = .ok ⟨b, o, none⟩ w from rfl)]
        exact h7 w h6
      · subst hp; exact h.elim
    · subst hp; exact h.elim
theorem retC_run {P : Program} {fn : Func} {fr : Fr} {R : Ending → World → Prop} {w : World} (h : retC P fn.results.toList fr R w) :
    ∃ v, (results fn fr.toArray).run P w = .ok v w ∧ R (.returned v) w := by
  rw [results_eq]
  unfold retC at h
  cases hr : fn.results.toList with
  | nil =>
    simp only [hr] at h
    exact ⟨_, rfl, h⟩
  | cons r l =>
    cases l with
    | nil =>
      simp only [hr] at h
      obtain ⟨v, h1, h2⟩ := resV_run h
      refine ⟨v, ?_, h1⟩
      have hm : ([r].mapM (resS fr.toArray)).run P w = .ok [v] w := by
        rw [List.mapM_cons, bind_run h2]; rfl
      rw [Sem.run_bind, Sem.run_map, hm]
      rfl
    | cons s l =>
      cases l with
      | nil =>
        simp only [hr] at h
        obtain ⟨v, h1, h2⟩ := resV_run h
        obtain ⟨u, h3, h4⟩ := resV_run h1
        refine ⟨_, ?_, h3⟩
        have hm : ([r, s].mapM (resS fr.toArray)).run P w = .ok [v, u] w := by
          rw [List.mapM_cons, bind_run h2, List.mapM_cons, bind_run (bind_run h4)]; rfl
        rw [Sem.run_bind, Sem.run_map, hm]
        rfl
      | cons _ _ => simp only [hr] at h

def finK (P : Program) (fn : Func) (R : Ending → World → Prop) : Exit → Scr → Fr → Pred
  | .normal, _, fr => retC P fn.results.toList fr R
  | .ret, _, fr => retC P fn.results.toList fr R
  | _, _, _ => fun _ => False
def frame0 (fn : Func) (args : List Value) : Fr := args ++ List.replicate (fn.ntmps - args.length) undef
def bodyOf (fn : Func) : Code := match fn.body with
  | some c => c
  | none => .skip
/-- The function's formula. -/
def vcF (P : Program) (fn : Func) (s : Scr) (args : List Value) (R : Ending → World → Prop) : Pred :=
  wpC P (fun c w => R (.panicked c) w) (bodyOf fn) (finK P fn R) s (frame0 fn args)
theorem vcF_calls {P : Program} {f : FuncId} {fn : Func} (hf : P.funcs[f]? = some fn) (hb : fn.body.isSome = true) (s : Scr) (args : List Value) {R : Ending → World → Prop} {w : World}
    (h : vcF P fn s args R w) : Calls P f ⟨args⟩ w R := by
  obtain ⟨c, hc⟩ := Option.isSome_iff_exists.1 hb
  have hbody : bodyOf fn = c := by simp [bodyOf, hc]
  refine calls_of_wp hf hc ?_
  have h' := wpC_sound (ds := []) _ _ _ _ _ h
  rw [hbody] at h'
  have he : ({ tmps := (⟨args⟩ : Array Value) ++ Array.replicate (fn.ntmps - (⟨args⟩ : Array Value).size) undef, defers := [] } : Act) = act (frame0 fn args) [] := by
    simp [act, frame0]
  rw [he]
  refine wp_mono h' fun e a w' hg => ?_
  cases e with
  | normal =>
    obtain ⟨f', rfl, _, s', h3⟩ := hg
    obtain ⟨v, h4, h5⟩ := retC_run h3
    exact ⟨rfl, v, h4, h5⟩
  | ret =>
    obtain ⟨f', rfl, _, s', h3⟩ := hg
    obtain ⟨v, h4, h5⟩ := retC_run h3
    exact ⟨rfl, v, h4, h5⟩
  | panic ch => exact hg
  | outgrown => exact hg.elim
  | exit i => obtain ⟨f', _, _, s', h3⟩ := hg; exact h3.elim
  | goto l => obtain ⟨f', _, _, s', h3⟩ := hg; exact h3.elim
/-- For the printed texts: the printed formula is the computed one, and gives the contract. -/
theorem cl_of {P : Program} {f : FuncId} {fn : Func} (s : Scr) (hf : P.funcs[f]? = some fn) (hc : callable P f = true) (args : List Value) {R : Ending → World → Prop} (V : Pred) (hV : vcF P fn s args R = V) {w : World} (h : V w) :
    Cl P f args w R := by
  refine ⟨hc, vcF_calls hf ?_ s args (by rw [hV]; exact h)⟩
  unfold callable at hc
  rw [hf] at hc
  simp only [Bool.and_eq_true] at hc
  exact hc.1

end Go.Vc

/- The calculus: a region whose order is drawn. No statement of the seat is proved here. -/
import Derived.Test.YtdbhnlelpcoldaaVcE
import Derived.Tactics
namespace Go.Vc
set_option linter.unusedVariables false
set_option linter.unusedSimpArgs false

/-! ### Who comes ahead of whom in a region -/
def edgesOf (o : Oper) (acc : List (List Nat)) : List Nat := (o.after.toList.filter fun e => Region.binds .any e).flatMap fun e => e.on :: acc.getD e.on []
def befL : List Oper → List (List Nat) → List (List Nat)
  | [], acc => acc
  | o :: r, acc => befL r (acc ++ [edgesOf o acc])
def TblOK (ops : Array Oper) (tbl : List (List Nat)) : Prop := ∀ j i oj, ops[j]? = some oj → i ∈ tbl.getD j [] →
    ∃ e ∈ oj.after, Region.binds .any e = true ∧ (e.on = i ∨ i ∈ tbl.getD e.on [])
theorem befL_prefix : ∀ (l : List Oper) (acc : List (List Nat)), ∃ t, befL l acc = acc ++ t ∧ t.length = l.length
  | [], acc => ⟨[], by simp [befL], rfl⟩
  | o :: r, acc => by
    obtain ⟨t, h, hl⟩ := befL_prefix r (acc ++ [edgesOf o acc])
    exact ⟨edgesOf o acc :: t, by simp [befL, h], by simp [hl]⟩
theorem getD_prefix {acc t : List (List Nat)} {k i : Nat} (h : i ∈ acc.getD k []) : i ∈ (acc ++ t).getD k [] := by
  by_cases hk : k < acc.length
  · simpa [List.getD_eq_getElem?_getD, List.getElem?_append_left hk] using h
  · rw [List.getD_eq_getElem?_getD, List.getElem?_eq_none (by omega)] at h
    cases h
theorem befL_get : ∀ (l : List Oper) (acc : List (List Nat)) (j : Nat) (oj : Oper), l[j]? = some oj →
    ∃ acc' t, befL l acc = acc' ++ t ∧ (befL l acc).getD (acc.length + j) [] = edgesOf oj acc'
  | [], acc, j, oj, h => by simp at h
  | o :: r, acc, j, oj, h => by
    cases j with
    | zero =>
      simp only [List.getElem?_cons_zero, Option.some.injEq] at h
      subst h
      obtain ⟨t, ht, _⟩ := befL_prefix r (acc ++ [edgesOf o acc])
      refine ⟨acc, edgesOf o acc :: t, by simp [befL, ht], ?_⟩
      simp [befL, ht, List.getD_eq_getElem?_getD]
    | succ j =>
      simp only [List.getElem?_cons_succ] at h
      obtain ⟨acc', t, h1, h2⟩ := befL_get r (acc ++ [edgesOf o acc]) j oj h
      refine ⟨acc', t, h1, ?_⟩
      rw [← h2]
      simp only [befL, List.length_append, List.length_singleton]
      congr 1
      omega
theorem befL_ok (ops : Array Oper) : TblOK ops (befL ops.toList []) := by
  intro j i oj hj hi
  have hj' : ops.toList[j]? = some oj := by simpa using hj
  obtain ⟨acc', t, h1, h2⟩ := befL_get ops.toList [] j oj hj'
  simp only [List.length_nil, Nat.zero_add] at h2
  rw [h2] at hi
  simp only [edgesOf, List.mem_flatMap, List.mem_filter] at hi
  obtain ⟨e, ⟨he, hb⟩, hi⟩ := hi
  refine ⟨e, by simpa using he, hb, ?_⟩
  rcases List.mem_cons.1 hi with hi | hi
  · exact .inl hi.symm
  · exact .inr (by rw [h1]; exact getD_prefix hi)

section
variable {P : Program} {ops : Array Oper} {Q : Exit → Act → World → Prop} {tbl : List (List Nat)}
/-- What was found stays found, as far as it may still be asked. -/
def factsF (tbl : List (List Nat)) (F : List (Nat × Pred)) (i : Nat) (w : World) : Prop := ∀ x ∈ F, x.1 ∉ tbl.getD i [] → x.2 w
def wpG (P : Program) (ops : Array Oper) (Q : Exit → Act → World → Prop) (tbl : List (List Nat)) (F : List (Nat × Pred)) : Nat → Array Bool → Act → World → Prop
  | 0, listed, a, w => Region.ready .any ops listed = [] ∧ Q .normal a w
  | n + 1, listed, a, w => (Region.ready .any ops listed = [] → Q .normal a w) ∧
    ∀ i ∈ Region.ready .any ops listed, wpOp P ops Q i (fun a' w' => (w' = w ∨ factsF tbl F i w') ∧ wpG P ops Q tbl F n (listed.setIfInBounds i true) a' w') a w
theorem wpG_any {F : List (Nat × Pred)} : ∀ (n : Nat) (listed : Array Bool) (a : Act) (w : World), wpG P ops Q tbl F n listed a w → wpAny P .any ops Q n listed a w
  | 0, _, _, _, h => h
  | n + 1, _, _, _, h => ⟨h.1, fun i hi => wpOp_mono (fun a' w' h' => wpG_any n _ a' w' h'.2) (h.2 i hi)⟩
def DC (tbl : List (List Nat)) (listed : Array Bool) : Prop := ∀ j i, listed.getD j false = true → i ∈ tbl.getD j [] → listed.getD i false = true
theorem ready_bef (ht : TblOK ops tbl) {listed : Array Bool} (hd : DC tbl listed) {j : Nat} (hj : j ∈ Region.ready .any ops listed) {i : Nat} (hi : i ∈ tbl.getD j []) : listed.getD i false = true := by
  obtain ⟨_, oj, hoj, hall⟩ := mem_ready.1 hj
  obtain ⟨e, he, hb, h⟩ := ht j i oj hoj hi
  have := hall e he hb
  rcases h with rfl | h
  · exact this
  · exact hd _ _ this h
theorem DC_set (ht : TblOK ops tbl) {listed : Array Bool} (hd : DC tbl listed) {j : Nat} (hj : j ∈ Region.ready .any ops listed) : DC tbl (listed.setIfInBounds j true) := by
  intro k i hk hi
  by_cases hjk : j = k
  · subst hjk
    exact getD_set_true (ready_bef ht hd hj hi)
  · rw [getD_set_ne false hjk] at hk
    exact getD_set_true (hd k i hk hi)
theorem DC_none (n : Nat) : DC tbl (Array.replicate n false) := by
  intro j i h
  simp [Array.getElem?_replicate] at h
  split at h <;> simp_all
theorem wpG_mono {F F' : List (Nat × Pred)} (hF : ∀ j w, factsF tbl F' j w → factsF tbl F j w) : ∀ (n : Nat) (listed : Array Bool) (a : Act) (w : World),
    wpG P ops Q tbl F' n listed a w → wpG P ops Q tbl F n listed a w
  | 0, _, _, _, h => h
  | n + 1, _, _, _, h => ⟨h.1, fun i hi => wpOp_mono (fun a' w' h' => ⟨h'.1.imp id (hF i w'), wpG_mono hF n _ a' w' h'.2⟩) (h.2 i hi)⟩
/-- An operation that may come up, and that gives its value wherever G holds, may be taken first. -/
theorem wpG_first {i : Nat} {oi : Oper} {v : Value} (hi : ops[i]? = some oi) (hsel : ∀ (j : Nat) (o : Oper) cs b, ops[j]? = some o → o.op ≠ .select cs b)
    (hQ : ∀ c a w, Q (.panic c) (a.put oi.dst v) w → Q (.panic c) a w) (ht : TblOK ops tbl) {G : Pred} {F F' : List (Nat × Pred)}
    (hF : ∀ j w, factsF tbl F' j w → factsF tbl F j w) (hG : ∀ j w, i ∉ tbl.getD j [] → factsF tbl F' j w → G w) :
    ∀ (fuel : Nat) (listed : Array Bool) (a : Act) (w : World), DC tbl listed →
      (∀ j oj, ops[j]? = some oj → j ≠ i → listed.getD j true = false → (∀ e ∈ oj.after, Region.binds .any e = true → e.on ≠ i) → oi.apart ops oj = true) →
      i ∈ Region.ready .any ops listed → YieldsIf P ops G oi v a → G w →
      wpG P ops Q tbl F' fuel (listed.setIfInBounds i true) (a.put oi.dst v) w → wpG P ops Q tbl F (fuel + 1) listed a w := by
  intro fuel
  induction fuel with
  | zero =>
    intro listed a w hd _ hr hy hS H
    refine ⟨fun h => (by rw [h] at hr; cases hr), fun j hj => ?_⟩
    by_cases hji : j = i
    · subst hji; exact hy.wpOp hi hS ⟨.inl rfl, H⟩
    · have := ready_mono hj hji
      rw [H.1] at this
      cases this
  | succ fuel ih =>
    intro listed a w hd hfree hr hy hS H
    refine ⟨fun h => (by rw [h] at hr; cases hr), fun j hj => ?_⟩
    by_cases hji : j = i
    · subst hji
      exact hy.wpOp hi hS ⟨.inl rfl, wpG_mono hF _ _ _ _ H⟩
    · have h1 := H.2 j (ready_mono hj hji)
      obtain ⟨hjun, oj, hoj, hall⟩ := mem_ready.1 hj
      have hib : i ∉ tbl.getD j [] := fun hc => by
        have h1 := ready_bef ht hd hj hc
        have h0 := (mem_ready.1 hr).1
        rcases Nat.lt_or_ge i listed.size with h' | h'
        · simp [h'] at h0 h1; rw [h0] at h1; cases h1
        · simp [Array.getElem?_eq_none h'] at h1
      have hnot : ∀ e ∈ oj.after, Region.binds .any e = true → e.on ≠ i := fun e he hb heq => by
        have h1 := hall e he hb
        have h0 := (mem_ready.1 hr).1
        rw [heq] at h1
        rcases Nat.lt_or_ge i listed.size with h' | h'
        · simp [h'] at h0 h1; rw [h0] at h1; cases h1
        · simp [Array.getElem?_eq_none h'] at h1
      have h2 := wpOp_putIf hoj (hfree j oj hoj hji hjun hnot) (fun cs b => hsel i oi cs b hi) (fun cs b => hsel j oj cs b hoj) hQ hy h1
      have hfree' : ∀ k ok, ops[k]? = some ok → k ≠ i → (listed.setIfInBounds j true).getD k true = false →
          (∀ e ∈ ok.after, Region.binds .any e = true → e.on ≠ i) → oi.apart ops ok = true := fun k ok hk hki hun hno => by
        refine hfree k ok hk hki ?_ hno
        by_cases hjk : j = k
        · subst hjk; exact hjun
        · rw [getD_set_ne true hjk] at hun; exact hun
      refine wpOp_mono (fun a' w' h3 => ?_) h2
      obtain ⟨hy', hf, h4⟩ := h3
      have hGw : G w' := by
        rcases hf with rfl | hf
        · exact hS
        · exact hG j w' hib hf
      refine ⟨hf.imp id (hF j w'), ih (listed.setIfInBounds j true) a' w' (DC_set ht hd hj) hfree' (ready_mono hr (Ne.symm hji)) hy' hGw ?_⟩
      rw [Array.setIfInBounds_comm _ _ hji]
      exact h4
end

/-! ### The region's operations in an order that is written out -/
def guardL (opsL : List Oper) (o : Oper) (fr : Fr) : Option Bool :=
  match o.guard with
  | none => some true
  | some (j, want) => match opsL[j]? with
    | some oj => match oj.dst with
      | some d => match fr[d]? with
        | some (.bool true) => some want
        | some (.bool false) => some (!want)
        | some (.tuple _) => some false
        | _ => none
      | none => none
    | none => none
theorem guardL_wanted {ops : Array Oper} {o : Oper} {fr : Fr} {ds : List Deferred} {x : Bool} (h : guardL ops.toList o fr = some x) : Region.wanted o (yielded ops (act fr ds).tmps) = x := by
  unfold guardL at h
  unfold Region.wanted
  cases hg : o.guard with
  | none => simp only [hg, Option.some.injEq] at h; exact h
  | some jw =>
    obtain ⟨j, want⟩ := jw
    simp only [hg] at h ⊢
    unfold yielded
    cases hj : ops.toList[j]? with
    | none => simp [hj] at h
    | some oj =>
      simp only [hj] at h
      have hj' : ops[j]? = some oj := by simpa using hj
      cases hd : oj.dst with
      | none => simp [hd] at h
      | some d =>
        simp only [hd] at h
        simp only [hj', Option.bind_some, hd, act, List.getElem?_toArray]
        cases hf : fr[d]? with
        | none => simp [hf] at h
        | some v =>
          simp only [hf] at h
          cases v <;> first | (simp at h; done) | skip
          · rename_i b; cases b <;> simp at h <;> subst h <;> first | (cases want <;> rfl) | (cases x <;> rfl)
          · simp at h; subst h; rfl

def wrapF (tbl : List (List Nat)) (F : List (Nat × Pred)) (i : Nat) (p : Pred) : Pred :=
  match F with
  | [] => p
  | x :: r => if (tbl.getD i []).contains x.1 then wrapF tbl r i p else fun w => x.2 w ∧ wrapF tbl r i p w
theorem wrapF_elim {tbl : List (List Nat)} {i : Nat} {p : Pred} {w : World} : ∀ {F : List (Nat × Pred)}, wrapF tbl F i p w → factsF tbl F i w ∧ p w
  | [], h => ⟨(fun x hx => absurd hx (List.not_mem_nil)), h⟩
  | x :: r, h => by
    unfold wrapF at h
    split at h
    · rename_i hc
      obtain ⟨h1, h2⟩ := wrapF_elim h
      refine ⟨fun y hy hn => ?_, h2⟩
      rcases List.mem_cons.1 hy with rfl | hy
      · exact absurd (by simpa using hc) hn
      · exact h1 y hy hn
    · obtain ⟨h0, h⟩ := h
      obtain ⟨h1, h2⟩ := wrapF_elim h
      refine ⟨fun y hy hn => ?_, h2⟩
      rcases List.mem_cons.1 hy with rfl | hy
      · exact h0
      · exact h1 y hy hn

def stepD (P : Program) (ops : Array Oper) (tbl : List (List Nat)) (Qp : List PanicEntry → Pred) (i : Nat) (K : Array Bool → List (Nat × Pred) → Fr → Pred) (listed : Array Bool) (F : List (Nat × Pred)) (fr : Fr) : Pred :=
  match ops.toList[i]? with
  | none => fun _ => False
  | some o =>
    if (Region.ready .any ops listed).contains i && Region.free .any ops listed i then
      match guardL ops.toList o fr with
      | some true => match quietC P o (gS fr) (fun v f => K (listed.setIfInBounds i true) (match f with | none => F | some g => (i, g) :: F) (setS fr o.dst v)) with
        | some p => p
        | none => if Region.ready .any ops listed = [i] then effC P o (gS fr) Qp (fun v => wrapF tbl F i (K (listed.setIfInBounds i true) F (setS fr o.dst v))) else fun _ => False
      | some false => K (listed.setIfInBounds i true) F (setS fr o.dst undef)
      | none => fun _ => False
    else fun _ => False
def runD (P : Program) (ops : Array Oper) (tbl : List (List Nat)) (Qp : List PanicEntry → Pred) : List Nat → (Nat → Array Bool → List (Nat × Pred) → Fr → Pred) → Nat → Array Bool → List (Nat × Pred) → Fr → Pred
  | [], K, n, listed, F, fr => K n listed F fr
  | i :: l, K, n + 1, listed, F, fr => stepD P ops tbl Qp i (fun listed F fr => runD P ops tbl Qp l K n listed F fr) listed F fr
  | _ :: _, _, 0, _, _, _ => fun _ => False

/-- What an operation writes to. -/
def dstsOps (ops : List Oper) : List Nat := ops.filterMap (·.dst)

def Good (ds : List Deferred) (S : List Nat) (fr0 : Fr) (K : Exit → Fr → Pred) (Qp : List PanicEntry → Pred) : Exit → Act → World → Prop
  | .panic c, a, w => a.defers = ds ∧ Qp c w
  | .outgrown, _, _ => False
  | e, a, w => ∃ f, a = act f ds ∧ Agr S fr0 f ∧ K e f w

theorem stepD_sound {P : Program} {ops : Array Oper} (hsel : Region.noSelect ops = true) {Qp : List PanicEntry → Pred} {i : Nat} {K : Array Bool → List (Nat × Pred) → Fr → Pred}
    {n : Nat} {listed : Array Bool} {F : List (Nat × Pred)} {fr : Fr} {w : World} {ds : List Deferred} {Q : Exit → Act → World → Prop} (hQ : ∀ c a w, Q (.panic c) a w ↔ a.defers = ds ∧ Qp c w)
    (hd : DC (befL ops.toList []) listed)
    (hK : ∀ listed F f w, DC (befL ops.toList []) listed → (f.length = fr.length ∧ ∀ S fr0, (∀ t ∈ dstsOps ops.toList, t ∈ S) → Agr S fr0 fr → Agr S fr0 f) → K listed F f w → wpG P ops Q (befL ops.toList []) F n listed (act f ds) w)
    (h : stepD P ops (befL ops.toList []) Qp i K listed F fr w) : wpG P ops Q (befL ops.toList []) F (n + 1) listed (act fr ds) w := by
  obtain ⟨p, hp⟩ : ∃ p, stepD P ops (befL ops.toList []) Qp i K listed F fr = p := ⟨_, rfl⟩
  rw [hp] at h
  unfold stepD at hp
  have hQ' : ∀ (oi : Oper) (v : Value) c a w, Q (.panic c) (a.put oi.dst v) w → Q (.panic c) a w := by
    intro oi v c a w h
    rw [hQ] at *
    refine ⟨?_, h.2⟩
    rw [← h.1]
    cases oi.dst <;> rfl
  cases ho : ops.toList[i]? with
  | none => simp only [ho] at hp; subst hp; exact h.elim
  | some o =>
    have ho' : ops[i]? = some o := by simpa using ho
    have hdst : ∀ v, (setS fr o.dst v).length = fr.length ∧ ∀ S fr0, (∀ t ∈ dstsOps ops.toList, t ∈ S) → Agr S fr0 fr → Agr S fr0 (setS fr o.dst v) := by
      intro v
      refine ⟨?_, fun S fr0 hS hA => Agr.setS hA (fun t ht => hS t (List.mem_filterMap.2 ⟨o, List.mem_of_getElem? ho, ht⟩)) v⟩
      cases o.dst <;> simp [setS]
    simp only [ho] at hp
    split at hp
    · rename_i hc
      simp only [Bool.and_eq_true] at hc
      obtain ⟨hr, hfree⟩ := hc
      have hr' : i ∈ Region.ready .any ops listed := by simpa using hr
      have ht := befL_ok ops
      have hd' := DC_set ht hd hr'
      cases hg : guardL ops.toList o fr with
      | none => simp only [hg] at hp; subst hp; exact h.elim
      | some x =>
        have hw := guardL_wanted (ds := ds) hg
        cases x with
        | false =>
          simp only [hg] at hp
          subst hp
          refine wpG_first (v := undef) ho' (Region.noSelect_spec hsel) (hQ' o undef) ht (G := fun _ => True) (F' := F) (fun _ _ h => h) (fun _ _ _ _ => trivial) n listed _ w hd
            (Region.free_spec ho' hfree) hr' (.inr ⟨hw, rfl⟩) trivial ?_
          rw [put_act]
          exact hK _ _ _ _ hd' (hdst _) h
        | true =>
          simp only [hg] at hp
          cases hq : quietC P o (gS fr) (fun v f => K (listed.setIfInBounds i true) (match f with | none => F | some g => (i, g) :: F) (setS fr o.dst v)) with
          | some q =>
            simp only [hq] at hp
            subst hp
            obtain ⟨v, f, hk, hf⟩ := quietC_elim hq h
            rcases hf with ⟨rfl, hrun⟩ | ⟨g, rfl, hg0, hrun⟩
            · refine wpG_first (v := v) ho' (Region.noSelect_spec hsel) (hQ' o v) ht (G := fun _ => True) (F' := F) (fun _ _ h => h) (fun _ _ _ _ => trivial) n listed _ w hd
                (Region.free_spec ho' hfree) hr' (.inl ⟨hw, fun w' _ => by rw [gS_eval]; exact hrun w'⟩) trivial ?_
              rw [put_act]
              exact hK _ _ _ _ hd' (hdst _) hk
            · refine wpG_first (v := v) ho' (Region.noSelect_spec hsel) (hQ' o v) ht (G := g) (F' := (i, g) :: F) (fun j w hf x hx hn => hf x (List.mem_cons_of_mem _ hx) hn)
                (fun j w hn hf => hf (i, g) (List.mem_cons_self ..) hn) n listed _ w hd
                (Region.free_spec ho' hfree) hr' (.inl ⟨hw, fun w' hw' => by rw [gS_eval]; exact hrun w' hw'⟩) hg0 ?_
              rw [put_act]
              exact hK _ _ _ _ hd' (hdst _) hk
          | none =>
            simp only [hq] at hp
            split at hp
            · rename_i hone
              subst hp
              refine ⟨fun h0 => absurd (hone.symm.trans h0) (by simp), fun j hj => ?_⟩
              rw [hone] at hj
              simp only [List.mem_singleton] at hj
              subst hj
              unfold wpOp
              simp only [ho', hw, if_true]
              refine .inl ?_
              rw [← gS_eval fr ds] at h
              refine effC_wp h (fun v w' hk => ?_) (fun c w' hc => (hQ _ _ _).2 ⟨rfl, hc⟩)
              obtain ⟨h1, h2⟩ := wrapF_elim hk
              refine ⟨.inr h1, ?_⟩
              rw [put_act]
              exact hK _ _ _ _ hd' (hdst _) h2
            · subst hp; exact h.elim
    · subst hp; exact h.elim

end Go.Vc

/- A calculus of weakest preconditions that computes: its definitions, for a formula that a program of this session prints and that the kernel compares. No statement of the seat is proved here. -/
import Derived.Orders
import Derived.KernelRfl
import Derived.Deep.LoopGhost
namespace Go.Vc
set_option linter.unusedVariables false

abbrev Pred := World → Prop
abbrev Fr := List Value

def gS (fr : Fr) : Operand → Value
  | .tmp t => fr.getD t undef
  | .const v => v
  | .global g => .pointer (some ⟨g, 0, none⟩)
  | .func f => .func (.func f) #[] #[]

def setS (fr : Fr) : Option Tmp → Value → Fr
  | some d, v => fr.set d v
  | none, _ => fr

def act (fr : Fr) (ds : List Deferred) : Act := ⟨fr.toArray, ds⟩

theorem gS_eval (fr : Fr) (ds : List Deferred) : (act fr ds).eval = gS fr := by
  funext x
  cases x <;> simp [act, Act.eval, gS]

theorem put_act (fr : Fr) (ds : List Deferred) (d : Option Tmp) (v : Value) : (act fr ds).put d v = act (setS fr d v) ds := by
  cases d <;> simp [act, Act.put, setS]

/-! Shapes of values -/
inductive Bs | int (k : IntKind) | bool | str | slice | ptr | map | any
inductive Sh | b (x : Bs) | agg (l : List Bs) | mix (l : List Bs) (n : Nat) | arr | tup2 (x y : Sh) | unit

def exB : Bs → (Value → Prop) → Prop
  | .int k, F => ∃ n : Int, F (.int k n)
  | .bool, F => ∃ x : Bool, F (.bool x)
  | .str, F => ∃ s : ByteArray, F (.string s)
  | .slice, F => ∃ (a : Option Addr) (l c : Nat), F (.slice a l c)
  | .ptr, F => ∃ (b o : Nat), F (.pointer (some ⟨b, o, none⟩))
  | .map, F => ∃ r : Option Nat, F (.map r)
  | .any, F => ∃ v : Value, F v
def exL : List Bs → (List Value → Prop) → Prop
  | [], F => F []
  | b :: r, F => exB b fun v => exL r fun vs => F (v :: vs)
def exV : Sh → (Value → Prop) → Prop
  | .b x, F => exB x F
  | .agg l, F => exL l fun vs => F (.agg ⟨vs⟩)
  | .mix l n, F => exL l fun vs => ∃ g : Nat → Int, F (.agg ⟨vs ++ (List.range n).map fun i => .int .i64 (g i)⟩)
  | .arr, F => ∃ cs : Array Value, F (.agg cs)
  | .tup2 x y, F => exV x fun v => exV y fun u => F (.tuple #[v, u])
  | .unit, F => F (.tuple #[])

theorem exB_ex {b : Bs} {F : Value → Prop} (h : exB b F) : ∃ v, F v := by
  cases b <;> simp only [exB] at h
  case int => exact h.elim fun n h => ⟨_, h⟩
  case bool => exact h.elim fun n h => ⟨_, h⟩
  case str => exact h.elim fun n h => ⟨_, h⟩
  case slice => obtain ⟨a, l, c, h⟩ := h; exact ⟨_, h⟩
  case ptr => obtain ⟨b, o, h⟩ := h; exact ⟨_, h⟩
  case map => exact h.elim fun n h => ⟨_, h⟩
  case any => exact h
theorem exL_ex : ∀ {l : List Bs} {F : List Value → Prop}, exL l F → ∃ v, F v
  | [], _, h => ⟨_, h⟩
  | b :: r, F, h => by
    obtain ⟨v, h⟩ := exB_ex h
    obtain ⟨vs, h⟩ := exL_ex h
    exact ⟨_, h⟩
theorem exV_ex : ∀ {s : Sh} {F : Value → Prop}, exV s F → ∃ v, F v
  | .b x, F, h => exB_ex h
  | .agg l, F, h => by obtain ⟨v, h⟩ := exL_ex h; exact ⟨_, h⟩
  | .mix l n, F, h => by obtain ⟨v, g, h⟩ := exL_ex h; exact ⟨_, h⟩
  | .arr, F, h => by obtain ⟨v, h⟩ := h; exact ⟨_, h⟩
  | .tup2 x y, F, h => by
    have h1 : exV x fun v => exV y fun u => F (.tuple #[v, u]) := h
    obtain ⟨v, h2⟩ := exV_ex h1
    obtain ⟨u, h3⟩ := exV_ex (s := y) (F := fun u => F (.tuple #[v, u])) h2
    exact ⟨_, h3⟩
  | .unit, F, h => ⟨_, h⟩

/-! The shape of a loop's or a cut's state: a slot that is written and not read again has no shape. -/
abbrev Shp := List (Nat × Option Bs)
def InvT : Shp → Type
  | [] => World → Prop
  | (_, none) :: r => InvT r
  | (_, some (.int _)) :: r => Int → InvT r
  | (_, some .bool) :: r => Bool → InvT r
  | (_, some .str) :: r => ByteArray → InvT r
  | (_, some .slice) :: r => Option Addr → Nat → Nat → InvT r
  | (_, some .ptr) :: r => Nat → Nat → InvT r
  | (_, some .map) :: r => Option Nat → InvT r
  | (_, some .any) :: r => Value → InvT r
def appI : (s : Shp) → InvT s → Fr → Pred
  | [], I, _ => I
  | (_, none) :: r, I, fr => appI r I fr
  | (t, some (.int k)) :: r, I, fr => match fr.getD t undef with
    | .int k' n => if k' = k then appI r (I n) fr else fun _ => False
    | _ => fun _ => False
  | (t, some .bool) :: r, I, fr => match fr.getD t undef with
    | .bool x => appI r (I x) fr
    | _ => fun _ => False
  | (t, some .str) :: r, I, fr => match fr.getD t undef with
    | .string x => appI r (I x) fr
    | _ => fun _ => False
  | (t, some .slice) :: r, I, fr => match fr.getD t undef with
    | .slice a l c => appI r (I a l c) fr
    | _ => fun _ => False
  | (t, some .ptr) :: r, I, fr => match fr.getD t undef with
    | .pointer (some ⟨b, o, none⟩) => appI r (I b o) fr
    | _ => fun _ => False
  | (t, some .map) :: r, I, fr => match fr.getD t undef with
    | .map p => appI r (I p) fr
    | _ => fun _ => False
  | (t, some .any) :: r, I, fr => appI r (I (fr.getD t undef)) fr
/-- Whatever the state's slots hold. -/
def hv : (s : Shp) → InvT s → Fr → (Nat → Value) → (Pred → Fr → Prop) → Prop
  | [], I, fr, _, F => F I fr
  | (t, none) :: r, I, fr, d, F => hv r I (fr.set t (d t)) d F
  | (t, some (.int k)) :: r, I, fr, d, F => ∀ n : Int, hv r (I n) (fr.set t (.int k n)) d F
  | (t, some .bool) :: r, I, fr, d, F => ∀ x : Bool, hv r (I x) (fr.set t (.bool x)) d F
  | (t, some .str) :: r, I, fr, d, F => ∀ x : ByteArray, hv r (I x) (fr.set t (.string x)) d F
  | (t, some .slice) :: r, I, fr, d, F => ∀ (a : Option Addr) (l c : Nat), hv r (I a l c) (fr.set t (.slice a l c)) d F
  | (t, some .ptr) :: r, I, fr, d, F => ∀ (b o : Nat), hv r (I b o) (fr.set t (.pointer (some ⟨b, o, none⟩))) d F
  | (t, some .map) :: r, I, fr, d, F => ∀ p : Option Nat, hv r (I p) (fr.set t (.map p)) d F
  | (t, some .any) :: r, I, fr, d, F => ∀ v : Value, hv r (I v) (fr.set t v) d F

/-- The frame with the values that 'f' has at the state's slots. -/
def fillS : Shp → Fr → Fr → Fr
  | [], fr, _ => fr
  | (t, _) :: r, fr, f => fillS r (fr.set t (f.getD t undef)) f

theorem hv_elim : ∀ (s : Shp) (I : InvT s) (fr f : Fr) (F : Pred → Fr → Prop) (w : World), hv s I fr (fun t => f.getD t undef) F → appI s I f w →
    ∃ Iw : Pred, Iw w ∧ F Iw (fillS s fr f)
  | [], I, fr, f, F, w, h, hi => ⟨I, hi, h⟩
  | (t, none) :: r, I, fr, f, F, w, h, hi => hv_elim r I _ f F w h hi
  | (t, some (.int k)) :: r, I, fr, f, F, w, h, hi => by
    simp only [appI] at hi
    cases e : f.getD t undef with
    | int k' n =>
      rw [e] at hi
      by_cases hk : k' = k
      · subst hk
        simp only [if_true] at hi
        have := hv_elim r (I n) _ f F w (h n) hi
        simp only [fillS, e]
        exact this
      · simp only [hk, if_false] at hi
    | _ => rw [e] at hi; exact hi.elim
  | (t, some .bool) :: r, I, fr, f, F, w, h, hi => by
    simp only [appI] at hi
    cases e : f.getD t undef with
    | bool n =>
      rw [e] at hi
      have := hv_elim r (I n) _ f F w (h n) hi
      simp only [fillS, e]
      exact this
    | _ => rw [e] at hi; exact hi.elim
  | (t, some .str) :: r, I, fr, f, F, w, h, hi => by
    simp only [appI] at hi
    cases e : f.getD t undef with
    | string n =>
      rw [e] at hi
      have := hv_elim r (I n) _ f F w (h n) hi
      simp only [fillS, e]
      exact this
    | _ => rw [e] at hi; exact hi.elim
  | (t, some .slice) :: r, I, fr, f, F, w, h, hi => by
    simp only [appI] at hi
    cases e : f.getD t undef with
    | slice a l c =>
      rw [e] at hi
      have := hv_elim r (I a l c) _ f F w (h a l c) hi
      simp only [fillS, e]
      exact this
    | _ => rw [e] at hi; exact hi.elim
  | (t, some .ptr) :: r, I, fr, f, F, w, h, hi => by
    simp only [appI] at hi
    cases e : f.getD t undef with
    | pointer n =>
      rw [e] at hi
      cases n with
      | none => exact hi.elim
      | some ad =>
        obtain ⟨b, o, sp⟩ := ad
        cases sp with
        | some x => exact hi.elim
        | none =>
          have := hv_elim r (I b o) _ f F w (h b o) hi
          simp only [fillS, e]
          exact this
    | _ => rw [e] at hi; exact hi.elim
  | (t, some .map) :: r, I, fr, f, F, w, h, hi => by
    simp only [appI] at hi
    cases e : f.getD t undef with
    | map n =>
      rw [e] at hi
      have := hv_elim r (I n) _ f F w (h n) hi
      simp only [fillS, e]
      exact this
    | _ => rw [e] at hi; exact hi.elim
  | (t, some .any) :: r, I, fr, f, F, w, h, hi => by
    have := hv_elim r (I (f.getD t undef)) _ f F w (h _) hi
    simp only [fillS]
    exact this

/-- Frames of one length that agree but at the slots of S. -/
def Agr (S : List Nat) (fr f : Fr) : Prop := f.length = fr.length ∧ ∀ t, t ∉ S → f.getD t undef = fr.getD t undef
theorem Agr.refl (S : List Nat) (fr : Fr) : Agr S fr fr := ⟨rfl, fun _ _ => rfl⟩
theorem Agr.trans {S : List Nat} {a b c : Fr} (h : Agr S a b) (h' : Agr S b c) : Agr S a c := ⟨h'.1.trans h.1, fun t ht => (h'.2 t ht).trans (h.2 t ht)⟩
theorem Agr.mono {S T : List Nat} {a b : Fr} (h : Agr S a b) (hs : ∀ t ∈ S, t ∈ T) : Agr T a b := ⟨h.1, fun t ht => h.2 t fun h' => ht (hs t h')⟩
theorem getD_set_ne' (fr : Fr) {t u : Nat} (h : t ≠ u) (v : Value) : (fr.set t v).getD u undef = fr.getD u undef := by
  simp [h]
theorem Agr.setS {S : List Nat} {fr f : Fr} (h : Agr S fr f) {d : Option Tmp} (hd : ∀ t, d = some t → t ∈ S) (v : Value) : Agr S fr (setS f d v) := by
  cases d with
  | none => exact h
  | some t =>
    refine ⟨by simp [Vc.setS, h.1], fun u hu => ?_⟩
    have hne : t ≠ u := fun e => hu (e ▸ hd t rfl)
    rw [← h.2 u hu]
    exact getD_set_ne' f hne v
theorem fillS_length : ∀ (s : Shp) (fr f : Fr), (fillS s fr f).length = fr.length
  | [], _, _ => rfl
  | _ :: r, fr, f => by simp [fillS, fillS_length r]
theorem fillS_getD : ∀ (s : Shp) (fr f : Fr) (t : Nat), f.length = fr.length → (t ∈ s.map (·.1) ∨ f.getD t undef = fr.getD t undef) → (fillS s fr f).getD t undef = f.getD t undef
  | [], fr, f, t, _, h => by
    simp only [List.map_nil, List.not_mem_nil, false_or] at h
    simp only [fillS]; exact h.symm
  | (u, _) :: r, fr, f, t, hl, h => by
    simp only [fillS]
    refine fillS_getD r _ f t (by simp [hl]) ?_
    by_cases hu : u = t
    · subst hu
      right
      by_cases hlt : u < fr.length
      · simp [hlt]
      · have h1 : f.length ≤ u := by omega
        have h2 : fr.length ≤ u := by omega
        simp [h1, h2]
    · rcases h with h | h
      · simp only [List.map_cons, List.mem_cons] at h
        rcases h with h | h
        · exact absurd h.symm hu
        · exact .inl h
      · right
        rw [h, getD_set_ne' fr hu]
theorem fillS_eq {s : Shp} {fr f : Fr} {S : List Nat} (h : Agr S fr f) (hs : ∀ t ∈ S, t ∈ s.map (·.1)) : fillS s fr f = f := by
  refine List.ext_getElem (by rw [fillS_length, h.1]) fun i h1 h2 => ?_
  have := fillS_getD s fr f i h.1 (by
    by_cases hi : i ∈ S
    · exact .inl (hs i hi)
    · exact .inr (h.2 i hi))
  simpa [List.getD_eq_getElem?_getD, List.getElem?_eq_getElem h1, List.getElem?_eq_getElem h2] using this

end Go.Vc

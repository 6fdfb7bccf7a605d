/- Parts of a proof, put together: definitions, formulas of Go functions and lemmas. No statement of the seat is proved here. -/
import Derived.Orders
import Derived.KernelRfl
import Derived.Deep.LoopGhost
import Derived.Laws.Sem
import Derived.OrdersHeld
import Derived.Tactics
import Derived.Test.YtngbiaeliphdjaaProg
import Derived.Below
import Derived.Laws.Strings
import Derived.Laws.BytesString
import Derived.Laws.Append
set_option maxHeartbeats 4000000
/- A calculus of weakest preconditions that computes: its definitions, for a formula that a program of this session prints and that the kernel compares. No statement of the seat is proved here. -/
namespace Go.Vc
set_option linter.unusedVariables false

abbrev Pred := World → Prop
abbrev Fr := List Value

def gS (fr : Fr) : Operand → Value
  | .tmp t => fr.getD t undef
  | .const v => v
  | .global g => .pointer (some ⟨g, 0, none⟩)
  | .func f => .func (.func f) #[] #[]

def setS (fr : Fr) : Option Tmp → Value → Fr
  | some d, v => fr.set d v
  | none, _ => fr

def act (fr : Fr) (ds : List Deferred) : Act := ⟨fr.toArray, ds⟩

theorem gS_eval (fr : Fr) (ds : List Deferred) : (act fr ds).eval = gS fr := by
  funext x
  cases x <;> simp [act, Act.eval, gS]

theorem put_act (fr : Fr) (ds : List Deferred) (d : Option Tmp) (v : Value) : (act fr ds).put d v = act (setS fr d v) ds := by
  cases d <;> simp [act, Act.put, setS]

/-! Shapes of values -/
inductive Bs | int (k : IntKind) | bool | str | slice | ptr | map | any
inductive Sh | b (x : Bs) | agg (l : List Bs) | mix (l : List Bs) (n : Nat) | arr | tup2 (x y : Sh) | unit

def exB : Bs → (Value → Prop) → Prop
  | .int k, F => ∃ n : Int, F (.int k n)
  | .bool, F => ∃ x : Bool, F (.bool x)
  | .str, F => ∃ s : ByteArray, F (.string s)
  | .slice, F => ∃ (a : Option Addr) (l c : Nat), F (.slice a l c)
  | .ptr, F => ∃ (b o : Nat), F (.pointer (some ⟨b, o, none⟩))
  | .map, F => ∃ r : Option Nat, F (.map r)
  | .any, F => ∃ v : Value, F v
def exL : List Bs → (List Value → Prop) → Prop
  | [], F => F []
  | b :: r, F => exB b fun v => exL r fun vs => F (v :: vs)
def exV : Sh → (Value → Prop) → Prop
  | .b x, F => exB x F
  | .agg l, F => exL l fun vs => F (.agg ⟨vs⟩)
  | .mix l n, F => exL l fun vs => ∃ g : Nat → Int, F (.agg ⟨vs ++ (List.range n).map fun i => .int .i64 (g i)⟩)
  | .arr, F => ∃ cs : Array Value, F (.agg cs)
  | .tup2 x y, F => exV x fun v => exV y fun u => F (.tuple #[v, u])
  | .unit, F => F (.tuple #[])

theorem exB_ex {b : Bs} {F : Value → Prop} (h : exB b F) : ∃ v, F v := by
  cases b <;> simp only [exB] at h
  case int => exact h.elim fun n h => ⟨_, h⟩
  case bool => exact h.elim fun n h => ⟨_, h⟩
  case str => exact h.elim fun n h => ⟨_, h⟩
  case slice => obtain ⟨a, l, c, h⟩ := h; exact ⟨_, h⟩
  case ptr => obtain ⟨b, o, h⟩ := h; exact ⟨_, h⟩
  case map => exact h.elim fun n h => ⟨_, h⟩
  case any => exact h
theorem exL_ex : ∀ {l : List Bs} {F : List Value → Prop}, exL l F → ∃ v, F v
  | [], _, h => ⟨_, h⟩
  | b :: r, F, h => by
    obtain ⟨v, h⟩ := exB_ex h
    obtain ⟨vs, h⟩ := exL_ex h
    exact ⟨_, h⟩
theorem exV_ex : ∀ {s : Sh} {F : Value → Prop}, exV s F → ∃ v, F v
  | .b x, F, h => exB_ex h
  | .agg l, F, h => by obtain ⟨v, h⟩ := exL_ex h; exact ⟨_, h⟩
  | .mix l n, F, h => by obtain ⟨v, g, h⟩ := exL_ex h; exact ⟨_, h⟩
  | .arr, F, h => by obtain ⟨v, h⟩ := h; exact ⟨_, h⟩
  | .tup2 x y, F, h => by
    have h1 : exV x fun v => exV y fun u => F (.tuple #[v, u]) := h
    obtain ⟨v, h2⟩ := exV_ex h1
    obtain ⟨u, h3⟩ := exV_ex (s := y) (F := fun u => F (.tuple #[v, u])) h2
    exact ⟨_, h3⟩
  | .unit, F, h => ⟨_, h⟩

/-! The shape of a loop's or a cut's state: a slot that is written and not read again has no shape. -/
abbrev Shp := List (Nat × Option Bs)
def InvT : Shp → Type
  | [] => World → Prop
  | (_, none) :: r => InvT r
  | (_, some (.int _)) :: r => Int → InvT r
  | (_, some .bool) :: r => Bool → InvT r
  | (_, some .str) :: r => ByteArray → InvT r
  | (_, some .slice) :: r => Option Addr → Nat → Nat → InvT r
  | (_, some .ptr) :: r => Nat → Nat → InvT r
  | (_, some .map) :: r => Option Nat → InvT r
  | (_, some .any) :: r => Value → InvT r
def appI : (s : Shp) → InvT s → Fr → Pred
  | [], I, _ => I
  | (_, none) :: r, I, fr => appI r I fr
  | (t, some (.int k)) :: r, I, fr => match fr.getD t undef with
    | .int k' n => if k' = k then appI r (I n) fr else fun _ => False
    | _ => fun _ => False
  | (t, some .bool) :: r, I, fr => match fr.getD t undef with
    | .bool x => appI r (I x) fr
    | _ => fun _ => False
  | (t, some .str) :: r, I, fr => match fr.getD t undef with
    | .string x => appI r (I x) fr
    | _ => fun _ => False
  | (t, some .slice) :: r, I, fr => match fr.getD t undef with
    | .slice a l c => appI r (I a l c) fr
    | _ => fun _ => False
  | (t, some .ptr) :: r, I, fr => match fr.getD t undef with
    | .pointer (some ⟨b, o, none⟩) => appI r (I b o) fr
    | _ => fun _ => False
  | (t, some .map) :: r, I, fr => match fr.getD t undef with
    | .map p => appI r (I p) fr
    | _ => fun _ => False
  | (t, some .any) :: r, I, fr => appI r (I (fr.getD t undef)) fr
/-- Whatever the state's slots hold. -/
def hv : (s : Shp) → InvT s → Fr → (Nat → Value) → (Pred → Fr → Prop) → Prop
  | [], I, fr, _, F => F I fr
  | (t, none) :: r, I, fr, d, F => hv r I (fr.set t (d t)) d F
  | (t, some (.int k)) :: r, I, fr, d, F => ∀ n : Int, hv r (I n) (fr.set t (.int k n)) d F
  | (t, some .bool) :: r, I, fr, d, F => ∀ x : Bool, hv r (I x) (fr.set t (.bool x)) d F
  | (t, some .str) :: r, I, fr, d, F => ∀ x : ByteArray, hv r (I x) (fr.set t (.string x)) d F
  | (t, some .slice) :: r, I, fr, d, F => ∀ (a : Option Addr) (l c : Nat), hv r (I a l c) (fr.set t (.slice a l c)) d F
  | (t, some .ptr) :: r, I, fr, d, F => ∀ (b o : Nat), hv r (I b o) (fr.set t (.pointer (some ⟨b, o, none⟩))) d F
  | (t, some .map) :: r, I, fr, d, F => ∀ p : Option Nat, hv r (I p) (fr.set t (.map p)) d F
  | (t, some .any) :: r, I, fr, d, F => ∀ v : Value, hv r (I v) (fr.set t v) d F

/-- The frame with the values that 'f' has at the state's slots. -/
def fillS : Shp → Fr → Fr → Fr
  | [], fr, _ => fr
  | (t, _) :: r, fr, f => fillS r (fr.set t (f.getD t undef)) f

theorem hv_elim : ∀ (s : Shp) (I : InvT s) (fr f : Fr) (F : Pred → Fr → Prop) (w : World), hv s I fr (fun t => f.getD t undef) F → appI s I f w →
    ∃ Iw : Pred, Iw w ∧ F Iw (fillS s fr f)
  | [], I, fr, f, F, w, h, hi => ⟨I, hi, h⟩
  | (t, none) :: r, I, fr, f, F, w, h, hi => hv_elim r I _ f F w h hi
  | (t, some (.int k)) :: r, I, fr, f, F, w, h, hi => by
    simp only [appI] at hi
    cases e : f.getD t undef with
    | int k' n =>
      rw [e] at hi
      by_cases hk : k' = k
      · subst hk
        simp only [if_true] at hi
        have := hv_elim r (I n) _ f F w (h n) hi
        simp only [fillS, e]
        exact this
      · simp only [hk, if_false] at hi
    | _ => rw [e] at hi; exact hi.elim
  | (t, some .bool) :: r, I, fr, f, F, w, h, hi => by
    simp only [appI] at hi
    cases e : f.getD t undef with
    | bool n =>
      rw [e] at hi
      have := hv_elim r (I n) _ f F w (h n) hi
      simp only [fillS, e]
      exact this
    | _ => rw [e] at hi; exact hi.elim
  | (t, some .str) :: r, I, fr, f, F, w, h, hi => by
    simp only [appI] at hi
    cases e : f.getD t undef with
    | string n =>
      rw [e] at hi
      have := hv_elim r (I n) _ f F w (h n) hi
      simp only [fillS, e]
      exact this
    | _ => rw [e] at hi; exact hi.elim
  | (t, some .slice) :: r, I, fr, f, F, w, h, hi => by
    simp only [appI] at hi
    cases e : f.getD t undef with
    | slice a l c =>
      rw [e] at hi
      have := hv_elim r (I a l c) _ f F w (h a l c) hi
      simp only [fillS, e]
      exact this
    | _ => rw [e] at hi; exact hi.elim
  | (t, some .ptr) :: r, I, fr, f, F, w, h, hi => by
    simp only [appI] at hi
    cases e : f.getD t undef with
    | pointer n =>
      rw [e] at hi
      cases n with
      | none => exact hi.elim
      | some ad =>
        obtain ⟨b, o, sp⟩ := ad
        cases sp with
        | some x => exact hi.elim
        | none =>
          have := hv_elim r (I b o) _ f F w (h b o) hi
          simp only [fillS, e]
          exact this
    | _ => rw [e] at hi; exact hi.elim
  | (t, some .map) :: r, I, fr, f, F, w, h, hi => by
    simp only [appI] at hi
    cases e : f.getD t undef with
    | map n =>
      rw [e] at hi
      have := hv_elim r (I n) _ f F w (h n) hi
      simp only [fillS, e]
      exact this
    | _ => rw [e] at hi; exact hi.elim
  | (t, some .any) :: r, I, fr, f, F, w, h, hi => by
    have := hv_elim r (I (f.getD t undef)) _ f F w (h _) hi
    simp only [fillS]
    exact this

/-- Frames of one length that agree but at the slots of S. -/
def Agr (S : List Nat) (fr f : Fr) : Prop := f.length = fr.length ∧ ∀ t, t ∉ S → f.getD t undef = fr.getD t undef
theorem Agr.refl (S : List Nat) (fr : Fr) : Agr S fr fr := ⟨rfl, fun _ _ => rfl⟩
theorem Agr.trans {S : List Nat} {a b c : Fr} (h : Agr S a b) (h' : Agr S b c) : Agr S a c := ⟨h'.1.trans h.1, fun t ht => (h'.2 t ht).trans (h.2 t ht)⟩
theorem Agr.mono {S T : List Nat} {a b : Fr} (h : Agr S a b) (hs : ∀ t ∈ S, t ∈ T) : Agr T a b := ⟨h.1, fun t ht => h.2 t fun h' => ht (hs t h')⟩
theorem getD_set_ne' (fr : Fr) {t u : Nat} (h : t ≠ u) (v : Value) : (fr.set t v).getD u undef = fr.getD u undef := by
  simp [h]
theorem Agr.setS {S : List Nat} {fr f : Fr} (h : Agr S fr f) {d : Option Tmp} (hd : ∀ t, d = some t → t ∈ S) (v : Value) : Agr S fr (setS f d v) := by
  cases d with
  | none => exact h
  | some t =>
    refine ⟨by simp [Vc.setS, h.1], fun u hu => ?_⟩
    have hne : t ≠ u := fun e => hu (e ▸ hd t rfl)
    rw [← h.2 u hu]
    exact getD_set_ne' f hne v
theorem fillS_length : ∀ (s : Shp) (fr f : Fr), (fillS s fr f).length = fr.length
  | [], _, _ => rfl
  | _ :: r, fr, f => by simp [fillS, fillS_length r]
theorem fillS_getD : ∀ (s : Shp) (fr f : Fr) (t : Nat), f.length = fr.length → (t ∈ s.map (·.1) ∨ f.getD t undef = fr.getD t undef) → (fillS s fr f).getD t undef = f.getD t undef
  | [], fr, f, t, _, h => by
    simp only [List.map_nil, List.not_mem_nil, false_or] at h
    simp only [fillS]; exact h.symm
  | (u, _) :: r, fr, f, t, hl, h => by
    simp only [fillS]
    refine fillS_getD r _ f t (by simp [hl]) ?_
    by_cases hu : u = t
    · subst hu
      right
      by_cases hlt : u < fr.length
      · simp [hlt]
      · have h1 : f.length ≤ u := by omega
        have h2 : fr.length ≤ u := by omega
        simp [h1, h2]
    · rcases h with h | h
      · simp only [List.map_cons, List.mem_cons] at h
        rcases h with h | h
        · exact absurd h.symm hu
        · exact .inl h
      · right
        rw [h, getD_set_ne' fr hu]
theorem fillS_eq {s : Shp} {fr f : Fr} {S : List Nat} (h : Agr S fr f) (hs : ∀ t ∈ S, t ∈ s.map (·.1)) : fillS s fr f = f := by
  refine List.ext_getElem (by rw [fillS_length, h.1]) fun i h1 h2 => ?_
  have := fillS_getD s fr f i h.1 (by
    by_cases hi : i ∈ S
    · exact .inl (hs i hi)
    · exact .inr (h.2 i hi))
  simpa [List.getD_eq_getElem?_getD, List.getElem?_eq_getElem h1, List.getElem?_eq_getElem h2] using this

end Go.Vc
/- The calculus: what one operation asks and gives (quiet operations, effects), and a region's operations in turn. No statement of the seat is proved here. -/
namespace Go.Vc
set_option linter.unusedVariables false

/-! ### Memory -/
def cellH (h : Array Obj) (b o : Nat) : Option Value :=
  match h[b]? with
  | some (.cells c _ _) => c[o]?
  | _ => none
def frozH (h : Array Obj) (b o : Nat) : Bool :=
  match h[b]? with
  | some (.cells _ _ (lo, hi)) => lo ≤ o && o < hi
  | _ => false
/-- A cell that may be written. -/
def wrH (h : Array Obj) (b o : Nat) : Prop := (∃ v, cellH h b o = some v) ∧ frozH h b o = false
def setO (o : Nat) (v : Value) : Obj → Obj
  | .cells c elem f => .cells (c.setIfInBounds o v) elem f
  | x => x
def setH (h : Array Obj) (b o : Nat) (v : Value) : Array Obj := h.modify b (setO o v)
def setW (w : World) (b o : Nat) (v : Value) : World := { w with heap := setH w.heap b o v }
def newW (w : World) (o : Obj) : World := { w with heap := w.heap.push o }
def drewW (w : World) : World := { w with drawn := w.drawn + 1 }

def cellsAt (h : Array Obj) (b o : Nat) : List Value → Prop
  | [] => True
  | v :: r => cellH h b o = some v ∧ cellsAt h b (o + 1) r

/-! ### Quiet operations -/
inductive PV
  | no
  | val (v : Value)
  | cond (c : Prop) (v : Value)
  | adr (c : Nat → Nat → Prop) (v : Nat → Nat → Value)

def byteAt (s : ByteArray) (i : Nat) : Int := ((s.data.toList.getD i 0).toNat : Int)

def pickB (t : Bool) (x y : Value) : PV := match t with
  | true => .val x
  | false => .val y
def pickV (c x y : Value) : PV := match c with
  | .bool t => match x with
    | .bool a => match y with
      | .bool b => .val (.bool (cond t a b))
      | _ => pickB t x y
    | _ => pickB t x y
  | _ => .no
def nilV : Value → PV
  | .pointer (some a) => .val (.pointer (some a))
  | .int k n => .val (.int k n)
  | .slice a l c => .val (.slice a l c)
  | .func (.func f) x y => .val (.func (.func f) x y)
  | .map r => .val (.map r)
  | _ => .no
def binV (P : Program) (op : BinOp) (t : TypeId) : Value → Value → PV
  | .int k a, .int k' b =>
    match op with
    | .shl => .cond (0 ≤ b) (.int k (k.wrap (a * 2 ^ (min b.toNat k.bits))))
    | .shr => .cond (0 ≤ b) (.int k (a.fdiv (2 ^ (min b.toNat k.bits))))
    | _ => if k = k' then
      match op with
      | .add => .val (.int k (k.wrap (a + b)))
      | .sub => .val (.int k (k.wrap (a - b)))
      | .mul => .val (.int k (k.wrap (a * b)))
      | .quo => .cond (b ≠ 0) (.int k (k.wrap (a.tdiv b)))
      | .rem => .cond (b ≠ 0) (.int k (a.tmod b))
      | .and => .val (.int k (k.wrap ((BitVec.ofInt k.bits a &&& BitVec.ofInt k.bits b).toNat)))
      | .xor => .val (.int k (k.wrap ((BitVec.ofInt k.bits a ^^^ BitVec.ofInt k.bits b).toNat)))
      | .eql => .val (.bool (a == b))
      | .neq => .val (.bool (a != b))
      | .lss => .val (.bool (decide (a < b)))
      | .leq => .val (.bool (decide (a ≤ b)))
      | .gtr => .val (.bool (decide (a > b)))
      | .geq => .val (.bool (decide (a ≥ b)))
      | _ => .no
      else .no
  | .string a, .string b =>
    match op with
    | .add => .cond (a.size + b.size ≤ 9223372036854775807) (.string (a ++ b))
    | .eql => .val (.bool (a.toList == b.toList))
    | .neq => .val (.bool (!(a.toList == b.toList)))
    | _ => .no
  | .bool a, .bool b =>
    match op, P.underlying t with
    | .eql, some .bool => .val (.bool (a == b))
    | .neq, some .bool => .val (.bool (!(a == b)))
    | _, _ => .no
  | _, _ => .no
def unV (op : UnOp) : Value → PV
  | .int k n => match op with
    | .neg => .val (.int k (k.wrap (0 - n)))
    | _ => .no
  | .bool b => match op with
    | .not => .val (.bool (!b))
    | _ => .no
  | _ => .no
def convV (P : Program) (src dst : TypeId) (x : Value) : PV :=
  match P.underlying src, P.underlying dst, x with
  | some (.int _), some (.int k), .int _ n => .val (.int k (k.wrap n))
  | some .string, some .string, .string s => .val (.string s)
  | _, _, _ => .no
def mkIfV (P : Program) (t : TypeId) (x : Value) : PV :=
  match P.underlying t with
  | some (.int _) => .val (.iface t x)
  | some .string => .val (.iface t x)
  | _ => .no
def sizeP (P : Program) (t : TypeId) : Option Nat := (P.info? t).map (·.size)
def fieldAddrV (P : Program) (s : TypeId) (x : Value) (f : Nat) : PV :=
  match P.underlying s, x with
  | some (.struct fs), .pointer (some ⟨b, o, none⟩) =>
    match fs.toList[f]? with
    | some fd => match sizeP P fd.type with
      | some (_ + 1) => .val (.pointer (some ⟨b, o + fd.offset, none⟩))
      | _ => .no
    | none => .no
  | _, _ => .no
def indexAddrV (P : Program) (t : TypeId) (x i : Value) : PV :=
  match P.underlying t, x, i with
  | some (.slice e), .slice a len _, .int _ n =>
    match sizeP P e with
    | some sz => .adr (fun b o => a = some ⟨b, o, none⟩ ∧ 0 ≤ n ∧ n < (len : Int)) (fun b o => .pointer (some ⟨b, o + n.toNat * sz, none⟩))
    | none => .no
  | some (.array (len + 2) e), .pointer (some ⟨b, o, none⟩), .int _ n =>
    match sizeP P e with
    | some sz => .cond (0 ≤ n ∧ n < ((len + 2 : Nat) : Int)) (.pointer (some ⟨b, o + n.toNat * sz, none⟩))
    | none => .no
  | _, _, _ => .no
def indexV (P : Program) (t : TypeId) (x i : Value) : PV :=
  match P.underlying t, x, i with
  | some .string, .string s, .int _ n => .cond (0 ≤ n ∧ n < (s.size : Int)) (.int .u8 (byteAt s n.toNat))
  | _, _, _ => .no
def fieldV (P : Program) (t : TypeId) (x : Value) (f : Nat) : PV :=
  match P.underlying t, x with
  | some (.struct fs), .agg cs =>
    match fs.toList[f]? with
    | some fd => match P.underlying fd.type, sizeP P fd.type with
      | some (.struct _), some n => .val (.agg ⟨(cs.toList.drop fd.offset).take n⟩)
      | some (.array _ _), some n => .val (.agg ⟨(cs.toList.drop fd.offset).take n⟩)
      | some _, some _ => match cs.toList[fd.offset]? with
        | some v => .val v
        | none => .no
      | _, _ => .no
    | none => .no
  | _, _ => .no
def boundI : Option Value → Nat → Option Int
  | some (.int _ n), _ => some n
  | none, d => some (d : Int)
  | _, _ => none
def sliceV (P : Program) (t : TypeId) (x : Value) (lo hi mx : Option Value) : PV :=
  match P.underlying t, x, lo, hi, mx with
  | some .string, .string s, some (.int _ l), some (.int _ h), none => .cond (0 ≤ l ∧ l ≤ h ∧ h ≤ (s.size : Int)) (.string (s.extract l.toNat h.toNat))
  | some .string, .string s, some (.int _ l), none, none => .cond (0 ≤ l ∧ l ≤ (s.size : Int)) (.string (s.extract l.toNat s.size))
  | some .string, .string s, none, some (.int _ h), none => .cond (0 ≤ h ∧ h ≤ (s.size : Int)) (.string (s.extract 0 h.toNat))
  | _, _, _, _, _ => .no
def extractV : Value → Nat → PV
  | .tuple vs, i => match vs.toList[i]? with
    | some v => .val v
    | none => .no
  | _, _ => .no
def lenV (P : Program) (t : TypeId) : Value → PV
  | .string s => match P.underlying t with
    | some .string => .val (.int .i64 s.size)
    | _ => .no
  | .slice _ n _ => match P.underlying t with
    | some (.slice _) => .val (.int .i64 n)
    | _ => .no
  | _ => .no

def pureV (P : Program) (o : Oper) (ρ : Operand → Value) : PV :=
  match o.op with
  | .move x => .val (ρ x)
  | .assign x => .val (ρ x)
  | .pick c a b => pickV (ρ c) (ρ a) (ρ b)
  | .nilCheck x => nilV (ρ x)
  | .binOp op t x y _ => binV P op t (ρ x) (ρ y)
  | .unOp op _ x => unV op (ρ x)
  | .convert s d x => convV P s d (ρ x)
  | .makeInterface t x => mkIfV P t (ρ x)
  | .makeFunc fn first captured => .val (.func fn ⟨first.toList.map ρ⟩ ⟨captured.toList.map ρ⟩)
  | .fieldAddr s x f => fieldAddrV P s (ρ x) f
  | .indexAddr t x i => indexAddrV P t (ρ x) (ρ i)
  | .index t x i => indexV P t (ρ x) (ρ i)
  | .field t x f => fieldV P t (ρ x) f
  | .slice t x l h m => sliceV P t (ρ x) (l.map ρ) (h.map ρ) (m.map ρ)
  | .extract t i => extractV (ρ t) i
  | .call { callee := .builtin .len, argTypes, args } => match argTypes.toList, args.toList with
    | [t], [x] => lenV P t (ρ x)
    | _, _ => .no
  | _ => .no

/-! ### The soundness of the quiet ones -/
/-- In whatever world the operation gives v and does nothing else. -/
def Gives (P : Program) (o : Oper) (ρ : Operand → Value) (v : Value) : Prop := ∀ w, (execOp ρ o).run P w = .ok (.value v) w

def PV.holds (P : Program) (o : Oper) (ρ : Operand → Value) : PV → Prop
  | .no => True
  | .val v => Gives P o ρ v
  | .cond c v => c → Gives P o ρ v
  | .adr c v => ∀ b o', c b o' → Gives P o ρ (v b o')

theorem run_pure {α : Type} (P : Program) (a : α) (w : World) : (pure a : Sem α).run P w = .ok a w := rfl
theorem run_underlying {P : Program} {t : TypeId} {d : TypeDesc} (h : P.underlying t = some d) {α : Type} (k : TypeDesc → Sem α) (w : World) :
    (underlying t >>= k).run P w = (k d).run P w := by
  simp [underlying, program, bind, Sem.bind, Sem.run, h]
  rfl
theorem i64_max : IntKind.i64.max = 9223372036854775807 := by decide

end Go.Vc
/- The calculus: what the quiet operations give is what the model gives. No statement of the seat is proved here. -/
namespace Go.Vc
set_option linter.unusedVariables false
set_option linter.unusedSimpArgs false

theorem underlying_run {P : Program} {t : TypeId} {d : TypeDesc} (h : P.underlying t = some d) (w : World) : (underlying t).run P w = .ok d w := by
  simp [underlying, program, bind, Sem.bind, Sem.run, h, pure]
theorem sizeOf_run {P : Program} {t : TypeId} {n : Nat} (h : sizeP P t = some n) (w : World) : (sizeOf t).run P w = .ok n w := by
  unfold sizeP at h
  cases hi : P.info? t with
  | none => simp [hi] at h
  | some i =>
    simp only [hi, Option.map_some, Option.some.injEq] at h
    simp [sizeOf, typeInfo, program, bind, Sem.bind, Sem.run, hi, pure, h]
theorem bind_run {α β : Type} {P : Program} {s : Sem α} {k : α → Sem β} {w w' : World} {a : α} (h : s.run P w = .ok a w') : (s >>= k).run P w = (k a).run P w' := by
  rw [Sem.run_bind, h]
  rfl

theorem pick_holds (P : Program) (o : Oper) (ρ : Operand → Value) (c a b : Operand) (h : o.op = .pick c a b) : (pickV (ρ c) (ρ a) (ρ b)).holds P o ρ := by
  have key : ∀ (t : Bool), ρ c = .bool t → Gives P o ρ (if t then ρ a else ρ b) := by
    intro t hc w
    simp only [execOp, h, hc, asBool]
    cases t <;> simp [bind, Sem.bind, pure, Sem.run]
  have keyB : ∀ (t : Bool), ρ c = .bool t → (pickB t (ρ a) (ρ b)).holds P o ρ := by
    intro t hc
    have := key t hc
    cases t <;> exact this
  unfold pickV
  split
  · rename_i t hc
    split
    · rename_i x ha
      split
      · rename_i y hb
        have := key t hc
        rw [ha, hb] at this
        cases t <;> exact this
      · exact keyB t hc
    · exact keyB t hc
  · trivial
theorem nil_holds (P : Program) (o : Oper) (ρ : Operand → Value) (x : Operand) (h : o.op = .nilCheck x) : (nilV (ρ x)).holds P o ρ := by
  cases hx : ρ x with
  | pointer p =>
    cases p with
    | none => trivial
    | some a => intro w; simp only [execOp, h, hx]; rfl
  | int k n => intro w; simp only [execOp, h, hx]; rfl
  | slice a l c => intro w; simp only [execOp, h, hx]; rfl
  | map r => intro w; simp only [execOp, h, hx]; rfl
  | func fn x y =>
    cases fn with
    | func f => intro w; simp only [execOp, h, hx]; rfl
    | _ => trivial
  | _ => trivial

theorem eqGuard_run {P : Program} {op : BinOp} {t : TypeId} {x y : Operand} {a b : Value} (ha : ∀ cs, a ≠ .agg cs) (hn : a ≠ .nilIface) (w : World) : (eqGuard op t x y a b).run P w = .ok () w := by
  unfold eqGuard
  cases op <;> cases a <;> first | rfl | exact absurd rfl hn | exact absurd rfl (ha _)

theorem boolEq_run {P : Program} {t : TypeId} (hu : P.underlying t = some .bool) (a b : Bool) (w : World) : (Op.equal t (.bool a) (.bool b)).run P w = .ok (a == b) w := by
  show (Op.equalIn (9999 + 1) t (.bool a) (.bool b)).run P w = _
  rw [Op.equalIn, bind_run (underlying_run hu w)]
  rfl
theorem bin_holds (P : Program) (o : Oper) (ρ : Operand → Value) (op : BinOp) (t yt : TypeId) (x y : Operand) (h : o.op = .binOp op t x y yt) : (binV P op t (ρ x) (ρ y)).holds P o ρ := by
  have key : ∀ (r v : Value) (w : World), ρ x = r → (∀ cs, r ≠ .agg cs) → r ≠ .nilIface → (binOp op t r (ρ y)).run P w = .ok v w → (execOp ρ o).run P w = .ok (.value v) w := by
    intro r v w hr h1 h2 h3
    simp only [execOp, h]
    refine (bind_run (a := v) (w' := w) ?_).trans rfl
    refine (bind_run (a := ()) (w' := w) (eqGuard_run (by rw [hr]; exact h1) (by rw [hr]; exact h2) w)).trans ?_
    rw [hr]
    exact h3
  cases hx : ρ x with
  | int k a =>
    cases hy : ρ y with
    | int k' b =>
      have key' : ∀ v w, (binOp op t (.int k a) (.int k' b)).run P w = .ok v w → (execOp ρ o).run P w = .ok (.value v) w := fun v w h' =>
        key (.int k a) v w hx (by simp) (by simp) (by rw [hy]; exact h')
      by_cases hk : k = k'
      · subst hk
        cases op <;> simp only [binV, if_true] <;> first
          | trivial
          | exact fun w => key' _ w (by simp [binOp, Op.intArith, Op.intCmp, Op.intBits, Sem.run, pure])
          | (intro hb w; refine key' _ w ?_; have hb' : ¬ (b < 0) := Int.not_lt.2 hb; simp [binOp, Op.shift, hb', Sem.run, pure]; done)
          | (intro hb w; refine key' _ w ?_; have hb' : ¬ (b = 0) := hb; simp [binOp, Op.intDiv, hb', Sem.run, pure]; done)
      · cases op <;> simp only [binV, hk, if_false] <;> first
          | trivial
          | (intro hb w; refine key' _ w ?_; have hb' : ¬ (b < 0) := Int.not_lt.2 hb; simp [binOp, Op.shift, hb', Sem.run, pure]; done)
    | _ => simp only [binV]; trivial
  | string a =>
    cases hy : ρ y with
    | string b =>
      have key' : ∀ v w, (binOp op t (.string a) (.string b)).run P w = .ok v w → (execOp ρ o).run P w = .ok (.value v) w := fun v w h' =>
        key (.string a) v w hx (by simp) (by simp) (by rw [hy]; exact h')
      cases op <;> simp only [binV] <;> first
          | trivial
          | exact fun w => key' _ w (by simp [binOp, Op.stringOp, Sem.run, pure])
          | (intro hb w; refine key' _ w ?_; have hb' : ¬ (((a.size + b.size : Nat) : Int) > IntKind.i64.max) := by (rw [i64_max]; omega)
             simp only [binOp, Op.stringOp, hb', if_false]; rfl)
    | _ => simp only [binV]; trivial
  | bool a =>
    cases hy : ρ y with
    | bool b =>
      have key' : ∀ v w, (binOp op t (.bool a) (.bool b)).run P w = .ok v w → (execOp ρ o).run P w = .ok (.value v) w := fun v w h' =>
        key (.bool a) v w hx (by simp) (by simp) (by rw [hy]; exact h')
      cases hu : P.underlying t with
      | none => cases op <;> simp only [binV, hu] <;> trivial
      | some d =>
        cases d <;> (try (cases op <;> simp only [binV, hu] <;> trivial))
        cases op <;> simp only [binV, hu] <;> first
          | trivial
          | exact fun w => key' _ w ((bind_run (boolEq_run hu a b w)).trans rfl)
    | _ => simp only [binV]; trivial
  | _ => simp only [binV]; trivial
theorem un_holds (P : Program) (o : Oper) (ρ : Operand → Value) (op : UnOp) (t : TypeId) (x : Operand) (h : o.op = .unOp op t x) : (unV op (ρ x)).holds P o ρ := by
  cases hx : ρ x <;> simp only [unV] <;> try trivial
  · cases op <;> first | trivial | (intro w; simp only [execOp, h, hx, Op.unary]; rfl)
  · cases op <;> first | trivial | (intro w; simp only [execOp, h, hx, Op.unary, Op.intArith]; rfl)
theorem conv_holds (P : Program) (o : Oper) (ρ : Operand → Value) (s d : TypeId) (x : Operand) (h : o.op = .convert s d x) : (convV P s d (ρ x)).holds P o ρ := by
  unfold convV
  split
  · rename_i k1 k k2 n h1 h2 hx
    intro w
    simp only [execOp, h, hx]
    refine (bind_run (a := .int k (k.wrap n)) (w' := w) ?_).trans rfl
    unfold convert
    rw [bind_run (underlying_run h1 w), bind_run (underlying_run h2 w)]
    rfl
  · rename_i s1 h1 h2 hx
    intro w
    simp only [execOp, h, hx]
    refine (bind_run (a := .string s1) (w' := w) ?_).trans rfl
    unfold convert
    rw [bind_run (underlying_run h1 w), bind_run (underlying_run h2 w)]
    rfl
  · trivial
theorem mkIf_holds (P : Program) (o : Oper) (ρ : Operand → Value) (t : TypeId) (x : Operand) (h : o.op = .makeInterface t x) : (mkIfV P t (ρ x)).holds P o ρ := by
  unfold mkIfV
  split
  all_goals first
    | trivial
    | (rename_i hu
       intro w
       simp only [execOp, h]
       refine (bind_run (a := .iface t (ρ x)) (w' := w) ?_).trans rfl
       unfold Instr.makeInterface
       rw [bind_run (underlying_run hu w)]
       rfl)
theorem add_spot (b o n : Nat) : (⟨b, o, none⟩ : Addr).add n = ⟨b, o + n, none⟩ := by
  unfold Addr.add; split <;> simp_all
theorem fieldAddr_holds (P : Program) (o : Oper) (ρ : Operand → Value) (s : TypeId) (x : Operand) (f : Nat) (h : o.op = .fieldAddr s x f) : (fieldAddrV P s (ρ x) f).holds P o ρ := by
  unfold fieldAddrV
  split
  · rename_i fs b o' hu hx
    split
    · rename_i fd hf
      split
      · rename_i n hn
        intro w
        simp only [execOp, h, hx]
        refine (bind_run (a := .pointer (some ⟨b, o' + fd.offset, none⟩)) (w' := w) ?_).trans rfl
        unfold Instr.fieldAt
        rw [bind_run (underlying_run hu w)]
        have hf' : fs[f]? = some fd := by rw [← Array.getElem?_toList]; exact hf
        simp only [hf']
        have h1 : (Instr.sureAddr (.pointer (some ⟨b, o', none⟩))).run P w = .ok ⟨b, o', none⟩ w := rfl
        rw [bind_run h1]
        have h2 : (fieldPlace ⟨b, o', none⟩ fd).run P w = .ok ⟨b, o' + fd.offset, none⟩ w := by
          unfold fieldPlace
          rw [bind_run (sizeOf_run hn w)]
          simp only [Nat.add_one_ne_zero, if_false, add_spot]
          rfl
        rw [bind_run h2]
        rfl
      · trivial
    · trivial
  · trivial
theorem indexAddr_holds (P : Program) (o : Oper) (ρ : Operand → Value) (t : TypeId) (x i : Operand) (h : o.op = .indexAddr t x i) : (indexAddrV P t (ρ x) (ρ i)).holds P o ρ := by
  unfold indexAddrV
  split
  · rename_i e a len c k n hu hx hi
    split
    · rename_i sz hs
      rintro b o' ⟨rfl, h0, h1⟩ w
      simp only [execOp, h, hx, hi]
      refine (bind_run (a := .pointer (some ⟨b, o' + n.toNat * sz, none⟩)) (w' := w) ?_).trans rfl
      unfold Instr.indexAt
      rw [bind_run (show (asIntOf (.int k n)).run P w = .ok (k, n) w from rfl)]
      simp only []
      rw [bind_run (underlying_run hu w)]
      simp only []
      rw [bind_run (show (pure (some ⟨b, o', none⟩, len, e) : Sem (Option Addr × Nat × TypeId)).run P w = .ok (some ⟨b, o', none⟩, len, e) w from rfl)]
      simp only []
      rw [bind_run (underlying_run hu w)]
      simp only [h0, h1, and_self, if_true]
      rw [bind_run (sizeOf_run hs w), add_spot]
      rfl
    · trivial
  · rename_i len e b o' k n hu hx hi
    split
    · rename_i sz hs
      rintro ⟨h0, h1⟩ w
      simp only [execOp, h, hx, hi]
      refine (bind_run (a := .pointer (some ⟨b, o' + n.toNat * sz, none⟩)) (w' := w) ?_).trans rfl
      unfold Instr.indexAt
      rw [bind_run (show (asIntOf (.int k n)).run P w = .ok (k, n) w from rfl)]
      simp only []
      rw [bind_run (underlying_run hu w)]
      simp only []
      rw [bind_run (show (Instr.sureAddr (.pointer (some ⟨b, o', none⟩))).run P w = .ok ⟨b, o', none⟩ w from rfl)]
      rw [bind_run (run_pure P (some (⟨b, o', none⟩ : Addr), len.succ.succ, e) w)]
      simp only []
      rw [bind_run (underlying_run hu w)]
      have h1' : n < (len.succ.succ : Int) := h1
      simp only [h0, h1', and_self, if_true]
      rw [bind_run (sizeOf_run hs w), add_spot]
      rfl
    · trivial
  · trivial
theorem byteAt_get (s : ByteArray) (i : Nat) (h : i < s.size) : s[i]? = some (s.data.toList.getD i 0) := by
  have h' : i < s.data.toList.length := by simpa using h
  rw [List.getD_eq_getElem?_getD, List.getElem?_eq_getElem h']
  simp [getElem?_pos, h]
  rfl
theorem index_holds (P : Program) (o : Oper) (ρ : Operand → Value) (t : TypeId) (x i : Operand) (h : o.op = .index t x i) : (indexV P t (ρ x) (ρ i)).holds P o ρ := by
  unfold indexV
  split
  · rename_i s k n hu hx hi
    rintro ⟨h0, h1⟩ w
    simp only [execOp, h, hx, hi]
    refine (bind_run (a := .int .u8 (byteAt s n.toNat)) (w' := w) ?_).trans rfl
    unfold Instr.index
    rw [bind_run (show (asIntOf (.int k n)).run P w = .ok (k, n) w from rfl)]
    simp only []
    rw [bind_run (underlying_run hu w)]
    simp only [h0, if_true]
    rw [byteAt_get s n.toNat (by omega)]
    rfl
  · trivial
theorem part_run_one {P : Program} {t : TypeId} {d : TypeDesc} (hu : P.underlying t = some d) (hs : ∀ fs, d ≠ .struct fs) (ha : ∀ n e, d ≠ .array n e)
    {cs : Array Value} {off : Nat} {v : Value} (hv : cs.toList[off]? = some v) (w : World) : (part t cs off).run P w = .ok v w := by
  have h1 : (isAgg t).run P w = .ok false w := by
    unfold isAgg
    rw [bind_run (underlying_run hu w)]
    cases d <;> first | rfl | exact absurd rfl (hs _) | exact absurd rfl (ha _ _)
  unfold part
  rw [bind_run h1]
  have hv' : cs[off]? = some v := by rw [← Array.getElem?_toList]; exact hv
  simp only [Bool.false_eq_true, if_false, hv']
  rfl
theorem part_run_agg {P : Program} {t : TypeId} {d : TypeDesc} (hu : P.underlying t = some d) (hd : (∃ fs, d = .struct fs) ∨ ∃ n e, d = .array n e) {n : Nat} (hn : sizeP P t = some n)
    (cs : Array Value) (off : Nat) (w : World) : (part t cs off).run P w = .ok (.agg ⟨(cs.toList.drop off).take n⟩) w := by
  have h1 : (isAgg t).run P w = .ok true w := by
    unfold isAgg
    rw [bind_run (underlying_run hu w)]
    rcases hd with ⟨fs, rfl⟩ | ⟨n, e, rfl⟩ <;> rfl
  unfold part
  rw [bind_run h1]
  simp only [if_true]
  rw [bind_run (sizeOf_run hn w)]
  have : cs.extract off (off + n) = ⟨(cs.toList.drop off).take n⟩ := by
    apply Array.toList_inj.1
    simp [Array.toList_extract, List.extract_eq_take_drop]
  rw [this]
  rfl
theorem field_holds (P : Program) (o : Oper) (ρ : Operand → Value) (t : TypeId) (x : Operand) (f : Nat) (h : o.op = .field t x f) : (fieldV P t (ρ x) f).holds P o ρ := by
  have key : ∀ (fs : Array Field) (fd : Field) (cs : Array Value) (v : Value), P.underlying t = some (.struct fs) → ρ x = .agg cs → fs.toList[f]? = some fd →
      (∀ w, (part fd.type cs fd.offset).run P w = .ok v w) → Gives P o ρ v := by
    intro fs fd cs v hu hx hf hp w
    simp only [execOp, h, hx]
    refine (bind_run (a := v) (w' := w) ?_).trans rfl
    unfold Instr.field
    rw [bind_run (underlying_run hu w)]
    have hf' : fs[f]? = some fd := by rw [← Array.getElem?_toList]; exact hf
    simp only [hf']
    rw [bind_run (show (asAgg (.agg cs)).run P w = .ok cs w from rfl)]
    exact hp w
  unfold fieldV
  split
  · rename_i fs cs hu hx
    split
    · rename_i fd hf
      split
      · rename_i fs' n hu' hn
        exact key fs fd cs _ hu hx hf fun w => part_run_agg hu' (.inl ⟨_, rfl⟩) hn cs _ w
      · rename_i m e n hu' hn
        exact key fs fd cs _ hu hx hf fun w => part_run_agg hu' (.inr ⟨_, _, rfl⟩) hn cs _ w
      · rename_i d n h1 h2 hu' hn
        split
        · rename_i v hv
          refine key fs fd cs _ hu hx hf fun w => part_run_one hu' ?_ ?_ hv w
          · rintro fs' rfl; exact h1 _ rfl
          · rintro m e rfl; exact h2 _ _ rfl
        · trivial
      · trivial
    · trivial
  · trivial
theorem bound_run {P : Program} {k : IntKind} {n : Int} {y : Nat} {code : BoundsCode} (h0 : 0 ≤ n) (h1 : n ≤ (y : Int)) (w : World) : (Instr.sliceBound (.int k n) y code).run P w = .ok n.toNat w := by
  unfold Instr.sliceBound
  rw [bind_run (show (asIntOf (.int k n)).run P w = .ok (k, n) w from rfl)]
  simp only [h0, h1, and_self, if_true]
  rfl
theorem slice_holds (P : Program) (o : Oper) (ρ : Operand → Value) (t : TypeId) (x : Operand) (l h' m : Option Operand) (h : o.op = .slice t x l h' m) :
    (sliceV P t (ρ x) (l.map ρ) (h'.map ρ) (m.map ρ)).holds P o ρ := by
  have key : ∀ (s : ByteArray) (a b : Nat) (lo hi : Option Value) (w : World), P.underlying t = some .string → ρ x = .string s → l.map ρ = lo → h'.map ρ = hi → m.map ρ = none →
      (Instr.sliceBounds false s.size s.size lo hi none).run P w = .ok (a, b, s.size) w → (execOp ρ o).run P w = .ok (.value (.string (s.extract a b))) w := by
    intro s a b lo hi w hu hx hl hh hm hb
    simp only [execOp, h, hx, hl, hh, hm]
    refine (bind_run (a := .string (s.extract a b)) (w' := w) ?_).trans rfl
    unfold Instr.sliceAt
    rw [bind_run (underlying_run hu w)]
    simp only []
    unfold Instr.slice
    rw [bind_run (underlying_run hu w)]
    simp only [Option.isSome_none, Bool.false_eq_true, if_false]
    rw [bind_run hb]
    rfl
  unfold sliceV
  split
  · rename_i s kl ln kh hn hu hx hl hh hm
    rintro ⟨h0, h1, h2⟩ w
    refine key s _ _ _ _ w hu hx hl hh hm ?_
    unfold Instr.sliceBounds
    rw [bind_run (show (pure s.size : Sem Nat).run P w = .ok s.size w from rfl)]
    simp only []
    rw [bind_run (bound_run (by omega) h2 w)]
    rw [bind_run (bound_run h0 (by omega) w)]
    rfl
  · rename_i s kl ln hu hx hl hh hm
    rintro ⟨h0, h1⟩ w
    refine key s _ _ _ _ w hu hx hl hh hm ?_
    unfold Instr.sliceBounds
    rw [bind_run (show (pure s.size : Sem Nat).run P w = .ok s.size w from rfl)]
    rw [bind_run (show (pure s.size : Sem Nat).run P w = .ok s.size w from rfl)]
    rw [bind_run (bound_run h0 h1 w)]
    rfl
  · rename_i s kh hn hu hx hl hh hm
    rintro ⟨h0, h1⟩ w
    refine key s _ _ _ _ w hu hx hl hh hm ?_
    unfold Instr.sliceBounds
    rw [bind_run (show (pure s.size : Sem Nat).run P w = .ok s.size w from rfl)]
    simp only []
    rw [bind_run (bound_run h0 h1 w)]
    rfl
  · trivial
theorem extract_holds (P : Program) (o : Oper) (ρ : Operand → Value) (x : Operand) (i : Nat) (h : o.op = .extract x i) : (extractV (ρ x) i).holds P o ρ := by
  cases hx : ρ x with
  | tuple vs =>
    simp only [extractV]
    split
    · rename_i v hv
      intro w
      have hv' : vs[i]? = some v := by rw [← Array.getElem?_toList]; exact hv
      simp only [execOp, h, hx, Instr.extract, hv']
      rfl
    · trivial
  | _ => trivial
theorem len_holds (P : Program) (o : Oper) (ρ : Operand → Value) (t : TypeId) (x : Operand) (h : o.op = .call { callee := .builtin .len, args := #[x], argTypes := #[t] }) : (lenV P t (ρ x)).holds P o ρ := by
  have key : ∀ (v : Value) (w : World), (Builtin.len_ #[t] o.type #[ρ x]).run P w = .ok v w → (execOp ρ o).run P w = .ok (.value v) w := by
    intro v w hr
    simp only [execOp, h, resolve]
    rw [bind_run (a := { target := .builtin .len #[t] o.type _, args := #[ρ x] }) (w' := w) (by simp; rfl)]
    simp only [invoke, builtin]
    rw [bind_run hr]
    rfl
  cases hx : ρ x <;> simp only [lenV] <;> try trivial
  · split
    · rename_i s hu
      intro w
      refine key _ w ?_
      unfold Builtin.len_
      simp only [hx, List.getElem?_toArray, List.getElem?_cons_zero]
      rw [bind_run (underlying_run hu w)]
      rfl
    · trivial
  · split
    · rename_i a n c e hu
      intro w
      refine key _ w ?_
      unfold Builtin.len_
      simp only [hx, List.getElem?_toArray, List.getElem?_cons_zero]
      rw [bind_run (underlying_run hu w)]
      rfl
    · trivial

theorem pureV_holds (P : Program) (o : Oper) (ρ : Operand → Value) : (pureV P o ρ).holds P o ρ := by
  unfold pureV
  split
  · rename_i x h; intro w; simp only [execOp, h]; rfl
  · rename_i x h; intro w; simp only [execOp, h]; rfl
  · rename_i c a b h; exact pick_holds P o ρ c a b h
  · rename_i x h; exact nil_holds P o ρ x h
  · rename_i op t x y yt h; exact bin_holds P o ρ op t yt x y h
  · rename_i op t x h; exact un_holds P o ρ op t x h
  · rename_i s d x h; exact conv_holds P o ρ s d x h
  · rename_i t x h; exact mkIf_holds P o ρ t x h
  · rename_i fn first captured h
    intro w
    simp only [execOp, h]
    have e1 : first.map ρ = ⟨first.toList.map ρ⟩ := by apply Array.toList_inj.1; simp
    have e2 : captured.map ρ = ⟨captured.toList.map ρ⟩ := by apply Array.toList_inj.1; simp
    rw [e1, e2]
    rfl
  · rename_i s x f h; exact fieldAddr_holds P o ρ s x f h
  · rename_i t x i h; exact indexAddr_holds P o ρ t x i h
  · rename_i t x i h; exact index_holds P o ρ t x i h
  · rename_i t x f h; exact field_holds P o ρ t x f h
  · rename_i t x l h' m h; exact slice_holds P o ρ t x l h' m h
  · rename_i t i h; exact extract_holds P o ρ t i h
  · rename_i args argTypes h
    split
    · rename_i t x h1 h2
      have e1 : argTypes = #[t] := Array.toList_inj.1 (by simpa using h1)
      have e2 : args = #[x] := Array.toList_inj.1 (by simpa using h2)
      subst e1; subst e2
      exact len_holds P o ρ t x h
    · trivial
  · trivial

end Go.Vc
/- The calculus: struct and slice literals, loads, stores and what is made; what each gives is what the model gives. No statement of the seat is proved here. -/
namespace Go.Vc
set_option linter.unusedVariables false
set_option linter.unusedSimpArgs false

/-! ### Literals of structs -/
def segSet (cs : List Value) (off : Nat) : List Value → List Value
  | [] => cs
  | v :: r => segSet (cs.set off v) (off + 1) r
def fillL (place : Nat → Option (Nat × Nat)) : List Value → List (Nat × Value) → Option (List Value)
  | cs, [] => some cs
  | cs, (i, v) :: r => match place i with
    | none => none
    | some (off, size) => if v.cells.toList.length = size ∧ off + size ≤ cs.length then fillL place (segSet cs off v.cells.toList) r else none
def zeroL (P : Program) (t : TypeId) : Option (List Value) := match P.info? t with
  | some i => match i.zero with
    | some v => some v.cells.toList
    | none => none
  | none => none
def placesL (P : Program) : List Field → Option (List (Nat × Nat))
  | [] => some []
  | f :: r => match sizeP P f.type, placesL P r with
    | some n, some l => some ((f.offset, n) :: l)
    | _, _ => none
def buildV (P : Program) (t : TypeId) (parts : List (Nat × Value)) : PV :=
  match P.underlying t, zeroL P t with
  | some (.struct fs), some z => match placesL P fs.toList with
    | some ps => match fillL (fun i => ps[i]?) z parts with
      | some cs => .val (.agg ⟨cs⟩)
      | none => .no
    | none => .no
  | _, _ => .no

theorem segSet_foldl (vs : List Value) : ∀ (cs : Array Value) (off k : Nat),
    ((vs.zipIdx k).foldl (fun cs (x : Value × Nat) => cs.setIfInBounds (off + x.2) x.1) cs) = ⟨segSet cs.toList (off + k) vs⟩ := by
  induction vs with
  | nil => intro cs off k; simp [segSet]
  | cons v r ih =>
    intro cs off k
    simp only [List.zipIdx_cons, List.foldl_cons, segSet]
    rw [ih]
    simp [Nat.add_assoc]
theorem segSet_length (vs : List Value) : ∀ (cs : List Value) (off : Nat), (segSet cs off vs).length = cs.length := by
  induction vs with
  | nil => intro cs off; rfl
  | cons v r ih => intro cs off; simp [segSet, ih]
theorem fill_eq (place : Nat → Option (Nat × Nat)) : ∀ (parts : List (Nat × Value)) (cs r : List Value), fillL place cs parts = some r →
    Instr.fill place ⟨cs⟩ parts = some ⟨r⟩ := by
  intro parts
  induction parts with
  | nil => intro cs r h; simp only [fillL, Option.some.injEq] at h; simp [Instr.fill, h]
  | cons x rest ih =>
    intro cs r h
    obtain ⟨i, v⟩ := x
    simp only [fillL] at h
    simp only [Instr.fill]
    cases hp : place i with
    | none => simp [hp] at h
    | some os =>
      obtain ⟨off, size⟩ := os
      simp only [hp] at h ⊢
      split at h
      · rename_i hc
        have h1 : v.cells.size = size := by simpa using hc.1
        have h2 : off + v.cells.size ≤ cs.length := by rw [h1]; exact hc.2
        have h3 : (decide (v.cells.size ≠ size) || decide (off + v.cells.size > (⟨cs⟩ : Array Value).size)) = false := by
          simp only [Bool.or_eq_false_iff, decide_eq_false_iff_not, Decidable.not_not]
          exact ⟨h1, by simpa using h2⟩
        rw [if_neg (by rw [h3]; simp)]
        have h4 : (v.cells.zipIdx.foldl (fun cs (x : Value × Nat) => cs.setIfInBounds (off + x.2) x.1) (⟨cs⟩ : Array Value)) = ⟨segSet cs off v.cells.toList⟩ := by
          have := segSet_foldl v.cells.toList ⟨cs⟩ off 0
          rw [← Array.foldl_toList]
          simpa using this
        have h5 : (v.cells.zipIdx.foldl (fun cs (x : Value × Nat) => match x with | (c, j) => cs.setIfInBounds (off + j) c) (⟨cs⟩ : Array Value)) = ⟨segSet cs off v.cells.toList⟩ := h4
        rw [h5]
        exact ih _ _ h
      · cases h
theorem zero_run {P : Program} {t : TypeId} {z : List Value} (h : zeroL P t = some z) : ∃ v, v.cells = ⟨z⟩ ∧ ∀ w, (zeroValue t).run P w = .ok v w := by
  unfold zeroL at h
  cases hi : P.info? t with
  | none => simp [hi] at h
  | some i =>
    simp only [hi] at h
    cases hz : i.zero with
    | none => simp [hz] at h
    | some v =>
      simp only [hz, Option.some.injEq] at h
      refine ⟨v, by rw [← h], fun w => ?_⟩
      simp [zeroValue, typeInfo, program, bind, Sem.bind, Sem.run, hi, pure, hz]
theorem places_run {P : Program} : ∀ (fs : List Field) (ps : List (Nat × Nat)), placesL P fs = some ps →
    ∀ w, (fs.mapM fun f => (do pure (f.offset, ← sizeOf f.type) : Sem (Nat × Nat))).run P w = .ok ps w
  | [], ps, h, w => by simp only [placesL, Option.some.injEq] at h; subst h; rfl
  | f :: r, ps, h, w => by
    simp only [placesL] at h
    cases h1 : sizeP P f.type with
    | none => simp [h1] at h
    | some n =>
      cases h2 : placesL P r with
      | none => simp [h1, h2] at h
      | some l =>
        simp only [h1, h2, Option.some.injEq] at h
        subst h
        rw [List.mapM_cons]
        rw [bind_run (a := (f.offset, n)) (w' := w) ((bind_run (sizeOf_run h1 w)).trans rfl), bind_run (places_run r l h2 w)]
        rfl
theorem build_holds (P : Program) (o : Oper) (ρ : Operand → Value) (t : TypeId) (parts : Array (Nat × Operand)) (h : o.op = .build t parts) :
    (buildV P t (parts.toList.map fun x => (x.1, ρ x.2))).holds P o ρ := by
  unfold buildV
  split
  · rename_i fs z hu hz
    split
    · rename_i ps hp
      split
      · rename_i cs hc
        intro w
        simp only [execOp, h]
        refine (bind_run (a := .agg ⟨cs⟩) (w' := w) ?_).trans rfl
        obtain ⟨v, hv, hr⟩ := zero_run hz
        unfold Instr.build
        rw [bind_run (hr w)]
        simp only [hv]
        rw [bind_run (underlying_run hu w)]
        simp only []
        have hm : (fs.mapM fun f => (do pure (f.offset, ← sizeOf f.type) : Sem (Nat × Nat))).run P w = .ok ps.toArray w := by
          rw [Array.mapM_eq_mapM_toList]
          rw [Sem.run_map, places_run _ _ hp w]
          rfl
        rw [bind_run hm]
        have hf := fill_eq (fun i => ps[i]?) (parts.toList.map fun x => (x.1, ρ x.2)) z cs hc
        have he : (parts.map fun x => match x with | (i, y) => (i, ρ y)).toList = parts.toList.map fun x => (x.1, ρ x.2) := by simp
        have hg : (fun i : Nat => ps.toArray[i]?) = fun i : Nat => ps[i]? := by funext i; simp
        rw [he, hg, hf]
        rfl
      · trivial
    · trivial
  · trivial

/-! ### Loads -/
theorem cell?_plain (w : World) (b o : Nat) : w.cell? ⟨b, o, none⟩ = cellH w.heap b o := by
  unfold World.cell? cellH
  simp only [Option.isSome_none, Bool.false_eq_true, if_false]
  cases w.heap[b]? with
  | none => rfl
  | some x => cases x <;> rfl
theorem load_run {P : Program} {b o : Nat} {v : Value} {w : World} (h : cellH w.heap b o = some v) : (load ⟨b, o, none⟩).run P w = .ok v w := by
  simp [load, Sem.run, cell?_plain, h]
theorem loadCellsFrom_run {P : Program} {w : World} (b o : Nat) : ∀ (vs : List Value) (i : Nat) (acc : Array Value), cellsAt w.heap b (o + i) vs →
    (loadCellsFrom ⟨b, o, none⟩ i vs.length acc).run P w = .ok ⟨acc.toList ++ vs⟩ w
  | [], i, acc, _ => by
    simp only [List.length_nil, loadCellsFrom, List.append_nil]; rfl
  | v :: r, i, acc, h => by
    simp only [List.length_cons, loadCellsFrom]
    rw [add_spot, bind_run (load_run h.1)]
    rw [loadCellsFrom_run b o r (i + 1) (acc.push v) (by have := h.2; rwa [Nat.add_assoc] at this)]
    simp
theorem loadCells_run {P : Program} {w : World} {b o : Nat} {vs : List Value} (h : cellsAt w.heap b o vs) : (loadCells ⟨b, o, none⟩ vs.length).run P w = .ok ⟨vs⟩ w := by
  unfold loadCells
  rw [loadCellsFrom_run b o vs 0 #[] h]
  simp
def aggP (P : Program) (t : TypeId) : Option Bool := match P.underlying t with
  | some (.struct _) => some true
  | some (.array _ _) => some true
  | some _ => some false
  | none => none
theorem isAgg_run {P : Program} {t : TypeId} {x : Bool} (h : aggP P t = some x) (w : World) : (isAgg t).run P w = .ok x w := by
  unfold aggP at h
  cases hu : P.underlying t with
  | none => simp [hu] at h
  | some d =>
    unfold isAgg
    rw [bind_run (underlying_run hu w)]
    cases d <;> simp only [hu, Option.some.injEq] at h <;> subst h <;> rfl
theorem loadVar_one {P : Program} {t : TypeId} (h : aggP P t = some false) {w : World} {b o : Nat} {v : Value} (hc : cellH w.heap b o = some v) : (loadVar t ⟨b, o, none⟩).run P w = .ok v w := by
  unfold loadVar
  rw [bind_run (isAgg_run h w)]
  exact load_run hc
theorem loadVar_agg {P : Program} {t : TypeId} (h : aggP P t = some true) {n : Nat} (hn : sizeP P t = some n) {w : World} {b o : Nat} {vs : List Value} (hl : vs.length = n) (hc : cellsAt w.heap b o vs) :
    (loadVar t ⟨b, o, none⟩).run P w = .ok (.agg ⟨vs⟩) w := by
  unfold loadVar
  rw [bind_run (isAgg_run h w)]
  simp only [if_true]
  rw [bind_run (sizeOf_run hn w), ← hl, bind_run (loadCells_run hc)]
  rfl

/-- What a load of a type asks of memory and gives; the second thing handed on: what it found, said of any world. -/
def intsAt (h : Array Obj) (b o n : Nat) (g : Nat → Int) : Prop := ∀ i, i < n → cellH h b (o + i) = some (.int .i64 (g i))
def ldL : List Bs → Nat → Nat → (List Value → Pred) → Pred
  | [], b, o, K => K []
  | x :: r, b, o, K => fun w => exB x fun v => cellH w.heap b o = some v ∧ ldL r b (o + 1) (fun vs => K (v :: vs)) w
def ldS (s : Sh) (n b o : Nat) (K : Value → Pred → Pred) : Pred :=
  match s with
  | .b x => fun w => exB x fun v => cellH w.heap b o = some v ∧ K v (fun w' => cellH w'.heap b o = some v) w
  | .agg l => ldL l b o fun vs => K (.agg ⟨vs⟩) (fun w' => cellsAt w'.heap b o vs)
  | .mix l m => ldL l b o fun vs w => ∃ g : Nat → Int, intsAt w.heap b (o + l.length) m g ∧
      K (.agg ⟨vs ++ (List.range m).map fun i => .int .i64 (g i)⟩) (fun w' => cellsAt w'.heap b o (vs ++ (List.range m).map fun i => .int .i64 (g i))) w
  | .arr => fun w => ∃ cs : Array Value, cs.size = n ∧ cellsAt w.heap b o cs.toList ∧ K (.agg cs) (fun w' => cellsAt w'.heap b o cs.toList) w
  | _ => fun _ => False
def okS : Sh → Bool → Nat → Bool
  | .b _, x, _ => !x
  | .agg l, x, n => x && l.length == n
  | .mix l m, x, n => x && l.length + m == n
  | .arr, x, _ => x
  | _, _, _ => false
theorem cellsAt_append {h : Array Obj} {b : Nat} : ∀ (xs ys : List Value) (o : Nat), cellsAt h b o (xs ++ ys) ↔ cellsAt h b o xs ∧ cellsAt h b (o + xs.length) ys
  | [], ys, o => by simp [cellsAt]
  | x :: r, ys, o => by
    simp only [List.cons_append, cellsAt, cellsAt_append r ys (o + 1), List.length_cons, and_assoc]
    have : o + 1 + r.length = o + (r.length + 1) := by omega
    rw [this]
theorem cellsAt_iff {h : Array Obj} {b : Nat} : ∀ (xs : List Value) (o : Nat), cellsAt h b o xs ↔ ∀ i, i < xs.length → cellH h b (o + i) = xs[i]?
  | [], o => by simp [cellsAt]
  | x :: r, o => by
    simp only [cellsAt, cellsAt_iff r (o + 1)]
    constructor
    · rintro ⟨h0, h1⟩ i hi
      cases i with
      | zero => simpa using h0
      | succ i =>
        have := h1 i (by simpa using hi)
        rw [Nat.add_assoc, Nat.add_comm 1 i] at this
        simpa using this
    · intro hh
      refine ⟨by simpa using hh 0 (by simp), fun i hi => ?_⟩
      have := hh (i + 1) (by simpa using hi)
      rw [Nat.add_assoc, Nat.add_comm 1 i]
      simpa using this
theorem ldL_elim : ∀ (l : List Bs) (b o : Nat) (K : List Value → Pred) (w : World), ldL l b o K w → ∃ vs, vs.length = l.length ∧ cellsAt w.heap b o vs ∧ K vs w
  | [], b, o, K, w, h => ⟨[], rfl, trivial, h⟩
  | x :: r, b, o, K, w, h => by
    obtain ⟨v, hc, h⟩ := exB_ex h
    obtain ⟨vs, h1, h2, h3⟩ := ldL_elim r b (o + 1) _ w h
    exact ⟨v :: vs, by simp [h1], ⟨hc, h2⟩, h3⟩
theorem ldS_elim {P : Program} {t : TypeId} {x : Bool} {n : Nat} (hx : aggP P t = some x) (hn : sizeP P t = some n) {s : Sh} (hs : okS s x n = true) {b o : Nat} {K : Value → Pred → Pred} {w : World}
    (h : ldS s n b o K w) : ∃ v f, K v f w ∧ f w ∧ ∀ w', f w' → (loadVar t ⟨b, o, none⟩).run P w' = .ok v w' := by
  cases s with
  | b y =>
    simp only [okS, Bool.not_eq_true'] at hs
    subst hs
    obtain ⟨v, hc, hk⟩ := exB_ex h
    exact ⟨v, _, hk, hc, fun w' hc' => loadVar_one hx hc'⟩
  | agg l =>
    simp only [okS, Bool.and_eq_true, beq_iff_eq] at hs
    obtain ⟨rfl, rfl⟩ := hs
    obtain ⟨vs, h1, h2, h3⟩ := ldL_elim l b o _ w h
    exact ⟨_, _, h3, h2, fun w' hc' => loadVar_agg hx hn h1 hc'⟩
  | mix l m =>
    simp only [okS, Bool.and_eq_true, beq_iff_eq] at hs
    obtain ⟨rfl, rfl⟩ := hs
    obtain ⟨vs, h1, h2, g, h3, h4⟩ := ldL_elim l b o _ w h
    refine ⟨_, _, h4, ?_, fun w' hc' => loadVar_agg hx hn (by simp [h1]) hc'⟩
    rw [cellsAt_append]
    refine ⟨h2, ?_⟩
    rw [cellsAt_iff]
    intro i hi
    have hi' : i < m := by simpa using hi
    rw [h1, h3 i hi']
    simp [List.getElem?_eq_getElem, hi']
  | arr =>
    simp only [okS] at hs
    subst hs
    obtain ⟨cs, h1, h2, h3⟩ := h
    exact ⟨_, _, h3, h2, fun w' hc' => loadVar_agg hx hn (by simpa using h1) hc'⟩
  | tup2 a c => exact h.elim
  | unit => exact h.elim

end Go.Vc
/- The calculus: quiet operations and effects, each with its soundness. No statement of the seat is proved here. -/
namespace Go.Vc
set_option linter.unusedVariables false
set_option linter.unusedSimpArgs false

/-! ### Shapes of types -/
def flatP (P : Program) : Nat → TypeId → Option (List Bs)
  | 0, _ => none
  | n + 1, t => match P.underlying t with
    | some (.int k) => some [.int k]
    | some .bool => some [.bool]
    | some .string => some [.str]
    | some (.slice _) => some [.slice]
    | some (.pointer _) => some [.ptr]
    | some (.map _ _) => some [.map]
    | some (.func _ _ _) => some [.any]
    | some (.interface _) => some [.any]
    | some (.struct fs) => fs.toList.foldr (fun f acc => match flatP P n f.type, acc with
      | some l, some r => some (l ++ r)
      | _, _ => none) (some [])
    | _ => none
def shV (P : Program) (t : TypeId) : Option Sh := match P.underlying t with
  | some (.int k) => some (.b (.int k))
  | some .bool => some (.b .bool)
  | some .string => some (.b .str)
  | some (.slice _) => some (.b .slice)
  | some (.pointer _) => some (.b .ptr)
  | some (.map _ _) => some (.b .map)
  | some (.func _ _ _) => some (.b .any)
  | some (.interface _) => some (.b .any)
  | some (.struct _) => match sizeP P t with
    | some 21 => some (.mix [.int .i64] 20)
    | some n => if n ≤ 8 then (flatP P 5 t).map .agg else some .arr
    | none => none
  | some (.array _ _) => match sizeP P t with
    | some 20 => some (.mix [] 20)
    | some _ => some .arr
    | none => none
  | _ => none
def shOf (P : Program) (t : TypeId) : Option Sh := match P.underlying t with
  | some (.tuple ts) => match ts.toList with
    | [] => some .unit
    | [a, b] => match shV P a, shV P b with
      | some x, some y => some (.tup2 x y)
      | _, _ => none
    | _ => none
  | _ => shV P t

/-! ### Quiet operations that look at the world -/
def semQ (P : Program) (o : Oper) (ρ : Operand → Value) : Option (Sem Value) :=
  match o.op with
  | .slice t x l h m => some (Instr.sliceAt t (ρ x) (l.map ρ) (h.map ρ) (m.map ρ))
  | .index t x i => some (Instr.index t (ρ x) (ρ i))
  | .lookup t x i ok => some (Instr.lookup t (ρ x) (ρ i) ok)
  | .convert s d x => match P.underlying s with
    | some (.slice _) => some (convert s d (ρ x))
    | _ => none
  | .binOp .eql t x y _ => match ρ x, ρ y with
    | .agg a, .agg b => some (do pure (.bool (← Op.equal t (.agg a) (.agg b))))
    | _, _ => none
  | .binOp .neq t x y _ => match ρ x, ρ y with
    | .agg a, .agg b => some (do pure (.bool (!(← Op.equal t (.agg a) (.agg b)))))
    | _, _ => none
  | .call { callee := .builtin .min, argTypes, args } => some (Builtin.min_ argTypes o.type ⟨args.toList.map ρ⟩)
  | _ => none
/-- No == or != on structs that hold interfaces. -/
def eqOk (P : Program) (o : Oper) : Bool := match o.op with
  | .binOp _ t _ _ _ => !P.eqGuardType P.depth t
  | _ => true
def quietC (P : Program) (o : Oper) (ρ : Operand → Value) (K : Value → Option Pred → Pred) : Option Pred :=
  match pureV P o ρ with
  | .val v => some (K v none)
  | .cond c v => some fun w => c ∧ K v none w
  | .adr c v => some fun w => ∃ b o, c b o ∧ K (v b o) none w
  | .no => match o.op with
    | .build t parts => match buildV P t (parts.toList.map fun x => (x.1, ρ x.2)) with
      | .val v => some (K v none)
      | _ => none
    | .load t a => match ρ a, shOf P t, aggP P t, sizeP P t with
      | .pointer (some ⟨b, o, none⟩), some s, some x, some n => if okS s x n then some (ldS s n b o fun v f => K v (some f)) else none
      | _, _, _, _ => none
    | _ => match semQ P o ρ, shOf P o.type with
      | some s, some sh => if eqOk P o then some fun w => exV sh fun v => s.run P w = .ok v w ∧ K v (some fun w' => s.run P w' = .ok v w') w else none
      | _, _ => none

theorem semQ_run {P : Program} {o : Oper} {ρ : Operand → Value} {s : Sem Value} (h : semQ P o ρ = some s) (he : eqOk P o = true) {v : Value} {w : World} (hr : s.run P w = .ok v w) :
    (execOp ρ o).run P w = .ok (.value v) w := by
  unfold semQ at h
  split at h
  · rename_i t x l h' m ho
    simp only [Option.some.injEq] at h; subst h
    simp only [execOp, ho]
    exact (bind_run hr).trans rfl
  · rename_i t x i ho
    simp only [Option.some.injEq] at h; subst h
    simp only [execOp, ho]
    exact (bind_run hr).trans rfl
  · rename_i t x i ok ho
    simp only [Option.some.injEq] at h; subst h
    simp only [execOp, ho]
    exact (bind_run hr).trans rfl
  · rename_i s' d x ho
    split at h
    · simp only [Option.some.injEq] at h; subst h
      simp only [execOp, ho]
      exact (bind_run hr).trans rfl
    · cases h
  · rename_i t x y yt ho
    split at h
    · rename_i a b hx hy
      simp only [Option.some.injEq] at h; subst h
      simp only [execOp, ho]
      refine (bind_run (a := v) (w' := w) ?_).trans rfl
      have hg : (eqGuard .eql t x y (ρ x) (ρ y)).run P w = .ok () w := by
        simp only [eqOk, ho, Bool.not_eq_true'] at he
        rw [hx, hy]
        simp [eqGuard, Sem.run_bind, program, Sem.run, he, pure]
      rw [bind_run hg, hx, hy]
      exact hr
    · cases h
  · rename_i t x y yt ho
    split at h
    · rename_i a b hx hy
      simp only [Option.some.injEq] at h; subst h
      simp only [execOp, ho]
      refine (bind_run (a := v) (w' := w) ?_).trans rfl
      have hg : (eqGuard .neq t x y (ρ x) (ρ y)).run P w = .ok () w := by
        simp only [eqOk, ho, Bool.not_eq_true'] at he
        rw [hx, hy]
        simp [eqGuard, Sem.run_bind, program, Sem.run, he, pure]
      rw [bind_run hg, hx, hy]
      exact hr
    · cases h
  · rename_i args argTypes ho
    simp only [Option.some.injEq] at h; subst h
    simp only [execOp, ho, resolve]
    have e1 : args.map ρ = ⟨args.toList.map ρ⟩ := by apply Array.toList_inj.1; simp
    rw [bind_run (a := { target := .builtin .min argTypes o.type _, args := args.map ρ }) (w' := w) rfl]
    simp only [invoke, builtin]
    rw [e1, bind_run hr]
    rfl
  · cases h

/-- What a quiet operation hands on. -/
theorem quietC_elim {P : Program} {o : Oper} {ρ : Operand → Value} {K : Value → Option Pred → Pred} {p : Pred} (h : quietC P o ρ K = some p) {w : World} (hp : p w) :
    ∃ v f, K v f w ∧ ((f = none ∧ ∀ w', (execOp ρ o).run P w' = .ok (.value v) w') ∨ ∃ g, f = some g ∧ g w ∧ ∀ w', g w' → (execOp ρ o).run P w' = .ok (.value v) w') := by
  have H := pureV_holds P o ρ
  unfold quietC at h
  cases hv : pureV P o ρ with
  | val v =>
    rw [hv] at H
    simp only [hv, Option.some.injEq] at h; subst h
    exact ⟨v, none, hp, .inl ⟨rfl, H⟩⟩
  | cond c v =>
    rw [hv] at H
    simp only [hv, Option.some.injEq] at h; subst h
    exact ⟨v, none, hp.2, .inl ⟨rfl, H hp.1⟩⟩
  | adr c v =>
    rw [hv] at H
    simp only [hv, Option.some.injEq] at h; subst h
    obtain ⟨b, o', hc, hk⟩ := hp
    exact ⟨_, none, hk, .inl ⟨rfl, H b o' hc⟩⟩
  | no =>
    simp only [hv] at h
    split at h
    · rename_i t parts ho
      have Hb := build_holds P o ρ t parts ho
      split at h
      · rename_i v hb
        rw [hb] at Hb
        simp only [Option.some.injEq] at h; subst h
        exact ⟨v, none, hp, .inl ⟨rfl, Hb⟩⟩
      · cases h
    · rename_i t a ho
      split at h
      · rename_i b o' s x n ha hs hx hn
        split at h
        · rename_i hok
          simp only [Option.some.injEq] at h; subst h
          obtain ⟨v, f, h1, h2, h3⟩ := ldS_elim hx hn hok hp
          refine ⟨v, some f, h1, .inr ⟨f, rfl, h2, fun w' hw' => ?_⟩⟩
          simp only [execOp, ho, ha]
          exact (bind_run (h3 w' hw')).trans rfl
        · cases h
      · cases h
    · split at h
      · rename_i s sh hs hsh
        split at h
        · rename_i he
          simp only [Option.some.injEq] at h; subst h
          obtain ⟨v, hr, hk⟩ := exV_ex hp
          exact ⟨v, _, hk, .inr ⟨_, rfl, hr, fun w' hw' => semQ_run hs he hw'⟩⟩
        · cases h
      · cases h

/-! ### Effects -/
def scal : Value → Bool
  | .agg _ => false
  | .tuple _ => false
  | _ => true
def setsW (w : World) (b o : Nat) : List Value → World
  | [] => w
  | v :: r => setsW (setW w b o v) b (o + 1) r
def wrL (h : Array Obj) (b o : Nat) : List Value → Prop
  | [] => True
  | [v] => wrH h b o
  | v :: u :: r => wrH h b o ∧ wrL h b (o + 1) (u :: r)
def stW (b o : Nat) (vs : List Value) (K : Pred) : Pred := fun w => wrL w.heap b o vs ∧ K (setsW w b o vs)
def stA (b o n : Nat) (cs : Array Value) (K : Pred) : Pred := fun w => cs.size = n ∧ cs.toList.all scal = true ∧ wrL w.heap b o cs.toList ∧ K (setsW w b o cs.toList)
def newC (z : List Value) (t : TypeId) (K : Nat → Pred) : Pred := fun w => K w.heap.size (newW w (.cells ⟨z⟩ t))
def callable (P : Program) (f : FuncId) : Bool := match P.funcs[f]? with
  | some fn => fn.body.isSome && !(fn.name == "runtime.NumGoroutine")
  | none => false
def Cl (P : Program) (f : FuncId) (args : List Value) (w : World) (R : Ending → World → Prop) : Prop := callable P f = true ∧ Calls P f ⟨args⟩ w R
def retV (s : Sh) (K : Value → Pred) (Qp : List PanicEntry → Pred) : Ending → World → Prop
  | .returned v, w => exV s fun u => v = u ∧ K u w
  | .panicked c, w => Qp c w
  | .outgrown, _ => False
def runE (P : Program) (sh : Sh) (s : Sem Value) (K : Value → Pred) : Pred := fun w => exV sh fun v => ∃ w', s.run P w = .ok v w' ∧ K v w'
def runU (P : Program) (s : Sem Unit) (K : Pred) : Pred := fun w => ∃ w', s.run P w = .ok () w' ∧ K w'
def rowL (P : Program) (e : TypeId) (len : Nat) (parts : List (Nat × Value)) : Option (List Value) :=
  match sizeP P e, zeroL P e with
  | some (n + 1), some z => if z.length = n + 1 ∧ len * (n + 1) ≤ 4096 then
      fillL (fun i => some (i * (n + 1), n + 1)) ((List.range (len * (n + 1))).map fun i => z.getD (i % (n + 1)) undef) parts
    else none
  | _, _ => none

def semE (P : Program) (o : Oper) (ρ : Operand → Value) : Option (Sem Value) :=
  match o.op with
  | .call { callee := .builtin .append, argTypes, args } => some (Builtin.append_ argTypes o.type ⟨args.toList.map ρ⟩)
  | .makeSlice t l c => some (Instr.makeSlice t (ρ l) (ρ c))
  | .makeMap t r => some (Instr.makeMap t (r.map ρ))
  | .convert s d x => some (convert s d (ρ x))
  | _ => none

def effC (P : Program) (o : Oper) (ρ : Operand → Value) (Qp : List PanicEntry → Pred) (K : Value → Pred) : Pred :=
  match o.op with
  | .alloc t => match zeroL P t with
    | some z => newC z t fun b => K (.pointer (some ⟨b, 0, none⟩))
    | none => fun _ => False
  | .box t x => newC (ρ x).cells.toList t fun b => K (.pointer (some ⟨b, 0, none⟩))
  | .store t a x => match ρ a, sizeP P t with
    | .pointer (some ⟨b, o, none⟩), some n => if n ≤ 21 then
        if (ρ x).cells.toList.length = n ∧ (ρ x).cells.toList.all scal = true then stW b o (ρ x).cells.toList (K undef) else fun _ => False
      else match ρ x with
        | .agg cs => stA b o n cs (K undef)
        | _ => fun _ => False
    | _, _ => fun _ => False
  | .buildSlice t len parts => match P.underlying t with
    | some (.slice e) => match rowL P e len (parts.toList.map fun x => (x.1, ρ x.2)) with
      | some cs => newC cs e fun b => K (.slice (some ⟨b, 0, none⟩) len len)
      | none => fun _ => False
    | _ => fun _ => False
  | .mapUpdate t m k x => runU P (Instr.mapUpdate t (ρ m) (ρ k) (ρ x)) (K undef)
  | .panic x => match ρ x with
    | .iface t v => Qp [{ v := .iface t v, recovered := false }]
    | _ => fun _ => False
  | .call { callee := .value f, args, .. } => match ρ f, shOf P o.type with
    | .func (.func fid) first captured, some sh => fun w => Cl P fid (first.toList ++ args.toList.map ρ ++ captured.toList) w (retV sh K Qp)
    | _, _ => fun _ => False
  | _ => match semE P o ρ, shOf P o.type with
    | some s, some sh => runE P sh s K
    | _, _ => fun _ => False

theorem frozen?_plain (w : World) (b o : Nat) : w.frozen? ⟨b, o, none⟩ = frozH w.heap b o := by
  unfold World.frozen? frozH
  cases w.heap[b]? with
  | none => rfl
  | some x => cases x <;> rfl
theorem setCell_plain (w : World) (b o : Nat) (v : Value) : w.setCell ⟨b, o, none⟩ v = setW w b o v := by
  unfold World.setCell setW setH
  refine congrArg (fun h => ({ w with heap := h } : World)) ?_
  refine congrArg (w.heap.modify b) ?_
  funext x
  cases x <;> rfl
theorem setH_get (h : Array Obj) (b o : Nat) (v : Value) (b' : Nat) : (setH h b o v)[b']? = if b = b' then (h[b']?).map (setO o v) else h[b']? := by
  unfold setH
  rw [Array.getElem?_modify]
theorem cellH_setH (h : Array Obj) (b o : Nat) (v : Value) (b' o' : Nat) : cellH (setH h b o v) b' o' = if b = b' ∧ o = o' then (cellH h b' o').map (fun _ => v) else cellH h b' o' := by
  unfold cellH
  rw [setH_get]
  by_cases hb : b = b'
  · subst hb
    simp only [if_true, true_and]
    cases h[b]? with
    | none => simp
    | some x =>
      cases x <;> simp only [Option.map_some, setO] <;> try simp
      rename_i c e f
      by_cases ho : o = o'
      · subst ho
        simp [Array.getElem?_setIfInBounds]
        split <;> simp_all
      · simp [ho, Array.getElem?_setIfInBounds]
  · simp [hb]
theorem frozH_setH (h : Array Obj) (b o : Nat) (v : Value) (b' o' : Nat) : frozH (setH h b o v) b' o' = frozH h b' o' := by
  unfold frozH
  rw [setH_get]
  by_cases hb : b = b'
  · subst hb
    simp only [if_true]
    cases h[b]? with
    | none => simp
    | some x => cases x <;> simp [setO]
  · simp [hb]
theorem wrH_setH {h : Array Obj} {b o : Nat} {v : Value} {b' o' : Nat} (hw : wrH h b' o') : wrH (setH h b o v) b' o' := by
  obtain ⟨⟨u, hu⟩, hf⟩ := hw
  refine ⟨?_, by rw [frozH_setH]; exact hf⟩
  rw [cellH_setH, hu]
  split <;> exact ⟨_, rfl⟩
theorem wrL_cons {h : Array Obj} {b o : Nat} {v : Value} {r : List Value} : wrL h b o (v :: r) ↔ wrH h b o ∧ wrL h b (o + 1) r := by
  cases r <;> simp [wrL]
theorem wrL_setH {h : Array Obj} {b o : Nat} {v : Value} {b' : Nat} : ∀ {vs : List Value} {o' : Nat}, wrL h b' o' vs → wrL (setH h b o v) b' o' vs
  | [], _, _ => trivial
  | x :: r, o', hw => by rw [wrL_cons] at *; exact ⟨wrH_setH hw.1, wrL_setH hw.2⟩
theorem store_run {P : Program} {w : World} {b o : Nat} {v : Value} (hs : scal v = true) (hw : wrH w.heap b o) : (store ⟨b, o, none⟩ v).run P w = .ok () (setW w b o v) := by
  obtain ⟨⟨u, hu⟩, hf⟩ := hw
  cases v <;> simp only [scal, Bool.false_eq_true] at hs <;>
    simp [store, Sem.run, cell?_plain, hu, frozen?_plain, hf, setCell_plain]
theorem storeCells_run {P : Program} {b o : Nat} : ∀ (vs : List Value) (i : Nat) (w : World), vs.all scal = true → wrL w.heap b (o + i) vs →
    (storeCells ⟨b, o, none⟩ vs i).run P w = .ok () (setsW w b (o + i) vs)
  | [], i, w, _, _ => rfl
  | v :: r, i, w, hs, hw => by
    simp only [List.all_cons, Bool.and_eq_true] at hs
    rw [wrL_cons] at hw
    unfold storeCells
    rw [add_spot, bind_run (store_run hs.1 hw.1)]
    rw [storeCells_run r (i + 1) (setW w b (o + i) v) hs.2 (by have := wrL_setH (h := w.heap) (b := b) (o := o + i) (v := v) hw.2; rwa [Nat.add_assoc] at this)]
    simp only [setsW, Nat.add_assoc]
theorem storeVar_run {P : Program} {t : TypeId} {n : Nat} (hn : sizeP P t = some n) {w : World} {b o : Nat} {v : Value} (hl : v.cells.toList.length = n) (hs : v.cells.toList.all scal = true) (hw : wrL w.heap b o v.cells.toList) :
    (storeVar t ⟨b, o, none⟩ v).run P w = .ok () (setsW w b o v.cells.toList) := by
  unfold storeVar
  rw [bind_run (sizeOf_run hn w)]
  have h1 : ¬ (v.cells.size ≠ n) := by simp [← hl]
  simp only [h1, if_false]
  exact storeCells_run _ 0 w hs hw
theorem run_value {P : Program} {o : Oper} {a : Act} {w w' : World} {v : Value} {next : Act → World → Prop} {Q : Exit → Act → World → Prop}
    (h : (execOp a.eval o).run P w = .ok (.value v) w') (hn : next (a.put o.dst v) w') : o.wp P a w next Q := by
  unfold Oper.wp; rw [h]; exact hn
theorem run_skip {P : Program} {o : Oper} {a : Act} {w w' : World} {next : Act → World → Prop} {Q : Exit → Act → World → Prop}
    (h : (execOp a.eval o).run P w = .ok .skip w') (hn : next (a.put o.dst undef) w') : o.wp P a w next Q := by
  unfold Oper.wp; rw [h]; exact hn
theorem rowL_run {P : Program} {t e : TypeId} (hu : P.underlying t = some (.slice e)) {len : Nat} {parts : List (Nat × Value)} {cs : List Value} (h : rowL P e len parts = some cs) (w : World) :
    (Instr.buildSlice t len ⟨parts⟩).run P w = .ok (.slice (some ⟨w.heap.size, 0, none⟩) len len) (newW w (.cells ⟨cs⟩ e)) := by
  unfold rowL at h
  split at h
  · rename_i n z hn hz
    split at h
    · rename_i hc
      obtain ⟨hzl, hle⟩ := hc
      obtain ⟨v, hv, hr⟩ := zero_run hz
      unfold Instr.buildSlice
      rw [bind_run (underlying_run hu w)]
      simp only []
      rw [bind_run (sizeOf_run hn w)]
      have h1 : ¬ (len * (n + 1) > 2 ^ 24) := by omega
      simp only [h1, if_false]
      have hf := fill_eq _ _ _ _ h
      by_cases h0 : len * n.succ = 0
      · simp only [h0, if_true]
        rw [bind_run (show (pure #[] : Sem (Array Value)).run P w = .ok #[] w from rfl)]
        have h3 : ((Array.range 0).map fun i => (#[] : Array Value)[i % (#[] : Array Value).size]!) = ⟨(List.range (len * (n + 1))).map fun i => z.getD (i % (n + 1)) undef⟩ := by
          have : len * (n + 1) = 0 := h0
          rw [this]
          apply Array.toList_inj.1
          simp
        rw [h3, hf]
        rfl
      · simp only [h0, if_false]
        rw [bind_run (hr w), hv]
        rw [bind_run (show (pure (⟨z⟩ : Array Value) : Sem (Array Value)).run P w = .ok ⟨z⟩ w from rfl)]
        have h3 : ((Array.range (len * n.succ)).map fun i => (⟨z⟩ : Array Value)[i % (⟨z⟩ : Array Value).size]!) = ⟨(List.range (len * (n + 1))).map fun i => z.getD (i % (n + 1)) undef⟩ := by
          apply Array.toList_inj.1
          rw [Array.toList_map, Array.toList_range]
          refine List.map_congr_left fun i hi => ?_
          have hlt : i % (n + 1) < z.length := by rw [hzl]; exact Nat.mod_lt _ (by omega)
          have hs : (⟨z⟩ : Array Value).size = n + 1 := hzl
          rw [hs]
          simp [getElem!_pos, hlt, List.getD_eq_getElem?_getD, List.getElem?_eq_getElem hlt]
        rw [h3, hf]
        rfl
    · cases h
  · cases h

theorem callFunc_run {P : Program} {f : FuncId} (h : callable P f = true) (args : Array Value) (w : World) : (callFunc f args).run P w = .ok (.enter f args) w := by
  unfold callable at h
  cases hf : P.funcs[f]? with
  | none => simp [hf] at h
  | some fn =>
    simp only [hf, Bool.and_eq_true, Bool.not_eq_true'] at h
    unfold callFunc
    rw [bind_run (show program.run P w = .ok P w from rfl)]
    simp only [hf, h.2, Bool.false_eq_true, if_false]
    have h1 : fn.body.isNone = false := by
      cases hb : fn.body with
      | none => rw [hb] at h; exact absurd h.1 (by simp)
      | some c => rfl
    simp only [h1, Bool.false_eq_true, if_false]
    rfl

theorem effC_wp {P : Program} {o : Oper} {a : Act} {Qp : List PanicEntry → Pred} {K : Value → Pred} {w : World} {next : Act → World → Prop} {Q : Exit → Act → World → Prop}
    (h : effC P o a.eval Qp K w) (hn : ∀ v w', K v w' → next (a.put o.dst v) w') (hq : ∀ c w', Qp c w' → Q (.panic c) a w') : o.wp P a w next Q := by
  obtain ⟨p, hp⟩ : ∃ p, effC P o a.eval Qp K = p := ⟨_, rfl⟩
  rw [hp] at h
  unfold effC at hp
  split at hp
  · rename_i t ho
    split at hp
    · rename_i z hz
      subst hp
      obtain ⟨v, hv, hr⟩ := zero_run hz
      refine run_value ?_ (hn _ _ h)
      simp only [execOp, ho]
      refine (bind_run (a := .pointer (some ⟨w.heap.size, 0, none⟩)) (w' := newW w (.cells ⟨z⟩ t)) ?_).trans rfl
      unfold Instr.alloc
      rw [bind_run (hr w)]
      simp only [newVar, newRow, hv]
      rfl
    · (subst hp; exact h.elim)
  · rename_i t x ho
    subst hp
    refine run_value ?_ (hn _ _ h)
    simp only [execOp, ho]
    rfl
  · rename_i t x y ho
    split at hp
    · rename_i b o' n ha hs
      split at hp
      · rename_i hle
        split at hp
        · rename_i hc
          subst hp
          refine run_skip (w' := setsW w b o' (a.eval y).cells.toList) ?_ (hn _ _ h.2)
          simp only [execOp, ho, ha]
          refine (bind_run (a := ()) (w' := setsW w b o' (a.eval y).cells.toList) ?_).trans rfl
          unfold Instr.storeAt
          rw [bind_run (show (Instr.sureAddr (.pointer (some ⟨b, o', none⟩))).run P w = .ok ⟨b, o', none⟩ w from rfl)]
          exact storeVar_run hs hc.1 hc.2 h.1
        · (subst hp; exact h.elim)
      · split at hp
        · rename_i cs hx
          subst hp
          obtain ⟨h1, h2, h3, h4⟩ := h
          refine run_skip (w' := setsW w b o' cs.toList) ?_ (hn _ _ h4)
          simp only [execOp, ho, ha, hx]
          refine (bind_run (a := ()) (w' := setsW w b o' cs.toList) ?_).trans rfl
          unfold Instr.storeAt
          rw [bind_run (show (Instr.sureAddr (.pointer (some ⟨b, o', none⟩))).run P w = .ok ⟨b, o', none⟩ w from rfl)]
          exact storeVar_run (v := .agg cs) hs (by simpa [Value.cells] using h1) h2 h3
        · (subst hp; exact h.elim)
    · (subst hp; exact h.elim)
  · rename_i t len parts ho
    split at hp
    · rename_i e hu
      split at hp
      · rename_i cs hr
        subst hp
        refine run_value ?_ (hn _ _ h)
        simp only [execOp, ho]
        have he : (parts.map fun x => match x with | (i, y) => (i, a.eval y)) = ⟨parts.toList.map fun x => (x.1, a.eval x.2)⟩ := by
          apply Array.toList_inj.1; simp
        rw [he]
        exact (bind_run (rowL_run hu hr w)).trans rfl
      · (subst hp; exact h.elim)
    · (subst hp; exact h.elim)
  · rename_i t m k x ho
    subst hp
    obtain ⟨w', hr, hk⟩ := h
    refine run_skip ?_ (hn _ _ hk)
    simp only [execOp, ho]
    exact (bind_run hr).trans rfl
  · rename_i x ho
    split at hp
    · rename_i t v hx
      subst hp
      unfold Oper.wp
      have : (execOp a.eval o).run P w = .halt (.panic (.iface t v)) w := by
        simp only [execOp, ho, hx, Instr.panic, goPanic]; rfl
      rw [this]
      exact hq _ _ h
    · (subst hp; exact h.elim)
  · rename_i f args argTypes ho
    split at hp
    · rename_i fid first captured sh hf hsh
      subst hp
      obtain ⟨hc, hcall⟩ := h
      unfold Oper.wp
      have : (execOp a.eval o).run P w = .ok (.enter fid ⟨first.toList ++ args.toList.map a.eval ++ captured.toList⟩) w := by
        simp only [execOp, ho, resolve, hf, Deferred.ofValue]
        rw [bind_run (a := { target := .fn (.func fid) captured, args := first ++ args.map a.eval }) (w' := w) rfl]
        simp only [invoke]
        rw [callFunc_run hc]
        congr 2
        apply Array.toList_inj.1
        simp
      rw [this]
      refine Calls.mono hcall fun e w'' he => ?_
      cases e with
      | returned v =>
        obtain ⟨u, hu, hk⟩ := exV_ex he
        subst hu
        exact hn _ _ hk
      | panicked c => exact hq _ _ he
      | outgrown => exact he.elim
    · (subst hp; exact h.elim)
  · split at hp
    · rename_i s sh hs hsh
      subst hp
      obtain ⟨v, w', hr, hk⟩ := exV_ex h
      refine run_value ?_ (hn _ _ hk)
      unfold semE at hs
      split at hs
      · rename_i args argTypes ho
        simp only [Option.some.injEq] at hs; subst hs
        simp only [execOp, ho, resolve]
        have e1 : args.map a.eval = ⟨args.toList.map a.eval⟩ := by apply Array.toList_inj.1; simp
        rw [bind_run (a := { target := .builtin .append argTypes o.type _, args := args.map a.eval }) (w' := w) rfl]
        simp only [invoke, builtin]
        rw [e1, bind_run hr]
        rfl
      · rename_i t l c ho
        simp only [Option.some.injEq] at hs; subst hs
        simp only [execOp, ho]
        exact (bind_run hr).trans rfl
      · rename_i t r ho
        simp only [Option.some.injEq] at hs; subst hs
        simp only [execOp, ho]
        exact (bind_run hr).trans rfl
      · rename_i s' d x ho
        simp only [Option.some.injEq] at hs; subst hs
        simp only [execOp, ho]
        exact (bind_run hr).trans rfl
      · cases hs
    · (subst hp; exact h.elim)

end Go.Vc
/- The calculus: a region whose order is drawn. No statement of the seat is proved here. -/
namespace Go.Vc
set_option linter.unusedVariables false
set_option linter.unusedSimpArgs false

/-! ### Who comes ahead of whom in a region -/
def edgesOf (o : Oper) (acc : List (List Nat)) : List Nat := (o.after.toList.filter fun e => Region.binds .any e).flatMap fun e => e.on :: acc.getD e.on []
def befL : List Oper → List (List Nat) → List (List Nat)
  | [], acc => acc
  | o :: r, acc => befL r (acc ++ [edgesOf o acc])
def TblOK (ops : Array Oper) (tbl : List (List Nat)) : Prop := ∀ j i oj, ops[j]? = some oj → i ∈ tbl.getD j [] →
    ∃ e ∈ oj.after, Region.binds .any e = true ∧ (e.on = i ∨ i ∈ tbl.getD e.on [])
theorem befL_prefix : ∀ (l : List Oper) (acc : List (List Nat)), ∃ t, befL l acc = acc ++ t ∧ t.length = l.length
  | [], acc => ⟨[], by simp [befL], rfl⟩
  | o :: r, acc => by
    obtain ⟨t, h, hl⟩ := befL_prefix r (acc ++ [edgesOf o acc])
    exact ⟨edgesOf o acc :: t, by simp [befL, h], by simp [hl]⟩
theorem getD_prefix {acc t : List (List Nat)} {k i : Nat} (h : i ∈ acc.getD k []) : i ∈ (acc ++ t).getD k [] := by
  by_cases hk : k < acc.length
  · simpa [List.getD_eq_getElem?_getD, List.getElem?_append_left hk] using h
  · rw [List.getD_eq_getElem?_getD, List.getElem?_eq_none (by omega)] at h
    cases h
theorem befL_get : ∀ (l : List Oper) (acc : List (List Nat)) (j : Nat) (oj : Oper), l[j]? = some oj →
    ∃ acc' t, befL l acc = acc' ++ t ∧ (befL l acc).getD (acc.length + j) [] = edgesOf oj acc'
  | [], acc, j, oj, h => by simp at h
  | o :: r, acc, j, oj, h => by
    cases j with
    | zero =>
      simp only [List.getElem?_cons_zero, Option.some.injEq] at h
      subst h
      obtain ⟨t, ht, _⟩ := befL_prefix r (acc ++ [edgesOf o acc])
      refine ⟨acc, edgesOf o acc :: t, by simp [befL, ht], ?_⟩
      simp [befL, ht, List.getD_eq_getElem?_getD]
    | succ j =>
      simp only [List.getElem?_cons_succ] at h
      obtain ⟨acc', t, h1, h2⟩ := befL_get r (acc ++ [edgesOf o acc]) j oj h
      refine ⟨acc', t, h1, ?_⟩
      rw [← h2]
      simp only [befL, List.length_append, List.length_singleton]
      congr 1
      omega
theorem befL_ok (ops : Array Oper) : TblOK ops (befL ops.toList []) := by
  intro j i oj hj hi
  have hj' : ops.toList[j]? = some oj := by simpa using hj
  obtain ⟨acc', t, h1, h2⟩ := befL_get ops.toList [] j oj hj'
  simp only [List.length_nil, Nat.zero_add] at h2
  rw [h2] at hi
  simp only [edgesOf, List.mem_flatMap, List.mem_filter] at hi
  obtain ⟨e, ⟨he, hb⟩, hi⟩ := hi
  refine ⟨e, by simpa using he, hb, ?_⟩
  rcases List.mem_cons.1 hi with hi | hi
  · exact .inl hi.symm
  · exact .inr (by rw [h1]; exact getD_prefix hi)

section
variable {P : Program} {ops : Array Oper} {Q : Exit → Act → World → Prop} {tbl : List (List Nat)}
/-- What was found stays found, as far as it may still be asked. -/
def factsF (tbl : List (List Nat)) (F : List (Nat × Pred)) (i : Nat) (w : World) : Prop := ∀ x ∈ F, x.1 ∉ tbl.getD i [] → x.2 w
def wpG (P : Program) (ops : Array Oper) (Q : Exit → Act → World → Prop) (tbl : List (List Nat)) (F : List (Nat × Pred)) : Nat → Array Bool → Act → World → Prop
  | 0, listed, a, w => Region.ready .any ops listed = [] ∧ Q .normal a w
  | n + 1, listed, a, w => (Region.ready .any ops listed = [] → Q .normal a w) ∧
    ∀ i ∈ Region.ready .any ops listed, wpOp P ops Q i (fun a' w' => (w' = w ∨ factsF tbl F i w') ∧ wpG P ops Q tbl F n (listed.setIfInBounds i true) a' w') a w
theorem wpG_any {F : List (Nat × Pred)} : ∀ (n : Nat) (listed : Array Bool) (a : Act) (w : World), wpG P ops Q tbl F n listed a w → wpAny P .any ops Q n listed a w
  | 0, _, _, _, h => h
  | n + 1, _, _, _, h => ⟨h.1, fun i hi => wpOp_mono (fun a' w' h' => wpG_any n _ a' w' h'.2) (h.2 i hi)⟩
def DC (tbl : List (List Nat)) (listed : Array Bool) : Prop := ∀ j i, listed.getD j false = true → i ∈ tbl.getD j [] → listed.getD i false = true
theorem ready_bef (ht : TblOK ops tbl) {listed : Array Bool} (hd : DC tbl listed) {j : Nat} (hj : j ∈ Region.ready .any ops listed) {i : Nat} (hi : i ∈ tbl.getD j []) : listed.getD i false = true := by
  obtain ⟨_, oj, hoj, hall⟩ := mem_ready.1 hj
  obtain ⟨e, he, hb, h⟩ := ht j i oj hoj hi
  have := hall e he hb
  rcases h with rfl | h
  · exact this
  · exact hd _ _ this h
theorem DC_set (ht : TblOK ops tbl) {listed : Array Bool} (hd : DC tbl listed) {j : Nat} (hj : j ∈ Region.ready .any ops listed) : DC tbl (listed.setIfInBounds j true) := by
  intro k i hk hi
  by_cases hjk : j = k
  · subst hjk
    exact getD_set_true (ready_bef ht hd hj hi)
  · rw [getD_set_ne false hjk] at hk
    exact getD_set_true (hd k i hk hi)
theorem DC_none (n : Nat) : DC tbl (Array.replicate n false) := by
  intro j i h
  simp [Array.getElem?_replicate] at h
  split at h <;> simp_all
theorem wpG_mono {F F' : List (Nat × Pred)} (hF : ∀ j w, factsF tbl F' j w → factsF tbl F j w) : ∀ (n : Nat) (listed : Array Bool) (a : Act) (w : World),
    wpG P ops Q tbl F' n listed a w → wpG P ops Q tbl F n listed a w
  | 0, _, _, _, h => h
  | n + 1, _, _, _, h => ⟨h.1, fun i hi => wpOp_mono (fun a' w' h' => ⟨h'.1.imp id (hF i w'), wpG_mono hF n _ a' w' h'.2⟩) (h.2 i hi)⟩
/-- An operation that may come up, and that gives its value wherever G holds, may be taken first. -/
theorem wpG_first {i : Nat} {oi : Oper} {v : Value} (hi : ops[i]? = some oi) (hsel : ∀ (j : Nat) (o : Oper) cs b, ops[j]? = some o → o.op ≠ .select cs b)
    (hQ : ∀ c a w, Q (.panic c) (a.put oi.dst v) w → Q (.panic c) a w) (ht : TblOK ops tbl) {G : Pred} {F F' : List (Nat × Pred)}
    (hF : ∀ j w, factsF tbl F' j w → factsF tbl F j w) (hG : ∀ j w, i ∉ tbl.getD j [] → factsF tbl F' j w → G w) :
    ∀ (fuel : Nat) (listed : Array Bool) (a : Act) (w : World), DC tbl listed →
      (∀ j oj, ops[j]? = some oj → j ≠ i → listed.getD j true = false → (∀ e ∈ oj.after, Region.binds .any e = true → e.on ≠ i) → oi.apart ops oj = true) →
      i ∈ Region.ready .any ops listed → YieldsIf P ops G oi v a → G w →
      wpG P ops Q tbl F' fuel (listed.setIfInBounds i true) (a.put oi.dst v) w → wpG P ops Q tbl F (fuel + 1) listed a w := by
  intro fuel
  induction fuel with
  | zero =>
    intro listed a w hd _ hr hy hS H
    refine ⟨fun h => (by rw [h] at hr; cases hr), fun j hj => ?_⟩
    by_cases hji : j = i
    · subst hji; exact hy.wpOp hi hS ⟨.inl rfl, H⟩
    · have := ready_mono hj hji
      rw [H.1] at this
      cases this
  | succ fuel ih =>
    intro listed a w hd hfree hr hy hS H
    refine ⟨fun h => (by rw [h] at hr; cases hr), fun j hj => ?_⟩
    by_cases hji : j = i
    · subst hji
      exact hy.wpOp hi hS ⟨.inl rfl, wpG_mono hF _ _ _ _ H⟩
    · have h1 := H.2 j (ready_mono hj hji)
      obtain ⟨hjun, oj, hoj, hall⟩ := mem_ready.1 hj
      have hib : i ∉ tbl.getD j [] := fun hc => by
        have h1 := ready_bef ht hd hj hc
        have h0 := (mem_ready.1 hr).1
        rcases Nat.lt_or_ge i listed.size with h' | h'
        · simp [h'] at h0 h1; rw [h0] at h1; cases h1
        · simp [Array.getElem?_eq_none h'] at h1
      have hnot : ∀ e ∈ oj.after, Region.binds .any e = true → e.on ≠ i := fun e he hb heq => by
        have h1 := hall e he hb
        have h0 := (mem_ready.1 hr).1
        rw [heq] at h1
        rcases Nat.lt_or_ge i listed.size with h' | h'
        · simp [h'] at h0 h1; rw [h0] at h1; cases h1
        · simp [Array.getElem?_eq_none h'] at h1
      have h2 := wpOp_putIf hoj (hfree j oj hoj hji hjun hnot) (fun cs b => hsel i oi cs b hi) (fun cs b => hsel j oj cs b hoj) hQ hy h1
      have hfree' : ∀ k ok, ops[k]? = some ok → k ≠ i → (listed.setIfInBounds j true).getD k true = false →
          (∀ e ∈ ok.after, Region.binds .any e = true → e.on ≠ i) → oi.apart ops ok = true := fun k ok hk hki hun hno => by
        refine hfree k ok hk hki ?_ hno
        by_cases hjk : j = k
        · subst hjk; exact hjun
        · rw [getD_set_ne true hjk] at hun; exact hun
      refine wpOp_mono (fun a' w' h3 => ?_) h2
      obtain ⟨hy', hf, h4⟩ := h3
      have hGw : G w' := by
        rcases hf with rfl | hf
        · exact hS
        · exact hG j w' hib hf
      refine ⟨hf.imp id (hF j w'), ih (listed.setIfInBounds j true) a' w' (DC_set ht hd hj) hfree' (ready_mono hr (Ne.symm hji)) hy' hGw ?_⟩
      rw [Array.setIfInBounds_comm _ _ hji]
      exact h4
end

/-! ### The region's operations in an order that is written out -/
def guardL (opsL : List Oper) (o : Oper) (fr : Fr) : Option Bool :=
  match o.guard with
  | none => some true
  | some (j, want) => match opsL[j]? with
    | some oj => match oj.dst with
      | some d => match fr[d]? with
        | some (.bool true) => some want
        | some (.bool false) => some (!want)
        | some (.tuple _) => some false
        | _ => none
      | none => none
    | none => none
theorem guardL_wanted {ops : Array Oper} {o : Oper} {fr : Fr} {ds : List Deferred} {x : Bool} (h : guardL ops.toList o fr = some x) : Region.wanted o (yielded ops (act fr ds).tmps) = x := by
  unfold guardL at h
  unfold Region.wanted
  cases hg : o.guard with
  | none => simp only [hg, Option.some.injEq] at h; exact h
  | some jw =>
    obtain ⟨j, want⟩ := jw
    simp only [hg] at h ⊢
    unfold yielded
    cases hj : ops.toList[j]? with
    | none => simp [hj] at h
    | some oj =>
      simp only [hj] at h
      have hj' : ops[j]? = some oj := by simpa using hj
      cases hd : oj.dst with
      | none => simp [hd] at h
      | some d =>
        simp only [hd] at h
        simp only [hj', Option.bind_some, hd, act, List.getElem?_toArray]
        cases hf : fr[d]? with
        | none => simp [hf] at h
        | some v =>
          simp only [hf] at h
          cases v <;> first | (simp at h; done) | skip
          · rename_i b; cases b <;> simp at h <;> subst h <;> first | (cases want <;> rfl) | (cases x <;> rfl)
          · simp at h; subst h; rfl

def wrapF (tbl : List (List Nat)) (F : List (Nat × Pred)) (i : Nat) (p : Pred) : Pred :=
  match F with
  | [] => p
  | x :: r => if (tbl.getD i []).contains x.1 then wrapF tbl r i p else fun w => x.2 w ∧ wrapF tbl r i p w
theorem wrapF_elim {tbl : List (List Nat)} {i : Nat} {p : Pred} {w : World} : ∀ {F : List (Nat × Pred)}, wrapF tbl F i p w → factsF tbl F i w ∧ p w
  | [], h => ⟨(fun x hx => absurd hx (List.not_mem_nil)), h⟩
  | x :: r, h => by
    unfold wrapF at h
    split at h
    · rename_i hc
      obtain ⟨h1, h2⟩ := wrapF_elim h
      refine ⟨fun y hy hn => ?_, h2⟩
      rcases List.mem_cons.1 hy with rfl | hy
      · exact absurd (by simpa using hc) hn
      · exact h1 y hy hn
    · obtain ⟨h0, h⟩ := h
      obtain ⟨h1, h2⟩ := wrapF_elim h
      refine ⟨fun y hy hn => ?_, h2⟩
      rcases List.mem_cons.1 hy with rfl | hy
      · exact h0
      · exact h1 y hy hn

def stepD (P : Program) (ops : Array Oper) (tbl : List (List Nat)) (Qp : List PanicEntry → Pred) (i : Nat) (K : Array Bool → List (Nat × Pred) → Fr → Pred) (listed : Array Bool) (F : List (Nat × Pred)) (fr : Fr) : Pred :=
  match ops.toList[i]? with
  | none => fun _ => False
  | some o =>
    if (Region.ready .any ops listed).contains i && Region.free .any ops listed i then
      match guardL ops.toList o fr with
      | some true => match quietC P o (gS fr) (fun v f => K (listed.setIfInBounds i true) (match f with | none => F | some g => (i, g) :: F) (setS fr o.dst v)) with
        | some p => p
        | none => if Region.ready .any ops listed = [i] then effC P o (gS fr) Qp (fun v => wrapF tbl F i (K (listed.setIfInBounds i true) F (setS fr o.dst v))) else fun _ => False
      | some false => K (listed.setIfInBounds i true) F (setS fr o.dst undef)
      | none => fun _ => False
    else fun _ => False
def runD (P : Program) (ops : Array Oper) (tbl : List (List Nat)) (Qp : List PanicEntry → Pred) : List Nat → (Nat → Array Bool → List (Nat × Pred) → Fr → Pred) → Nat → Array Bool → List (Nat × Pred) → Fr → Pred
  | [], K, n, listed, F, fr => K n listed F fr
  | i :: l, K, n + 1, listed, F, fr => stepD P ops tbl Qp i (fun listed F fr => runD P ops tbl Qp l K n listed F fr) listed F fr
  | _ :: _, _, 0, _, _, _ => fun _ => False

/-- What an operation writes to. -/
def dstsOps (ops : List Oper) : List Nat := ops.filterMap (·.dst)

def Good (ds : List Deferred) (S : List Nat) (fr0 : Fr) (K : Exit → Fr → Pred) (Qp : List PanicEntry → Pred) : Exit → Act → World → Prop
  | .panic c, a, w => a.defers = ds ∧ Qp c w
  | .outgrown, _, _ => False
  | e, a, w => ∃ f, a = act f ds ∧ Agr S fr0 f ∧ K e f w

theorem stepD_sound {P : Program} {ops : Array Oper} (hsel : Region.noSelect ops = true) {Qp : List PanicEntry → Pred} {i : Nat} {K : Array Bool → List (Nat × Pred) → Fr → Pred}
    {n : Nat} {listed : Array Bool} {F : List (Nat × Pred)} {fr : Fr} {w : World} {ds : List Deferred} {Q : Exit → Act → World → Prop} (hQ : ∀ c a w, Q (.panic c) a w ↔ a.defers = ds ∧ Qp c w)
    (hd : DC (befL ops.toList []) listed)
    (hK : ∀ listed F f w, DC (befL ops.toList []) listed → (f.length = fr.length ∧ ∀ S fr0, (∀ t ∈ dstsOps ops.toList, t ∈ S) → Agr S fr0 fr → Agr S fr0 f) → K listed F f w → wpG P ops Q (befL ops.toList []) F n listed (act f ds) w)
    (h : stepD P ops (befL ops.toList []) Qp i K listed F fr w) : wpG P ops Q (befL ops.toList []) F (n + 1) listed (act fr ds) w := by
  obtain ⟨p, hp⟩ : ∃ p, stepD P ops (befL ops.toList []) Qp i K listed F fr = p := ⟨_, rfl⟩
  rw [hp] at h
  unfold stepD at hp
  have hQ' : ∀ (oi : Oper) (v : Value) c a w, Q (.panic c) (a.put oi.dst v) w → Q (.panic c) a w := by
    intro oi v c a w h
    rw [hQ] at *
    refine ⟨?_, h.2⟩
    rw [← h.1]
    cases oi.dst <;> rfl
  cases ho : ops.toList[i]? with
  | none => simp only [ho] at hp; subst hp; exact h.elim
  | some o =>
    have ho' : ops[i]? = some o := by simpa using ho
    have hdst : ∀ v, (setS fr o.dst v).length = fr.length ∧ ∀ S fr0, (∀ t ∈ dstsOps ops.toList, t ∈ S) → Agr S fr0 fr → Agr S fr0 (setS fr o.dst v) := by
      intro v
      refine ⟨?_, fun S fr0 hS hA => Agr.setS hA (fun t ht => hS t (List.mem_filterMap.2 ⟨o, List.mem_of_getElem? ho, ht⟩)) v⟩
      cases o.dst <;> simp [setS]
    simp only [ho] at hp
    split at hp
    · rename_i hc
      simp only [Bool.and_eq_true] at hc
      obtain ⟨hr, hfree⟩ := hc
      have hr' : i ∈ Region.ready .any ops listed := by simpa using hr
      have ht := befL_ok ops
      have hd' := DC_set ht hd hr'
      cases hg : guardL ops.toList o fr with
      | none => simp only [hg] at hp; subst hp; exact h.elim
      | some x =>
        have hw := guardL_wanted (ds := ds) hg
        cases x with
        | false =>
          simp only [hg] at hp
          subst hp
          refine wpG_first (v := undef) ho' (Region.noSelect_spec hsel) (hQ' o undef) ht (G := fun _ => True) (F' := F) (fun _ _ h => h) (fun _ _ _ _ => trivial) n listed _ w hd
            (Region.free_spec ho' hfree) hr' (.inr ⟨hw, rfl⟩) trivial ?_
          rw [put_act]
          exact hK _ _ _ _ hd' (hdst _) h
        | true =>
          simp only [hg] at hp
          cases hq : quietC P o (gS fr) (fun v f => K (listed.setIfInBounds i true) (match f with | none => F | some g => (i, g) :: F) (setS fr o.dst v)) with
          | some q =>
            simp only [hq] at hp
            subst hp
            obtain ⟨v, f, hk, hf⟩ := quietC_elim hq h
            rcases hf with ⟨rfl, hrun⟩ | ⟨g, rfl, hg0, hrun⟩
            · refine wpG_first (v := v) ho' (Region.noSelect_spec hsel) (hQ' o v) ht (G := fun _ => True) (F' := F) (fun _ _ h => h) (fun _ _ _ _ => trivial) n listed _ w hd
                (Region.free_spec ho' hfree) hr' (.inl ⟨hw, fun w' _ => by rw [gS_eval]; exact hrun w'⟩) trivial ?_
              rw [put_act]
              exact hK _ _ _ _ hd' (hdst _) hk
            · refine wpG_first (v := v) ho' (Region.noSelect_spec hsel) (hQ' o v) ht (G := g) (F' := (i, g) :: F) (fun j w hf x hx hn => hf x (List.mem_cons_of_mem _ hx) hn)
                (fun j w hn hf => hf (i, g) (List.mem_cons_self ..) hn) n listed _ w hd
                (Region.free_spec ho' hfree) hr' (.inl ⟨hw, fun w' hw' => by rw [gS_eval]; exact hrun w' hw'⟩) hg0 ?_
              rw [put_act]
              exact hK _ _ _ _ hd' (hdst _) hk
          | none =>
            simp only [hq] at hp
            split at hp
            · rename_i hone
              subst hp
              refine ⟨fun h0 => absurd (hone.symm.trans h0) (by simp), fun j hj => ?_⟩
              rw [hone] at hj
              simp only [List.mem_singleton] at hj
              subst hj
              unfold wpOp
              simp only [ho', hw, if_true]
              refine .inl ?_
              rw [← gS_eval fr ds] at h
              refine effC_wp h (fun v w' hk => ?_) (fun c w' hc => (hQ _ _ _).2 ⟨rfl, hc⟩)
              obtain ⟨h1, h2⟩ := wrapF_elim hk
              refine ⟨.inr h1, ?_⟩
              rw [put_act]
              exact hK _ _ _ _ hd' (hdst _) h2
            · subst hp; exact h.elim
    · subst hp; exact h.elim

end Go.Vc
/- The calculus: a function's code, told by a script of the ways through it, as one formula; the formula gives the function's contract. No statement of the seat is proved here. -/
namespace Go.Vc
set_option linter.unusedVariables false
set_option linter.unusedSimpArgs false

inductive Scr
  | nil
  | run (l : List Nat) (k : Scr)
  | split (slot : Nat) (a b : Scr)
  | close (k : Scr)
  | cond (a b : Scr)
  | lit (k : Scr)
  | loop (s : Shp) (k : Scr)
  | cut (s : Shp) (a b : Scr)
  | cutS (s : Shp) (a b : Scr)
  | alt (a b : Scr)
  | splitL (slot : Nat) (more : List Nat) (a b : Scr)

def splitC (fr : Fr) (s : Nat) (x y : Fr → Pred) : Pred :=
  match fr.getD s undef with
  | .bool t => fun w => (t = true → x (fr.set s (.bool true)) w) ∧ (t = false → y (fr.set s (.bool false)) w)
  | _ => fun _ => False

/-- The frame where the slots hold this truth value. -/
def setsB (fr : Fr) (x : Bool) : List Nat → Fr
  | [] => fr
  | e :: r => setsB (fr.set e (.bool x)) x r
def sameB (fr : Fr) (t : Bool) (p : Pred) : List Nat → Pred
  | [] => p
  | e :: r => match fr.getD e undef with
    | .bool u => fun w => u = t ∧ sameB fr t p r w
    | _ => fun _ => False
/-- Slots that hold one truth value are taken apart together. -/
def splitLC (fr : Fr) (s : Nat) (more : List Nat) (x y : Fr → Pred) : Pred :=
  match fr.getD s undef with
  | .bool t => sameB fr t (fun w => (t = true → x (setsB fr true (s :: more)) w) ∧ (t = false → y (setsB fr false (s :: more)) w)) more
  | _ => fun _ => False

/-! ### A region in the text's order -/
def stepU (P : Program) (opsL : List Oper) (o : Oper) (Qp : List PanicEntry → Pred) (K : Fr → Pred) (fr : Fr) : Pred :=
  match guardL opsL o fr with
  | some true => match quietC P o (gS fr) (fun v _ => K (setS fr o.dst v)) with
    | some p => p
    | none => effC P o (gS fr) Qp (fun v => K (setS fr o.dst v))
  | some false => K (setS fr o.dst undef)
  | none => fun _ => False
def runT (P : Program) (opsL : List Oper) (Qp : List PanicEntry → Pred) : List Nat → List Oper → (List Oper → Fr → Pred) → Fr → Pred
  | [], rest, K, fr => K rest fr
  | _ :: l, o :: rest, K, fr => stepU P opsL o Qp (fun fr => runT P opsL Qp l rest K fr) fr
  | _ :: _, [], _, _ => fun _ => False
def regU (P : Program) (opsL : List Oper) (Qp : List PanicEntry → Pred) (K : Scr → Fr → Pred) : Scr → List Oper → Fr → Pred
  | .run l k, rest, fr => runT P opsL Qp l rest (fun rest fr => regU P opsL Qp K k rest fr) fr
  | .split s a b, rest, fr => splitC fr s (regU P opsL Qp K a rest) (regU P opsL Qp K b rest)
  | .splitL s more a b, rest, fr => splitLC fr s more (regU P opsL Qp K a rest) (regU P opsL Qp K b rest)
  | .close k, [], fr => K k fr
  | _, _, _ => fun _ => False
/-! ### A region whose order is drawn -/
/-- One of two effects that may come up now. -/
def effD (P : Program) (ops : Array Oper) (tbl : List (List Nat)) (Qp : List PanicEntry → Pred) (i : Nat) (K : Array Bool → Fr → Pred) (listed : Array Bool) (F : List (Nat × Pred)) (fr : Fr) : Pred :=
  match ops.toList[i]? with
  | none => fun _ => False
  | some o => match guardL ops.toList o fr with
    | some true => effC P o (gS fr) Qp (fun v => wrapF tbl F i (K (listed.setIfInBounds i true) (setS fr o.dst v)))
    | _ => fun _ => False
def regD (P : Program) (ops : Array Oper) (tbl : List (List Nat)) (Qp : List PanicEntry → Pred) (K : Scr → Fr → Pred) : Scr → Nat → Array Bool → List (Nat × Pred) → Fr → Pred
  | .run l k, n, listed, F, fr => runD P ops tbl Qp l (fun n listed F fr => regD P ops tbl Qp K k n listed F fr) n listed F fr
  | .split s a b, n, listed, F, fr => splitC fr s (regD P ops tbl Qp K a n listed F) (regD P ops tbl Qp K b n listed F)
  | .splitL s more a b, n, listed, F, fr => splitLC fr s more (regD P ops tbl Qp K a n listed F) (regD P ops tbl Qp K b n listed F)
  | .alt a b, n + 1, listed, F, fr => match Region.ready .any ops listed with
    | [i, j] => fun w => effD P ops tbl Qp i (fun listed fr => regD P ops tbl Qp K a n listed F fr) listed F fr w ∧ effD P ops tbl Qp j (fun listed fr => regD P ops tbl Qp K b n listed F fr) listed F fr w
    | _ => fun _ => False
  | .close k, 0, listed, _, fr => if Region.ready .any ops listed = [] then K k fr else fun _ => False
  | _, _, _, _, _ => fun _ => False
def drw (p : Pred) : Pred := fun w => p (drewW w)

/-! ### Code -/
def dsts : Code → List Nat
  | .region _ ops _ => dstsOps ops.toList
  | .seq a b => dsts a ++ dsts b
  | .cond _ a b => dsts a ++ dsts b
  | .block _ a => dsts a
  | .loop a => dsts a
  | _ => []
def subS (l : List Nat) (s : Shp) : Bool := l.all fun t => s.any fun x => x.1 == t
def loopC (s : Shp) (B : (Fr → Pred) → Fr → Pred) (fr : Fr) : Pred := fun w => ∃ I : Nat → InvT s, (∃ n, appI s (I n) fr w) ∧
  ∀ (n : Nat) (d : Nat → Value), hv s (I n) fr d fun Iw f => ∀ w', Iw w' → B (fun f' w'' => ∃ m, m < n ∧ appI s (I m) f' w'') f w'
def cutC (s : Shp) (A : (Fr → Pred) → Pred) (B : Fr → Pred) (fr : Fr) : Pred := fun w => ∃ J : InvT s, A (appI s J) w ∧
  ∀ d : Nat → Value, hv s J fr d fun Jw f => ∀ w', Jw w' → B f w'
def condC (v : Value) (x y : Scr → Pred) : Scr → Pred
  | .cond a b => match v with
    | .bool t => fun w => (t = true → x a w) ∧ (t = false → y b w)
    | _ => fun _ => False
  | .lit k => match v with
    | .bool true => x k
    | .bool false => y k
    | _ => fun _ => False
  | _ => fun _ => False
/-- Behind a test the tested slot holds what the test said. -/
def setC (fr : Fr) (c : Operand) (x : Bool) : Fr := match c with
  | .tmp d => fr.set d (.bool x)
  | _ => fr
def seqK (K : Exit → Scr → Fr → Pred) (n : Scr → Fr → Pred) : Exit → Scr → Fr → Pred
  | .normal, s, f => n s f
  | .exit id, s, f => K (.exit id) s f
  | .goto l, s, f => K (.goto l) s f
  | .ret, s, f => K .ret s f
  | .panic c, s, f => K (.panic c) s f
  | .outgrown, s, f => K .outgrown s f
def blockK (id : Nat) (K : Exit → Scr → Fr → Pred) : Exit → Scr → Fr → Pred
  | .normal, s, f => K .normal s f
  | .exit i, s, f => if i = id then K .normal s f else K (.exit i) s f
  | .goto l, s, f => K (.goto l) s f
  | .ret, s, f => K .ret s f
  | .panic c, s, f => K (.panic c) s f
  | .outgrown, s, f => K .outgrown s f

def wpC (P : Program) (Qp : List PanicEntry → Pred) : Code → (Exit → Scr → Fr → Pred) → Scr → Fr → Pred
  | .skip, K, s, fr => K .normal s fr
  | .region _ ops false, K, s, fr => regU P ops.toList Qp (K .normal) s ops.toList fr
  | .region _ ops true, K, s, fr => if P.follows .mixedOrders && Region.noSelect ops then
      drw (regD P ops (befL ops.toList []) Qp (K .normal) s ops.toList.length (Array.replicate ops.size false) [] fr) else fun _ => False
  | .seq a b, K, s, fr => match s with
    | .cutS sh sa sb => if subS (dsts a) sh then
        cutC sh (fun J => wpC P Qp a (seqK K fun _ f => J f) sa fr) (fun f => wpC P Qp b K sb f) fr else fun _ => False
    | s => wpC P Qp a (seqK K (fun s f => wpC P Qp b K s f)) s fr
  | .cond c x y, K, s, fr => match s with
    | .cut sh sa sb => if subS (dsts x ++ dsts y) sh then
        cutC sh (fun J => condC (gS fr c) (fun s => wpC P Qp x (seqK K fun _ f => J f) s (setC fr c true)) (fun s => wpC P Qp y (seqK K fun _ f => J f) s (setC fr c false)) sa) (fun f => K .normal sb f) fr else fun _ => False
    | s => condC (gS fr c) (fun s => wpC P Qp x K s (setC fr c true)) (fun s => wpC P Qp y K s (setC fr c false)) s
  | .block id a, K, s, fr => match s with
    | .cut sh sa sb => if subS (dsts a) sh then
        cutC sh (fun J => wpC P Qp a (blockK id (seqK K fun _ f => J f)) sa fr) (fun f => K .normal sb f) fr else fun _ => False
    | s => wpC P Qp a (blockK id K) s fr
  | .loop a, K, s, fr => match s with
    | .loop sh k => if subS (dsts a) sh then loopC sh (fun N f => wpC P Qp a (seqK K fun _ f => N f) k f) fr else fun _ => False
    | _ => fun _ => False
  | .exit id, K, s, fr => K (.exit id) s fr
  | .ret, K, s, fr => K .ret s fr
  | .label _, K, s, fr => K .normal s fr
  | _, _, _, _ => fun _ => False

/-! ### Soundness -/
def KS (K : Exit → Scr → Fr → Pred) : Exit → Fr → Pred := fun e f w => ∃ s, K e s f w

theorem set_same {fr : Fr} {s : Nat} {t : Bool} (hv : fr.getD s undef = .bool t) : fr.set s (.bool t) = fr := by
  refine List.ext_getElem (by simp) fun i h1 h2 => ?_
  rw [List.getElem_set]
  split
  · rename_i hi
    subst hi
    have : fr[s]? = some fr[s] := List.getElem?_eq_getElem h2
    rw [List.getD_eq_getElem?_getD, this] at hv
    exact hv.symm
  · rfl
theorem sameB_elim {fr : Fr} {t : Bool} {p : Pred} {w : World} : ∀ {l : List Nat}, sameB fr t p l w → p w ∧ setsB fr t l = fr
  | [], h => ⟨h, rfl⟩
  | e :: r, h => by
    obtain ⟨q, hq⟩ : ∃ q, sameB fr t p (e :: r) = q := ⟨_, rfl⟩
    rw [hq] at h
    unfold sameB at hq
    cases hv : fr.getD e undef with
    | bool u =>
      simp only [hv] at hq
      subst hq
      obtain ⟨rfl, h⟩ := h
      obtain ⟨h1, h2⟩ := sameB_elim h
      exact ⟨h1, by simp only [setsB, set_same hv]; exact h2⟩
    | _ => simp only [hv] at hq; subst hq; exact h.elim
theorem splitLC_elim {fr : Fr} {s : Nat} {more : List Nat} {x y : Fr → Pred} {w : World} (h : splitLC fr s more x y w) : x fr w ∨ y fr w := by
  obtain ⟨q, hq⟩ : ∃ q, splitLC fr s more x y = q := ⟨_, rfl⟩
  rw [hq] at h
  unfold splitLC at hq
  cases hv : fr.getD s undef with
  | bool t =>
    simp only [hv] at hq
    subst hq
    obtain ⟨h1, h2⟩ := sameB_elim h
    have he : setsB fr t (s :: more) = fr := by simp only [setsB, set_same hv]; exact h2
    cases t with
    | true => exact .inl (by have := h1.1 rfl; rwa [he] at this)
    | false => exact .inr (by have := h1.2 rfl; rwa [he] at this)
  | _ => simp only [hv] at hq; subst hq; exact h.elim
theorem splitC_elim {fr : Fr} {s : Nat} {x y : Fr → Pred} {w : World} (h : splitC fr s x y w) : x fr w ∨ y fr w := by
  unfold splitC at h
  cases hv : fr.getD s undef with
  | bool t =>
    simp only [hv] at h
    have he : fr.set s (.bool t) = fr := by
      refine List.ext_getElem (by simp) fun i h1 h2 => ?_
      rw [List.getElem_set]
      split
      · rename_i hi
        subst hi
        have : fr[s]? = some fr[s] := List.getElem?_eq_getElem h2
        rw [List.getD_eq_getElem?_getD, this] at hv
        exact hv.symm
      · rfl
    cases t with
    | true => exact .inl (by have := h.1 rfl; rwa [he] at this)
    | false => exact .inr (by have := h.2 rfl; rwa [he] at this)
  | _ => simp only [hv] at h

theorem stepU_sound {P : Program} {ops : Array Oper} {o : Oper} {Qp : List PanicEntry → Pred} {K : Fr → Pred} {fr : Fr} {w : World} {ds : List Deferred} {Q : Exit → Act → World → Prop} {rest : List Oper}
    (hQ : ∀ c a w, a.defers = ds → Qp c w → Q (.panic c) a w)
    (hK : ∀ v w, K (setS fr o.dst v) w → wpList P ops Q rest (act (setS fr o.dst v) ds) w)
    (h : stepU P ops.toList o Qp K fr w) : wpList P ops Q (o :: rest) (act fr ds) w := by
  obtain ⟨p, hp⟩ : ∃ p, stepU P ops.toList o Qp K fr = p := ⟨_, rfl⟩
  rw [hp] at h
  unfold stepU at hp
  unfold wpList
  cases hg : guardL ops.toList o fr with
  | none => simp only [hg] at hp; subst hp; exact h.elim
  | some x =>
    have hw := guardL_wanted (ds := ds) hg
    rw [hw]
    cases x with
    | false =>
      simp only [hg] at hp
      subst hp
      simp only [Bool.false_eq_true, if_false]
      rw [put_act]
      exact hK _ _ h
    | true =>
      simp only [hg] at hp
      simp only [if_true]
      refine .inl ?_
      cases hq : quietC P o (gS fr) (fun v _ => K (setS fr o.dst v)) with
      | some q =>
        simp only [hq] at hp
        subst hp
        obtain ⟨v, f, hk, hf⟩ := quietC_elim hq h
        have hrun : (execOp (act fr ds).eval o).run P w = .ok (.value v) w := by
          rw [gS_eval]
          rcases hf with ⟨_, hrun⟩ | ⟨g, _, hg0, hrun⟩
          · exact hrun w
          · exact hrun w hg0
        refine run_value hrun ?_
        rw [put_act]
        exact hK _ _ hk
      | none =>
        simp only [hq] at hp
        subst hp
        rw [← gS_eval fr ds] at h
        refine effC_wp h (fun v w' hk => ?_) (fun c w' hc => hQ _ _ _ rfl hc)
        rw [put_act]
        exact hK _ _ hk

theorem regU_sound {P : Program} {ops : Array Oper} {Qp : List PanicEntry → Pred} {K : Scr → Fr → Pred} {ds : List Deferred} {Q : Exit → Act → World → Prop} {fr0 : Fr} {S : List Nat}
    (hQ : ∀ c a w, a.defers = ds → Qp c w → Q (.panic c) a w) (hN : ∀ s f w, Agr S fr0 f → K s f w → Q .normal (act f ds) w) :
    ∀ (s : Scr) (rest : List Oper) (fr : Fr) (w : World), (∀ o ∈ rest, ∀ t, o.dst = some t → t ∈ S) → Agr S fr0 fr → regU P ops.toList Qp K s rest fr w → wpList P ops Q rest (act fr ds) w := by
  intro s
  induction s with
  | run l k ih =>
    intro rest fr w hS hA h
    simp only [regU] at h
    induction l generalizing rest fr w with
    | nil => exact ih rest fr w hS hA h
    | cons i l ihl =>
      cases rest with
      | nil => exact h.elim
      | cons o rest =>
        refine stepU_sound hQ (fun v w' hk => ihl rest _ w' (fun o' ho' => hS o' (List.mem_cons_of_mem _ ho')) (Agr.setS hA (hS o (List.mem_cons_self ..)) v) hk) h
  | split sl a b iha ihb =>
    intro rest fr w hS hA h
    rcases splitC_elim h with h | h
    · exact iha rest fr w hS hA h
    · exact ihb rest fr w hS hA h
  | splitL sl more a b iha ihb =>
    intro rest fr w hS hA h
    rcases splitLC_elim h with h | h
    · exact iha rest fr w hS hA h
    · exact ihb rest fr w hS hA h
  | close k _ =>
    intro rest fr w hS hA h
    cases rest with
    | nil => exact wpList_nil (hN k fr w hA h)
    | cons o r => exact h.elim
  | nil => intro rest fr w hS hA h; cases rest <;> exact h.elim
  | cond a b _ _ => intro rest fr w hS hA h; cases rest <;> exact h.elim
  | lit k _ => intro rest fr w hS hA h; cases rest <;> exact h.elim
  | loop s k _ => intro rest fr w hS hA h; cases rest <;> exact h.elim
  | cut s a b _ _ => intro rest fr w hS hA h; cases rest <;> exact h.elim
  | cutS s a b _ _ => intro rest fr w hS hA h; cases rest <;> exact h.elim
  | alt a b _ _ => intro rest fr w hS hA h; cases rest <;> exact h.elim

theorem effD_sound {P : Program} {ops : Array Oper} {Qp : List PanicEntry → Pred} {i : Nat} {K : Array Bool → Fr → Pred}
    {n : Nat} {listed : Array Bool} {F : List (Nat × Pred)} {fr : Fr} {w : World} {ds : List Deferred} {Q : Exit → Act → World → Prop} (hQ : ∀ c a w, Q (.panic c) a w ↔ a.defers = ds ∧ Qp c w)
    (hK : ∀ f w, (f.length = fr.length ∧ ∀ S fr0, (∀ t ∈ dstsOps ops.toList, t ∈ S) → Agr S fr0 fr → Agr S fr0 f) → K (listed.setIfInBounds i true) f w → wpG P ops Q (befL ops.toList []) F n (listed.setIfInBounds i true) (act f ds) w)
    (h : effD P ops (befL ops.toList []) Qp i K listed F fr w) :
    wpOp P ops Q i (fun a' w' => (w' = w ∨ factsF (befL ops.toList []) F i w') ∧ wpG P ops Q (befL ops.toList []) F n (listed.setIfInBounds i true) a' w') (act fr ds) w := by
  obtain ⟨p, hp⟩ : ∃ p, effD P ops (befL ops.toList []) Qp i K listed F fr = p := ⟨_, rfl⟩
  rw [hp] at h
  unfold effD at hp
  cases ho : ops.toList[i]? with
  | none => simp only [ho] at hp; subst hp; exact h.elim
  | some o =>
    have ho' : ops[i]? = some o := by simpa using ho
    have hdst : ∀ v, (setS fr o.dst v).length = fr.length ∧ ∀ S fr0, (∀ t ∈ dstsOps ops.toList, t ∈ S) → Agr S fr0 fr → Agr S fr0 (setS fr o.dst v) := by
      intro v
      refine ⟨?_, fun S fr0 hS hA => Agr.setS hA (fun t ht => hS t (List.mem_filterMap.2 ⟨o, List.mem_of_getElem? ho, ht⟩)) v⟩
      cases o.dst <;> simp [setS]
    simp only [ho] at hp
    cases hg : guardL ops.toList o fr with
    | none => simp only [hg] at hp; subst hp; exact h.elim
    | some x =>
      have hw := guardL_wanted (ds := ds) hg
      cases x with
      | false => simp only [hg] at hp; subst hp; exact h.elim
      | true =>
        simp only [hg] at hp
        subst hp
        unfold wpOp
        simp only [ho', hw, if_true]
        refine .inl ?_
        rw [← gS_eval fr ds] at h
        refine effC_wp h (fun v w' hk => ?_) (fun c w' hc => (hQ _ _ _).2 ⟨rfl, hc⟩)
        obtain ⟨h1, h2⟩ := wrapF_elim hk
        refine ⟨.inr h1, ?_⟩
        rw [put_act]
        exact hK _ _ (hdst _) h2

theorem regD_sound {P : Program} {ops : Array Oper} (hsel : Region.noSelect ops = true) {Qp : List PanicEntry → Pred} {K : Scr → Fr → Pred} {ds : List Deferred} {Q : Exit → Act → World → Prop} {fr0 : Fr} {S : List Nat}
    (hQ : ∀ c a w, Q (.panic c) a w ↔ a.defers = ds ∧ Qp c w) (hN : ∀ s f w, Agr S fr0 f → K s f w → Q .normal (act f ds) w) (hS : ∀ t ∈ dstsOps ops.toList, t ∈ S) :
    ∀ (s : Scr) (n : Nat) (listed : Array Bool) (F : List (Nat × Pred)) (fr : Fr) (w : World), DC (befL ops.toList []) listed → Agr S fr0 fr →
      regD P ops (befL ops.toList []) Qp K s n listed F fr w → wpG P ops Q (befL ops.toList []) F n listed (act fr ds) w := by
  intro s
  induction s with
  | run l k ih =>
    intro n listed F fr w hd hA h
    simp only [regD] at h
    induction l generalizing n listed F fr w with
    | nil => exact ih n listed F fr w hd hA h
    | cons i l ihl =>
      cases n with
      | zero => exact h.elim
      | succ n =>
        refine stepD_sound hsel hQ hd (fun listed' F' f w' hd' hf hk => ?_) h
        exact ihl n listed' F' f w' hd' (hf.2 S fr0 hS hA) hk
  | split sl a b iha ihb =>
    intro n listed F fr w hd hA h
    rcases splitC_elim h with h | h
    · exact iha n listed F fr w hd hA h
    · exact ihb n listed F fr w hd hA h
  | splitL sl more a b iha ihb =>
    intro n listed F fr w hd hA h
    rcases splitLC_elim h with h | h
    · exact iha n listed F fr w hd hA h
    · exact ihb n listed F fr w hd hA h
  | close k _ =>
    intro n listed F fr w hd hA h
    cases n with
    | succ n => exact h.elim
    | zero =>
      obtain ⟨p, hp⟩ : ∃ p, regD P ops (befL ops.toList []) Qp K (.close k) 0 listed F fr = p := ⟨_, rfl⟩
      rw [hp] at h
      simp only [regD] at hp
      split at hp
      · rename_i hr
        subst hp
        exact ⟨hr, hN k fr w hA h⟩
      · subst hp; exact h.elim
  | nil => intro n listed F fr w hd hA h; cases n <;> exact h.elim
  | cond a b _ _ => intro n listed F fr w hd hA h; cases n <;> exact h.elim
  | lit k _ => intro n listed F fr w hd hA h; cases n <;> exact h.elim
  | loop s k _ => intro n listed F fr w hd hA h; cases n <;> exact h.elim
  | cut s a b _ _ => intro n listed F fr w hd hA h; cases n <;> exact h.elim
  | cutS s a b _ _ => intro n listed F fr w hd hA h; cases n <;> exact h.elim
  | alt a b iha ihb =>
    intro n listed F fr w hd hA h
    cases n with
    | zero => exact h.elim
    | succ n =>
      obtain ⟨p, hp⟩ : ∃ p, regD P ops (befL ops.toList []) Qp K (.alt a b) (n + 1) listed F fr = p := ⟨_, rfl⟩
      rw [hp] at h
      simp only [regD] at hp
      split at hp
      · rename_i i j hr
        subst hp
        have ht := befL_ok ops
        refine ⟨fun h0 => absurd (hr.symm.trans h0) (by simp), fun k hk => ?_⟩
        have hk' := hk
        rw [hr] at hk'
        rcases List.mem_cons.1 hk' with rfl | hk'
        · exact effD_sound hQ (fun f w hf hk => iha n _ F f w (DC_set ht hd (by rw [hr]; simp)) (hf.2 S fr0 hS hA) hk) h.1
        · simp only [List.mem_singleton] at hk'
          subst hk'
          exact effD_sound hQ (fun f w hf hk => ihb n _ F f w (DC_set ht hd (by rw [hr]; simp)) (hf.2 S fr0 hS hA) hk) h.2
      · subst hp; exact h.elim

theorem wpC_region {P : Program} {Qp : List PanicEntry → Pred} {id : Nat} {ops : Array Oper} {K : Exit → Scr → Fr → Pred} {s : Scr} {x : Bool} {fr : Fr} {ds : List Deferred} {w : World}
    (h : wpC P Qp (.region id ops x) K s fr w) : (Code.region id ops x).wp P (Good ds (dstsOps ops.toList) fr (KS K) Qp) (act fr ds) w := by
  have hmem : ∀ o ∈ ops.toList, ∀ t, o.dst = some t → t ∈ dstsOps ops.toList := fun o ho t ht => List.mem_filterMap.2 ⟨o, ho, ht⟩
  cases x with
  | false =>
    refine wp_region_list ?_
    exact regU_sound (S := dstsOps ops.toList) (fr0 := fr) (fun c a w hd hq => ⟨hd, hq⟩) (fun s f w hA hk => ⟨f, rfl, hA, s, hk⟩) s ops.toList fr w hmem (Agr.refl _ _) h
  | true =>
    obtain ⟨p, hp⟩ : ∃ p, wpC P Qp (.region id ops true) K s fr = p := ⟨_, rfl⟩
    rw [hp] at h
    simp only [wpC] at hp
    split at hp
    · rename_i hc
      simp only [Bool.and_eq_true] at hc
      subst hp
      refine wp_region_any hc.1 (wpG_any _ _ _ _ (F := []) (tbl := befL ops.toList []) ?_)
      have := regD_sound (S := dstsOps ops.toList) (fr0 := fr) (ds := ds) (Q := Good ds (dstsOps ops.toList) fr (KS K) Qp) hc.2 (fun c a w => Iff.rfl) (fun s f w hA hk => ⟨f, rfl, hA, s, hk⟩) (fun t ht => ht) s _ _ _ fr _ (DC_none _) (Agr.refl _ _) h
      have e : ops.toList.length = ops.size := by simp
      rw [e] at this
      exact this
    · subst hp; exact h.elim

theorem Good.mono {ds : List Deferred} {S T : List Nat} {fr fr' : Fr} {K K' : Exit → Fr → Pred} {Qp : List PanicEntry → Pred} (hs : ∀ t ∈ S, t ∈ T) (hA : Agr T fr' fr)
    (hk : ∀ e f w, Agr T fr' f → K e f w → K' e f w) {e : Exit} {a : Act} {w : World} (h : Good ds S fr K Qp e a w) : Good ds T fr' K' Qp e a w := by
  cases e with
  | panic c => exact h
  | outgrown => exact h.elim
  | _ => obtain ⟨f, h1, h2, h3⟩ := h; exact ⟨f, h1, hA.trans (h2.mono hs), hk _ _ _ (hA.trans (h2.mono hs)) h3⟩

theorem condC_elim {v : Value} {x y : Scr → Pred} {s : Scr} {w : World} (h : condC v x y s w) : ∃ t : Bool, v = .bool t ∧ ((t = true ∧ ∃ k, x k w) ∨ (t = false ∧ ∃ k, y k w)) := by
  obtain ⟨p, hp⟩ : ∃ p, condC v x y s = p := ⟨_, rfl⟩
  rw [hp] at h
  unfold condC at hp
  split at hp
  · rename_i a b
    cases v with
    | bool t =>
      simp only at hp
      subst hp
      cases t with
      | true => exact ⟨true, rfl, .inl ⟨rfl, a, h.1 rfl⟩⟩
      | false => exact ⟨false, rfl, .inr ⟨rfl, b, h.2 rfl⟩⟩
    | _ => subst hp; exact h.elim
  · rename_i k
    cases v with
    | bool t =>
      cases t with
      | true => simp only at hp; subst hp; exact ⟨true, rfl, .inl ⟨rfl, k, h⟩⟩
      | false => simp only at hp; subst hp; exact ⟨false, rfl, .inr ⟨rfl, k, h⟩⟩
    | _ => subst hp; exact h.elim
  · subst hp; exact h.elim

theorem subS_mem {l : List Nat} {s : Shp} (h : subS l s = true) : ∀ t ∈ l, t ∈ s.map (·.1) := by
  intro t ht
  have := List.all_eq_true.1 h t ht
  obtain ⟨x, hx, he⟩ := List.any_eq_true.1 this
  exact List.mem_map.2 ⟨x, hx, by simpa using he⟩

theorem cutC_sound {P : Program} {Qp : List PanicEntry → Pred} {sh : Shp} {A : (Fr → Pred) → Pred} {B : Fr → Pred} {fr : Fr} {w : World} {ds : List Deferred} {S : List Nat} {K : Exit → Fr → Pred} {c : Code}
    (hs : subS S sh = true)
    (hA : ∀ J : Fr → Pred, A J w → c.wp P (Good ds S fr (fun e f w => match e with | .normal => J f w | e => K e f w) Qp) (act fr ds) w)
    (hB : ∀ f w, B f w → K .normal f w) (h : cutC sh A B fr w) : c.wp P (Good ds S fr K Qp) (act fr ds) w := by
  obtain ⟨J, h1, h2⟩ := h
  refine wp_mono (hA _ h1) fun e a w' hg => ?_
  cases e with
  | normal =>
    obtain ⟨f, h3, h4, h5⟩ := hg
    refine ⟨f, h3, h4, ?_⟩
    obtain ⟨Iw, h6, h7⟩ := hv_elim sh J fr f _ w' (h2 fun t => f.getD t undef) h5
    rw [fillS_eq h4 (subS_mem hs)] at h7
    exact hB _ _ (h7 w' h6)
  | panic c => exact hg
  | outgrown => exact hg
  | exit i => exact hg
  | goto l => exact hg
  | ret => exact hg

theorem wpC_sound {P : Program} {Qp : List PanicEntry → Pred} {ds : List Deferred} : ∀ (c : Code) (K : Exit → Scr → Fr → Pred) (s : Scr) (fr : Fr) (w : World),
    wpC P Qp c K s fr w → c.wp P (Good ds (dsts c) fr (KS K) Qp) (act fr ds) w := by
  intro c
  induction c with
  | skip => intro K s fr w h; exact wp_skip ⟨fr, rfl, Agr.refl _ _, s, h⟩
  | region id ops x => intro K s fr w h; exact wpC_region h
  | seq a b iha ihb =>
    have hsub : ∀ t ∈ dsts a, t ∈ dsts (.seq a b) := fun t ht => List.mem_append_left _ ht
    have key : ∀ (K : Exit → Scr → Fr → Pred) (s : Scr) (fr : Fr) (w : World), wpC P Qp a (seqK K (fun s f => wpC P Qp b K s f)) s fr w →
        (Code.seq a b).wp P (Good ds (dsts (.seq a b)) fr (KS K) Qp) (act fr ds) w := by
      intro K s fr w h
      refine wp_seq (wp_mono (iha _ _ _ _ h) fun e a' w' hg => ?_)
      cases e with
      | normal =>
        obtain ⟨f, rfl, h2, s', h3⟩ := hg
        refine wp_mono (ihb K s' f w' h3) fun e a'' w'' hg' => ?_
        exact Good.mono (fun t ht => List.mem_append_right _ ht) (h2.mono hsub) (fun e f w _ h => h) hg'
      | panic c => exact hg
      | outgrown => exact hg
      | exit i => exact Good.mono (K := KS K) (Qp := Qp) hsub (Agr.refl _ _) (fun e f w _ h => h) (e := .exit i) hg
      | goto l => exact Good.mono (K := KS K) (Qp := Qp) hsub (Agr.refl _ _) (fun e f w _ h => h) (e := .goto l) hg
      | ret => exact Good.mono (K := KS K) (Qp := Qp) hsub (Agr.refl _ _) (fun e f w _ h => h) (e := .ret) hg
    intro K s fr w h
    cases s with
    | cutS sh sa sb =>
      obtain ⟨p, hp⟩ : ∃ p, wpC P Qp (.seq a b) K (.cutS sh sa sb) fr = p := ⟨_, rfl⟩
      rw [hp] at h
      simp only [wpC] at hp
      split at hp
      · rename_i hs
        subst hp
        have h1 : a.wp P (Good ds (dsts a) fr (fun e f w => match e with | .normal => wpC P Qp b K sb f w | e => KS K e f w) Qp) (act fr ds) w := by
          refine cutC_sound hs (fun J hJ => ?_) (fun f w h => h) h
          refine wp_mono (iha _ _ _ _ hJ) fun e a w hg => Good.mono (fun t h => h) (Agr.refl _ _) (fun e f w _ h => ?_) hg
          cases e with
          | normal => obtain ⟨s, h⟩ := h; exact h
          | _ => exact h
        refine wp_seq (wp_mono h1 fun e a' w' hg => ?_)
        cases e with
        | normal =>
          obtain ⟨f, rfl, h2, h3⟩ := hg
          refine wp_mono (ihb K sb f w' h3) fun e a'' w'' hg' => ?_
          exact Good.mono (fun t ht => List.mem_append_right _ ht) (h2.mono hsub) (fun e f w _ h => h) hg'
        | panic c => exact hg
        | outgrown => exact hg
        | exit i =>
          obtain ⟨f, h2, h3, h4⟩ := hg
          exact Good.mono (K := KS K) (Qp := Qp) hsub (Agr.refl _ _) (fun e f w _ h => h) (e := .exit i) ⟨f, h2, h3, h4⟩
        | goto l =>
          obtain ⟨f, h2, h3, h4⟩ := hg
          exact Good.mono (K := KS K) (Qp := Qp) hsub (Agr.refl _ _) (fun e f w _ h => h) (e := .goto l) ⟨f, h2, h3, h4⟩
        | ret =>
          obtain ⟨f, h2, h3, h4⟩ := hg
          exact Good.mono (K := KS K) (Qp := Qp) hsub (Agr.refl _ _) (fun e f w _ h => h) (e := .ret) ⟨f, h2, h3, h4⟩
      · subst hp; exact h.elim
    | nil => exact key K .nil fr w h
    | cut sh a b => exact key K (.cut sh a b) fr w h
    | run l k => exact key K (.run l k) fr w h
    | split n b1 b2 => exact key K (.split n b1 b2) fr w h
    | close k => exact key K (.close k) fr w h
    | cond a b => exact key K (.cond a b) fr w h
    | lit k => exact key K (.lit k) fr w h
    | loop a b => exact key K (.loop a b) fr w h
    | alt a b => exact key K (.alt a b) fr w h
    | splitL n l b1 b2 => exact key K (.splitL n l b1 b2) fr w h
  | cond c x y ihx ihy =>
    have hx : ∀ t ∈ dsts x, t ∈ dsts (.cond c x y) := fun t ht => List.mem_append_left _ ht
    have hy : ∀ t ∈ dsts y, t ∈ dsts (.cond c x y) := fun t ht => List.mem_append_right _ ht
    have key : ∀ (K : Exit → Scr → Fr → Pred) (s : Scr) (fr : Fr) (w : World), condC (gS fr c) (fun s => wpC P Qp x K s (setC fr c true)) (fun s => wpC P Qp y K s (setC fr c false)) s w →
        (Code.cond c x y).wp P (Good ds (dsts (.cond c x y)) fr (KS K) Qp) (act fr ds) w := by
      intro K s fr w h
      obtain ⟨t, hc, h⟩ := condC_elim h
      have hc' : (act fr ds).eval c = .bool t := by rw [gS_eval]; exact hc
      have hset : setC fr c t = fr := by
        cases c with
        | tmp d => exact set_same hc
        | _ => rfl
      rcases h with ⟨rfl, k, h⟩ | ⟨rfl, k, h⟩ <;> rw [hset] at h
      · exact wp_cond_true hc' (wp_mono (ihx K k fr w h) fun e a w hg => Good.mono hx (Agr.refl _ _) (fun _ _ _ _ h => h) hg)
      · exact wp_cond_false hc' (wp_mono (ihy K k fr w h) fun e a w hg => Good.mono hy (Agr.refl _ _) (fun _ _ _ _ h => h) hg)
    intro K s fr w h
    cases s with
    | cut sh sa sb =>
      obtain ⟨p, hp⟩ : ∃ p, wpC P Qp (.cond c x y) K (.cut sh sa sb) fr = p := ⟨_, rfl⟩
      rw [hp] at h
      simp only [wpC] at hp
      split at hp
      · rename_i hs
        subst hp
        refine cutC_sound hs (fun J hJ => ?_) (fun f w h => ⟨sb, h⟩) h
        refine wp_mono (key _ _ _ _ hJ) fun e a w hg => Good.mono (fun t h => h) (Agr.refl _ _) (fun e f w _ h => ?_) hg
        cases e with
        | normal => obtain ⟨s, h⟩ := h; exact h
        | _ => exact h
      · subst hp; exact h.elim
    | cutS sh a b => exact key K (.cutS sh a b) fr w h
    | nil => exact key K .nil fr w h
    | run l k => exact key K (.run l k) fr w h
    | split n b1 b2 => exact key K (.split n b1 b2) fr w h
    | close k => exact key K (.close k) fr w h
    | cond a b => exact key K (.cond a b) fr w h
    | lit k => exact key K (.lit k) fr w h
    | loop a b => exact key K (.loop a b) fr w h
    | alt a b => exact key K (.alt a b) fr w h
    | splitL n l b1 b2 => exact key K (.splitL n l b1 b2) fr w h
  | block id a ih =>
    have key : ∀ (K : Exit → Scr → Fr → Pred) (s : Scr) (fr : Fr) (w : World), wpC P Qp a (blockK id K) s fr w →
        (Code.block id a).wp P (Good ds (dsts a) fr (KS K) Qp) (act fr ds) w := by
      intro K s fr w h
      refine wp_block (wp_mono (ih _ _ _ _ h) fun e a' w' hg => ?_)
      cases e with
      | normal => exact hg
      | panic c => exact hg
      | outgrown => exact hg
      | exit i =>
        obtain ⟨f, h1, h2, s', h3⟩ := hg
        simp only [Exit.inBlock]
        obtain ⟨p, hp⟩ : ∃ p, blockK id K (.exit i) s' f = p := ⟨_, rfl⟩
        rw [hp] at h3
        simp only [blockK] at hp
        split
        · rename_i hi
          rw [if_pos hi] at hp
          subst hp
          exact ⟨f, h1, h2, s', h3⟩
        · rename_i hi
          rw [if_neg hi] at hp
          subst hp
          exact ⟨f, h1, h2, s', h3⟩
      | goto l => exact hg
      | ret => exact hg
    intro K s fr w h
    cases s with
    | cut sh sa sb =>
      obtain ⟨p, hp⟩ : ∃ p, wpC P Qp (.block id a) K (.cut sh sa sb) fr = p := ⟨_, rfl⟩
      rw [hp] at h
      simp only [wpC] at hp
      split at hp
      · rename_i hs
        subst hp
        refine cutC_sound hs (fun J hJ => ?_) (fun f w h => ⟨sb, h⟩) h
        refine wp_mono (key _ _ _ _ hJ) fun e a w hg => Good.mono (fun t h => h) (Agr.refl _ _) (fun e f w _ h => ?_) hg
        cases e with
        | normal => obtain ⟨s, h⟩ := h; exact h
        | _ => exact h
      · subst hp; exact h.elim
    | cutS sh a b => exact key K (.cutS sh a b) fr w h
    | nil => exact key K .nil fr w h
    | run l k => exact key K (.run l k) fr w h
    | split n b1 b2 => exact key K (.split n b1 b2) fr w h
    | close k => exact key K (.close k) fr w h
    | cond a b => exact key K (.cond a b) fr w h
    | lit k => exact key K (.lit k) fr w h
    | loop a b => exact key K (.loop a b) fr w h
    | alt a b => exact key K (.alt a b) fr w h
    | splitL n l b1 b2 => exact key K (.splitL n l b1 b2) fr w h
  | loop a ih =>
    intro K s fr w h
    obtain ⟨p, hp⟩ : ∃ p, wpC P Qp (.loop a) K s fr = p := ⟨_, rfl⟩
    rw [hp] at h
    cases s with
    | loop sh k =>
      simp only [wpC] at hp
      split at hp
      · rename_i hs
        subst hp
        obtain ⟨I, ⟨n0, h0⟩, hround⟩ := h
        refine wp_loop_ghost (fun n a' w' => ∃ f, a' = act f ds ∧ Agr (dsts a) fr f ∧ appI sh (I n) f w') n0 ⟨fr, rfl, Agr.refl _ _, h0⟩ ?_
        rintro n a' w' ⟨f, rfl, hA, hi⟩
        obtain ⟨Iw, h1, h2⟩ := hv_elim sh (I n) fr f _ w' (hround n fun t => f.getD t undef) hi
        rw [fillS_eq hA (subS_mem hs)] at h2
        refine wp_mono (ih _ _ _ _ (h2 w' h1)) fun e a'' w'' hg => ?_
        cases e with
        | normal =>
          obtain ⟨f', h3, h4, s', m, h5, h6⟩ := hg
          exact ⟨m, h5, f', h3, hA.trans h4, h6⟩
        | panic c => exact hg
        | outgrown => exact hg
        | exit i => exact Good.mono (K := KS K) (Qp := Qp) (fun t h => h) hA (fun e f w _ h => h) (e := .exit i) hg
        | goto l => exact Good.mono (K := KS K) (Qp := Qp) (fun t h => h) hA (fun e f w _ h => h) (e := .goto l) hg
        | ret => exact Good.mono (K := KS K) (Qp := Qp) (fun t h => h) hA (fun e f w _ h => h) (e := .ret) hg
      · subst hp; exact h.elim
    | _ => simp only [wpC] at hp; subst hp; exact h.elim
  | exit id => intro K s fr w h; exact wp_exit ⟨fr, rfl, Agr.refl _ _, s, h⟩
  | ret => intro K s fr w h; exact wp_ret ⟨fr, rfl, Agr.refl _ _, s, h⟩
  | label l => intro K s fr w h; exact wp_label ⟨fr, rfl, Agr.refl _ _, s, h⟩
  | rangeFunc f params assign body _ _ => intro K s fr w h; exact h.elim
  | scope b _ => intro K s fr w h; exact h.elim
  | goto l => intro K s fr w h; exact h.elim
  | refuse why => intro K s fr w h; exact h.elim

/-! ### A function -/
/-- What a function hands back: from its temporaries, or out of a variable in memory. -/
def resV (P : Program) (fr : Fr) (r : ResultVar) (K : Value → Pred) : Pred :=
  match r with
  | .tmp t => K (fr.getD t undef)
  | .cell a t => match fr.getD a undef, shOf P t, aggP P t, sizeP P t with
    | .pointer (some ⟨b, o, none⟩), some s, some x, some n => if okS s x n then ldS s n b o fun v _ => K v else fun _ => False
    | _, _, _, _ => fun _ => False
def retC (P : Program) (rs : List ResultVar) (fr : Fr) (R : Ending → World → Prop) : Pred :=
  match rs with
  | [] => fun w => R (.returned (.tuple #[])) w
  | [r] => resV P fr r fun v w => R (.returned v) w
  | [r, s] => resV P fr r fun v => resV P fr s fun u w => R (.returned (.tuple #[v, u])) w
  | _ => fun _ => False
def resS (tmps : Array Value) : ResultVar → Sem Value
  | .tmp t => pure (tmps.getD t undef)
  | .cell a t => do loadVar t (← asAddr (tmps.getD a undef))
theorem results_eq (fn : Func) (tmps : Array Value) : results fn tmps = ((List.toArray <$> fn.results.toList.mapM (resS tmps)) >>= fun vs => pure (if h : vs.size = 1 then vs[0] else .tuple vs)) := by
  unfold results
  rw [← Array.mapM_eq_mapM_toList]
  refine congrArg (fun f : ResultVar → Sem Value => (fn.results.mapM f >>= fun vs => pure (if h : vs.size = 1 then vs[0] else .tuple vs))) ?_
  funext r
  cases r <;> rfl
theorem resV_run {P : Program} {fr : Fr} {r : ResultVar} {K : Value → Pred} {w : World} (h : resV P fr r K w) :
    ∃ v, K v w ∧ (resS fr.toArray r).run P w = .ok v w := by
  cases r with
  | tmp t => exact ⟨_, h, by simp [resS]⟩
  | cell a t =>
    obtain ⟨p, hp⟩ : ∃ p, resV P fr (.cell a t) K = p := ⟨_, rfl⟩
    rw [hp] at h
    simp only [resV] at hp
    split at hp
    · rename_i b o s x n h1 h2 h3 h4
      split at hp
      · rename_i hok
        subst hp
        obtain ⟨v, f, h5, h6, h7⟩ := ldS_elim h3 h4 hok h
        refine ⟨v, h5, ?_⟩
        have he : fr.toArray.getD a undef = .pointer (some ⟨b, o, none⟩) := by simpa using h1
        simp only [resS, he]
        rw [bind_run (show (asAddr (.pointer (some ⟨b, o, none⟩))).run P w = .ok ⟨b, o, none⟩ w from rfl)]
        exact h7 w h6
      · subst hp; exact h.elim
    · subst hp; exact h.elim
theorem retC_run {P : Program} {fn : Func} {fr : Fr} {R : Ending → World → Prop} {w : World} (h : retC P fn.results.toList fr R w) :
    ∃ v, (results fn fr.toArray).run P w = .ok v w ∧ R (.returned v) w := by
  rw [results_eq]
  unfold retC at h
  cases hr : fn.results.toList with
  | nil =>
    simp only [hr] at h
    exact ⟨_, rfl, h⟩
  | cons r l =>
    cases l with
    | nil =>
      simp only [hr] at h
      obtain ⟨v, h1, h2⟩ := resV_run h
      refine ⟨v, ?_, h1⟩
      have hm : ([r].mapM (resS fr.toArray)).run P w = .ok [v] w := by
        rw [List.mapM_cons, bind_run h2]; rfl
      rw [Sem.run_bind, Sem.run_map, hm]
      rfl
    | cons s l =>
      cases l with
      | nil =>
        simp only [hr] at h
        obtain ⟨v, h1, h2⟩ := resV_run h
        obtain ⟨u, h3, h4⟩ := resV_run h1
        refine ⟨_, ?_, h3⟩
        have hm : ([r, s].mapM (resS fr.toArray)).run P w = .ok [v, u] w := by
          rw [List.mapM_cons, bind_run h2, List.mapM_cons, bind_run (bind_run h4)]; rfl
        rw [Sem.run_bind, Sem.run_map, hm]
        rfl
      | cons _ _ => simp only [hr] at h

def finK (P : Program) (fn : Func) (R : Ending → World → Prop) : Exit → Scr → Fr → Pred
  | .normal, _, fr => retC P fn.results.toList fr R
  | .ret, _, fr => retC P fn.results.toList fr R
  | _, _, _ => fun _ => False
def frame0 (fn : Func) (args : List Value) : Fr := args ++ List.replicate (fn.ntmps - args.length) undef
def bodyOf (fn : Func) : Code := match fn.body with
  | some c => c
  | none => .skip
/-- The function's formula. -/
def vcF (P : Program) (fn : Func) (s : Scr) (args : List Value) (R : Ending → World → Prop) : Pred :=
  wpC P (fun c w => R (.panicked c) w) (bodyOf fn) (finK P fn R) s (frame0 fn args)
theorem vcF_calls {P : Program} {f : FuncId} {fn : Func} (hf : P.funcs[f]? = some fn) (hb : fn.body.isSome = true) (s : Scr) (args : List Value) {R : Ending → World → Prop} {w : World}
    (h : vcF P fn s args R w) : Calls P f ⟨args⟩ w R := by
  obtain ⟨c, hc⟩ := Option.isSome_iff_exists.1 hb
  have hbody : bodyOf fn = c := by simp [bodyOf, hc]
  refine calls_of_wp hf hc ?_
  have h' := wpC_sound (ds := []) _ _ _ _ _ h
  rw [hbody] at h'
  have he : ({ tmps := (⟨args⟩ : Array Value) ++ Array.replicate (fn.ntmps - (⟨args⟩ : Array Value).size) undef, defers := [] } : Act) = act (frame0 fn args) [] := by
    simp [act, frame0]
  rw [he]
  refine wp_mono h' fun e a w' hg => ?_
  cases e with
  | normal =>
    obtain ⟨f', rfl, _, s', h3⟩ := hg
    obtain ⟨v, h4, h5⟩ := retC_run h3
    exact ⟨rfl, v, h4, h5⟩
  | ret =>
    obtain ⟨f', rfl, _, s', h3⟩ := hg
    obtain ⟨v, h4, h5⟩ := retC_run h3
    exact ⟨rfl, v, h4, h5⟩
  | panic ch => exact hg
  | outgrown => exact hg.elim
  | exit i => obtain ⟨f', _, _, s', h3⟩ := hg; exact h3.elim
  | goto l => obtain ⟨f', _, _, s', h3⟩ := hg; exact h3.elim
/-- For the printed texts: the printed formula is the computed one, and gives the contract. -/
theorem cl_of {P : Program} {f : FuncId} {fn : Func} (s : Scr) (hf : P.funcs[f]? = some fn) (hc : callable P f = true) (args : List Value) {R : Ending → World → Prop} (V : Pred) (hV : vcF P fn s args R = V) {w : World} (h : V w) :
    Cl P f args w R := by
  refine ⟨hc, vcF_calls hf ?_ s args (by rw [hV]; exact h)⟩
  unfold callable at hc
  rw [hf] at hc
  simp only [Bool.and_eq_true] at hc
  exact hc.1

end Go.Vc
/- The calculus: the words of the printed formulas. No statement of the seat is proved here. -/
namespace Go.Vc
set_option linter.unusedVariables false

@[reducible] def retG (F : Value → World → Prop) (Qp : List PanicEntry → World → Prop) (e : Ending) (w : World) : Prop := match e with
  | .returned v => F v w
  | .panicked c => Qp c w
  | .outgrown => False
abbrev Rt := Ending → World → Prop
@[reducible] def Scr.q (n : Nat) (k : Scr) : Scr := .run (List.range n) (.close k)
@[reducible] def Scr.r (l : List Nat) (k : Scr) : Scr := .run l (.close k)
/-- Live slots, and rows of dead ones. -/
@[reducible] def dr (l : Shp) (r : List (Nat × Nat)) : Shp := l ++ r.flatMap fun x => (List.range x.2).map fun i => (x.1 + i, none)
@[reducible] def cB (c : Bool) (X Y : Prop) : Prop := (c = true → X) ∧ (c = false → Y)
@[reducible] def lI (w : World) (b o : Nat) (F : Int → Prop) : Prop := ∃ n : Int, cellH w.heap b o = some (.int .i64 n) ∧ F n
@[reducible] def lK (k : IntKind) (w : World) (b o : Nat) (F : Int → Prop) : Prop := ∃ n : Int, cellH w.heap b o = some (.int k n) ∧ F n
@[reducible] def lB (w : World) (b o : Nat) (F : Bool → Prop) : Prop := ∃ n : Bool, cellH w.heap b o = some (.bool n) ∧ F n
@[reducible] def lS (w : World) (b o : Nat) (F : ByteArray → Prop) : Prop := ∃ n : ByteArray, cellH w.heap b o = some (.string n) ∧ F n
@[reducible] def lM (w : World) (b o : Nat) (F : Option Nat → Prop) : Prop := ∃ n : Option Nat, cellH w.heap b o = some (.map n) ∧ F n
@[reducible] def lV (w : World) (b o : Nat) (F : Value → Prop) : Prop := ∃ n : Value, cellH w.heap b o = some (n) ∧ F n
@[reducible] def lL (w : World) (b o : Nat) (F : Option Addr → Nat → Nat → Prop) : Prop := ∃ (a : Option Addr), ∃ (l : Nat), ∃ (c : Nat), cellH w.heap b o = some (.slice a l c) ∧ F a l c
@[reducible] def lP (w : World) (b o : Nat) (F : Nat → Nat → Prop) : Prop := ∃ (p : Nat), ∃ (q : Nat), cellH w.heap b o = some (.pointer (some ⟨p, q, none⟩)) ∧ F p q
@[reducible] def ixS (a : Option Addr) (l : Nat) (i : Int) (F : Nat → Nat → Prop) : Prop := ∃ (b : Nat) (o : Nat), (a = some ⟨b, o, none⟩ ∧ 0 ≤ i ∧ i < ((l : Nat) : Int)) ∧ F b o
@[reducible] def ixT (s : ByteArray) (i : Int) : Prop := 0 ≤ i ∧ i < ((ByteArray.size s : Nat) : Int)
@[reducible] def slA (s : ByteArray) (i : Int) : Prop := 0 ≤ i ∧ i ≤ ((ByteArray.size s : Nat) : Int)
@[reducible] def slT (s : ByteArray) (i j : Int) : Prop := 0 ≤ i ∧ i ≤ j ∧ j ≤ ((ByteArray.size s : Nat) : Int)

end Go.Vc
/- The calculus: calls in the printed formulas. No statement of the seat is proved here. -/
namespace Go.Proofs.Ytngbiaeliphdjaa.V
open Go.Vc Go.Proofs
@[reducible] def clV (k : Nat) (args : List Value) (w : World) (R : Rt) (F : Value → World → Prop) : Prop := Cl Try.prog k args w (retG F (fun c w => R (.panicked c) w))
@[reducible] def clU (k : Nat) (args : List Value) (w : World) (R : Rt) (F : World → Prop) : Prop := Cl Try.prog k args w (retG (fun r w => r = .tuple #[] ∧ F w) (fun c w => R (.panicked c) w))
@[reducible] def clI (k : Nat) (args : List Value) (w : World) (R : Rt) (F : Int → World → Prop) : Prop := Cl Try.prog k args w (retG (fun r w => ∃ n : Int, r = .int .i64 n ∧ F n w) (fun c w => R (.panicked c) w))
@[reducible] def clB (k : Nat) (args : List Value) (w : World) (R : Rt) (F : Bool → World → Prop) : Prop := Cl Try.prog k args w (retG (fun r w => ∃ n : Bool, r = .bool n ∧ F n w) (fun c w => R (.panicked c) w))
@[reducible] def clS (k : Nat) (args : List Value) (w : World) (R : Rt) (F : ByteArray → World → Prop) : Prop := Cl Try.prog k args w (retG (fun r w => ∃ n : ByteArray, r = .string n ∧ F n w) (fun c w => R (.panicked c) w))
@[reducible] def clL (k : Nat) (args : List Value) (w : World) (R : Rt) (F : Option Addr → Nat → Nat → World → Prop) : Prop := Cl Try.prog k args w (retG (fun r w => ∃ a : Option Addr, ∃ l : Nat, ∃ c : Nat, r = .slice a l c ∧ F a l c w) (fun c w => R (.panicked c) w))
@[reducible] def clP (k : Nat) (args : List Value) (w : World) (R : Rt) (F : Nat → Nat → World → Prop) : Prop := Cl Try.prog k args w (retG (fun r w => ∃ b : Nat, ∃ o : Nat, r = .pointer (some ⟨b, o, none⟩) ∧ F b o w) (fun c w => R (.panicked c) w))
end Go.Proofs.Ytngbiaeliphdjaa.V
/- Printed by vcgen.py, a program of this session: formulas of Go functions, each with the proof that it gives the function's contract. No statement of the seat is proved here. -/
namespace Go.Proofs.Ytngbiaeliphdjaa.V
open Go.Vc Go.Proofs
set_option linter.unusedVariables false
set_option maxRecDepth 100000
/-- impl.num -/
def V100 (n1 : Int) (R : Rt) : Pred := fun w =>
  (cB (decide (n1 < 0)) (R (.returned (.string (⟨#[120]⟩ : ByteArray))) w) ((cB (decide (n1 > 99)) (R (.returned (.string (⟨#[120]⟩ : ByteArray))) w) ((cB (decide (n1 > 9)) (((10 : Int) ≠ 0) ∧ ((10 : Int) ≠ 0) ∧ newC [.int .u8 (IntKind.wrap .u8 (IntKind.wrap .i64 (48 + (IntKind.wrap .i64 (Int.tdiv n1 10))))), .int .u8 (IntKind.wrap .u8 (IntKind.wrap .i64 (48 + (Int.tmod n1 10))))] 5 (fun b2 w3 => ∃ s4, (convert 22 9 (.slice (some ⟨b2, 0, none⟩) 2 2)).run Try.prog w3 = .ok (.string s4) w3 ∧ R (.returned (.string s4)) w3) w) (newC [.int .u8 (IntKind.wrap .u8 (IntKind.wrap .i64 (48 + n1)))] 5 (fun b5 w6 => ∃ s7, (convert 22 9 (.slice (some ⟨b5, 0, none⟩) 1 1)).run Try.prog w6 = .ok (.string s7) w6 ∧ R (.returned (.string s7)) w6) w))))))
def scr100 : Scr := (.q 1 (.run [0,1,2] (.split 5 (.r [3,4,5] (.lit (.q 1 .nil))) (.r [3,4,5] (.cond (.q 1 .nil) (.q 2 (.cond (.q 11 .nil) (.q 6 .nil))))))))
theorem vc100 {n1} {R w} (h : V100 n1 R w) : Cl Try.prog 100 [.int .i64 n1] w R :=
  cl_of scr100 Try.func100 (by kernel_rfl) _ _ (by kernel_rfl) h
/-- impl.setText -/
def V99 (a1 : Option Addr) (l1 c1 : Nat) (R : Rt) : Pred := fun w =>
  ∃ (I2 : Nat → Int → World → Prop), (∃ k4, I2 k4 0 w) ∧ ∀ k3 (d6 : Nat → Value) n7 w5, I2 k3 n7 w5 → (cB (decide (n7 < ((l1 : Nat) : Int))) (ixS a1 l1 n7 fun b8 o9 => lI w5 b8 (o9 + (Int.toNat n7) * 2) fun n10 => lI w5 b8 (o9 + (Int.toNat n7) * 2 + 1) fun n11 => newC [.int .i64 0, .int .i64 0] 134 (fun b12 w13 => stW b12 0 [.int .i64 n10, .int .i64 n11] (fun w14 => lI w14 b12 0 fun n15 => (cB (decide (n15 < 0)) (R (.returned (.tuple #[.string (⟨#[]⟩ : ByteArray), .bool false])) w14) (lI w14 b12 0 fun n16 => (cB (decide (n16 > 255)) (R (.returned (.tuple #[.string (⟨#[]⟩ : ByteArray), .bool false])) w14) (lI w14 b12 1 fun n17 => (cB (decide (n17 < 0)) (R (.returned (.tuple #[.string (⟨#[]⟩ : ByteArray), .bool false])) w14) (lI w14 b12 1 fun n18 => (cB (decide (n18 > 255)) (R (.returned (.tuple #[.string (⟨#[]⟩ : ByteArray), .bool false])) w14) ((∃ m19, m19 < k3 ∧ I2 m19 (IntKind.wrap .i64 (n7 + 1)) w14)))))))))) w13) w5) ((cB (decide (((l1 : Nat) : Int) > 256)) (R (.returned (.tuple #[.string (⟨#[]⟩ : ByteArray), .bool false])) w5) ((cB (((l1 : Nat) : Int) == 0) (R (.returned (.tuple #[.string (⟨#[91, 94, 92, 120, 48, 48, 45, 92, 120, 102, 102, 93]⟩ : ByteArray), .bool true])) w5) (drw (fun w20 => (cB (((l1 : Nat) : Int) == 1) (ixS a1 l1 0 fun b21 o22 => lI w20 b21 o22 fun n23 => ixS a1 l1 0 fun b24 o25 => lI w20 b24 (o25 + 1) fun n26 => (cB (n23 == n26) (ixS a1 l1 0 fun b27 o28 => lI w20 b27 o28 fun n29 => clS 83 ([.int .i64 n29]) w20 R fun s30 w31 => R (.returned (.tuple #[.string s30, .bool true])) w31) (∃ (I33 : Nat → ByteArray → Int → World → Prop), (∃ k35, I33 k35 (⟨#[91]⟩ : ByteArray) 0 w20) ∧ ∀ k34 (d37 : Nat → Value) s38 n39 w36, I33 k34 s38 n39 w36 → (cB (decide (n39 < ((l1 : Nat) : Int))) (ixS a1 l1 n39 fun b40 o41 => lI w36 b40 (o41 + (Int.toNat n39) * 2) fun n42 => lI w36 b40 (o41 + (Int.toNat n39) * 2 + 1) fun n43 => newC [.int .i64 0, .int .i64 0] 134 (fun b44 w45 => stW b44 0 [.int .i64 n42, .int .i64 n43] (fun w46 => lI w46 b44 0 fun n47 => clS 83 ([.int .i64 n47]) w46 R fun s48 w49 => (s38.size + s48.size ≤ 9223372036854775807) ∧ lI w49 b44 0 fun n51 => lI w49 b44 1 fun n52 => (cB (n51 != n52) (lI w49 b44 1 fun n53 => clS 83 ([.int .i64 n53]) w49 R fun s54 w55 => ((⟨#[45]⟩ : ByteArray).size + s54.size ≤ 9223372036854775807) ∧ ((s38 ++ s48).size + ((⟨#[45]⟩ : ByteArray) ++ s54).size ≤ 9223372036854775807) ∧ (∃ m57, m57 < k34 ∧ I33 m57 ((s38 ++ s48) ++ ((⟨#[45]⟩ : ByteArray) ++ s54)) (IntKind.wrap .i64 (n39 + 1)) w55)) ((∃ m58, m58 < k34 ∧ I33 m58 (s38 ++ s48) (IntKind.wrap .i64 (n39 + 1)) w49)))) w45) w36) ((s38.size + (⟨#[93]⟩ : ByteArray).size ≤ 9223372036854775807) ∧ R (.returned (.tuple #[.string (s38 ++ (⟨#[93]⟩ : ByteArray)), .bool true])) w36))))) (∃ (I59 : Nat → ByteArray → Int → World → Prop), (∃ k61, I59 k61 (⟨#[91]⟩ : ByteArray) 0 w20) ∧ ∀ k60 (d63 : Nat → Value) s64 n65 w62, I59 k60 s64 n65 w62 → (cB (decide (n65 < ((l1 : Nat) : Int))) (ixS a1 l1 n65 fun b66 o67 => lI w62 b66 (o67 + (Int.toNat n65) * 2) fun n68 => lI w62 b66 (o67 + (Int.toNat n65) * 2 + 1) fun n69 => newC [.int .i64 0, .int .i64 0] 134 (fun b70 w71 => stW b70 0 [.int .i64 n68, .int .i64 n69] (fun w72 => lI w72 b70 0 fun n73 => clS 83 ([.int .i64 n73]) w72 R fun s74 w75 => (s64.size + s74.size ≤ 9223372036854775807) ∧ lI w75 b70 0 fun n77 => lI w75 b70 1 fun n78 => (cB (n77 != n78) (lI w75 b70 1 fun n79 => clS 83 ([.int .i64 n79]) w75 R fun s80 w81 => ((⟨#[45]⟩ : ByteArray).size + s80.size ≤ 9223372036854775807) ∧ ((s64 ++ s74).size + ((⟨#[45]⟩ : ByteArray) ++ s80).size ≤ 9223372036854775807) ∧ (∃ m83, m83 < k60 ∧ I59 m83 ((s64 ++ s74) ++ ((⟨#[45]⟩ : ByteArray) ++ s80)) (IntKind.wrap .i64 (n65 + 1)) w81)) ((∃ m84, m84 < k60 ∧ I59 m84 (s64 ++ s74) (IntKind.wrap .i64 (n65 + 1)) w75)))) w71) w62) ((s64.size + (⟨#[93]⟩ : ByteArray).size ≤ 9223372036854775807) ∧ R (.returned (.tuple #[.string (s64 ++ (⟨#[93]⟩ : ByteArray)), .bool true])) w62))))) w5))))))
def scr99 : Scr := (.q 2 (.q 3 (.loop (dr [(11, some (.int .i64))] [(2,2),(5,1),(12,22)]) (.q 1 (.cond (.q 4 (.run [0,1,2,3] (.split 18 (.r [4,5,6,7,8,9,10,11,12,13,14,15,16,17] (.lit (.q 2 .nil))) (.run [4,5,6,7,8] (.split 23 (.r [9,10,11,12,13,14,15,16,17] (.lit (.q 2 .nil))) (.run [9,10,11,12,13] (.split 28 (.r [14,15,16,17] (.lit (.q 2 .nil))) (.r [14,15,16,17] (.cond (.q 2 .nil) (.q 2 .nil)))))))))) (.q 3 (.cond (.q 2 .nil) (.q 3 (.cond (.q 2 .nil) (.run [0,1,2,3] (.split 43 (.r [4,5,6,7,8,9,10,11,12,13] (.cond (.q 7 .nil) (.q 1 (.q 3 (.loop (dr [(6, some .str), (61, some (.int .i64))] [(8,1),(62,20)]) (.q 1 (.cond (.q 4 (.q 6 (.q 5 (.cond (.q 7 (.q 2 .nil)) (.q 2 .nil))))) (.q 4 .nil)))))))) (.r [4,5,6,7,8,9,10,11,12,13] (.lit (.q 1 (.q 3 (.loop (dr [(6, some .str), (61, some (.int .i64))] [(8,1),(62,20)]) (.q 1 (.cond (.q 4 (.q 6 (.q 5 (.cond (.q 7 (.q 2 .nil)) (.q 2 .nil))))) (.q 4 .nil)))))))))))))))))))
theorem vc99 {a1 l1 c1} {R w} (h : V99 a1 l1 c1 R w) : Cl Try.prog 99 [.slice a1 l1 c1] w R :=
  cl_of scr99 Try.func99 (by kernel_rfl) _ _ (by kernel_rfl) h
/-- impl.same -/
def V101 (t1 : Bool) (n2 n3 : Int) (a4 : Option Addr) (l4 c4 : Nat) (t5 : Bool) (n6 n7 : Int) (a8 : Option Addr) (l8 c8 : Nat) (R : Rt) : Pred := fun w =>
  newC [.bool t1, .int .i64 n2, .int .i64 n3, .slice a4 l4 c4] 37 (fun b9 w10 => newC [.bool t5, .int .i64 n6, .int .i64 n7, .slice a8 l8 c8] 37 (fun b11 w12 => lB w12 b9 0 fun t13 => lB w12 b11 0 fun t14 => (cB (!(t13 == t14)) (R (.returned (.bool false)) w12) (lI w12 b9 1 fun n15 => lI w12 b11 1 fun n16 => (cB (n15 != n16) (R (.returned (.bool false)) w12) (lI w12 b9 2 fun n17 => lI w12 b11 2 fun n18 => (cB (n17 != n18) (R (.returned (.bool false)) w12) (lL w12 b9 3 fun a19 l19 c19 => lL w12 b11 3 fun a20 l20 c20 => (cB (((l19 : Nat) : Int) != ((l20 : Nat) : Int)) (R (.returned (.bool false)) w12) (lL w12 b9 3 fun a21 l21 c21 => ∃ (I22 : Nat → Int → World → Prop), (∃ k24, I22 k24 0 w12) ∧ ∀ k23 (d26 : Nat → Value) n27 w25, I22 k23 n27 w25 → (cB (decide (n27 < ((l21 : Nat) : Int))) (ixS a21 l21 n27 fun b28 o29 => lI w25 b28 (o29 + (Int.toNat n27) * 7) fun n30 => lL w25 b28 (o29 + (Int.toNat n27) * 7 + 1) fun a31 l31 c31 => lI w25 b28 (o29 + (Int.toNat n27) * 7 + 2) fun n32 => lI w25 b28 (o29 + (Int.toNat n27) * 7 + 3) fun n33 => lB w25 b28 (o29 + (Int.toNat n27) * 7 + 4) fun t34 => lI w25 b28 (o29 + (Int.toNat n27) * 7 + 5) fun n35 => lL w25 b28 (o29 + (Int.toNat n27) * 7 + 6) fun a36 l36 c36 => newC [.int .i64 0, .slice none 0 0, .int .i64 0, .int .i64 0, .bool false, .int .i64 0, .slice none 0 0] 111 (fun b37 w38 => stW b37 0 [.int .i64 n30, .slice a31 l31 c31, .int .i64 n32, .int .i64 n33, .bool t34, .int .i64 n35, .slice a36 l36 c36] (fun w39 => lL w39 b11 3 fun a40 l40 c40 => ixS a40 l40 n27 fun b41 o42 => lI w39 b41 (o42 + (Int.toNat n27) * 7) fun n43 => lL w39 b41 (o42 + (Int.toNat n27) * 7 + 1) fun a44 l44 c44 => lI w39 b41 (o42 + (Int.toNat n27) * 7 + 2) fun n45 => lI w39 b41 (o42 + (Int.toNat n27) * 7 + 3) fun n46 => lB w39 b41 (o42 + (Int.toNat n27) * 7 + 4) fun t47 => lI w39 b41 (o42 + (Int.toNat n27) * 7 + 5) fun n48 => lL w39 b41 (o42 + (Int.toNat n27) * 7 + 6) fun a49 l49 c49 => newC [.int .i64 0, .slice none 0 0, .int .i64 0, .int .i64 0, .bool false, .int .i64 0, .slice none 0 0] 111 (fun b50 w51 => stW b50 0 [.int .i64 n43, .slice a44 l44 c44, .int .i64 n45, .int .i64 n46, .bool t47, .int .i64 n48, .slice a49 l49 c49] (fun w52 => lI w52 b37 0 fun n53 => lI w52 b50 0 fun n54 => (cB (n53 != n54) (R (.returned (.bool false)) w52) (lI w52 b37 2 fun n55 => lI w52 b50 2 fun n56 => (cB (n55 != n56) (R (.returned (.bool false)) w52) (lI w52 b37 3 fun n57 => lI w52 b50 3 fun n58 => (cB (n57 != n58) (R (.returned (.bool false)) w52) (lB w52 b37 4 fun t59 => lB w52 b50 4 fun t60 => (cB (!(t59 == t60)) (R (.returned (.bool false)) w52) (lI w52 b37 5 fun n61 => lI w52 b50 5 fun n62 => (cB (n61 != n62) (R (.returned (.bool false)) w52) (lL w52 b37 1 fun a63 l63 c63 => lL w52 b50 1 fun a64 l64 c64 => (cB (((l63 : Nat) : Int) != ((l64 : Nat) : Int)) (R (.returned (.bool false)) w52) (lL w52 b37 6 fun a65 l65 c65 => lL w52 b50 6 fun a66 l66 c66 => (cB (((l65 : Nat) : Int) != ((l66 : Nat) : Int)) (R (.returned (.bool false)) w52) (lL w52 b37 1 fun a67 l67 c67 => ∃ (I68 : Nat → Int → World → Prop), (∃ k70, I68 k70 0 w52) ∧ ∀ k69 (d72 : Nat → Value) n73 w71, I68 k69 n73 w71 → (cB (decide (n73 < ((l67 : Nat) : Int))) (drw (fun w74 => lL w74 b37 1 fun a75 l75 c75 => ixS a75 l75 n73 fun b76 o77 => lI w74 b76 (o77 + (Int.toNat n73) * 2) fun n78 => lI w74 b76 (o77 + (Int.toNat n73) * 2 + 1) fun n79 => lL w74 b50 1 fun a80 l80 c80 => ixS a80 l80 n73 fun b81 o82 => lI w74 b81 (o82 + (Int.toNat n73) * 2) fun n83 => lI w74 b81 (o82 + (Int.toNat n73) * 2 + 1) fun n84 => ∃ t85, (do pure (Value.bool (!(← Op.equal 134 (.agg #[.int .i64 n78, .int .i64 n79]) (.agg #[.int .i64 n83, .int .i64 n84])))) : Sem Value).run Try.prog w74 = .ok (.bool t85) w74 ∧ (cB t85 (R (.returned (.bool false)) w74) ((∃ m86, m86 < k69 ∧ I68 m86 (IntKind.wrap .i64 (n73 + 1)) w74)))) w71) (lL w71 b37 6 fun a87 l87 c87 => ∃ (I88 : Nat → Int → World → Prop), (∃ k90, I88 k90 0 w71) ∧ ∀ k89 (d92 : Nat → Value) n93 w91, I88 k89 n93 w91 → (cB (decide (n93 < ((l87 : Nat) : Int))) (drw (fun w94 => lL w94 b37 6 fun a95 l95 c95 => ixS a95 l95 n93 fun b96 o97 => lI w94 b96 (o97 + (Int.toNat n93) * 1) fun n98 => lL w94 b50 6 fun a99 l99 c99 => ixS a99 l99 n93 fun b100 o101 => lI w94 b100 (o101 + (Int.toNat n93) * 1) fun n102 => (cB (n98 != n102) (R (.returned (.bool false)) w94) ((∃ m103, m103 < k89 ∧ I88 m103 (IntKind.wrap .i64 (n93 + 1)) w94)))) w91) ((∃ m104, m104 < k23 ∧ I22 m104 (IntKind.wrap .i64 (n27 + 1)) w91)))))))))))))))))))) w51) w39) w38) w25) (R (.returned (.bool true)) w25))))))))))) w10) w
def scr101 : Scr := (.q 3 (.run [0,1,2,3,4,5] (.split 15 (.r [6,7,8,9,10,11,12,13,14,15,16,17,18,19,20,21,22,23,24,25,26,27] (.lit (.q 1 .nil))) (.run [6,7,8,9,10,11,12] (.split 22 (.r [13,14,15,16,17,18,19,20,21,22,23,24,25,26,27] (.lit (.q 1 .nil))) (.run [13,14,15,16,17,18,19] (.split 29 (.r [20,21,22,23,24,25,26,27] (.lit (.q 1 .nil))) (.r [20,21,22,23,24,25,26,27] (.cond (.q 1 .nil) (.q 4 (.loop (dr [(41, some (.int .i64))] [(4,6),(42,97)]) (.q 1 (.cond (.q 6 (.q 7 (.run [0,1,2,3,4,5] (.split 56 (.r [6,7,8,9,10,11,12,13,14,15,16,17,18,19,20,21,22,23,24,25,26,27,28,29,30,31,32,33,34,35,36,37,38,39,40,41,42,43,44,45,46,47,48,49,50] (.lit (.q 1 .nil))) (.run [6,7,8,9,10,11,12] (.split 63 (.r [13,14,15,16,17,18,19,20,21,22,23,24,25,26,27,28,29,30,31,32,33,34,35,36,37,38,39,40,41,42,43,44,45,46,47,48,49,50] (.lit (.q 1 .nil))) (.run [13,14,15,16,17,18,19] (.split 70 (.r [20,21,22,23,24,25,26,27,28,29,30,31,32,33,34,35,36,37,38,39,40,41,42,43,44,45,46,47,48,49,50] (.lit (.q 1 .nil))) (.run [20,21,22,23,24,25,26] (.split 77 (.r [27,28,29,30,31,32,33,34,35,36,37,38,39,40,41,42,43,44,45,46,47,48,49,50] (.lit (.q 1 .nil))) (.run [27,28,29,30,31,32,33] (.split 84 (.r [34,35,36,37,38,39,40,41,42,43,44,45,46,47,48,49,50] (.lit (.q 1 .nil))) (.run [34,35,36,37,38,39,40,41,42] (.split 93 (.r [43,44,45,46,47,48,49,50] (.lit (.q 1 .nil))) (.r [43,44,45,46,47,48,49,50] (.cond (.q 1 .nil) (.q 4 (.loop (dr [(105, some (.int .i64))] [(4,1),(8,1),(106,14)]) (.q 1 (.cond (.q 2 (.q 11 (.cond (.q 1 .nil) (.q 2 .nil)))) (.q 4 (.loop (dr [(123, some (.int .i64))] [(4,1),(9,1),(124,14)]) (.q 1 (.cond (.q 2 (.q 11 (.cond (.q 1 .nil) (.q 2 .nil)))) (.q 2 .nil))))))))))))))))))))))))) (.q 1 .nil))))))))))))))
theorem vc101 {t1 n2 n3 a4 l4 c4 t5 n6 n7 a8 l8 c8} {R w} (h : V101 t1 n2 n3 a4 l4 c4 t5 n6 n7 a8 l8 c8 R w) : Cl Try.prog 101 [.agg #[.bool t1, .int .i64 n2, .int .i64 n3, .slice a4 l4 c4], .agg #[.bool t5, .int .i64 n6, .int .i64 n7, .slice a8 l8 c8]] w R :=
  cl_of scr101 Try.func101 (by kernel_rfl) _ _ (by kernel_rfl) h
/-- impl.WritePattern -/
def V59 (t1 : Bool) (n2 n3 : Int) (a4 : Option Addr) (l4 c4 : Nat) (R : Rt) : Pred := fun w =>
  newC [.bool t1, .int .i64 n2, .int .i64 n3, .slice a4 l4 c4] 37 (fun b5 w6 => lL w6 b5 3 fun a7 l7 c7 => ∃ (I8 : Nat → Option Addr → Nat → Nat → Int → World → Prop), (∃ k10, I8 k10 none 0 0 0 w6) ∧ ∀ k9 (d12 : Nat → Value) a13 l13 c13 n14 w11, I8 k9 a13 l13 c13 n14 w11 → (cB (decide (n14 < ((l7 : Nat) : Int))) (ixS a7 l7 n14 fun b15 o16 => lI w11 b15 (o16 + (Int.toNat n14) * 7) fun n17 => lL w11 b15 (o16 + (Int.toNat n14) * 7 + 1) fun a18 l18 c18 => lI w11 b15 (o16 + (Int.toNat n14) * 7 + 2) fun n19 => lI w11 b15 (o16 + (Int.toNat n14) * 7 + 3) fun n20 => lB w11 b15 (o16 + (Int.toNat n14) * 7 + 4) fun t21 => lI w11 b15 (o16 + (Int.toNat n14) * 7 + 5) fun n22 => lL w11 b15 (o16 + (Int.toNat n14) * 7 + 6) fun a23 l23 c23 => newC [.int .i64 0, .slice none 0 0, .int .i64 0, .int .i64 0, .bool false, .int .i64 0, .slice none 0 0] 111 (fun b24 w25 => stW b24 0 [.int .i64 n17, .slice a18 l18 c18, .int .i64 n19, .int .i64 n20, .bool t21, .int .i64 n22, .slice a23 l23 c23] (fun w26 => lL w26 b24 6 fun a27 l27 c27 => (cB (decide (((l27 : Nat) : Int) > ((l13 : Nat) : Int))) (R (.returned (.string (⟨#[]⟩ : ByteArray))) w26) (∃ a28 l28 c28, (Instr.sliceAt 107 (.slice a13 l13 c13) (some (.int .i64 (IntKind.wrap .i64 (((l13 : Nat) : Int) - ((l27 : Nat) : Int))))) none none).run Try.prog w26 = .ok (.slice a28 l28 c28) w26 ∧ ∃ (I29 : Nat → Int → Int → World → Prop), (∃ k31, I29 k31 0 0 w26) ∧ ∀ k30 (d33 : Nat → Value) n34 n35 w32, I29 k30 n34 n35 w32 → (cB (decide (n35 < ((l28 : Nat) : Int))) (ixS a28 l28 n35 fun b36 o37 => lI w32 b36 (o37 + (Int.toNat n35) * 2) fun n38 => lS w32 b36 (o37 + (Int.toNat n35) * 2 + 1) fun s39 => newC [.int .i64 0, .string (⟨#[]⟩ : ByteArray)] 113 (fun b40 w41 => stW b40 0 [.int .i64 n38, .string s39] (fun w42 => drw (fun w43 => lI w43 b40 0 fun n44 => lL w43 b24 6 fun a45 l45 c45 => ixS a45 l45 n35 fun b46 o47 => lI w43 b46 (o47 + (Int.toNat n35) * 1) fun n48 => (cB (n44 != n48) (R (.returned (.string (⟨#[]⟩ : ByteArray))) w43) (lS w43 b40 1 fun s49 => (∃ m50, m50 < k30 ∧ I29 m50 (IntKind.wrap .i64 (n34 + ((ByteArray.size s49 : Nat) : Int))) (IntKind.wrap .i64 (n35 + 1)) w43)))) w42) w41) w32) ((cB (decide (n34 > 120)) (R (.returned (.string (⟨#[]⟩ : ByteArray))) w32) (lI w32 b24 0 fun n51 => ∃ (J52 : ByteArray → World → Prop), ((cB (n51 == 1) (lL w32 b24 1 fun a53 l53 c53 => clV 99 ([.slice a53 l53 c53]) w32 R fun r57 w56 => ∃ s54, ∃ t55, r57 = .tuple #[.string s54, .bool t55] ∧ (cB (!t55) (R (.returned (.string (⟨#[]⟩ : ByteArray))) w56) (J52 s54 w56))) ((cB (n51 == 2) (∃ (I58 : Nat → ByteArray → Int → World → Prop), (∃ k60, I58 k60 (⟨#[]⟩ : ByteArray) 0 w32) ∧ ∀ k59 (d62 : Nat → Value) s63 n64 w61, I58 k59 s63 n64 w61 → (cB (decide (n64 < ((l28 : Nat) : Int))) (ixS a28 l28 n64 fun b65 o66 => lI w61 b65 (o66 + (Int.toNat n64) * 2) fun n67 => lS w61 b65 (o66 + (Int.toNat n64) * 2 + 1) fun s68 => newC [.int .i64 0, .string (⟨#[]⟩ : ByteArray)] 113 (fun b69 w70 => stW b69 0 [.int .i64 n67, .string s68] (fun w71 => lS w71 b69 1 fun s72 => (s63.size + s72.size ≤ 9223372036854775807) ∧ (∃ m73, m73 < k59 ∧ I58 m73 (s63 ++ s72) (IntKind.wrap .i64 (n64 + 1)) w71)) w70) w61) (J52 s63 w61))) ((cB (n51 == 3) (∃ (I74 : Nat → ByteArray → Int → World → Prop), (∃ k76, I74 k76 (⟨#[]⟩ : ByteArray) 0 w32) ∧ ∀ k75 (d78 : Nat → Value) s79 n80 w77, I74 k75 s79 n80 w77 → (cB (decide (n80 < ((l28 : Nat) : Int))) (ixS a28 l28 n80 fun b81 o82 => lI w77 b81 (o82 + (Int.toNat n80) * 2) fun n83 => lS w77 b81 (o82 + (Int.toNat n80) * 2 + 1) fun s84 => newC [.int .i64 0, .string (⟨#[]⟩ : ByteArray)] 113 (fun b85 w86 => stW b85 0 [.int .i64 n83, .string s84] (fun w87 => (cB (decide (n80 > 0)) ((s79.size + (⟨#[124]⟩ : ByteArray).size ≤ 9223372036854775807) ∧ lS w87 b85 1 fun s88 => ((s79 ++ (⟨#[124]⟩ : ByteArray)).size + s88.size ≤ 9223372036854775807) ∧ (cB (decide (((ByteArray.size ((s79 ++ (⟨#[124]⟩ : ByteArray)) ++ s88) : Nat) : Int) > 120)) (R (.returned (.string (⟨#[]⟩ : ByteArray))) w87) ((∃ m89, m89 < k75 ∧ I74 m89 ((s79 ++ (⟨#[124]⟩ : ByteArray)) ++ s88) (IntKind.wrap .i64 (n80 + 1)) w87)))) (lS w87 b85 1 fun s90 => (s79.size + s90.size ≤ 9223372036854775807) ∧ (cB (decide (((ByteArray.size (s79 ++ s90) : Nat) : Int) > 120)) (R (.returned (.string (⟨#[]⟩ : ByteArray))) w87) ((∃ m91, m91 < k75 ∧ I74 m91 (s79 ++ s90) (IntKind.wrap .i64 (n80 + 1)) w87)))))) w86) w77) (J52 s79 w77))) ((cB (n51 == 4) ((cB (((l27 : Nat) : Int) != 1) (R (.returned (.string (⟨#[]⟩ : ByteArray))) w32) (drw (fun w92 => ixS a28 l28 0 fun b93 o94 => lS w92 b93 (o94 + 1) fun s95 => (s95.size + (⟨#[123]⟩ : ByteArray).size ≤ 9223372036854775807) ∧ lI w92 b24 2 fun n96 => clS 100 ([.int .i64 n96]) w92 R fun s97 w98 => cellH w98.heap b93 (o94 + 1) = some (.string s95) ∧ ((s95 ++ (⟨#[123]⟩ : ByteArray)).size + s97.size ≤ 9223372036854775807) ∧ lI w98 b24 3 fun n100 => (cB (n100 == (-1)) ((((s95 ++ (⟨#[123]⟩ : ByteArray)) ++ s97).size + (⟨#[44]⟩ : ByteArray).size ≤ 9223372036854775807) ∧ ((((s95 ++ (⟨#[123]⟩ : ByteArray)) ++ s97) ++ (⟨#[44]⟩ : ByteArray)).size + (⟨#[125]⟩ : ByteArray).size ≤ 9223372036854775807) ∧ lB w98 b24 4 fun t101 => (cB t101 ((((((s95 ++ (⟨#[123]⟩ : ByteArray)) ++ s97) ++ (⟨#[44]⟩ : ByteArray)) ++ (⟨#[125]⟩ : ByteArray)).size + (⟨#[63]⟩ : ByteArray).size ≤ 9223372036854775807) ∧ J52 (((((s95 ++ (⟨#[123]⟩ : ByteArray)) ++ s97) ++ (⟨#[44]⟩ : ByteArray)) ++ (⟨#[125]⟩ : ByteArray)) ++ (⟨#[63]⟩ : ByteArray)) w98) (J52 ((((s95 ++ (⟨#[123]⟩ : ByteArray)) ++ s97) ++ (⟨#[44]⟩ : ByteArray)) ++ (⟨#[125]⟩ : ByteArray)) w98))) (lI w98 b24 3 fun n102 => lI w98 b24 2 fun n103 => (cB (n102 != n103) (lI w98 b24 3 fun n104 => clS 100 ([.int .i64 n104]) w98 R fun s105 w106 => ((⟨#[44]⟩ : ByteArray).size + s105.size ≤ 9223372036854775807) ∧ (((s95 ++ (⟨#[123]⟩ : ByteArray)) ++ s97).size + ((⟨#[44]⟩ : ByteArray) ++ s105).size ≤ 9223372036854775807) ∧ ((((s95 ++ (⟨#[123]⟩ : ByteArray)) ++ s97) ++ ((⟨#[44]⟩ : ByteArray) ++ s105)).size + (⟨#[125]⟩ : ByteArray).size ≤ 9223372036854775807) ∧ lB w106 b24 4 fun t108 => (cB t108 ((((((s95 ++ (⟨#[123]⟩ : ByteArray)) ++ s97) ++ ((⟨#[44]⟩ : ByteArray) ++ s105)) ++ (⟨#[125]⟩ : ByteArray)).size + (⟨#[63]⟩ : ByteArray).size ≤ 9223372036854775807) ∧ J52 (((((s95 ++ (⟨#[123]⟩ : ByteArray)) ++ s97) ++ ((⟨#[44]⟩ : ByteArray) ++ s105)) ++ (⟨#[125]⟩ : ByteArray)) ++ (⟨#[63]⟩ : ByteArray)) w106) (J52 ((((s95 ++ (⟨#[123]⟩ : ByteArray)) ++ s97) ++ ((⟨#[44]⟩ : ByteArray) ++ s105)) ++ (⟨#[125]⟩ : ByteArray)) w106))) ((((s95 ++ (⟨#[123]⟩ : ByteArray)) ++ s97).size + (⟨#[125]⟩ : ByteArray).size ≤ 9223372036854775807) ∧ lB w98 b24 4 fun t109 => (cB t109 (((((s95 ++ (⟨#[123]⟩ : ByteArray)) ++ s97) ++ (⟨#[125]⟩ : ByteArray)).size + (⟨#[63]⟩ : ByteArray).size ≤ 9223372036854775807) ∧ J52 ((((s95 ++ (⟨#[123]⟩ : ByteArray)) ++ s97) ++ (⟨#[125]⟩ : ByteArray)) ++ (⟨#[63]⟩ : ByteArray)) w98) (J52 (((s95 ++ (⟨#[123]⟩ : ByteArray)) ++ s97) ++ (⟨#[125]⟩ : ByteArray)) w98))))))) w32))) ((cB (n51 == 5) ((cB (((l27 : Nat) : Int) != 1) (R (.returned (.string (⟨#[]⟩ : ByteArray))) w32) (ixS a28 l28 0 fun b110 o111 => lS w32 b110 (o111 + 1) fun s112 => ((⟨#[40]⟩ : ByteArray).size + s112.size ≤ 9223372036854775807) ∧ (((⟨#[40]⟩ : ByteArray) ++ s112).size + (⟨#[41]⟩ : ByteArray).size ≤ 9223372036854775807) ∧ J52 (((⟨#[40]⟩ : ByteArray) ++ s112) ++ (⟨#[41]⟩ : ByteArray)) w32))) ((cB (n51 == 6) (J52 (⟨#[94]⟩ : ByteArray) w32) ((cB (n51 == 7) (J52 (⟨#[36]⟩ : ByteArray) w32) (R (.returned (.string (⟨#[]⟩ : ByteArray))) w32))))))))))))))) ∧ ∀ (d113 : Nat → Value) s114 w115, J52 s114 w115 → (cB (decide (((ByteArray.size s114 : Nat) : Int) > 120)) (R (.returned (.string (⟨#[]⟩ : ByteArray))) w115) (∃ a116 l116 c116, (Instr.sliceAt 107 (.slice a13 l13 c13) none (some (.int .i64 (IntKind.wrap .i64 (((l13 : Nat) : Int) - ((l27 : Nat) : Int))))) (some (.int .i64 (IntKind.wrap .i64 (((l13 : Nat) : Int) - ((l27 : Nat) : Int)))))).run Try.prog w115 = .ok (.slice a116 l116 c116) w115 ∧ newC [.int .i64 n14, .string s114] 113 (fun b117 w118 => ∃ a119 l119 c119, ∃ w120, (Builtin.append_ #[107, 107] 107 #[.slice a116 l116 c116, .slice (some ⟨b117, 0, none⟩) 1 1]).run Try.prog w118 = .ok (.slice a119 l119 c119) w120 ∧ (∃ m121, m121 < k9 ∧ I8 m121 a119 l119 c119 (IntKind.wrap .i64 (n14 + 1)) w120)) w115))))))))) w25) w11) ((cB (((l13 : Nat) : Int) != 1) (R (.returned (.string (⟨#[]⟩ : ByteArray))) w11) (drw (fun w122 => ixS a13 l13 0 fun b123 o124 => lS w122 b123 (o124 + 1) fun s125 => lB w122 b5 0 fun t126 => lI w122 b5 1 fun n127 => lI w122 b5 2 fun n128 => lL w122 b5 3 fun a129 l129 c129 => clV 26 ([.string s125]) w122 R fun r135 w134 => ∃ t130, ∃ n131, ∃ n132, ∃ a133 l133 c133, r135 = .agg #[.bool t130, .int .i64 n131, .int .i64 n132, .slice a133 l133 c133] ∧ cellsAt w134.heap b5 0 [.bool t126, .int .i64 n127, .int .i64 n128, .slice a129 l129 c129] ∧ clB 101 ([.agg #[.bool t130, .int .i64 n131, .int .i64 n132, .slice a133 l133 c133], .agg #[.bool t126, .int .i64 n127, .int .i64 n128, .slice a129 l129 c129]]) w134 R fun t136 w137 => (cB (!t136) (R (.returned (.string (⟨#[]⟩ : ByteArray))) w137) (ixS a13 l13 0 fun b139 o140 => lS w137 b139 (o140 + 1) fun s141 => R (.returned (.string s141)) w137))) w11))))) w
def scr59 : Scr := (.q 2 (.q 1 (.q 4 (.loop (dr [(3, some .slice), (21, some (.int .i64))] [(2,1),(4,10),(15,3),(22,155)]) (.q 1 (.cond (.q 6 (.q 4 (.q 4 (.cond (.q 1 .nil) (.q 7 (.q 1 (.q 3 (.loop (dr [(8, some (.int .i64)), (41, some (.int .i64))] [(2,1),(9,2),(42,18)]) (.q 1 (.cond (.q 6 (.q 8 (.cond (.q 1 .nil) (.q 6 (.q 2 .nil))))) (.q 2 (.cond (.q 1 .nil) (.q 1 (.q 2 (.q 2 (.cut (dr [(11, some .str)] [(2,1),(12,2),(15,3),(66,92)]) (.cond (.q 8 (.q 2 (.cond (.q 1 .nil) (.q 2 .nil)))) (.q 2 (.cond (.q 3 (.loop (dr [(11, some .str), (79, some (.int .i64))] [(15,1),(80,8)]) (.q 1 (.cond (.q 4 (.q 5 (.q 2 .nil))) .nil)))) (.q 2 (.cond (.q 3 (.loop (dr [(11, some .str), (92, some (.int .i64))] [(2,1),(16,2),(93,16)]) (.q 1 (.cond (.q 6 (.q 2 (.cond (.q 3 (.q 5 (.q 3 (.cond (.q 1 .nil) (.q 2 .nil))))) (.q 5 (.q 3 (.cond (.q 1 .nil) (.q 2 .nil))))))) .nil)))) (.q 2 (.cond (.q 2 (.cond (.q 1 .nil) (.q 10 (.q 3 (.cond (.q 3 (.q 3 (.q 2 (.cond (.q 3 .nil) .nil)))) (.q 5 (.cond (.q 7 (.q 3 (.q 2 (.cond (.q 3 .nil) .nil)))) (.q 3 (.q 2 (.cond (.q 3 .nil) .nil)))))))))) (.q 2 (.cond (.q 2 (.cond (.q 1 .nil) (.q 7 .nil))) (.q 2 (.cond (.q 1 .nil) (.q 2 (.cond (.q 1 .nil) (.q 1 .nil)))))))))))))) (.q 3 (.cond (.q 1 .nil) (.q 16 (.q 2 .nil)))))))))))))))))))) (.q 3 (.cond (.q 1 .nil) (.r [0,1,2,3,5,4,6,7] (.cond (.q 1 .nil) (.q 5 .nil)))))))))))
theorem vc59 {t1 n2 n3 a4 l4 c4} {R w} (h : V59 t1 n2 n3 a4 l4 c4 R w) : Cl Try.prog 59 [.agg #[.bool t1, .int .i64 n2, .int .i64 n3, .slice a4 l4 c4]] w R :=
  cl_of scr59 Try.func59 (by kernel_rfl) _ _ (by kernel_rfl) h
end Go.Proofs.Ytngbiaeliphdjaa.V
/- Printed by vcgen.py, a program of this session: formulas of Go functions, each with the proof that it gives the function's contract. No statement of the seat is proved here. -/
namespace Go.Proofs.Ytngbiaeliphdjaa.V
open Go.Vc Go.Proofs
set_option linter.unusedVariables false
set_option maxRecDepth 100000
/-- spec.l1write -/
def V96 (t1 : Bool) (n2 n3 : Int) (a4 : Option Addr) (l4 c4 : Nat) (n5 : Int) (R : Rt) : Pred := fun w =>
  newC [.bool t1, .int .i64 n2, .int .i64 n3, .slice a4 l4 c4] 37 (fun b6 w7 => lL w7 b6 3 fun a8 l8 c8 => ixS a8 l8 n5 fun b9 o10 => lI w7 b9 (o10 + (Int.toNat n5) * 7) fun n11 => lL w7 b9 (o10 + (Int.toNat n5) * 7 + 1) fun a12 l12 c12 => lI w7 b9 (o10 + (Int.toNat n5) * 7 + 2) fun n13 => lI w7 b9 (o10 + (Int.toNat n5) * 7 + 3) fun n14 => lB w7 b9 (o10 + (Int.toNat n5) * 7 + 4) fun t15 => lI w7 b9 (o10 + (Int.toNat n5) * 7 + 5) fun n16 => lL w7 b9 (o10 + (Int.toNat n5) * 7 + 6) fun a17 l17 c17 => newC [.int .i64 0, .slice none 0 0, .int .i64 0, .int .i64 0, .bool false, .int .i64 0, .slice none 0 0] 111 (fun b18 w19 => stW b18 0 [.int .i64 n11, .slice a12 l12 c12, .int .i64 n13, .int .i64 n14, .bool t15, .int .i64 n16, .slice a17 l17 c17] (fun w20 => lI w20 b18 0 fun n21 => (cB (n21 == 1) (drw (fun w22 => lL w22 b18 1 fun a23 l23 c23 => (cB (((l23 : Nat) : Int) == 1) (lL w22 b18 1 fun a24 l24 c24 => ixS a24 l24 0 fun b25 o26 => lI w22 b25 o26 fun n27 => lL w22 b18 1 fun a28 l28 c28 => ixS a28 l28 0 fun b29 o30 => lI w22 b29 (o30 + 1) fun n31 => (cB (n27 == n31) (lL w22 b18 1 fun a32 l32 c32 => ixS a32 l32 0 fun b33 o34 => lI w22 b33 o34 fun n35 => clS 84 ([.int .i64 n35]) w22 R fun s36 w37 => R (.returned (.string s36)) w37) (lL w22 b18 1 fun a39 l39 c39 => (cB (((l39 : Nat) : Int) == 0) (R (.returned (.string (⟨#[91, 94, 92, 120, 48, 48, 45, 92, 120, 102, 102, 93]⟩ : ByteArray))) w22) (lL w22 b18 1 fun a40 l40 c40 => ∃ (I41 : Nat → ByteArray → Int → World → Prop), (∃ k43, I41 k43 (⟨#[91]⟩ : ByteArray) 0 w22) ∧ ∀ k42 (d45 : Nat → Value) s46 n47 w44, I41 k42 s46 n47 w44 → (cB (decide (n47 < ((l40 : Nat) : Int))) (ixS a40 l40 n47 fun b48 o49 => lI w44 b48 (o49 + (Int.toNat n47) * 2) fun n50 => lI w44 b48 (o49 + (Int.toNat n47) * 2 + 1) fun n51 => newC [.int .i64 0, .int .i64 0] 134 (fun b52 w53 => stW b52 0 [.int .i64 n50, .int .i64 n51] (fun w54 => lI w54 b52 0 fun n55 => clS 84 ([.int .i64 n55]) w54 R fun s56 w57 => (s46.size + s56.size ≤ 9223372036854775807) ∧ lI w57 b52 1 fun n59 => lI w57 b52 0 fun n60 => (cB (decide (n59 > n60)) (lI w57 b52 1 fun n61 => clS 84 ([.int .i64 n61]) w57 R fun s62 w63 => ((⟨#[45]⟩ : ByteArray).size + s62.size ≤ 9223372036854775807) ∧ ((s46 ++ s56).size + ((⟨#[45]⟩ : ByteArray) ++ s62).size ≤ 9223372036854775807) ∧ (∃ m65, m65 < k42 ∧ I41 m65 ((s46 ++ s56) ++ ((⟨#[45]⟩ : ByteArray) ++ s62)) (IntKind.wrap .i64 (n47 + 1)) w63)) ((∃ m66, m66 < k42 ∧ I41 m66 (s46 ++ s56) (IntKind.wrap .i64 (n47 + 1)) w57)))) w53) w44) ((s46.size + (⟨#[93]⟩ : ByteArray).size ≤ 9223372036854775807) ∧ R (.returned (.string (s46 ++ (⟨#[93]⟩ : ByteArray)))) w44))))))) (lL w22 b18 1 fun a67 l67 c67 => (cB (((l67 : Nat) : Int) == 0) (R (.returned (.string (⟨#[91, 94, 92, 120, 48, 48, 45, 92, 120, 102, 102, 93]⟩ : ByteArray))) w22) (lL w22 b18 1 fun a68 l68 c68 => ∃ (I69 : Nat → ByteArray → Int → World → Prop), (∃ k71, I69 k71 (⟨#[91]⟩ : ByteArray) 0 w22) ∧ ∀ k70 (d73 : Nat → Value) s74 n75 w72, I69 k70 s74 n75 w72 → (cB (decide (n75 < ((l68 : Nat) : Int))) (ixS a68 l68 n75 fun b76 o77 => lI w72 b76 (o77 + (Int.toNat n75) * 2) fun n78 => lI w72 b76 (o77 + (Int.toNat n75) * 2 + 1) fun n79 => newC [.int .i64 0, .int .i64 0] 134 (fun b80 w81 => stW b80 0 [.int .i64 n78, .int .i64 n79] (fun w82 => lI w82 b80 0 fun n83 => clS 84 ([.int .i64 n83]) w82 R fun s84 w85 => (s74.size + s84.size ≤ 9223372036854775807) ∧ lI w85 b80 1 fun n87 => lI w85 b80 0 fun n88 => (cB (decide (n87 > n88)) (lI w85 b80 1 fun n89 => clS 84 ([.int .i64 n89]) w85 R fun s90 w91 => ((⟨#[45]⟩ : ByteArray).size + s90.size ≤ 9223372036854775807) ∧ ((s74 ++ s84).size + ((⟨#[45]⟩ : ByteArray) ++ s90).size ≤ 9223372036854775807) ∧ (∃ m93, m93 < k70 ∧ I69 m93 ((s74 ++ s84) ++ ((⟨#[45]⟩ : ByteArray) ++ s90)) (IntKind.wrap .i64 (n75 + 1)) w91)) ((∃ m94, m94 < k70 ∧ I69 m94 (s74 ++ s84) (IntKind.wrap .i64 (n75 + 1)) w85)))) w81) w72) ((s74.size + (⟨#[93]⟩ : ByteArray).size ≤ 9223372036854775807) ∧ R (.returned (.string (s74 ++ (⟨#[93]⟩ : ByteArray)))) w72))))))) w20) ((cB (n21 == 2) (lL w20 b18 6 fun a95 l95 c95 => ∃ (I96 : Nat → ByteArray → Int → World → Prop), (∃ k98, I96 k98 (⟨#[]⟩ : ByteArray) 0 w20) ∧ ∀ k97 (d100 : Nat → Value) s101 n102 w99, I96 k97 s101 n102 w99 → (cB (decide (n102 < ((l95 : Nat) : Int))) (ixS a95 l95 n102 fun b103 o104 => lI w99 b103 (o104 + (Int.toNat n102) * 1) fun n105 => lB w99 b6 0 fun t106 => lI w99 b6 1 fun n107 => lI w99 b6 2 fun n108 => lL w99 b6 3 fun a109 l109 c109 => clS 96 ([.agg #[.bool t106, .int .i64 n107, .int .i64 n108, .slice a109 l109 c109], .int .i64 n105]) w99 R fun s110 w111 => (s101.size + s110.size ≤ 9223372036854775807) ∧ (∃ m113, m113 < k97 ∧ I96 m113 (s101 ++ s110) (IntKind.wrap .i64 (n102 + 1)) w111)) (R (.returned (.string s101)) w99))) ((cB (n21 == 3) (lL w20 b18 6 fun a114 l114 c114 => ∃ (I115 : Nat → ByteArray → Int → World → Prop), (∃ k117, I115 k117 (⟨#[]⟩ : ByteArray) 0 w20) ∧ ∀ k116 (d119 : Nat → Value) s120 n121 w118, I115 k116 s120 n121 w118 → (cB (decide (n121 < ((l114 : Nat) : Int))) (ixS a114 l114 n121 fun b122 o123 => lI w118 b122 (o123 + (Int.toNat n121) * 1) fun n124 => (cB (decide (n121 > 0)) ((s120.size + (⟨#[124]⟩ : ByteArray).size ≤ 9223372036854775807) ∧ lB w118 b6 0 fun t125 => lI w118 b6 1 fun n126 => lI w118 b6 2 fun n127 => lL w118 b6 3 fun a128 l128 c128 => clS 96 ([.agg #[.bool t125, .int .i64 n126, .int .i64 n127, .slice a128 l128 c128], .int .i64 n124]) w118 R fun s129 w130 => ((s120 ++ (⟨#[124]⟩ : ByteArray)).size + s129.size ≤ 9223372036854775807) ∧ (∃ m132, m132 < k116 ∧ I115 m132 ((s120 ++ (⟨#[124]⟩ : ByteArray)) ++ s129) (IntKind.wrap .i64 (n121 + 1)) w130)) (lB w118 b6 0 fun t133 => lI w118 b6 1 fun n134 => lI w118 b6 2 fun n135 => lL w118 b6 3 fun a136 l136 c136 => clS 96 ([.agg #[.bool t133, .int .i64 n134, .int .i64 n135, .slice a136 l136 c136], .int .i64 n124]) w118 R fun s137 w138 => (s120.size + s137.size ≤ 9223372036854775807) ∧ (∃ m140, m140 < k116 ∧ I115 m140 (s120 ++ s137) (IntKind.wrap .i64 (n121 + 1)) w138)))) (R (.returned (.string s120)) w118))) ((cB (n21 == 4) (drw (fun w141 => lB w141 b6 0 fun t142 => lI w141 b6 1 fun n143 => lI w141 b6 2 fun n144 => lL w141 b6 3 fun a145 l145 c145 => lL w141 b18 6 fun a146 l146 c146 => ixS a146 l146 0 fun b147 o148 => lI w141 b147 o148 fun n149 => lI w141 b18 2 fun n150 => clS 96 ([.agg #[.bool t142, .int .i64 n143, .int .i64 n144, .slice a145 l145 c145], .int .i64 n149]) w141 R fun s151 w152 => cellH w152.heap b18 2 = some (.int .i64 n150) ∧ (s151.size + (⟨#[123]⟩ : ByteArray).size ≤ 9223372036854775807) ∧ clS 106 ([.int .i64 n150]) w152 R fun s154 w155 => ((s151 ++ (⟨#[123]⟩ : ByteArray)).size + s154.size ≤ 9223372036854775807) ∧ lI w155 b18 3 fun n157 => (cB (decide (n157 < 0)) ((((s151 ++ (⟨#[123]⟩ : ByteArray)) ++ s154).size + (⟨#[44]⟩ : ByteArray).size ≤ 9223372036854775807) ∧ ((((s151 ++ (⟨#[123]⟩ : ByteArray)) ++ s154) ++ (⟨#[44]⟩ : ByteArray)).size + (⟨#[125]⟩ : ByteArray).size ≤ 9223372036854775807) ∧ lB w155 b18 4 fun t158 => (cB t158 ((((((s151 ++ (⟨#[123]⟩ : ByteArray)) ++ s154) ++ (⟨#[44]⟩ : ByteArray)) ++ (⟨#[125]⟩ : ByteArray)).size + (⟨#[63]⟩ : ByteArray).size ≤ 9223372036854775807) ∧ R (.returned (.string (((((s151 ++ (⟨#[123]⟩ : ByteArray)) ++ s154) ++ (⟨#[44]⟩ : ByteArray)) ++ (⟨#[125]⟩ : ByteArray)) ++ (⟨#[63]⟩ : ByteArray)))) w155) (R (.returned (.string ((((s151 ++ (⟨#[123]⟩ : ByteArray)) ++ s154) ++ (⟨#[44]⟩ : ByteArray)) ++ (⟨#[125]⟩ : ByteArray)))) w155))) (lI w155 b18 3 fun n159 => lI w155 b18 2 fun n160 => (cB (decide (n159 > n160)) (lI w155 b18 3 fun n161 => clS 106 ([.int .i64 n161]) w155 R fun s162 w163 => ((⟨#[44]⟩ : ByteArray).size + s162.size ≤ 9223372036854775807) ∧ (((s151 ++ (⟨#[123]⟩ : ByteArray)) ++ s154).size + ((⟨#[44]⟩ : ByteArray) ++ s162).size ≤ 9223372036854775807) ∧ ((((s151 ++ (⟨#[123]⟩ : ByteArray)) ++ s154) ++ ((⟨#[44]⟩ : ByteArray) ++ s162)).size + (⟨#[125]⟩ : ByteArray).size ≤ 9223372036854775807) ∧ lB w163 b18 4 fun t165 => (cB t165 ((((((s151 ++ (⟨#[123]⟩ : ByteArray)) ++ s154) ++ ((⟨#[44]⟩ : ByteArray) ++ s162)) ++ (⟨#[125]⟩ : ByteArray)).size + (⟨#[63]⟩ : ByteArray).size ≤ 9223372036854775807) ∧ R (.returned (.string (((((s151 ++ (⟨#[123]⟩ : ByteArray)) ++ s154) ++ ((⟨#[44]⟩ : ByteArray) ++ s162)) ++ (⟨#[125]⟩ : ByteArray)) ++ (⟨#[63]⟩ : ByteArray)))) w163) (R (.returned (.string ((((s151 ++ (⟨#[123]⟩ : ByteArray)) ++ s154) ++ ((⟨#[44]⟩ : ByteArray) ++ s162)) ++ (⟨#[125]⟩ : ByteArray)))) w163))) ((((s151 ++ (⟨#[123]⟩ : ByteArray)) ++ s154).size + (⟨#[125]⟩ : ByteArray).size ≤ 9223372036854775807) ∧ lB w155 b18 4 fun t166 => (cB t166 (((((s151 ++ (⟨#[123]⟩ : ByteArray)) ++ s154) ++ (⟨#[125]⟩ : ByteArray)).size + (⟨#[63]⟩ : ByteArray).size ≤ 9223372036854775807) ∧ R (.returned (.string ((((s151 ++ (⟨#[123]⟩ : ByteArray)) ++ s154) ++ (⟨#[125]⟩ : ByteArray)) ++ (⟨#[63]⟩ : ByteArray)))) w155) (R (.returned (.string (((s151 ++ (⟨#[123]⟩ : ByteArray)) ++ s154) ++ (⟨#[125]⟩ : ByteArray)))) w155))))))) w20) ((cB (n21 == 5) (drw (fun w167 => lB w167 b6 0 fun t168 => lI w167 b6 1 fun n169 => lI w167 b6 2 fun n170 => lL w167 b6 3 fun a171 l171 c171 => lL w167 b18 6 fun a172 l172 c172 => ixS a172 l172 0 fun b173 o174 => lI w167 b173 o174 fun n175 => clS 96 ([.agg #[.bool t168, .int .i64 n169, .int .i64 n170, .slice a171 l171 c171], .int .i64 n175]) w167 R fun s176 w177 => ((⟨#[40]⟩ : ByteArray).size + s176.size ≤ 9223372036854775807) ∧ (((⟨#[40]⟩ : ByteArray) ++ s176).size + (⟨#[41]⟩ : ByteArray).size ≤ 9223372036854775807) ∧ R (.returned (.string (((⟨#[40]⟩ : ByteArray) ++ s176) ++ (⟨#[41]⟩ : ByteArray)))) w177) w20) ((cB (n21 == 6) (R (.returned (.string (⟨#[94]⟩ : ByteArray))) w20) (R (.returned (.string (⟨#[36]⟩ : ByteArray))) w20))))))))))))) w19) w7) w
def scr96 : Scr := (.q 2 (.q 7 (.q 1 (.q 2 (.q 2 (.cond (.run [0,1,2,3,4] (.split 26 (.r [5,6,7,8,9,10,11,12,13,14,15,16] (.cond (.q 7 .nil) (.q 4 (.cond (.q 1 .nil) (.q 1 (.q 4 (.loop (dr [(6, some .str), (52, some (.int .i64))] [(8,1),(53,20)]) (.q 1 (.cond (.q 4 (.q 6 (.q 5 (.cond (.q 7 (.q 2 .nil)) (.q 2 .nil))))) (.q 3 .nil)))))))))) (.r [5,6,7,8,9,10,11,12,13,14,15,16] (.lit (.q 4 (.cond (.q 1 .nil) (.q 1 (.q 4 (.loop (dr [(6, some .str), (52, some (.int .i64))] [(8,1),(53,20)]) (.q 1 (.cond (.q 4 (.q 6 (.q 5 (.cond (.q 7 (.q 2 .nil)) (.q 2 .nil))))) (.q 3 .nil)))))))))))) (.q 2 (.cond (.q 4 (.loop (dr [(6, some .str), (80, some (.int .i64))] [(10,1),(81,9)]) (.q 1 (.cond (.q 3 (.q 6 (.q 2 .nil))) (.q 2 .nil))))) (.q 2 (.cond (.q 4 (.loop (dr [(6, some .str), (95, some (.int .i64))] [(11,2),(96,14)]) (.q 1 (.cond (.q 5 (.q 2 (.cond (.q 3 (.q 6 (.q 2 .nil))) (.q 6 (.q 2 .nil))))) (.q 2 .nil))))) (.q 2 (.cond (.r [0,1,2,3,4,7,8,5,6,9,10,11] (.q 3 (.cond (.q 3 (.q 3 (.q 2 (.cond (.q 3 (.q 2 .nil)) (.q 2 .nil))))) (.q 5 (.cond (.q 7 (.q 3 (.q 2 (.cond (.q 3 (.q 2 .nil)) (.q 2 .nil))))) (.q 3 (.q 2 (.cond (.q 3 (.q 2 .nil)) (.q 2 .nil))))))))) (.q 2 (.cond (.q 9 (.q 2 .nil)) (.q 2 (.cond (.q 1 (.q 2 .nil)) (.q 1 (.q 2 .nil))))))))))))))))))
theorem vc96 {t1 n2 n3 a4 l4 c4 n5} {R w} (h : V96 t1 n2 n3 a4 l4 c4 n5 R w) : Cl Try.prog 96 [.agg #[.bool t1, .int .i64 n2, .int .i64 n3, .slice a4 l4 c4], .int .i64 n5] w R :=
  cl_of scr96 Try.func96 (by kernel_rfl) _ _ (by kernel_rfl) h
end Go.Proofs.Ytngbiaeliphdjaa.V
/- Printed by vcgen.py, a program of this session: formulas of Go functions, each with the proof that it gives the function's contract. No statement of the seat is proved here. -/
namespace Go.Proofs.Ytngbiaeliphdjaa.V
open Go.Vc Go.Proofs
set_option linter.unusedVariables false
set_option maxRecDepth 100000
/-- spec.l1sane -/
def V95 (t1 : Bool) (n2 n3 : Int) (a4 : Option Addr) (l4 c4 : Nat) (R : Rt) : Pred := fun w =>
  newC [.bool t1, .int .i64 n2, .int .i64 n3, .slice a4 l4 c4] 37 (fun b5 w6 => lB w6 b5 0 fun t7 => (cB (!t7) (R (.returned (.bool false)) w6) (lL w6 b5 3 fun a8 l8 c8 => (cB (((l8 : Nat) : Int) == 0) (R (.returned (.bool false)) w6) (lL w6 b5 3 fun a9 l9 c9 => (cB (decide (((l9 : Nat) : Int) > 480)) (R (.returned (.bool false)) w6) (lL w6 b5 3 fun a10 l10 c10 => ∃ a11 l11 c11, ∃ w12, (Instr.makeSlice 59 (.int .i64 ((l10 : Nat) : Int)) (.int .i64 ((l10 : Nat) : Int))).run Try.prog w6 = .ok (.slice a11 l11 c11) w12 ∧ lL w12 b5 3 fun a13 l13 c13 => ∃ (I14 : Nat → Int → World → Prop), (∃ k16, I14 k16 0 w12) ∧ ∀ k15 (d18 : Nat → Value) n19 w17, I14 k15 n19 w17 → (cB (decide (n19 < ((l13 : Nat) : Int))) (ixS a13 l13 n19 fun b20 o21 => lI w17 b20 (o21 + (Int.toNat n19) * 7) fun n22 => lL w17 b20 (o21 + (Int.toNat n19) * 7 + 1) fun a23 l23 c23 => lI w17 b20 (o21 + (Int.toNat n19) * 7 + 2) fun n24 => lI w17 b20 (o21 + (Int.toNat n19) * 7 + 3) fun n25 => lB w17 b20 (o21 + (Int.toNat n19) * 7 + 4) fun t26 => lI w17 b20 (o21 + (Int.toNat n19) * 7 + 5) fun n27 => lL w17 b20 (o21 + (Int.toNat n19) * 7 + 6) fun a28 l28 c28 => newC [.int .i64 0, .slice none 0 0, .int .i64 0, .int .i64 0, .bool false, .int .i64 0, .slice none 0 0] 111 (fun b29 w30 => stW b29 0 [.int .i64 n22, .slice a23 l23 c23, .int .i64 n24, .int .i64 n25, .bool t26, .int .i64 n27, .slice a28 l28 c28] (fun w31 => ∃ (J32 : Int → World → Prop), (lI w31 b29 0 fun n33 => (cB (n33 == 4) (J32 1 w31) (lI w31 b29 0 fun n34 => (cB (n34 == 5) (J32 1 w31) (J32 (-1) w31))))) ∧ ∀ (d35 : Nat → Value) n36 w37, J32 n36 w37 → lI w37 b29 0 fun n38 => (cB (decide (n38 < 1)) (R (.returned (.bool false)) w37) (lI w37 b29 0 fun n39 => (cB (decide (n39 > 7)) (R (.returned (.bool false)) w37) ((cB (decide (n36 ≥ 0)) (lL w37 b29 6 fun a40 l40 c40 => (cB (((l40 : Nat) : Int) != n36) (R (.returned (.bool false)) w37) (lI w37 b29 2 fun n41 => (cB (decide (n41 < 0)) (R (.returned (.bool false)) w37) (lI w37 b29 2 fun n42 => (cB (decide (n42 > 50)) (R (.returned (.bool false)) w37) (lI w37 b29 3 fun n43 => (cB (decide (n43 > 50)) (R (.returned (.bool false)) w37) (lL w37 b29 1 fun a44 l44 c44 => (cB (decide (((l44 : Nat) : Int) > 128)) (R (.returned (.bool false)) w37) (lL w37 b29 6 fun a45 l45 c45 => ∃ (I46 : Nat → Int → World → Prop), (∃ k48, I46 k48 0 w37) ∧ ∀ k47 (d50 : Nat → Value) n51 w49, I46 k47 n51 w49 → (cB (decide (n51 < ((l45 : Nat) : Int))) (ixS a45 l45 n51 fun b52 o53 => lI w49 b52 (o53 + (Int.toNat n51) * 1) fun n54 => (cB (decide (n54 < 0)) (R (.returned (.bool false)) w49) ((cB (decide (n54 ≥ n19)) (R (.returned (.bool false)) w49) (ixS a11 l11 n54 fun b55 o56 => lB w49 b55 (o56 + (Int.toNat n54) * 1) fun t57 => (cB t57 (R (.returned (.bool false)) w49) (ixS a11 l11 n54 fun b58 o59 => stW b58 (o59 + (Int.toNat n54) * 1) [.bool true] (fun w60 => (∃ m61, m61 < k47 ∧ I46 m61 (IntKind.wrap .i64 (n51 + 1)) w60)) w49))))))) (lL w49 b29 1 fun a62 l62 c62 => ∃ (I63 : Nat → Int → World → Prop), (∃ k65, I63 k65 0 w49) ∧ ∀ k64 (d67 : Nat → Value) n68 w66, I63 k64 n68 w66 → (cB (decide (n68 < ((l62 : Nat) : Int))) (ixS a62 l62 n68 fun b69 o70 => lI w66 b69 (o70 + (Int.toNat n68) * 2) fun n71 => lI w66 b69 (o70 + (Int.toNat n68) * 2 + 1) fun n72 => newC [.int .i64 0, .int .i64 0] 134 (fun b73 w74 => stW b73 0 [.int .i64 n71, .int .i64 n72] (fun w75 => lI w75 b73 0 fun n76 => (cB (decide (n76 < 0)) (R (.returned (.bool false)) w75) (lI w75 b73 1 fun n77 => (cB (decide (n77 > 255)) (R (.returned (.bool false)) w75) (lI w75 b73 0 fun n78 => lI w75 b73 1 fun n79 => (cB (decide (n78 > n79)) (R (.returned (.bool false)) w75) ((∃ m80, m80 < k64 ∧ I63 m80 (IntKind.wrap .i64 (n68 + 1)) w75)))))))) w74) w66) ((∃ m81, m81 < k15 ∧ I14 m81 (IntKind.wrap .i64 (n19 + 1)) w66)))))))))))))))) (lI w37 b29 2 fun n82 => (cB (decide (n82 < 0)) (R (.returned (.bool false)) w37) (lI w37 b29 2 fun n83 => (cB (decide (n83 > 50)) (R (.returned (.bool false)) w37) (lI w37 b29 3 fun n84 => (cB (decide (n84 > 50)) (R (.returned (.bool false)) w37) (lL w37 b29 1 fun a85 l85 c85 => (cB (decide (((l85 : Nat) : Int) > 128)) (R (.returned (.bool false)) w37) (lL w37 b29 6 fun a86 l86 c86 => ∃ (I87 : Nat → Int → World → Prop), (∃ k89, I87 k89 0 w37) ∧ ∀ k88 (d91 : Nat → Value) n92 w90, I87 k88 n92 w90 → (cB (decide (n92 < ((l86 : Nat) : Int))) (ixS a86 l86 n92 fun b93 o94 => lI w90 b93 (o94 + (Int.toNat n92) * 1) fun n95 => (cB (decide (n95 < 0)) (R (.returned (.bool false)) w90) ((cB (decide (n95 ≥ n19)) (R (.returned (.bool false)) w90) (ixS a11 l11 n95 fun b96 o97 => lB w90 b96 (o97 + (Int.toNat n95) * 1) fun t98 => (cB t98 (R (.returned (.bool false)) w90) (ixS a11 l11 n95 fun b99 o100 => stW b99 (o100 + (Int.toNat n95) * 1) [.bool true] (fun w101 => (∃ m102, m102 < k88 ∧ I87 m102 (IntKind.wrap .i64 (n92 + 1)) w101)) w90))))))) (lL w90 b29 1 fun a103 l103 c103 => ∃ (I104 : Nat → Int → World → Prop), (∃ k106, I104 k106 0 w90) ∧ ∀ k105 (d108 : Nat → Value) n109 w107, I104 k105 n109 w107 → (cB (decide (n109 < ((l103 : Nat) : Int))) (ixS a103 l103 n109 fun b110 o111 => lI w107 b110 (o111 + (Int.toNat n109) * 2) fun n112 => lI w107 b110 (o111 + (Int.toNat n109) * 2 + 1) fun n113 => newC [.int .i64 0, .int .i64 0] 134 (fun b114 w115 => stW b114 0 [.int .i64 n112, .int .i64 n113] (fun w116 => lI w116 b114 0 fun n117 => (cB (decide (n117 < 0)) (R (.returned (.bool false)) w116) (lI w116 b114 1 fun n118 => (cB (decide (n118 > 255)) (R (.returned (.bool false)) w116) (lI w116 b114 0 fun n119 => lI w116 b114 1 fun n120 => (cB (decide (n119 > n120)) (R (.returned (.bool false)) w116) ((∃ m121, m121 < k105 ∧ I104 m121 (IntKind.wrap .i64 (n109 + 1)) w116)))))))) w115) w107) ((∃ m122, m122 < k15 ∧ I14 m122 (IntKind.wrap .i64 (n19 + 1)) w107)))))))))))))))))))) w30) w17) (R (.returned (.bool true)) w17))))))))) w
def scr95 : Scr := (.q 2 (.run [0,1,2,3] (.split 14 (.r [4,5,6,7,8,9,10,11,12,13,14] (.lit (.q 1 .nil))) (.run [4,5,6,7,8,9] (.split 20 (.r [10,11,12,13,14] (.lit (.q 1 .nil))) (.r [10,11,12,13,14] (.cond (.q 1 .nil) (.q 5 (.q 4 (.loop (dr [(33, some (.int .i64))] [(2,1),(4,3),(8,1),(10,1),(34,100)]) (.q 1 (.cond (.q 6 (.q 1 (.cutS (dr [(6, some (.int .i64))] [(38,8)]) (.run [0,1,2,3] (.split 41 (.r [4,5,6,7] (.lit (.q 1 .nil))) (.r [4,5,6,7] (.cond (.q 1 .nil) .nil)))) (.run [0,1,2,3] (.split 49 (.r [4,5,6,7,8,9,10,11,12,13,14,15,16,17,18,19,20,21,22,23,24,25,26,27,28,29,30,31,32,33,34,35,36,37,38,39] (.lit (.q 1 .nil))) (.run [4,5,6,7,8] (.split 54 (.r [9,10,11,12,13,14,15,16,17,18,19,20,21,22,23,24,25,26,27,28,29,30,31,32,33,34,35,36,37,38,39] (.lit (.q 1 .nil))) (.run [9,10,11] (.split 57 (.run [12,13,14,15,16,17,18,19] (.split 65 (.r [20,21,22,23,24,25,26,27,28,29,30,31,32,33,34,35,36,37,38,39] (.lit (.q 1 .nil))) (.run [20,21,22,23,24] (.split 70 (.r [25,26,27,28,29,30,31,32,33,34,35,36,37,38,39] (.lit (.q 1 .nil))) (.run [25,26,27,28,29] (.split 75 (.r [30,31,32,33,34,35,36,37,38,39] (.lit (.q 1 .nil))) (.run [30,31,32,33,34] (.split 80 (.r [35,36,37,38,39] (.lit (.q 1 .nil))) (.r [35,36,37,38,39] (.cond (.q 1 .nil) (.q 4 (.loop (dr [(89, some (.int .i64))] [(2,1),(8,1),(90,20)]) (.q 1 (.cond (.q 3 (.run [0,1,2] (.split 95 (.r [3,4,5,6,7,8,9,10,11,12] (.lit (.q 1 .nil))) (.run [3,4,5,6,7] (.split 100 (.r [8,9,10,11,12] (.lit (.q 1 .nil))) (.r [8,9,10,11,12] (.cond (.q 1 .nil) (.q 4 (.q 2 .nil))))))))) (.q 4 (.loop (dr [(113, some (.int .i64))] [(2,1),(10,1),(114,19)]) (.q 1 (.cond (.q 4 (.run [0,1,2,3] (.split 120 (.r [4,5,6,7,8,9,10,11,12,13,14] (.lit (.q 1 .nil))) (.run [4,5,6,7,8] (.split 125 (.r [9,10,11,12,13,14] (.lit (.q 1 .nil))) (.r [9,10,11,12,13,14] (.cond (.q 1 .nil) (.q 2 .nil)))))))) (.q 2 .nil))))))))))))))))))) (.run [12,13,14,15,16,17,18,19,20,21,22,23,24] (.split 70 (.r [25,26,27,28,29,30,31,32,33,34,35,36,37,38,39] (.lit (.q 1 .nil))) (.run [25,26,27,28,29] (.split 75 (.r [30,31,32,33,34,35,36,37,38,39] (.lit (.q 1 .nil))) (.run [30,31,32,33,34] (.split 80 (.r [35,36,37,38,39] (.lit (.q 1 .nil))) (.r [35,36,37,38,39] (.cond (.q 1 .nil) (.q 4 (.loop (dr [(89, some (.int .i64))] [(2,1),(8,1),(90,20)]) (.q 1 (.cond (.q 3 (.run [0,1,2] (.split 95 (.r [3,4,5,6,7,8,9,10,11,12] (.lit (.q 1 .nil))) (.run [3,4,5,6,7] (.split 100 (.r [8,9,10,11,12] (.lit (.q 1 .nil))) (.r [8,9,10,11,12] (.cond (.q 1 .nil) (.q 4 (.q 2 .nil))))))))) (.q 4 (.loop (dr [(113, some (.int .i64))] [(2,1),(10,1),(114,19)]) (.q 1 (.cond (.q 4 (.run [0,1,2,3] (.split 120 (.r [4,5,6,7,8,9,10,11,12,13,14] (.lit (.q 1 .nil))) (.run [4,5,6,7,8] (.split 125 (.r [9,10,11,12,13,14] (.lit (.q 1 .nil))) (.r [9,10,11,12,13,14] (.cond (.q 1 .nil) (.q 2 .nil)))))))) (.q 2 .nil)))))))))))))))))))))))))) (.q 1 .nil)))))))))))))
theorem vc95 {t1 n2 n3 a4 l4 c4} {R w} (h : V95 t1 n2 n3 a4 l4 c4 R w) : Cl Try.prog 95 [.agg #[.bool t1, .int .i64 n2, .int .i64 n3, .slice a4 l4 c4]] w R :=
  cl_of scr95 Try.func95 (by kernel_rfl) _ _ (by kernel_rfl) h
/-- spec.WritePattern -/
def V57 (t1 : Bool) (n2 n3 : Int) (a4 : Option Addr) (l4 c4 : Nat) (R : Rt) : Pred := fun w =>
  newC [.bool t1, .int .i64 n2, .int .i64 n3, .slice a4 l4 c4] 37 (fun b5 w6 => lB w6 b5 0 fun t7 => lI w6 b5 1 fun n8 => lI w6 b5 2 fun n9 => lL w6 b5 3 fun a10 l10 c10 => clB 95 ([.agg #[.bool t7, .int .i64 n8, .int .i64 n9, .slice a10 l10 c10]]) w6 R fun t11 w12 => (cB (!t11) (R (.returned (.string (⟨#[]⟩ : ByteArray))) w12) (lB w12 b5 0 fun t14 => lI w12 b5 1 fun n15 => lI w12 b5 2 fun n16 => lL w12 b5 3 fun a17 l17 c17 => lL w12 b5 3 fun a18 l18 c18 => clS 96 ([.agg #[.bool t14, .int .i64 n15, .int .i64 n16, .slice a17 l17 c17], .int .i64 (IntKind.wrap .i64 (((l18 : Nat) : Int) - 1))]) w12 R fun s19 w20 => clV 27 ([.string s19]) w20 R fun r27 w26 => ∃ t22, ∃ n23, ∃ n24, ∃ a25 l25 c25, r27 = .agg #[.bool t22, .int .i64 n23, .int .i64 n24, .slice a25 l25 c25] ∧ newC [.bool false, .int .i64 0, .int .i64 0, .slice none 0 0] 37 (fun b28 w29 => stW b28 0 [.bool t22, .int .i64 n23, .int .i64 n24, .slice a25 l25 c25] (fun w30 => lB w30 b28 0 fun t31 => (cB (!t31) (R (.returned (.string (⟨#[]⟩ : ByteArray))) w30) (lI w30 b28 2 fun n32 => lI w30 b5 2 fun n33 => (cB (n32 != n33) (R (.returned (.string (⟨#[]⟩ : ByteArray))) w30) (lI w30 b5 1 fun n34 => (cB (n34 != 0) (R (.returned (.string (⟨#[]⟩ : ByteArray))) w30) (lL w30 b28 3 fun a35 l35 c35 => lL w30 b5 3 fun a36 l36 c36 => clB 97 ([.slice a35 l35 c35, .slice a36 l36 c36]) w30 R fun t37 w38 => (cB (!t37) (R (.returned (.string (⟨#[]⟩ : ByteArray))) w38) (R (.returned (.string s19)) w38))))))))) w29) w26))) w
def scr57 : Scr := (.q 2 (.q 3 (.cond (.q 1 .nil) (.q 7 (.q 4 (.run [0,1,2,3] (.split 19 (.r [4,5,6,7,8,9,10,11,12,13,14,15,16,17,18,19,20,21,22] (.lit (.q 1 .nil))) (.run [4,5,6,7,8,9,10] (.split 26 (.r [11,12,13,14,15,16,17,18,19,20,21,22] (.lit (.q 1 .nil))) (.run [11,12,13,14,15] (.split 31 (.r [16,17,18,19,20,21,22] (.lit (.q 1 .nil))) (.r [16,17,18,19,20,21,22] (.cond (.q 1 .nil) (.q 2 .nil))))))))))))))
theorem vc57 {t1 n2 n3 a4 l4 c4} {R w} (h : V57 t1 n2 n3 a4 l4 c4 R w) : Cl Try.prog 57 [.agg #[.bool t1, .int .i64 n2, .int .i64 n3, .slice a4 l4 c4]] w R :=
  cl_of scr57 Try.func57 (by kernel_rfl) _ _ (by kernel_rfl) h
end Go.Proofs.Ytngbiaeliphdjaa.V
/- Lemmas on memory, numbers and strings for the walks. No statement of the seat is proved here. -/
namespace Go.Vc
open Go.RowKit
set_option linter.unusedVariables false
set_option linter.unusedSimpArgs false

/-! ### Calls -/
theorem Cl.use {P : Program} {f : FuncId} {args : List Value} {w : World} {R R' : Ending → World → Prop} (h : Cl P f args w R) (hr : ∀ e w', R e w' → R' e w') : Cl P f args w R' := ⟨h.1, h.2.mono hr⟩
/-- It returns v; nothing that was there has changed. -/
def RetB (v : Value) (w : World) : Ending → World → Prop := fun e w' => e = .returned v ∧ Below w.heap.size w w'
theorem Cl.ret {P : Program} {f : FuncId} {args : List Value} {w : World} {v : Value} {F : Value → World → Prop} {Qp : List PanicEntry → World → Prop} (h : Cl P f args w (RetB v w))
    (hF : ∀ w', Below w.heap.size w w' → F v w') : Cl P f args w (retG F Qp) :=
  h.use fun e w' he => by obtain ⟨rfl, hb⟩ := he; exact hF w' hb
theorem RetB.mk {v : Value} {w w' : World} (h : Below w.heap.size w w') : RetB v w (.returned v) w' := ⟨rfl, h⟩

/-! ### Worlds -/
theorem _root_.Go.RowKit.Below.vdrew {B : Nat} {a w : World} (h : Below B a w) : Below B a (drewW w) := ⟨h.os, h.tape, h.output, h.size, h.block⟩
theorem _root_.Go.RowKit.Below.vnew {B : Nat} {a w : World} (h : Below B a w) (hB : B ≤ w.heap.size) (o : Obj) : Below B a (newW w o) :=
  ⟨h.os, h.tape, h.output, by have := h.size; simp only [Vc.newW, Array.size_push]; omega, fun k hk => by
    rw [← h.block k hk]; simp only [Vc.newW, Array.getElem?_push]; rw [if_neg (by omega)]⟩
theorem setH_size (h : Array Obj) (b o : Nat) (v : Value) : (setH h b o v).size = h.size := by simp [setH]
theorem _root_.Go.RowKit.Below.vset {B : Nat} {a w : World} (h : Below B a w) {b o : Nat} (hB : B ≤ b) (v : Value) : Below B a (setW w b o v) :=
  ⟨h.os, h.tape, h.output, by simp only [Vc.setW, setH_size]; exact h.size, fun k hk => by
    rw [← h.block k hk]; simp only [Vc.setW, setH_get]; rw [if_neg (by omega)]⟩
theorem _root_.Go.RowKit.Below.vsets {B : Nat} {a : World} {b : Nat} (hB : B ≤ b) {vs : List Value} : ∀ {w : World} {o : Nat}, Below B a w → Below B a (setsW w b o vs) := by
  induction vs with
  | nil => intro w o h; exact h
  | cons v r ih => intro w o h; exact ih (h.vset hB v)
theorem _root_.Go.RowKit.Below.vstep {w0 w w' : World} (h : Below w0.heap.size w0 w) (h' : Below w.heap.size w w') : Below w0.heap.size w0 w' :=
  h.trans (h'.mono h.size)
theorem _root_.Go.RowKit.Below.vcell {B : Nat} {w w' : World} (h : Below B w w') {b : Nat} (hb : b < B) (o : Nat) : cellH w'.heap b o = cellH w.heap b o := by
  unfold Vc.cellH; rw [h.block b hb]
theorem newW_get (w : World) (o : Obj) (k : Nat) : (newW w o).heap[k]? = if k = w.heap.size then some o else w.heap[k]? := by
  simp only [newW, Array.getElem?_push]
theorem cellH_new (w : World) (cs : Array Value) (t : TypeId) (o : Nat) : Vc.cellH (newW w (.cells cs t)).heap w.heap.size o = cs[o]? := by
  unfold Vc.cellH; rw [newW_get]; simp
theorem cellsAt_all {h : Array Obj} {b : Nat} {vs : List Value} (hh : ∀ i, i < vs.length → Vc.cellH h b i = vs[i]?) : cellsAt h b 0 vs :=
  (cellsAt_iff vs 0).2 fun i hi => by rw [Nat.zero_add]; exact hh i hi

/-! ### Numbers -/
theorem w64 {n : Int} (h : -9223372036854775808 ≤ n ∧ n ≤ 9223372036854775807) : IntKind.wrap .i64 n = n := by
  have h1 : (2 ^ IntKind.i64.bits : Int) = 18446744073709551616 := by decide
  have h2 : (2 ^ (IntKind.i64.bits - 1) : Int) = 9223372036854775808 := by decide
  have h3 : IntKind.i64.signed = true := rfl
  unfold IntKind.wrap
  simp only [h1, h2, h3, Bool.true_and, decide_eq_true_eq]
  split <;> omega
theorem w8 (n : Int) : IntKind.wrap .u8 n = n % 256 := by
  have h1 : (2 ^ IntKind.u8.bits : Int) = 256 := by decide
  have h3 : IntKind.u8.signed = false := rfl
  unfold IntKind.wrap
  simp only [h1, h3, Bool.false_and, Bool.false_eq_true, if_false]

/-! ### Strings as lists of bytes -/
abbrev Bytes := List UInt8
def B (l : Bytes) : ByteArray := ⟨l.toArray⟩
def L (s : ByteArray) : Bytes := s.data.toList
@[simp] theorem L_B (l : Bytes) : L (B l) = l := by simp [L, B]
@[simp] theorem B_L (s : ByteArray) : B (L s) = s := by simp [L, B]
theorem size_L (s : ByteArray) : s.size = (L s).length := by simp [L]
theorem size_B (l : Bytes) : (B l).size = l.length := by simp [size_L]
theorem L_inj {s t : ByteArray} (h : L s = L t) : s = t := by rw [← B_L s, h, B_L]
theorem L_append (s t : ByteArray) : L (s ++ t) = L s ++ L t := by simp [L]
theorem B_append (l m : Bytes) : B l ++ B m = B (l ++ m) := L_inj (by simp [L_append])
theorem L_extract (s : ByteArray) (a b : Nat) : L (s.extract a b) = ((L s).drop a).take (b - a) := by
  simp [L, ByteArray.data_extract, List.extract_eq_take_drop]
theorem byteAt_L (s : ByteArray) (i : Nat) : byteAt s i = (((L s).getD i 0).toNat : Int) := rfl
theorem toList_eq (s : ByteArray) : s.toList = L s := ByteArray.toList_eq s
def u8s (l : Bytes) : List Value := l.map fun x => .int .u8 (x.toNat : Int)
theorem foldl_push (l : Bytes) : ∀ (r : ByteArray), (l.map fun x : UInt8 => (x.toNat : Int)).foldl (fun r n => r.push (UInt8.ofNat n.toNat)) r = r ++ B l := by
  induction l with
  | nil => intro r; apply L_inj; simp [L_append]
  | cons x l ih =>
    intro r
    simp only [List.map_cons, List.foldl_cons, Int.toNat_natCast, UInt8.ofNat_toNat]
    rw [ih]
    apply L_inj
    simp [L_append, L, B]
/-- A slice of bytes becomes a string. -/
theorem conv_run {P : Program} {src dst e : TypeId} (hs : P.underlying src = some (.slice e)) (hd : P.underlying dst = some .string) (he : P.underlying e = some (.int .u8)) {w : World} {b o n c : Nat} {l : Bytes}
    (hn : n = l.length) (h : cellsAt w.heap b o (u8s l)) : (convert src dst (.slice (some ⟨b, o, none⟩) n c)).run P w = .ok (.string (B l)) w := by
  unfold convert
  rw [bind_run (underlying_run hs w), bind_run (underlying_run hd w)]
  simp only []
  rw [bind_run (underlying_run he w)]
  have h1 : (loadCells ⟨b, o, none⟩ n).run P w = .ok ((l.map fun x : UInt8 => (x.toNat : Int)).map (Value.int .u8)).toArray w := by
    have h2 := loadCells_run (P := P) h
    have h3 : (u8s l).length = n := by simp [u8s, hn]
    rw [h3] at h2
    rw [h2]
    simp [u8s]
  simp only []
  rw [run_bytesToString w _ n c _ h1, foldl_push]
  congr 2
theorem conv_nil {P : Program} {src dst e : TypeId} (hs : P.underlying src = some (.slice e)) (hd : P.underlying dst = some .string) (he : P.underlying e = some (.int .u8)) {w : World} {n c : Nat} :
    (convert src dst (.slice none n c)).run P w = .ok (.string (B [])) w := by
  unfold convert
  rw [bind_run (underlying_run hs w), bind_run (underlying_run hd w)]
  simp only []
  rw [bind_run (underlying_run he w)]
  rfl
theorem cellsAt_newW (w : World) (cs : List Value) (t : TypeId) : cellsAt (newW w (.cells ⟨cs⟩ t)).heap w.heap.size 0 cs :=
  cellsAt_all fun i hi => by rw [cellH_new]; simp
end Go.Vc
/- Rows of memory that a slice owns, and append. No statement of the seat is proved here. -/
namespace Go.Vc
open Go.RowKit
set_option linter.unusedVariables false
set_option linter.unusedSimpArgs false

/-! ### Worlds that differ in new blocks and in some named ones -/
structure Ext (S : Nat → Prop) (w w' : World) : Prop where
  os : w'.os = w.os
  tape : w'.tape = w.tape
  output : w'.output = w.output
  size : w.heap.size ≤ w'.heap.size
  block : ∀ k, k < w.heap.size → ¬ S k → w'.heap[k]? = w.heap[k]?
theorem Ext.refl (S : Nat → Prop) (w : World) : Ext S w w := ⟨rfl, rfl, rfl, Nat.le_refl _, fun _ _ _ => rfl⟩
theorem Ext.trans {S : Nat → Prop} {a b c : World} (h : Ext S a b) (k : Ext S b c) : Ext S a c :=
  ⟨k.os.trans h.os, k.tape.trans h.tape, k.output.trans h.output, Nat.le_trans h.size k.size, fun i hi hs => (k.block i (Nat.lt_of_lt_of_le hi h.size) hs).trans (h.block i hi hs)⟩
theorem Ext.mono {S T : Nat → Prop} {a b : World} (h : Ext S a b) (hs : ∀ k, k < a.heap.size → S k → T k) : Ext T a b :=
  ⟨h.os, h.tape, h.output, h.size, fun i hi ht => h.block i hi fun h' => ht (hs i hi h')⟩
/-- The second part may write to whatever is new since the first world, too. -/
theorem Ext.step {S T : Nat → Prop} {a b c : World} (h : Ext S a b) (k : Ext T b c) (hs : ∀ i, i < a.heap.size → T i → S i) : Ext S a c :=
  ⟨k.os.trans h.os, k.tape.trans h.tape, k.output.trans h.output, Nat.le_trans h.size k.size,
    fun i hi hn => (k.block i (Nat.lt_of_lt_of_le hi h.size) fun ht => hn (hs i hi ht)).trans (h.block i hi hn)⟩
theorem Ext.below {S : Nat → Prop} {a b : World} (h : Ext S a b) (hs : ∀ k, k < a.heap.size → ¬ S k) : Below a.heap.size a b :=
  ⟨h.os, h.tape, h.output, h.size, fun k hk => h.block k hk (hs k hk)⟩
theorem Ext.of_below {S : Nat → Prop} {a b : World} (h : Below a.heap.size a b) : Ext S a b := ⟨h.os, h.tape, h.output, h.size, fun k hk _ => h.block k hk⟩
theorem Ext.vdrew {S : Nat → Prop} {a w : World} (h : Ext S a w) : Ext S a (drewW w) := ⟨h.os, h.tape, h.output, h.size, h.block⟩
theorem Ext.vnew {S : Nat → Prop} {a w : World} (h : Ext S a w) (o : Obj) : Ext S a (newW w o) :=
  ⟨h.os, h.tape, h.output, by have := h.size; simp only [newW, Array.size_push]; omega, fun k hk hs => by
    rw [← h.block k hk hs, newW_get]; have := h.size; rw [if_neg (by omega)]⟩
theorem Ext.vset {S : Nat → Prop} {a w : World} (h : Ext S a w) {b o : Nat} (hb : S b ∨ a.heap.size ≤ b) (v : Value) : Ext S a (setW w b o v) :=
  ⟨h.os, h.tape, h.output, by simp only [setW, setH_size]; exact h.size, fun k hk hs => by
    rw [← h.block k hk hs]; simp only [setW, setH_get]
    rw [if_neg]; rintro rfl
    rcases hb with hb | hb
    · exact hs hb
    · omega⟩
theorem Ext.vsets {S : Nat → Prop} {a : World} {b : Nat} (hb : S b ∨ a.heap.size ≤ b) {vs : List Value} : ∀ {w : World} {o : Nat}, Ext S a w → Ext S a (setsW w b o vs) := by
  induction vs with
  | nil => intro w o h; exact h
  | cons v r ih => intro w o h; exact ih (h.vset hb v)
theorem Ext.cellH {S : Nat → Prop} {w w' : World} (h : Ext S w w') {b : Nat} (hb : b < w.heap.size) (hs : ¬ S b) (o : Nat) : cellH w'.heap b o = cellH w.heap b o := by
  unfold Vc.cellH; rw [h.block b hb hs]

/-! ### Blocks -/
/-- The block holds just these cells, none of them frozen. -/
def Blk (h : Array Obj) (b : Nat) (e : TypeId) (cs : List Value) : Prop := h[b]? = some (.cells ⟨cs⟩ e (0, 0))
theorem Blk.lt {h : Array Obj} {b : Nat} {e : TypeId} {cs : List Value} (hb : Blk h b e cs) : b < h.size := (Array.getElem?_eq_some_iff.1 hb).1
theorem Blk.cell {h : Array Obj} {b : Nat} {e : TypeId} {cs : List Value} (hb : Blk h b e cs) (o : Nat) : cellH h b o = cs[o]? := by
  unfold cellH; rw [hb]; simp
theorem Blk.froz {h : Array Obj} {b : Nat} {e : TypeId} {cs : List Value} (hb : Blk h b e cs) (o : Nat) : frozH h b o = false := by
  unfold frozH; rw [hb]; simp
theorem Blk.wr {h : Array Obj} {b : Nat} {e : TypeId} {cs : List Value} (hb : Blk h b e cs) {o : Nat} (ho : o < cs.length) : wrH h b o :=
  ⟨⟨cs[o], by rw [hb.cell]; exact List.getElem?_eq_getElem ho⟩, hb.froz o⟩
theorem Blk.wrL {h : Array Obj} {b : Nat} {e : TypeId} {cs : List Value} (hb : Blk h b e cs) : ∀ {vs : List Value} {o : Nat}, o + vs.length ≤ cs.length → wrL h b o vs := by
  intro vs
  induction vs with
  | nil => intro o _; trivial
  | cons v r ih => intro o ho; simp only [List.length_cons] at ho; rw [wrL_cons]; exact ⟨hb.wr (by omega), ih (by omega)⟩
theorem Blk.new (w : World) (e : TypeId) (cs : List Value) : Blk (newW w (.cells ⟨cs⟩ e)).heap w.heap.size e cs := by
  unfold Blk; rw [newW_get]; simp
theorem Blk.set {w : World} {b : Nat} {e : TypeId} {cs : List Value} (hb : Blk w.heap b e cs) (o : Nat) (v : Value) : Blk (setW w b o v).heap b e (cs.set o v) := by
  unfold Blk at *; simp only [setW, setH_get, if_true, hb, Option.map_some, setO]; simp
theorem Blk.sets {b : Nat} {e : TypeId} : ∀ {vs : List Value} {w : World} {cs : List Value} {o : Nat}, Blk w.heap b e cs → Blk (setsW w b o vs).heap b e (segSet cs o vs) := by
  intro vs
  induction vs with
  | nil => intro w cs o h; exact h
  | cons v r ih => intro w cs o h; exact ih (h.set o v)
theorem Blk.keep {S : Nat → Prop} {w w' : World} {b : Nat} {e : TypeId} {cs : List Value} (hb : Blk w.heap b e cs) (h : Ext S w w') (hs : ¬ S b) : Blk w'.heap b e cs := by
  unfold Blk at *; rw [h.block b (Blk.lt hb) hs]; exact hb
theorem Blk.cellsAt {h : Array Obj} {b : Nat} {e : TypeId} {cs : List Value} (hb : Blk h b e cs) {o n : Nat} {vs : List Value} (hv : (cs.drop o).take n = vs) (hn : n = vs.length) : Vc.cellsAt h b o vs := by
  rw [cellsAt_iff]
  intro i hi
  rw [hb.cell, ← hv, List.getElem?_take, if_pos (by omega), List.getElem?_drop]
theorem setW_other {w : World} {b o : Nat} {v : Value} {k : Nat} (h : k ≠ b) : (setW w b o v).heap[k]? = w.heap[k]? := by
  simp only [setW, setH_get]; rw [if_neg (Ne.symm h)]
theorem setsW_other {b k : Nat} (h : k ≠ b) : ∀ {vs : List Value} {w : World} {o : Nat}, (setsW w b o vs).heap[k]? = w.heap[k]? := by
  intro vs
  induction vs with
  | nil => intro w o; rfl
  | cons v r ih => intro w o; exact (ih).trans (setW_other h)
theorem setsW_size {b : Nat} : ∀ {vs : List Value} {w : World} {o : Nat}, (setsW w b o vs).heap.size = w.heap.size := by
  intro vs
  induction vs with
  | nil => intro w o; rfl
  | cons v r ih => intro w o; exact ih.trans (by simp [setW, setH_size])
theorem segSet_eq : ∀ (vs cs : List Value) (o : Nat), o + vs.length ≤ cs.length → segSet cs o vs = cs.take o ++ vs ++ cs.drop (o + vs.length)
  | [], cs, o, h => by simp [segSet]
  | v :: r, cs, o, h => by
    simp only [List.length_cons] at h
    simp only [segSet]
    rw [segSet_eq r _ (o + 1) (by simp; omega)]
    have h1 : (cs.set o v).take (o + 1) = cs.take o ++ [v] := by
      rw [List.take_succ_eq_append_getElem (by simp; omega)]
      simp [List.take_set_of_le (Nat.le_refl o)]
    have h2 : (cs.set o v).drop (o + 1 + r.length) = cs.drop (o + (r.length + 1)) := by
      rw [List.drop_set_of_lt (by omega)]
      congr 1; omega
    rw [h1, h2]
    simp

/-! ### Rows that a slice owns -/
/-- The slice's elements are xs, cell by cell; its array is a block of its own, from place 0 on. -/
def Vec (h : Array Obj) (e : TypeId) (sz : Nat) (a : Option Addr) (l c : Nat) (xs : List Value) : Prop :=
  xs.length = l * sz ∧ l ≤ c ∧ ((a = none ∧ c = 0) ∨ ∃ b cs, a = some ⟨b, 0, none⟩ ∧ Blk h b e cs ∧ cs.length = c * sz ∧ cs.take (l * sz) = xs)
def blkOf : Option Addr → Option Nat
  | some a => some a.block
  | none => none
theorem Vec.nil (h : Array Obj) (e : TypeId) (sz : Nat) : Vec h e sz none 0 0 [] := ⟨by simp, Nat.le_refl _, .inl ⟨rfl, rfl⟩⟩
theorem Vec.keep {S : Nat → Prop} {w w' : World} {e : TypeId} {sz : Nat} {a : Option Addr} {l c : Nat} {xs : List Value} (hv : Vec w.heap e sz a l c xs) (h : Ext S w w') (hs : ∀ b, blkOf a = some b → ¬ S b) : Vec w'.heap e sz a l c xs := by
  obtain ⟨h1, h2, h3⟩ := hv
  refine ⟨h1, h2, ?_⟩
  rcases h3 with h3 | ⟨b, cs, rfl, hb, h4, h5⟩
  · exact .inl h3
  · exact .inr ⟨b, cs, rfl, hb.keep h (hs b rfl), h4, h5⟩
theorem Vec.at {h : Array Obj} {e : TypeId} {sz : Nat} {a : Option Addr} {l c : Nat} {xs : List Value} (hv : Vec h e sz a l c xs) (hl : 0 < l * sz) : ∃ b, a = some ⟨b, 0, none⟩ ∧ cellsAt h b 0 xs ∧ b < h.size := by
  obtain ⟨h1, h2, h3⟩ := hv
  rcases h3 with ⟨rfl, rfl⟩ | ⟨b, cs, rfl, hb, h4, h5⟩
  · have : l = 0 := by omega
    subst this; simp at hl
  · exact ⟨b, rfl, hb.cellsAt (n := l * sz) (by simpa using h5) h1.symm, hb.lt⟩
theorem Vec.lt {h : Array Obj} {e : TypeId} {sz : Nat} {a : Option Addr} {l c : Nat} {xs : List Value} (hv : Vec h e sz a l c xs) : ∀ b, blkOf a = some b → b < h.size := by
  obtain ⟨h1, h2, h3⟩ := hv
  rcases h3 with ⟨rfl, rfl⟩ | ⟨b, cs, rfl, hb, h4, h5⟩
  · intro b h; cases h
  · intro b' h; simp only [blkOf, Option.some.injEq] at h; subst h; exact hb.lt
theorem Vec.new (w : World) (e : TypeId) (sz : Nat) (l : Nat) (cs : List Value) (h : cs.length = l * sz) : Vec (newW w (.cells ⟨cs⟩ e)).heap e sz (some ⟨w.heap.size, 0, none⟩) l l cs :=
  ⟨h, Nat.le_refl _, .inr ⟨_, cs, rfl, Blk.new w e cs, h, by rw [← h, List.take_length]⟩⟩

theorem bytes_le {P : Program} {e : TypeId} {i : TypeInfo} (hi : P.info? e = some i) (w : World) : (typeInfo e).run P w = .ok i w := by
  simp [typeInfo, program, bind, Sem.bind, Sem.run, hi, pure]

def bytesP (P : Program) (e : TypeId) : Option Nat := (P.info? e).map (·.bytes)

/-- append of a slice's elements to a slice of our own. -/
theorem append_run2 {P : Program} {T T' T'' e : TypeId} {sz by_ : Nat} (hT : P.underlying T = some (.slice e)) (hT' : P.underlying T' = some (.slice e)) (hsz : sizeP P e = some sz)
    (hby : bytesP P e = some by_) (hz : zeroL P e ≠ none) (hzl : ∀ z, zeroL P e = some z → z.length = sz) {w : World} {a : Option Addr} {l c : Nat} {xs ys : List Value} (hv : Vec w.heap e sz a l c xs)
    {a' : Option Addr} {n c' : Nat} (hy : ys.length = n * sz) (hs : ys.all scal = true) (hsrc : n = 0 ∨ ∃ b' o', a' = some ⟨b', o', none⟩ ∧ cellsAt w.heap b' o' ys) (ha0 : n = 0 → a' = none ∨ ∃ b' o', a' = some ⟨b', o', none⟩)
    (hbd : (l + n) * by_ ≤ 70368744177664) (hln : l + n ≤ 70368744177664) :
    ∃ a2 c2 w', (Builtin.append_ #[T, T'] T'' #[.slice a l c, .slice a' n c']).run P w = .ok (.slice a2 (l + n) c2) w' ∧ Vec w'.heap e sz a2 (l + n) c2 (xs ++ ys) ∧
      Ext (fun k => blkOf a = some k) w w' ∧ (a2 = a ∧ c2 = c ∨ a2 = some ⟨w.heap.size, 0, none⟩ ∧ Ext (fun _ => False) w w') := by
  obtain ⟨hxl, hlc, hrow⟩ := hv
  obtain ⟨i, hi, hib⟩ : ∃ i, P.info? e = some i ∧ i.bytes = by_ := by
    unfold bytesP at hby
    cases hp : P.info? e with
    | none => simp [hp] at hby
    | some i => exact ⟨i, rfl, by simpa [hp] using hby⟩
  obtain ⟨z, hz'⟩ : ∃ z, zeroL P e = some z := Option.ne_none_iff_exists'.1 hz
  obtain ⟨v, hv1, hv2⟩ := zero_run hz'
  have hzl' := hzl z hz'
  -- what is appended
  have hnew : ∀ w' : World, (∀ b' o', a' = some ⟨b', o', none⟩ → cellsAt w.heap b' o' ys → cellsAt w'.heap b' o' ys) → (Builtin.firstCells sz n (.slice a' n c')).run P w' = .ok ⟨ys⟩ w' := by
    intro w' hk
    rcases hsrc with h0 | ⟨b', o', rfl, hc'⟩
    · subst h0
      have : ys = [] := by have := hy; simp at this; exact this
      subst this
      rcases ha0 rfl with rfl | ⟨b', o', rfl⟩
      · rfl
      · have : (loadCells ⟨b', o', none⟩ 0).run P w' = .ok ⟨[]⟩ w' := loadCells_run (vs := []) (P := P) (w := w') (b := b') (o := o') trivial
        simpa [Builtin.firstCells] using this
    · have := loadCells_run (P := P) (hk b' o' rfl hc')
      rw [hy] at this
      exact this
  unfold Builtin.append_
  simp only [List.getElem?_toArray, List.getElem?_cons_zero, List.getElem?_cons_succ]
  rw [bind_run (underlying_run hT w)]
  simp only []
  rw [bind_run (sizeOf_run hsz w)]
  rw [bind_run (underlying_run hT' w)]
  simp only []
  rw [bind_run (run_pure P false w)]
  simp only [Bool.false_eq_true, if_false]
  rw [bind_run (show (Builtin.lenOf (.slice a' n c')).run P w = .ok n w from rfl)]
  simp only [Bool.not_false, if_true]
  by_cases hfit : l + n ≤ c
  · rw [if_pos hfit]
    rw [bind_run (hnew w fun _ _ _ h => h)]
    rcases hrow with ⟨rfl, rfl⟩ | ⟨b, cs, rfl, hb, h4, h5⟩
    · have : l = 0 ∧ n = 0 := by omega
      obtain ⟨rfl, rfl⟩ := this
      have : ys = [] := by have := hy; simp at this; exact this
      subst this
      refine ⟨none, 0, w, rfl, ?_, Ext.refl _ _, .inl ⟨rfl, rfl⟩⟩
      exact ⟨by simpa using hxl, Nat.le_refl _, .inl ⟨rfl, rfl⟩⟩
    · have hle : l * sz + ys.length ≤ cs.length := by
        rw [hy, h4, ← Nat.add_mul]; exact Nat.mul_le_mul_right _ hfit
      refine ⟨some ⟨b, 0, none⟩, c, setsW w b (l * sz) ys, ?_, ?_, ?_, .inl ⟨rfl, rfl⟩⟩
      · simp only [add_spot, Nat.zero_add]
        rw [bind_run (storeCells_run ys 0 w hs (by rw [Nat.add_zero]; exact hb.wrL hle))]
        rfl
      · refine ⟨by rw [List.length_append, hxl, hy, Nat.add_mul], hfit, .inr ⟨b, segSet cs (l * sz) ys, rfl, hb.sets, by rw [segSet_length, h4], ?_⟩⟩
        rw [segSet_eq ys cs _ hle, h5, Nat.add_mul, ← hy, ← hxl]
        rw [← List.length_append, List.take_left']
        simp
      · exact Ext.vsets (S := fun k => blkOf (some ⟨b, 0, none⟩) = some k) (b := b) (.inl rfl) (Ext.refl _ _)
  · rw [if_neg hfit]
    have h1 : ¬ (((l + n : Nat) : Int) > IntKind.i64.max ∧ (False ∨ i.bytes = 0)) := by
      rw [i64_max]; omega
    rw [bind_run (bytes_le hi w)]
    simp only [h1, if_false]
    have h2 : ¬ (Builtin.nextslicecap (l + n) c * i.bytes > 2 ^ 48) := by
      have := nextslicecap_le (show c < l + n by omega)
      have h3 : Builtin.nextslicecap (l + n) c * i.bytes ≤ 2 * (l + n) * i.bytes := Nat.mul_le_mul_right _ this
      have h4 : 2 * (l + n) * i.bytes = 2 * ((l + n) * by_) := by rw [hib, Nat.mul_assoc]
      omega
    rw [bind_run (bytes_le hi w)]
    simp only [h2, if_false]
    obtain ⟨nc, hnc⟩ : ∃ nc, nc = (Question.appendCap (l + n) c e).cut (w.tape w.drawn (.appendCap (l + n) c e)) := ⟨_, rfl⟩
    have hch : (choose (.appendCap (l + n) c e)).run P w = .ok nc (drewW w) := by
      rw [hnc]; rfl
    have hge : l + n ≤ nc := by rw [hnc]; simp only [Question.cut]; omega
    rw [bind_run hch, bind_run (bytes_le hi (drewW w))]
    rw [bind_run (run_askRoom (w := drewW w) (P := P) (nc * i.bytes))]
    have hold : (Builtin.firstCells sz l (.slice a l c)).run P (drewW w) = .ok ⟨xs⟩ (drewW w) := by
      rcases hrow with ⟨rfl, rfl⟩ | ⟨b, cs, rfl, hb, h4, h5⟩
      · have : l = 0 := by omega
        subst this
        have : xs = [] := by have := hxl; simp at this; exact this
        subst this; rfl
      · have := loadCells_run (P := P) (w := drewW w) (b := b) (o := 0) (vs := xs) (hb.cellsAt (n := l * sz) (by simpa using h5) hxl.symm)
        rw [hxl] at this
        exact this
    rw [bind_run hold, bind_run (hnew (drewW w) fun _ _ _ h => h), bind_run (hv2 (drewW w))]
    have hrest : Builtin.zeroCells v.cells (nc - (l + n)) = ⟨(Builtin.zeroCells v.cells (nc - (l + n))).toList⟩ := rfl
    have hrl : (Builtin.zeroCells v.cells (nc - (l + n))).toList.length = (nc - (l + n)) * sz := by
      simp [Builtin.zeroCells, hv1, hzl']
    generalize hr : (Builtin.zeroCells v.cells (nc - (l + n))).toList = rest at *
    have happ : (⟨xs⟩ ++ ⟨ys⟩ ++ Builtin.zeroCells v.cells (nc - (l + n)) : Array Value) = ⟨xs ++ ys ++ rest⟩ := by
      apply Array.toList_inj.1; simp [hr]
    rw [happ]
    refine ⟨some ⟨w.heap.size, 0, none⟩, nc, newW (drewW w) (.cells ⟨xs ++ ys ++ rest⟩ e), rfl, ?_, ?_, .inr ⟨rfl, (Ext.refl _ w).vdrew.vnew _⟩⟩
    · refine ⟨by rw [List.length_append, hxl, hy, Nat.add_mul], hge, .inr ⟨_, xs ++ ys ++ rest, rfl, Blk.new (drewW w) e _, ?_, ?_⟩⟩
      · rw [List.length_append, List.length_append, hxl, hy, hrl, ← Nat.add_mul, ← Nat.add_mul]; congr 1; omega
      · rw [Nat.add_mul, ← hxl, ← hy, ← List.length_append, List.take_left']; rfl
    · exact (Ext.refl _ w).vdrew.vnew _
theorem append_run {P : Program} {T T' T'' e : TypeId} {sz by_ : Nat} (hT : P.underlying T = some (.slice e)) (hT' : P.underlying T' = some (.slice e)) (hsz : sizeP P e = some sz)
    (hby : bytesP P e = some by_) (hz : zeroL P e ≠ none) (hzl : ∀ z, zeroL P e = some z → z.length = sz) {w : World} {a : Option Addr} {l c : Nat} {xs ys : List Value} (hv : Vec w.heap e sz a l c xs)
    {a' : Option Addr} {n c' : Nat} (hy : ys.length = n * sz) (hs : ys.all scal = true) (hsrc : n = 0 ∨ ∃ b' o', a' = some ⟨b', o', none⟩ ∧ cellsAt w.heap b' o' ys) (ha0 : n = 0 → a' = none ∨ ∃ b' o', a' = some ⟨b', o', none⟩)
    (hbd : (l + n) * by_ ≤ 70368744177664) (hln : l + n ≤ 70368744177664) :
    ∃ a2 c2 w', (Builtin.append_ #[T, T'] T'' #[.slice a l c, .slice a' n c']).run P w = .ok (.slice a2 (l + n) c2) w' ∧ Vec w'.heap e sz a2 (l + n) c2 (xs ++ ys) ∧
      Ext (fun k => blkOf a = some k) w w' ∧ (a2 = a ∨ a2 = some ⟨w.heap.size, 0, none⟩) := by
  obtain ⟨a2, c2, w', h1, h2, h3, h4⟩ := append_run2 (T'' := T'') hT hT' hsz hby hz hzl hv (c' := c') hy hs hsrc ha0 hbd hln
  exact ⟨a2, c2, w', h1, h2, h3, h4.imp (·.1) (·.1)⟩
/-- What was ahead of an append is there behind it. -/
theorem Vec.before {w w' : World} {e : TypeId} {sz : Nat} {a a2 : Option Addr} {l n c c2 : Nat} {xs ys : List Value} (h : Vec w.heap e sz a l c xs) (h2 : Vec w'.heap e sz a2 (l + n) c2 (xs ++ ys)) (h4 : a2 = a ∧ c2 = c ∨ a2 = some ⟨w.heap.size, 0, none⟩ ∧ Ext (fun _ => False) w w') : Vec w'.heap e sz a l c xs := by
  rcases h4 with ⟨rfl, rfl⟩ | ⟨_, E⟩
  · obtain ⟨v1, v2, v3⟩ := h
    obtain ⟨u1, u2, u3⟩ := h2
    refine ⟨v1, v2, u3.imp id ?_⟩
    rintro ⟨b, cs, h5, h6, h7, h8⟩
    refine ⟨b, cs, h5, h6, h7, ?_⟩
    have := congrArg (List.take (l * sz)) h8
    rw [List.take_take, Nat.min_eq_left (Nat.mul_le_mul_right _ (by omega)), ← v1, List.take_left'] at this
    · rw [← v1]; exact this
    · rfl
  · exact h.keep E fun _ _ h => h
end Go.Vc
/- Rows and cells that a call owns, above a bound. No statement of the seat is proved here. -/
namespace Go.Vc
open Go.RowKit
set_option linter.unusedVariables false
set_option linter.unusedSimpArgs false

/-- Nothing below N has changed. -/
def Keep (N : Nat) (w w' : World) : Prop := Ext (fun k => N ≤ k) w w'
theorem Keep.refl (N : Nat) (w : World) : Keep N w w := Ext.refl _ _
theorem Keep.trans {N : Nat} {a b c : World} (h : Keep N a b) (k : Keep N b c) : Keep N a c := Ext.trans h k
theorem Keep.below {N : Nat} {w w' : World} (h : Keep N w w') (hN : w.heap.size ≤ N) : Below w.heap.size w w' := Ext.below h fun k hk => by omega
theorem Keep.of_below {N : Nat} {w w' : World} (h : Below w.heap.size w w') : Keep N w w' := Ext.of_below h
theorem Keep.step {N : Nat} {w0 w w' : World} (h : Below w0.heap.size w0 w) (k : Keep N w w') (hN : w0.heap.size ≤ N) : Below w0.heap.size w0 w' :=
  h.trans ⟨k.os, k.tape, k.output, k.size, fun i hi => k.block i (Nat.lt_of_lt_of_le hi h.size) (by omega)⟩
theorem Blk.stay {N : Nat} {w w' : World} {b : Nat} {e : TypeId} {cs : List Value} (h : Blk w.heap b e cs) (k : Keep N w w') (hb : b < N) : Blk w'.heap b e cs := Blk.keep h k (by omega)
theorem Blk.below {w w' : World} {b : Nat} {e : TypeId} {cs : List Value} (h : Blk w.heap b e cs) (k : Below w.heap.size w w') : Blk w'.heap b e cs := Blk.keep (S := fun _ => False) h (Ext.of_below k) (fun h => h)
theorem Blk.vnew {w : World} {b : Nat} {e : TypeId} {cs : List Value} (h : Blk w.heap b e cs) (o : Obj) : Blk (newW w o).heap b e cs := h.keep (S := fun _ => False) ((Ext.refl _ w).vnew o) (fun h => h)
theorem Blk.vdrew {w : World} {b : Nat} {e : TypeId} {cs : List Value} (h : Blk w.heap b e cs) : Blk (drewW w).heap b e cs := h
theorem Blk.vsets {w : World} {b : Nat} {e : TypeId} {cs : List Value} (h : Blk w.heap b e cs) {b' o : Nat} {vs : List Value} (hn : b ≠ b') : Blk (setsW w b' o vs).heap b e cs := by
  unfold Blk; rw [setsW_other hn]; exact h
theorem size_newW (w : World) (o : Obj) : (newW w o).heap.size = w.heap.size + 1 := by simp [newW]
theorem size_setsW {w : World} {b o : Nat} {vs : List Value} : (setsW w b o vs).heap.size = w.heap.size := setsW_size

/-- The row belongs to the call: its array is above N. -/
def Row (N : Nat) (w : World) (e : TypeId) (sz : Nat) (a : Option Addr) (l c : Nat) (xs : List Value) : Prop :=
  Vec w.heap e sz a l c xs ∧ (∀ b, blkOf a = some b → N ≤ b) ∧ N ≤ w.heap.size
theorem Row.nil {N : Nat} {w : World} (e : TypeId) (sz : Nat) (h : N ≤ w.heap.size) : Row N w e sz none 0 0 [] := ⟨Vec.nil _ _ _, by simp [blkOf], h⟩
theorem Row.below {N : Nat} {w w' : World} {e : TypeId} {sz : Nat} {a : Option Addr} {l c : Nat} {xs : List Value} (h : Row N w e sz a l c xs) (k : Below w.heap.size w w') : Row N w' e sz a l c xs :=
  ⟨h.1.keep (S := fun _ => False) (Ext.of_below k) (fun _ _ h => h), h.2.1, Nat.le_trans h.2.2 k.size⟩
theorem Row.vdrew {N : Nat} {w : World} {e : TypeId} {sz : Nat} {a : Option Addr} {l c : Nat} {xs : List Value} (h : Row N w e sz a l c xs) : Row N (drewW w) e sz a l c xs := h
theorem Row.vnew {N : Nat} {w : World} {e : TypeId} {sz : Nat} {a : Option Addr} {l c : Nat} {xs : List Value} (h : Row N w e sz a l c xs) (o : Obj) : Row N (newW w o) e sz a l c xs :=
  ⟨h.1.keep (S := fun _ => False) ((Ext.refl _ w).vnew o) (fun _ _ h => h), h.2.1, by rw [size_newW]; exact Nat.le_succ_of_le h.2.2⟩
theorem Row.vsets {N : Nat} {w : World} {e : TypeId} {sz : Nat} {a : Option Addr} {l c : Nat} {xs : List Value} (h : Row N w e sz a l c xs) {b o : Nat} {vs : List Value} (hb : b < N) : Row N (setsW w b o vs) e sz a l c xs :=
  ⟨h.1.keep (S := fun k => k = b) (Ext.vsets (S := fun k => k = b) (.inl rfl) (Ext.refl _ _)) (fun b' h' => by have := h.2.1 b' h'; omega), h.2.1, by rw [setsW_size]; exact h.2.2⟩
theorem Row.mono {N M : Nat} {w : World} {e : TypeId} {sz : Nat} {a : Option Addr} {l c : Nat} {xs : List Value} (h : Row N w e sz a l c xs) (hm : M ≤ N) : Row M w e sz a l c xs :=
  ⟨h.1, fun b hb => Nat.le_trans hm (h.2.1 b hb), Nat.le_trans hm h.2.2⟩
theorem Row.at {N : Nat} {w : World} {e : TypeId} {sz : Nat} {a : Option Addr} {l c : Nat} {xs : List Value} (h : Row N w e sz a l c xs) (hl : 0 < l * sz) :
    ∃ b cs, a = some ⟨b, 0, none⟩ ∧ Blk w.heap b e cs ∧ cs.length = c * sz ∧ N ≤ b ∧ ∀ o, o < l * sz → cellH w.heap b o = xs[o]? := by
  obtain ⟨⟨h1, h2, h3⟩, h4, h5⟩ := h
  rcases h3 with ⟨rfl, rfl⟩ | ⟨b, cs, rfl, hb, h6, h7⟩
  · have : l = 0 := by omega
    subst this; simp at hl
  · refine ⟨b, cs, rfl, hb, h6, h4 b rfl, fun o ho => ?_⟩
    rw [hb.cell, ← h7, List.getElem?_take, if_pos ho]

/-- What append must know of an element's type. -/
structure Elem (P : Program) (T e : TypeId) (sz by_ : Nat) : Prop where
  und : P.underlying T = some (.slice e)
  size : sizeP P e = some sz
  bytes : bytesP P e = some by_
  zero : ∃ z, zeroL P e = some z ∧ z.length = sz
theorem Row.app {P : Program} {T e : TypeId} {sz by_ : Nat} (E : Elem P T e sz by_) {N : Nat} {w : World} {a : Option Addr} {l c : Nat} {xs : List Value} (h : Row N w e sz a l c xs) {ys : List Value} {n c' : Nat}
    (hy : ys.length = n * sz) (hs : ys.all scal = true) {a' : Option Addr} (hsrc : n = 0 ∧ a' = none ∨ ∃ b' o', a' = some ⟨b', o', none⟩ ∧ cellsAt w.heap b' o' ys) (hbd : (l + n) * by_ ≤ 70368744177664) (hln : l + n ≤ 70368744177664) :
    ∃ a2 c2 w', (Builtin.append_ #[T, T] T #[.slice a l c, .slice a' n c']).run P w = .ok (.slice a2 (l + n) c2) w' ∧ Row N w' e sz a2 (l + n) c2 (xs ++ ys) ∧ Keep N w w' := by
  obtain ⟨hv, ho, hN⟩ := h
  obtain ⟨z, hz, hzl⟩ := E.zero
  obtain ⟨a2, c2, w', h1, h2, h3, h4⟩ := append_run (P := P) (T := T) (T' := T) (T'' := T) E.und E.und E.size E.bytes (by rw [hz]; simp) (by rw [hz]; intro y hy; cases hy; exact hzl) hv (a' := a') (n := n) (c' := c') hy hs
    (hsrc.imp (·.1) id) (fun h0 => hsrc.imp (·.2) (fun ⟨b', o', h, _⟩ => ⟨b', o', h⟩)) hbd hln
  refine ⟨a2, c2, w', h1, ⟨h2, ?_, Nat.le_trans hN h3.size⟩, h3.mono fun k _ hk => ho k hk⟩
  intro b hb2
  rcases h4 with rfl | rfl
  · exact ho b hb2
  · simp only [blkOf, Option.some.injEq] at hb2; omega
/-- append of what is written out, the row of it being made for that. -/
theorem Row.app1 {P : Program} {T e : TypeId} {sz by_ : Nat} (E : Elem P T e sz by_) {N : Nat} {w : World} {a : Option Addr} {l c : Nat} {xs : List Value} (h : Row N w e sz a l c xs) {ys : List Value} {n : Nat}
    (hy : ys.length = n * sz) (hs : ys.all scal = true) (hbd : (l + n) * by_ ≤ 70368744177664) (hln : l + n ≤ 70368744177664) :
    ∃ a2 c2 w', (Builtin.append_ #[T, T] T #[.slice a l c, .slice (some ⟨w.heap.size, 0, none⟩) n n]).run P (newW w (.cells ⟨ys⟩ e)) = .ok (.slice a2 (l + n) c2) w' ∧ Row N w' e sz a2 (l + n) c2 (xs ++ ys) ∧ Keep N w w' := by
  obtain ⟨a2, c2, w', h1, h2, h3⟩ := (h.vnew (.cells ⟨ys⟩ e)).app E (n := n) (c' := n) hy hs (a' := some ⟨w.heap.size, 0, none⟩) (.inr ⟨_, _, rfl, cellsAt_newW w ys e⟩) hbd hln
  exact ⟨a2, c2, w', h1, h2, Keep.trans ((Ext.refl _ w).vnew _) h3⟩
theorem Keep.vnew {N : Nat} {a w : World} (h : Keep N a w) (o : Obj) : Keep N a (newW w o) := Ext.vnew h o
theorem Keep.vdrew {N : Nat} {a w : World} (h : Keep N a w) : Keep N a (drewW w) := Ext.vdrew h
theorem Keep.vsets {N : Nat} {a w : World} (h : Keep N a w) {b o : Nat} {vs : List Value} (hb : N ≤ b) : Keep N a (setsW w b o vs) := Ext.vsets (.inl hb) h
theorem Keep.mono {N M : Nat} {a w : World} (h : Keep N a w) (hm : M ≤ N) : Keep M a w := Ext.mono h fun k _ hk => Nat.le_trans hm hk
theorem Keep.call {N : Nat} {a w w' : World} (h : Keep N a w) (k : Below w.heap.size w w') : Keep N a w' := h.trans (.of_below k)
/-! ### Steps, with worlds that have no form -/
theorem newC_in {z : List Value} {t : TypeId} {K : Nat → World → Prop} {w : World} (h : ∀ w1, w1.heap.size = w.heap.size + 1 → Blk w1.heap w.heap.size t z → Ext (fun _ => False) w w1 → K w.heap.size w1) : newC z t K w :=
  h _ (size_newW _ _) (Blk.new w t z) ((Ext.refl _ w).vnew _)
theorem stW_in {b o : Nat} {vs : List Value} {K : World → Prop} {w : World} {e : TypeId} {cs : List Value} (hb : Blk w.heap b e cs) (ho : o + vs.length ≤ cs.length)
    (h : ∀ w1, w1.heap.size = w.heap.size → Blk w1.heap b e (segSet cs o vs) → Ext (fun k => k = b) w w1 → K w1) : stW b o vs K w :=
  ⟨hb.wrL ho, h _ setsW_size hb.sets (Ext.vsets (S := fun k => k = b) (b := b) (.inl rfl) (Ext.refl _ _))⟩
theorem drw_in {K : World → Prop} {w : World} (h : ∀ w1, w1.heap = w.heap → Ext (fun _ => False) w w1 → K w1) : drw K w := h _ rfl (Ext.vdrew (Ext.refl _ w))
theorem Row.keep {N : Nat} {S : Nat → Prop} {w w' : World} {e : TypeId} {sz : Nat} {a : Option Addr} {l c : Nat} {xs : List Value} (h : Row N w e sz a l c xs) (k : Ext S w w') (hs : ∀ b, N ≤ b → ¬ S b) : Row N w' e sz a l c xs :=
  ⟨h.1.keep k (fun b hb => hs b (h.2.1 b hb)), h.2.1, Nat.le_trans h.2.2 k.size⟩
theorem Ext.to {S : Nat → Prop} {w0 w w' : World} (h : Below w0.heap.size w0 w) (k : Ext S w w') (hs : ∀ i, S i → w0.heap.size ≤ i) : Below w0.heap.size w0 w' :=
  h.trans ⟨k.os, k.tape, k.output, k.size, fun i hi => k.block i (Nat.lt_of_lt_of_le hi h.size) fun h => by have := hs i h; omega⟩
theorem Row.st {N : Nat} {w : World} {e : TypeId} {sz : Nat} {b : Nat} {l c : Nat} {xs : List Value} (h : Row N w e sz (some ⟨b, 0, none⟩) l c xs) {o : Nat} (ho : o < l * sz) {v : Value} {K : World → Prop}
    (hK : ∀ w1, Row N w1 e sz (some ⟨b, 0, none⟩) l c (xs.set o v) → Ext (fun k => k = b) w w1 → K w1) : stW b o [v] K w := by
  obtain ⟨⟨h1, h2, h3⟩, h4, h5⟩ := h
  rcases h3 with ⟨h3, _⟩ | ⟨b', cs, hb', hB, h6, h7⟩
  · cases h3
  obtain rfl : b = b' := by injection hb' with hb'; injection hb'
  have hle := Nat.mul_le_mul_right sz h2
  refine stW_in hB (by simp only [List.length_singleton]; omega) fun w1 s1 k1 e1 => hK w1 ⟨⟨by rw [List.length_set]; exact h1, h2, .inr ⟨b, _, rfl, k1, by rw [segSet_length]; exact h6, ?_⟩⟩, h4, by omega⟩ e1
  show (cs.set o v).take (l * sz) = _
  rw [List.take_set, h7]
end Go.Vc
/- What ReadPattern reads: plain lists, no program in sight. No statement of the seat is proved here. -/
namespace Go.Vc
set_option linter.unusedVariables false
set_option linter.unusedSimpArgs false
/-- A piece of a pattern. -/
structure Pc where
  kind : Int
  set : List (Int × Int)
  min : Int
  max : Int
  lazy : Bool
  num : Int
  kids : List Int
def pSet (s : List (Int × Int)) : Pc := ⟨1, s, 0, 0, false, 0, []⟩
def pSeq (k : List Int) : Pc := ⟨2, [], 0, 0, false, 0, k⟩
def pAlt (k : List Int) : Pc := ⟨3, [], 0, 0, false, 0, k⟩
def pRep (a b : Int) (z : Bool) (k : Int) : Pc := ⟨4, [], a, b, z, 0, [k]⟩
def pGrp (n k : Int) : Pc := ⟨5, [], 0, 0, false, n, [k]⟩
def pSta : Pc := ⟨6, [], 0, 0, false, 0, []⟩
def pEnd : Pc := ⟨7, [], 0, 0, false, 0, []⟩
/-- An answer, or the place at which the text goes wrong. -/
inductive Pr (α : Type) where
  | ok (a : α)
  | bad (n : Nat)
def at_ (l : Bytes) (i : Nat) : Nat := (l.getD i 0).toNat
theorem byteAt_at (s : ByteArray) (i : Nat) : byteAt s i = (at_ (L s) i : Int) := rfl
theorem at_lt (l : Bytes) (i : Nat) : at_ l i < 256 := UInt8.toNat_lt _
def hexv (n : Nat) : Option Nat := if 48 ≤ n ∧ n ≤ 57 then some (n - 48) else if 97 ≤ n ∧ n ≤ 102 then some (n - 87) else none
theorem hexv_lt {n v : Nat} (h : hexv n = some v) : v < 16 := by
  unfold hexv at h
  split at h
  · cases h; omega
  · split at h
    · cases h; omega
    · cases h
abbrev Rs := List (Nat × Nat)
/-- Is the byte in one of the ranges? -/
def inR (rs : Rs) (n : Nat) : Bool := rs.any fun r => decide (r.1 ≤ n ∧ n ≤ r.2)
/-- The longest rows of bytes that are in a set. -/
def runEnd (f : Nat → Bool) (j : Nat) : Nat := if h : j < 255 then (if f (j + 1) then runEnd f (j + 1) else j) else j
  termination_by 255 - j
theorem runEnd_ge (f : Nat → Bool) (j : Nat) : j ≤ runEnd f j := by
  induction hk : 255 - j using Nat.strongRecOn generalizing j with
  | _ k ih =>
    rw [runEnd]
    split
    · split
      · have := ih (255 - (j + 1)) (by omega) (j + 1) rfl; omega
      · omega
    · omega
def runsF (f : Nat → Bool) (i : Nat) : List (Int × Int) :=
  if h : i < 256 then (if f i then ((i : Int), (runEnd f i : Int)) :: runsF f (runEnd f i + 1) else runsF f (i + 1)) else []
  termination_by 256 - i
  decreasing_by all_goals (have := runEnd_ge f i; omega)
def runs (f : Nat → Bool) : List (Int × Int) := runsF f 0
/-- What stands behind a backslash: the place behind it, its bytes, its one byte. -/
def escC (c : Nat) : Option (Rs × Option Nat) :=
  if c = 100 then some ([(48, 57)], none)
  else if c = 119 then some ([(48, 57), (65, 90), (97, 122), (95, 95)], none)
  else if c = 115 then some ([(9, 10), (13, 13), (32, 32)], none)
  else if c = 110 then some ([(10, 10)], some 10)
  else if c = 116 then some ([(9, 9)], some 9)
  else if c = 114 then some ([(13, 13)], some 13)
  else if 33 ≤ c ∧ c ≤ 126 ∧ ¬ (48 ≤ c ∧ c ≤ 57 ∨ 97 ≤ c ∧ c ≤ 122 ∨ 65 ≤ c ∧ c ≤ 90) then some ([(c, c)], some c)
  else none
def escX (l : Bytes) (i : Nat) : Pr (Nat × Rs × Option Nat) :=
  if l.length ≤ i + 1 then .bad l.length
  else match hexv (at_ l (i + 1)) with
    | none => .bad (i + 1)
    | some a => if l.length ≤ i + 2 then .bad l.length
      else match hexv (at_ l (i + 2)) with
        | none => .bad (i + 2)
        | some b => .ok (i + 3, [(16 * a + b, 16 * a + b)], some (16 * a + b))
def escP (l : Bytes) (i : Nat) : Pr (Nat × Rs × Option Nat) :=
  if l.length ≤ i then .bad l.length
  else if at_ l i = 120 then escX l i
  else match escC (at_ l i) with
    | some (r, o) => .ok (i + 1, r, o)
    | none => .bad i
def partP (l : Bytes) (i : Nat) : Pr (Nat × Rs × Option Nat) := if at_ l i = 92 then escP l (i + 1) else .ok (i + 1, [(at_ l i, at_ l i)], some (at_ l i))
theorem escX_gt {l : Bytes} {i j : Nat} {r : Rs} {o : Option Nat} (h : escX l i = .ok (j, r, o)) : i < j ∧ j ≤ l.length := by
  unfold escX at h
  split at h
  · cases h
  split at h
  · cases h
  split at h
  · cases h
  split at h
  · cases h
  · cases h; omega
theorem escP_gt {l : Bytes} {i j : Nat} {r : Rs} {o : Option Nat} (h : escP l i = .ok (j, r, o)) : i < j ∧ j ≤ l.length := by
  unfold escP at h
  split at h
  · cases h
  split at h
  · exact escX_gt h
  split at h
  · cases h; omega
  · cases h
theorem partP_gt {l : Bytes} {i j : Nat} {r : Rs} {o : Option Nat} (hi : i < l.length) (h : partP l i = .ok (j, r, o)) : i < j ∧ j ≤ l.length := by
  unfold partP at h
  split at h
  · have := escP_gt h; omega
  · cases h; omega
/-- The parts of a set in brackets, up to behind the last one. -/
def clsP (l : Bytes) (i : Nat) (first : Bool) (rs : Rs) : Pr (Nat × Rs) :=
  if h : i < l.length then
    if first = false ∧ at_ l i = 93 then .ok (i + 1, rs)
    else match hp : partP l i with
      | .bad e => .bad e
      | .ok (j, r, none) => clsP l j false (rs ++ r)
      | .ok (j, r, some lo) =>
        if l.length ≤ j then .bad l.length
        else if at_ l j ≠ 45 then clsP l j false (rs ++ r)
        else if l.length ≤ j + 1 then .bad l.length
        else if at_ l (j + 1) = 93 then clsP l j false (rs ++ r)
        else match hq : partP l (j + 1) with
          | .bad e => .bad e
          | .ok (_, _, none) => .bad (j + 1)
          | .ok (j2, _, some hi) => if hi < lo then .bad (j + 1) else clsP l j2 false (rs ++ r ++ [(lo, hi)])
  else .bad l.length
  termination_by l.length - i
  decreasing_by
    · have := partP_gt h hp; omega
    · have := partP_gt h hp; omega
    · have := partP_gt h hp; omega
    · have := partP_gt h hp; have := partP_gt (by omega) hq; omega
/-- The set that was read, or all but that. -/
def clsFin (neg : Bool) : Pr (Nat × Rs) → Pr (Nat × List (Int × Int))
  | .bad e => .bad e
  | .ok (j, rs) => .ok (j, runs fun n => inR rs n != neg)
/-- A set in brackets, from its first bracket on. -/
def setP (l : Bytes) (i : Nat) : Pr (Nat × List (Int × Int)) :=
  if l.length ≤ i + 1 then .bad l.length
  else clsFin (decide (at_ l (i + 1) = 94)) (clsP l (if at_ l (i + 1) = 94 then i + 2 else i + 1) true [])
/-- Digits, from a place on. -/
def digP (l : Bytes) (i : Nat) (n : Nat) : Nat × Nat :=
  if h : i < l.length ∧ 48 ≤ at_ l i ∧ at_ l i ≤ 57 then digP l (i + 1) (Nat.min 1000 (10 * n + (at_ l i - 48))) else (i, n)
  termination_by l.length - i
theorem digP_ge (l : Bytes) (i n : Nat) : i ≤ (digP l i n).1 := by
  induction hk : l.length - i using Nat.strongRecOn generalizing i n with
  | _ k ih =>
    rw [digP]
    split
    · have := ih (l.length - (i + 1)) (by omega) (i + 1) (Nat.min 1000 (10 * n + (at_ l i - 48))) rfl; omega
    · simp
def numP (l : Bytes) (i : Nat) : Pr (Nat × Nat) :=
  if l.length ≤ i then .bad l.length
  else if at_ l i < 48 ∨ 57 < at_ l i then .bad i
  else if 50 < (digP l i 0).2 then .bad i else .ok (digP l i 0)
theorem numP_gt {l : Bytes} {i j n : Nat} (h : numP l i = .ok (j, n)) : i < j ∧ n ≤ 50 := by
  unfold numP at h
  split at h
  · cases h
  split at h
  · cases h
  split at h
  · cases h
  · rename_i h1 h2 h3
    have e : digP l i 0 = (j, n) := by simpa using h
    have e' := e
    rw [digP, dif_pos (by omega)] at e'
    have := digP_ge l (i + 1) (Nat.min 1000 (10 * 0 + (at_ l i - 48)))
    rw [e'] at this
    rw [e] at h3
    simp only [] at this h3
    omega
/-- What stands in braces, behind the first one. -/
def braP (l : Bytes) (i : Nat) : Pr (Nat × Int × Int) :=
  match numP l i with
  | .bad e => .bad e
  | .ok (j, lo) =>
    if l.length ≤ j then .bad l.length
    else if at_ l j = 44 then
      if l.length ≤ j + 1 then .bad l.length
      else if at_ l (j + 1) = 125 then .ok (j + 2, lo, -1)
      else match numP l (j + 1) with
        | .bad e => .bad e
        | .ok (k, hi) => if hi < lo then .bad (j + 1)
          else if l.length ≤ k then .bad l.length
          else if at_ l k = 125 then .ok (k + 1, lo, hi) else .bad k
    else if at_ l j = 125 then .ok (j + 1, lo, lo) else .bad j
theorem braP_gt {l : Bytes} {i j : Nat} {a b : Int} (h : braP l i = .ok (j, a, b)) : i < j := by
  unfold braP at h
  split at h
  · cases h
  rename_i j0 lo hn
  have h0 := numP_gt hn
  repeat' split at h
  all_goals first
    | (cases h; done)
    | (cases h; omega)
    | (rename_i hm _ _ _; have := numP_gt hm; cases h; omega)
/-- A count behind an atom: none, or its bounds and whether it is lazy. -/
def cntP (l : Bytes) (i : Nat) : Pr (Nat × Option (Int × Int × Bool)) :=
  let q (j : Nat) (a b : Int) : Pr (Nat × Option (Int × Int × Bool)) := if j < l.length ∧ at_ l j = 63 then .ok (j + 1, some (a, b, true)) else .ok (j, some (a, b, false))
  if l.length ≤ i then .ok (i, none)
  else if at_ l i = 42 then q (i + 1) 0 (-1)
  else if at_ l i = 43 then q (i + 1) 1 (-1)
  else if at_ l i = 63 then q (i + 1) 0 1
  else if at_ l i = 123 then match braP l (i + 1) with
    | .bad e => .bad e
    | .ok (j, a, b) => q j a b
  else .ok (i, none)
/-- The state: the place, the groups, the pieces. -/
abbrev St := Nat × Nat × List Pc
/-- An atom; sub reads what stands in a group. -/
def atomP (sub : St → Pr (St × Int)) (deep : Bool) (l : Bytes) (i g : Nat) (out : List Pc) : Pr (St × Int) :=
  if at_ l i = 40 then
    if g = 9 ∨ deep = true then .bad i
    else match sub (i + 1, g + 1, out) with
      | .bad e => .bad e
      | .ok ((j, g', out'), k) => if l.length ≤ j then .bad l.length else if at_ l j = 41 then .ok ((j + 1, g', out' ++ [pGrp (g + 1 : Nat) k]), out'.length) else .bad j
  else if at_ l i = 91 then match setP l i with
    | .bad e => .bad e
    | .ok (j, s) => .ok ((j, g, out ++ [pSet s]), out.length)
  else if at_ l i = 46 then .ok ((i + 1, g, out ++ [pSet (runs (inR [(0, 9), (11, 255)]))]), out.length)
  else if at_ l i = 94 then .ok ((i + 1, g, out ++ [pSta]), out.length)
  else if at_ l i = 36 then .ok ((i + 1, g, out ++ [pEnd]), out.length)
  else if at_ l i = 92 then match escP l (i + 1) with
    | .bad e => .bad e
    | .ok (j, r, _) => .ok ((j, g, out ++ [pSet (runs (inR r))]), out.length)
  else if at_ l i = 41 ∨ at_ l i = 93 ∨ at_ l i = 123 ∨ at_ l i = 125 ∨ at_ l i = 42 ∨ at_ l i = 43 ∨ at_ l i = 63 ∨ at_ l i = 124 then .bad i
  else .ok ((i + 1, g, out ++ [pSet [((at_ l i : Int), (at_ l i : Int))]]), out.length)
/-- A count behind an atom is put as a piece. -/
def cntR (l : Bytes) (i g : Nat) (ps : List Pc) (x : Int) : Pr (St × Int) := match cntP l i with
  | .bad e => .bad e
  | .ok (k, none) => .ok ((k, g, ps), x)
  | .ok (k, some (a, b, z)) => .ok ((k, g, ps ++ [pRep a b z x]), ps.length)
/-- An atom with its count. -/
def pieceP (sub : St → Pr (St × Int)) (deep : Bool) (l : Bytes) (i g : Nat) (out : List Pc) : Pr (St × Int) :=
  match atomP sub deep l i g out with
  | .bad e => .bad e
  | .ok ((j, g', out'), x) => cntR l j g' out' x
def seqL (sub : St → Pr (St × Int)) (deep : Bool) (l : Bytes) (i g : Nat) (out : List Pc) (kids : List Int) : Pr (St × Int) :=
  if h : i < l.length ∧ at_ l i ≠ 124 ∧ at_ l i ≠ 41 then
    match pieceP sub deep l i g out with
    | .bad e => .bad e
    | .ok ((j, g', out'), x) => if hj : i < j then seqL sub deep l j g' out' (kids ++ [x]) else .bad 0
  else .ok ((i, g, out ++ [pSeq kids]), out.length)
  termination_by l.length - i
  decreasing_by omega
/-- One alternative stands for itself. -/
def altE (i g : Nat) (out : List Pc) : List Int → Pr (St × Int)
  | [k] => .ok ((i, g, out), k)
  | kids => .ok ((i, g, out ++ [pAlt kids]), out.length)
def altL (sub : St → Pr (St × Int)) (deep : Bool) (l : Bytes) (i g : Nat) (out : List Pc) (kids : List Int) : Pr (St × Int) :=
  if h : i < l.length ∧ at_ l i = 124 then
    match seqL sub deep l (i + 1) g out [] with
    | .bad e => .bad e
    | .ok ((j, g', out'), x) => if hj : i < j then altL sub deep l j g' out' (kids ++ [x]) else .bad 0
  else altE i g out kids
  termination_by l.length - i
  decreasing_by omega
/-- A pattern in at most d groups' depth more. -/
def patP (l : Bytes) : Nat → St → Pr (St × Int)
  | 0, (i, g, out) => match seqL (fun _ => .bad 0) true l i g out [] with
    | .bad e => .bad e
    | .ok ((j, g', out'), x) => altL (fun _ => .bad 0) true l j g' out' [x]
  | d + 1, (i, g, out) => match seqL (patP l d) false l i g out [] with
    | .bad e => .bad e
    | .ok ((j, g', out'), x) => altL (patP l d) false l j g' out' [x]
structure Pat where
  ok : Bool
  at_ : Nat
  groups : Nat
  pieces : List Pc
def readP (l : Bytes) : Pat :=
  if 120 < l.length then ⟨false, 120, 0, []⟩
  else match patP l 6 (0, 0, []) with
    | .bad e => ⟨false, e, 0, []⟩
    | .ok ((i, g, out), _) => if i < l.length then ⟨false, i, 0, []⟩ else ⟨true, 0, g, out⟩
end Go.Vc
/- Steps of the pure reader. No statement of the seat is proved here. -/
namespace Go.Vc
set_option linter.unusedVariables false
set_option linter.unusedSimpArgs false
theorem escC_one {c v : Nat} {r : Rs} (h : escC c = some (r, some v)) (hc : c < 256) : r = [(v, v)] ∧ v < 256 := by
  unfold escC at h
  repeat' split at h
  all_goals first
    | (cases h; done)
    | (cases h; exact ⟨rfl, by omega⟩)
theorem partP_one {l : Bytes} {i j v : Nat} {r : Rs} (h : partP l i = .ok (j, r, some v)) : r = [(v, v)] ∧ v < 256 := by
  have e : ∀ {k : Nat}, escP l k = .ok (j, r, some v) → r = [(v, v)] ∧ v < 256 := by
    intro k h
    unfold escP at h
    split at h
    · cases h
    split at h
    · unfold escX at h
      split at h
      · cases h
      split at h
      · cases h
      split at h
      · cases h
      split at h
      · cases h
      · rename_i a ha _ _ b hb
        have := hexv_lt ha
        have := hexv_lt hb
        cases h
        exact ⟨rfl, by omega⟩
    split at h
    · rename_i r' o' hc
      cases h
      exact escC_one hc (at_lt _ _)
    · cases h
  unfold partP at h
  split at h
  · exact e h
  · cases h; exact ⟨rfl, at_lt _ _⟩
section
variable {l : Bytes} {i : Nat} {first : Bool} {rs : Rs}
theorem clsP_out (h : ¬ i < l.length) : clsP l i first rs = .bad l.length := by rw [clsP, dif_neg h]
theorem clsP_end (h : i < l.length) (h1 : first = false) (h2 : at_ l i = 93) : clsP l i first rs = .ok (i + 1, rs) := by rw [clsP, dif_pos h, if_pos ⟨h1, h2⟩]
variable (h : i < l.length) (hn : ¬ (first = false ∧ at_ l i = 93))
include h hn
theorem clsP_bad {e : Nat} (hp : partP l i = .bad e) : clsP l i first rs = .bad e := by
  rw [clsP, dif_pos h, if_neg hn]
  split
  · rename_i e' he; rw [hp] at he; cases he; rfl
  · rename_i he; rw [hp] at he; cases he
  · rename_i he; rw [hp] at he; cases he
theorem clsP_many {j : Nat} {r : Rs} (hp : partP l i = .ok (j, r, none)) : clsP l i first rs = clsP l j false (rs ++ r) := by
  rw [clsP, dif_pos h, if_neg hn]
  split
  · rename_i he; rw [hp] at he; cases he
  · rename_i he; rw [hp] at he; cases he; rfl
  · rename_i he; rw [hp] at he; cases he
theorem clsP_one {j v : Nat} {r : Rs} (hp : partP l i = .ok (j, r, some v)) : clsP l i first rs = if l.length ≤ j then .bad l.length
        else if at_ l j ≠ 45 then clsP l j false (rs ++ r)
        else if l.length ≤ j + 1 then .bad l.length
        else if at_ l (j + 1) = 93 then clsP l j false (rs ++ r)
        else match partP l (j + 1) with
          | .bad e => .bad e
          | .ok (_, _, none) => .bad (j + 1)
          | .ok (j2, _, some hi) => if hi < v then .bad (j + 1) else clsP l j2 false (rs ++ r ++ [(v, hi)]) := by
  rw [clsP, dif_pos h, if_neg hn]
  split
  · rename_i he; rw [hp] at he; cases he
  · rename_i he; rw [hp] at he; cases he
  · rename_i he; rw [hp] at he; cases he
    split
    · rfl
    split
    · rfl
    split
    · rfl
    split
    · rfl
    split
    · rename_i he2; rw [he2]
    · rename_i he2; rw [he2]
    · rename_i he2; rw [he2]
end
end Go.Vc
/- Bounds on what the pure reader gives. No statement of the seat is proved here. -/
namespace Go.Vc
set_option linter.unusedVariables false
set_option linter.unusedSimpArgs false
theorem clsP_gt {l : Bytes} : ∀ (n : Nat) {i j : Nat} {first : Bool} {rs rs' : Rs}, n = l.length - i → clsP l i first rs = .ok (j, rs') → i < j ∧ j ≤ l.length := by
  intro n
  induction n using Nat.strongRecOn with
  | _ n ih =>
    intro i j first rs rs' hn h
    by_cases hi : i < l.length
    case neg => rw [clsP_out hi] at h; cases h
    by_cases he : first = false ∧ at_ l i = 93
    case pos => rw [clsP_end hi he.1 he.2] at h; cases h; omega
    cases hp : partP l i with
    | bad e => rw [clsP_bad hi he hp] at h; cases h
    | ok x =>
      obtain ⟨j1, r, o⟩ := x
      have hj1 := partP_gt hi hp
      cases o with
      | none =>
        rw [clsP_many hi he hp] at h
        have := ih _ (by omega) rfl h; omega
      | some v =>
        rw [clsP_one hi he hp] at h
        split at h
        · cases h
        split at h
        · have := ih _ (by omega) rfl h; omega
        split at h
        · cases h
        split at h
        · have := ih _ (by omega) rfl h; omega
        cases hq : partP l (j1 + 1) with
        | bad e => rw [hq] at h; cases h
        | ok x =>
          obtain ⟨j2, r2, o2⟩ := x
          have hj2 := partP_gt (by omega) hq
          rw [hq] at h
          cases o2 with
          | none => cases h
          | some v2 =>
            simp only [] at h
            split at h
            · cases h
            · have := ih _ (by omega) rfl h; omega
theorem setP_gt {l : Bytes} {i j : Nat} {rs : List (Int × Int)} (h : setP l i = .ok (j, rs)) : i < j ∧ j ≤ l.length := by
  unfold setP at h
  split at h
  · cases h
  · cases hc : clsP l (if at_ l (i + 1) = 94 then i + 2 else i + 1) true [] with
    | bad e => rw [hc] at h; cases h
    | ok x =>
      obtain ⟨j1, r⟩ := x
      rw [hc] at h
      cases h
      have := clsP_gt _ rfl hc
      split at this <;> omega
theorem digP_le (l : Bytes) : ∀ (k i n : Nat), k = l.length - i → i ≤ l.length → (digP l i n).1 ≤ l.length := by
  intro k
  induction k using Nat.strongRecOn with
  | _ k ih =>
    intro i n hk hi
    rw [digP]
    split
    · exact ih _ (by omega) _ _ rfl (by omega)
    · exact hi
theorem numP_le {l : Bytes} {i j n : Nat} (h : numP l i = .ok (j, n)) : j ≤ l.length := by
  unfold numP at h
  split at h
  · cases h
  split at h
  · cases h
  split at h
  · cases h
  · have := digP_le l _ i 0 rfl (by omega)
    have e : digP l i 0 = (j, n) := by simpa using h
    rw [e] at this; exact this
theorem braP_le {l : Bytes} {i j : Nat} {a b : Int} (h : braP l i = .ok (j, a, b)) : j ≤ l.length := by
  unfold braP at h
  split at h
  · cases h
  repeat' split at h
  all_goals first
    | (cases h; done)
    | (cases h; omega)
theorem cntP_ge {l : Bytes} {i j : Nat} {o : Option (Int × Int × Bool)} (hi : i ≤ l.length) (h : cntP l i = .ok (j, o)) : i ≤ j ∧ j ≤ l.length := by
  have q : ∀ {k : Nat} {a b : Int}, k ≤ l.length → (if k < l.length ∧ at_ l k = 63 then Pr.ok (k + 1, some (a, b, true)) else Pr.ok (k, some (a, b, false))) = .ok (j, o) → k ≤ j ∧ j ≤ l.length := by
    intro k a b hk h
    split at h
    · cases h; omega
    · cases h; omega
  unfold cntP at h
  simp only [] at h
  split at h
  · cases h; omega
  split at h
  · have := q (by omega) h; omega
  split at h
  · have := q (by omega) h; omega
  split at h
  · have := q (by omega) h; omega
  split at h
  · split at h
    · cases h
    · rename_i hb
      have h1 := braP_gt hb
      have h2 := braP_le hb
      have := q h2 h; omega
  · cases h; omega
/-- What is asked of the reader of groups. -/
def SubOk (l : Bytes) (sub : St → Pr (St × Int)) : Prop := ∀ i g out j g' out' k, i ≤ l.length → sub (i, g, out) = .ok ((j, g', out'), k) → i ≤ j ∧ j ≤ l.length ∧ out'.length ≤ out.length + 4 * (j - i) + 2 ∧ (g ≤ 9 → g' ≤ 9)
theorem atomP_len {l : Bytes} {sub : St → Pr (St × Int)} (hsub : SubOk l sub) {deep : Bool} {i g j g' : Nat} {out out' : List Pc} {k : Int} (hi : i < l.length) (h : atomP sub deep l i g out = .ok ((j, g', out'), k)) :
    i < j ∧ j ≤ l.length ∧ out'.length + 3 ≤ out.length + 4 * (j - i) ∧ (g ≤ 9 → g' ≤ 9) := by
  unfold atomP at h
  split at h
  · split at h
    · cases h
    split at h
    · cases h
    · rename_i hs
      have := hsub _ _ _ _ _ _ _ (by omega) hs
      split at h
      · cases h
      split at h
      · cases h; simp only [List.length_append, List.length_singleton]; omega
      · cases h
  split at h
  · split at h
    · cases h
    · rename_i hs
      have := setP_gt hs
      cases h; simp only [List.length_append, List.length_singleton]; omega
  split at h
  · cases h; simp only [List.length_append, List.length_singleton]; omega
  split at h
  · cases h; simp only [List.length_append, List.length_singleton]; omega
  split at h
  · cases h; simp only [List.length_append, List.length_singleton]; omega
  split at h
  · split at h
    · cases h
    · rename_i hs
      have := escP_gt hs
      cases h; simp only [List.length_append, List.length_singleton]; omega
  split at h
  · cases h
  · cases h; simp only [List.length_append, List.length_singleton]; omega
theorem pieceP_len {l : Bytes} {sub : St → Pr (St × Int)} (hsub : SubOk l sub) {deep : Bool} {i g j g' : Nat} {out out' : List Pc} {k : Int} (hi : i < l.length) (h : pieceP sub deep l i g out = .ok ((j, g', out'), k)) :
    i < j ∧ j ≤ l.length ∧ out'.length + 2 ≤ out.length + 4 * (j - i) ∧ (g ≤ 9 → g' ≤ 9) := by
  unfold pieceP at h
  split at h
  · cases h
  · rename_i ha
    have h1 := atomP_len hsub hi ha
    unfold cntR at h
    split at h
    · cases h
    · rename_i hc
      have h2 := cntP_ge (by omega) hc
      cases h; omega
    · rename_i hc
      have h2 := cntP_ge (by omega) hc
      cases h; simp only [List.length_append, List.length_singleton]; omega
section
variable {l : Bytes} {sub : St → Pr (St × Int)} {deep : Bool} {i g : Nat} {out : List Pc} {kids : List Int}
theorem pieceP_bad {e : Nat} (h : atomP sub deep l i g out = .bad e) : pieceP sub deep l i g out = .bad e := by unfold pieceP; rw [h]
theorem pieceP_ok {j g' : Nat} {out' : List Pc} {x : Int} (h : atomP sub deep l i g out = .ok ((j, g', out'), x)) : pieceP sub deep l i g out = cntR l j g' out' x := by unfold pieceP; rw [h]
theorem seqL_out (h : ¬ (i < l.length ∧ at_ l i ≠ 124 ∧ at_ l i ≠ 41)) : seqL sub deep l i g out kids = .ok ((i, g, out ++ [pSeq kids]), (out.length : Int)) := by rw [seqL, dif_neg h]
theorem seqL_bad (h : i < l.length ∧ at_ l i ≠ 124 ∧ at_ l i ≠ 41) {e : Nat} (hp : pieceP sub deep l i g out = .bad e) : seqL sub deep l i g out kids = .bad e := by
  rw [seqL, dif_pos h, hp]
theorem seqL_go (h : i < l.length ∧ at_ l i ≠ 124 ∧ at_ l i ≠ 41) {j g' : Nat} {out' : List Pc} {x : Int} (hp : pieceP sub deep l i g out = .ok ((j, g', out'), x)) (hj : i < j) : seqL sub deep l i g out kids = seqL sub deep l j g' out' (kids ++ [x]) := by
  rw [seqL, dif_pos h, hp]
  simp only []
  rw [dif_pos hj]
theorem altL_out (h : ¬ (i < l.length ∧ at_ l i = 124)) : altL sub deep l i g out kids = altE i g out kids := by rw [altL, dif_neg h]
theorem altL_bad (h : i < l.length ∧ at_ l i = 124) {e : Nat} (hp : seqL sub deep l (i + 1) g out [] = .bad e) : altL sub deep l i g out kids = .bad e := by
  rw [altL, dif_pos h, hp]
theorem altL_go (h : i < l.length ∧ at_ l i = 124) {j g' : Nat} {out' : List Pc} {x : Int} (hp : seqL sub deep l (i + 1) g out [] = .ok ((j, g', out'), x)) (hj : i < j) : altL sub deep l i g out kids = altL sub deep l j g' out' (kids ++ [x]) := by
  rw [altL, dif_pos h, hp]
  simp only []
  rw [dif_pos hj]
end
theorem seqL_len {l : Bytes} {sub : St → Pr (St × Int)} (hsub : SubOk l sub) {deep : Bool} : ∀ (n : Nat) {i g j g' : Nat} {out out' : List Pc} {kids : List Int} {k : Int}, n = l.length - i → i ≤ l.length → seqL sub deep l i g out kids = .ok ((j, g', out'), k) →
    i ≤ j ∧ j ≤ l.length ∧ out'.length ≤ out.length + 4 * (j - i) + 1 ∧ (g ≤ 9 → g' ≤ 9) := by
  intro n
  induction n using Nat.strongRecOn with
  | _ n ih =>
    intro i g j g' out out' kids k hn hi h
    rw [seqL] at h
    split at h
    · split at h
      · cases h
      · rename_i hp
        have h1 := pieceP_len hsub (by omega) hp
        split at h
        · have h2 := ih _ (by omega) rfl (by omega) h
          omega
        · cases h
    · cases h; simp only [List.length_append, List.length_singleton]; omega
theorem altL_len {l : Bytes} {sub : St → Pr (St × Int)} (hsub : SubOk l sub) {deep : Bool} : ∀ (n : Nat) {i g j g' : Nat} {out out' : List Pc} {kids : List Int} {k : Int}, n = l.length - i → i ≤ l.length → altL sub deep l i g out kids = .ok ((j, g', out'), k) →
    i ≤ j ∧ j ≤ l.length ∧ out'.length ≤ out.length + 4 * (j - i) + 1 ∧ (g ≤ 9 → g' ≤ 9) := by
  intro n
  induction n using Nat.strongRecOn with
  | _ n ih =>
    intro i g j g' out out' kids k hn hi h
    rw [altL] at h
    split at h
    · split at h
      · cases h
      · rename_i hp
        have h1 := seqL_len hsub _ rfl (by omega) hp
        split at h
        · have h2 := ih _ (by omega) rfl (by omega) h
          omega
        · cases h
    · unfold altE at h
      split at h
      · cases h; omega
      · cases h; simp only [List.length_append, List.length_singleton]; omega
theorem patP_len (l : Bytes) : ∀ d, SubOk l (patP l d) := by
  have bad : SubOk l (fun _ => .bad 0) := by intro i g out j g' out' k _ h; cases h
  intro d
  induction d with
  | zero =>
    intro i g out j g' out' k hi h
    simp only [patP] at h
    split at h
    · cases h
    · rename_i hs
      have h1 := seqL_len bad _ rfl hi hs
      have h2 := altL_len bad _ rfl (by omega) h
      omega
  | succ d ih =>
    intro i g out j g' out' k hi h
    simp only [patP] at h
    split at h
    · cases h
    · rename_i hs
      have h1 := seqL_len ih _ rfl hi hs
      have h2 := altL_len ih _ rfl (by omega) h
      omega
end Go.Vc

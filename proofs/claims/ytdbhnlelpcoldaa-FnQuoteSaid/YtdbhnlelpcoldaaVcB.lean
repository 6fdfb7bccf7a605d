/- The calculus: what one operation asks and gives (quiet operations, effects), and a region's operations in turn. No statement of the seat is proved here. -/
import Derived.Test.YtdbhnlelpcoldaaVcA
namespace Go.Vc
set_option linter.unusedVariables false

/-! ### Memory -/
def cellH (h : Array Obj) (b o : Nat) : Option Value :=
  match h[b]? with
  | some (.cells c _ _) => c[o]?
  | _ => none
def frozH (h : Array Obj) (b o : Nat) : Bool :=
  match h[b]? with
  | some (.cells _ _ (lo, hi)) => lo ≤ o && o < hi
  | _ => false
/-- A cell that may be written. -/
def wrH (h : Array Obj) (b o : Nat) : Prop := (∃ v, cellH h b o = some v) ∧ frozH h b o = false
def setO (o : Nat) (v : Value) : Obj → Obj
  | .cells c elem f => .cells (c.setIfInBounds o v) elem f
  | x => x
def setH (h : Array Obj) (b o : Nat) (v : Value) : Array Obj := h.modify b (setO o v)
def setW (w : World) (b o : Nat) (v : Value) : World := { w with heap := setH w.heap b o v }
def newW (w : World) (o : Obj) : World := { w with heap := w.heap.push o }
def drewW (w : World) : World := { w with drawn := w.drawn + 1 }

def cellsAt (h : Array Obj) (b o : Nat) : List Value → Prop
  | [] => True
  | v :: r => cellH h b o = some v ∧ cellsAt h b (o + 1) r

/-! ### Quiet operations -/
inductive PV
  | no
  | val (v : Value)
  | cond (c : Prop) (v : Value)
  | adr (c : Nat → Nat → Prop) (v : Nat → Nat → Value)

def byteAt (s : ByteArray) (i : Nat) : Int := ((s.data.toList.getD i 0).toNat : Int)

def pickB (t : Bool) (x y : Value) : PV := match t with
  | true => .val x
  | false => .val y
def pickV (c x y : Value) : PV := match c with
  | .bool t => match x with
    | .bool a => match y with
      | .bool b => .val (.bool (cond t a b))
      | _ => pickB t x y
    | _ => pickB t x y
  | _ => .no
def nilV : Value → PV
  | .pointer (some a) => .val (.pointer (some a))
  | .int k n => .val (.int k n)
  | .slice a l c => .val (.slice a l c)
  | .func (.func f) x y => .val (.func (.func f) x y)
  | .map r => .val (.map r)
  | _ => .no
def binV (P : Program) (op : BinOp) (t : TypeId) : Value → Value → PV
  | .int k a, .int k' b =>
    match op with
    | .shl => .cond (0 ≤ b) (.int k (k.wrap (a * 2 ^ (min b.toNat k.bits))))
    | .shr => .cond (0 ≤ b) (.int k (a.fdiv (2 ^ (min b.toNat k.bits))))
    | _ => if k = k' then
      match op with
      | .add => .val (.int k (k.wrap (a + b)))
      | .sub => .val (.int k (k.wrap (a - b)))
      | .mul => .val (.int k (k.wrap (a * b)))
      | .quo => .cond (b ≠ 0) (.int k (k.wrap (a.tdiv b)))
      | .rem => .cond (b ≠ 0) (.int k (a.tmod b))
      | .and => .val (.int k (k.wrap ((BitVec.ofInt k.bits a &&& BitVec.ofInt k.bits b).toNat)))
      | .xor => .val (.int k (k.wrap ((BitVec.ofInt k.bits a ^^^ BitVec.ofInt k.bits b).toNat)))
      | .eql => .val (.bool (a == b))
      | .neq => .val (.bool (a != b))
      | .lss => .val (.bool (decide (a < b)))
      | .leq => .val (.bool (decide (a ≤ b)))
      | .gtr => .val (.bool (decide (a > b)))
      | .geq => .val (.bool (decide (a ≥ b)))
      | _ => .no
      else .no
  | .string a, .string b =>
    match op with
    | .add => .cond (a.size + b.size ≤ 9223372036854775807) (.string (a ++ b))
    | .eql => .val (.bool (a.toList == b.toList))
    | .neq => .val (.bool (!(a.toList == b.toList)))
    | _ => .no
  | .bool a, .bool b =>
    match op, P.underlying t with
    | .eql, some .bool => .val (.bool (a == b))
    | .neq, some .bool => .val (.bool (!(a == b)))
    | _, _ => .no
  | _, _ => .no
def unV (op : UnOp) : Value → PV
  | .int k n => match op with
    | .neg => .val (.int k (k.wrap (0 - n)))
    | _ => .no
  | .bool b => match op with
    | .not => .val (.bool (!b))
    | _ => .no
  | _ => .no
def convV (P : Program) (src dst : TypeId) (x : Value) : PV :=
  match P.underlying src, P.underlying dst, x with
  | some (.int _), some (.int k), .int _ n => .val (.int k (k.wrap n))
  | some .string, some .string, .string s => .val (.string s)
  | _, _, _ => .no
def mkIfV (P : Program) (t : TypeId) (x : Value) : PV :=
  match P.underlying t with
  | some (.int _) => .val (.iface t x)
  | some .string => .val (.iface t x)
  | _ => .no
def sizeP (P : Program) (t : TypeId) : Option Nat := (P.info? t).map (·.size)
def fieldAddrV (P : Program) (s : TypeId) (x : Value) (f : Nat) : PV :=
  match P.underlying s, x with
  | some (.struct fs), .pointer (some ⟨b, o, none⟩) =>
    match fs.toList[f]? with
    | some fd => match sizeP P fd.type with
      | some (_ + 1) => .val (.pointer (some ⟨b, o + fd.offset, none⟩))
      | _ => .no
    | none => .no
  | _, _ => .no
def indexAddrV (P : Program) (t : TypeId) (x i : Value) : PV :=
  match P.underlying t, x, i with
  | some (.slice e), .slice a len _, .int _ n =>
    match sizeP P e with
    | some sz => .adr (fun b o => a = some ⟨b, o, none⟩ ∧ 0 ≤ n ∧ n < (len : Int)) (fun b o => .pointer (some ⟨b, o + n.toNat * sz, none⟩))
    | none => .no
  | some (.array (len + 2) e), .pointer (some ⟨b, o, none⟩), .int _ n =>
    match sizeP P e with
    | some sz => .cond (0 ≤ n ∧ n < ((len + 2 : Nat) : Int)) (.pointer (some ⟨b, o + n.toNat * sz, none⟩))
    | none => .no
  | _, _, _ => .no
def indexV (P : Program) (t : TypeId) (x i : Value) : PV :=
  match P.underlying t, x, i with
  | some .string, .string s, .int _ n => .cond (0 ≤ n ∧ n < (s.size : Int)) (.int .u8 (byteAt s n.toNat))
  | _, _, _ => .no
def fieldV (P : Program) (t : TypeId) (x : Value) (f : Nat) : PV :=
  match P.underlying t, x with
  | some (.struct fs), .agg cs =>
    match fs.toList[f]? with
    | some fd => match P.underlying fd.type, sizeP P fd.type with
      | some (.struct _), some n => .val (.agg ⟨(cs.toList.drop fd.offset).take n⟩)
      | some (.array _ _), some n => .val (.agg ⟨(cs.toList.drop fd.offset).take n⟩)
      | some _, some _ => match cs.toList[fd.offset]? with
        | some v => .val v
        | none => .no
      | _, _ => .no
    | none => .no
  | _, _ => .no
def boundI : Option Value → Nat → Option Int
  | some (.int _ n), _ => some n
  | none, d => some (d : Int)
  | _, _ => none
def sliceV (P : Program) (t : TypeId) (x : Value) (lo hi mx : Option Value) : PV :=
  match P.underlying t, x, lo, hi, mx with
  | some .string, .string s, some (.int _ l), some (.int _ h), none => .cond (0 ≤ l ∧ l ≤ h ∧ h ≤ (s.size : Int)) (.string (s.extract l.toNat h.toNat))
  | some .string, .string s, some (.int _ l), none, none => .cond (0 ≤ l ∧ l ≤ (s.size : Int)) (.string (s.extract l.toNat s.size))
  | some .string, .string s, none, some (.int _ h), none => .cond (0 ≤ h ∧ h ≤ (s.size : Int)) (.string (s.extract 0 h.toNat))
  | _, _, _, _, _ => .no
def extractV : Value → Nat → PV
  | .tuple vs, i => match vs.toList[i]? with
    | some v => .val v
    | none => .no
  | _, _ => .no
def lenV (P : Program) (t : TypeId) : Value → PV
  | .string s => match P.underlying t with
    | some .string => .val (.int .i64 s.size)
    | _ => .no
  | .slice _ n _ => match P.underlying t with
    | some (.slice _) => .val (.int .i64 n)
    | _ => .no
  | _ => .no

def pureV (P : Program) (o : Oper) (ρ : Operand → Value) : PV :=
  match o.op with
  | .move x => .val (ρ x)
  | .assign x => .val (ρ x)
  | .pick c a b => pickV (ρ c) (ρ a) (ρ b)
  | .nilCheck x => nilV (ρ x)
  | .binOp op t x y _ => binV P op t (ρ x) (ρ y)
  | .unOp op _ x => unV op (ρ x)
  | .convert s d x => convV P s d (ρ x)
  | .makeInterface t x => mkIfV P t (ρ x)
  | .makeFunc fn first captured => .val (.func fn ⟨first.toList.map ρ⟩ ⟨captured.toList.map ρ⟩)
  | .fieldAddr s x f => fieldAddrV P s (ρ x) f
  | .indexAddr t x i => indexAddrV P t (ρ x) (ρ i)
  | .index t x i => indexV P t (ρ x) (ρ i)
  | .field t x f => fieldV P t (ρ x) f
  | .slice t x l h m => sliceV P t (ρ x) (l.map ρ) (h.map ρ) (m.map ρ)
  | .extract t i => extractV (ρ t) i
  | .call { callee := .builtin .len, argTypes, args } => match argTypes.toList, args.toList with
    | [t], [x] => lenV P t (ρ x)
    | _, _ => .no
  | _ => .no

/-! ### The soundness of the quiet ones -/
/-- In whatever world the operation gives v and does nothing else. -/
def Gives (P : Program) (o : Oper) (ρ : Operand → Value) (v : Value) : Prop := ∀ w, (execOp ρ o).run P w = .ok (.value v) w

def PV.holds (P : Program) (o : Oper) (ρ : Operand → Value) : PV → Prop
  | .no => True
  | .val v => Gives P o ρ v
  | .cond c v => c → Gives P o ρ v
  | .adr c v => ∀ b o', c b o' → Gives P o ρ (v b o')

theorem run_pure {α : Type} (P : Program) (a : α) (w : World) : (pure a : Sem α).run P w = .ok a w := rfl
theorem run_underlying {P : Program} {t : TypeId} {d : TypeDesc} (h : P.underlying t = some d) {α : Type} (k : TypeDesc → Sem α) (w : World) :
    (underlying t >>= k).run P w = (k d).run P w := by
  simp [underlying, program, bind, Sem.bind, Sem.run, h]
  rfl
theorem i64_max : IntKind.i64.max = 9223372036854775807 := by decide

end Go.Vc

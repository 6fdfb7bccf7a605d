/- The calculus: what the quiet operations give is what the model gives. No statement of the seat is proved here. -/
import Derived.Test.YtdbhnlelpcoldaaVcB
import Derived.Laws.Sem
namespace Go.Vc
set_option linter.unusedVariables false
set_option linter.unusedSimpArgs false

theorem underlying_run {P : Program} {t : TypeId} {d : TypeDesc} (h : P.underlying t = some d) (w : World) : (underlying t).run P w = .ok d w := by
  simp [underlying, program, bind, Sem.bind, Sem.run, h, pure]
theorem sizeOf_run {P : Program} {t : TypeId} {n : Nat} (h : sizeP P t = some n) (w : World) : (sizeOf t).run P w = .ok n w := by
  unfold sizeP at h
  cases hi : P.info? t with
  | none => simp [hi] at h
  | some i =>
    simp only [hi, Option.map_some, Option.some.injEq] at h
    simp [sizeOf, typeInfo, program, bind, Sem.bind, Sem.run, hi, pure, h]
theorem bind_run {α β : Type} {P : Program} {s : Sem α} {k : α → Sem β} {w w' : World} {a : α} (h : s.run P w = .ok a w') : (s >>= k).run P w = (k a).run P w' := by
  rw [Sem.run_bind, h]
  rfl

theorem pick_holds (P : Program) (o : Oper) (ρ : Operand → Value) (c a b : Operand) (h : o.op = .pick c a b) : (pickV (ρ c) (ρ a) (ρ b)).holds P o ρ := by
  have key : ∀ (t : Bool), ρ c = .bool t → Gives P o ρ (if t then ρ a else ρ b) := by
    intro t hc w
    simp only [execOp, h, hc, asBool]
    cases t <;> simp [bind, Sem.bind, pure, Sem.run]
  have keyB : ∀ (t : Bool), ρ c = .bool t → (pickB t (ρ a) (ρ b)).holds P o ρ := by
    intro t hc
    have := key t hc
    cases t <;> exact this
  unfold pickV
  split
  · rename_i t hc
    split
    · rename_i x ha
      split
      · rename_i y hb
        have := key t hc
        rw [ha, hb] at this
        cases t <;> exact this
      · exact keyB t hc
    · exact keyB t hc
  · trivial
theorem nil_holds (P : Program) (o : Oper) (ρ : Operand → Value) (x : Operand) (h : o.op = .nilCheck x) : (nilV (ρ x)).holds P o ρ := by
  cases hx : ρ x with
  | pointer p =>
    cases p with
    | none => trivial
    | some a => intro w; simp only [execOp, h, hx]; rfl
  | int k n => intro w; simp only [execOp, h, hx]; rfl
  | slice a l c => intro w; simp only [execOp, h, hx]; rfl
  | map r => intro w; simp only [execOp, h, hx]; rfl
  | func fn x y =>
    cases fn with
    | func f => intro w; simp only [execOp, h, hx]; rfl
    | _ => trivial
  | _ => trivial

theorem eqGuard_run {P : Program} {op : BinOp} {t : TypeId} {x y : Operand} {a b : Value} (ha : ∀ cs, a ≠ .agg cs) (hn : a ≠ .nilIface) (w : World) : (eqGuard op t x y a b).run P w = .ok () w := by
  unfold eqGuard
  cases op <;> cases a <;> first | rfl | exact absurd rfl hn | exact absurd rfl (ha _)

theorem boolEq_run {P : Program} {t : TypeId} (hu : P.underlying t = some .bool) (a b : Bool) (w : World) : (Op.equal t (.bool a) (.bool b)).run P w = .ok (a == b) w := by
  show (Op.equalIn (9999 + 1) t (.bool a) (.bool b)).run P w = _
  rw [Op.equalIn, bind_run (underlying_run hu w)]
  rfl
theorem bin_holds (P : Program) (o : Oper) (ρ : Operand → Value) (op : BinOp) (t yt : TypeId) (x y : Operand) (h : o.op = .binOp op t x y yt) : (binV P op t (ρ x) (ρ y)).holds P o ρ := by
  have key : ∀ (r v : Value) (w : World), ρ x = r → (∀ cs, r ≠ .agg cs) → r ≠ .nilIface → (binOp op t r (ρ y)).run P w = .ok v w → (execOp ρ o).run P w = .ok (.value v) w := by
    intro r v w hr h1 h2 h3
    simp only [execOp, h]
    refine (bind_run (a := v) (w' := w) ?_).trans rfl
    refine (bind_run (a := ()) (w' := w) (eqGuard_run (by rw [hr]; exact h1) (by rw [hr]; exact h2) w)).trans ?_
    rw [hr]
    exact h3
  cases hx : ρ x with
  | int k a =>
    cases hy : ρ y with
    | int k' b =>
      have key' : ∀ v w, (binOp op t (.int k a) (.int k' b)).run P w = .ok v w → (execOp ρ o).run P w = .ok (.value v) w := fun v w h' =>
        key (.int k a) v w hx (by simp) (by simp) (by rw [hy]; exact h')
      by_cases hk : k = k'
      · subst hk
        cases op <;> simp only [binV, if_true] <;> first
          | trivial
          | exact fun w => key' _ w (by simp [binOp, Op.intArith, Op.intCmp, Op.intBits, Sem.run, pure])
          | (intro hb w; refine key' _ w ?_; have hb' : ¬ (b < 0) := Int.not_lt.2 hb; simp [binOp, Op.shift, hb', Sem.run, pure]; done)
          | (intro hb w; refine key' _ w ?_; have hb' : ¬ (b = 0) := hb; simp [binOp, Op.intDiv, hb', Sem.run, pure]; done)
      · cases op <;> simp only [binV, hk, if_false] <;> first
          | trivial
          | (intro hb w; refine key' _ w ?_; have hb' : ¬ (b < 0) := Int.not_lt.2 hb; simp [binOp, Op.shift, hb', Sem.run, pure]; done)
    | _ => simp only [binV]; trivial
  | string a =>
    cases hy : ρ y with
    | string b =>
      have key' : ∀ v w, (binOp op t (.string a) (.string b)).run P w = .ok v w → (execOp ρ o).run P w = .ok (.value v) w := fun v w h' =>
        key (.string a) v w hx (by simp) (by simp) (by rw [hy]; exact h')
      cases op <;> simp only [binV] <;> first
          | trivial
          | exact fun w => key' _ w (by simp [binOp, Op.stringOp, Sem.run, pure])
          | (intro hb w; refine key' _ w ?_; have hb' : ¬ (((a.size + b.size : Nat) : Int) > IntKind.i64.max) := by (rw [i64_max]; omega)
             simp only [binOp, Op.stringOp, hb', if_false]; rfl)
    | _ => simp only [binV]; trivial
  | bool a =>
    cases hy : ρ y with
    | bool b =>
      have key' : ∀ v w, (binOp op t (.bool a) (.bool b)).run P w = .ok v w → (execOp ρ o).run P w = .ok (.value v) w := fun v w h' =>
        key (.bool a) v w hx (by simp) (by simp) (by rw [hy]; exact h')
      cases hu : P.underlying t with
      | none => cases op <;> simp only [binV, hu] <;> trivial
      | some d =>
        cases d <;> (try (cases op <;> simp only [binV, hu] <;> trivial))
        cases op <;> simp only [binV, hu] <;> first
          | trivial
          | exact fun w => key' _ w ((bind_run (boolEq_run hu a b w)).trans rfl)
    | _ => simp only [binV]; trivial
  | _ => simp only [binV]; trivial
theorem un_holds (P : Program) (o : Oper) (ρ : Operand → Value) (op : UnOp) (t : TypeId) (x : Operand) (h : o.op = .unOp op t x) : (unV op (ρ x)).holds P o ρ := by
  cases hx : ρ x <;> simp only [unV] <;> try trivial
  · cases op <;> first | trivial | (intro w; simp only [execOp, h, hx, Op.unary]; rfl)
  · cases op <;> first | trivial | (intro w; simp only [execOp, h, hx, Op.unary, Op.intArith]; rfl)
theorem conv_holds (P : Program) (o : Oper) (ρ : Operand → Value) (s d : TypeId) (x : Operand) (h : o.op = .convert s d x) : (convV P s d (ρ x)).holds P o ρ := by
  unfold convV
  split
  · rename_i k1 k k2 n h1 h2 hx
    intro w
    simp only [execOp, h, hx]
    refine (bind_run (a := .int k (k.wrap n)) (w' := w) ?_).trans rfl
    unfold convert
    rw [bind_run (underlying_run h1 w), bind_run (underlying_run h2 w)]
    rfl
  · rename_i s1 h1 h2 hx
    intro w
    simp only [execOp, h, hx]
    refine (bind_run (a := .string s1) (w' := w) ?_).trans rfl
    unfold convert
    rw [bind_run (underlying_run h1 w), bind_run (underlying_run h2 w)]
    rfl
  · trivial
theorem mkIf_holds (P : Program) (o : Oper) (ρ : Operand → Value) (t : TypeId) (x : Operand) (h : o.op = .makeInterface t x) : (mkIfV P t (ρ x)).holds P o ρ := by
  unfold mkIfV
  split
  all_goals first
    | trivial
    | (rename_i hu
       intro w
       simp only [execOp, h]
       refine (bind_run (a := .iface t (ρ x)) (w' := w) ?_).trans rfl
       unfold Instr.makeInterface
       rw [bind_run (underlying_run hu w)]
       rfl)
theorem add_spot (b o n : Nat) : (⟨b, o, none⟩ : Addr).add n = ⟨b, o + n, none⟩ := by
  unfold Addr.add; split <;> simp_all
theorem fieldAddr_holds (P : Program) (o : Oper) (ρ : Operand → Value) (s : TypeId) (x : Operand) (f : Nat) (h : o.op = .fieldAddr s x f) : (fieldAddrV P s (ρ x) f).holds P o ρ := by
  unfold fieldAddrV
  split
  · rename_i fs b o' hu hx
    split
    · rename_i fd hf
      split
      · rename_i n hn
        intro w
        simp only [execOp, h, hx]
        refine (bind_run (a := .pointer (some ⟨b, o' + fd.offset, none⟩)) (w' := w) ?_).trans rfl
        unfold Instr.fieldAt
        rw [bind_run (underlying_run hu w)]
        have hf' : fs[f]? = some fd := by rw [← Array.getElem?_toList]; exact hf
        simp only [hf']
        have h1 : (Instr.sureAddr (.pointer (some ⟨b, o', none⟩))).run P w = .ok ⟨b, o', none⟩ w := rfl
        rw [bind_run h1]
        have h2 : (fieldPlace ⟨b, o', none⟩ fd).run P w = .ok ⟨b, o' + fd.offset, none⟩ w := by
          unfold fieldPlace
          rw [bind_run (sizeOf_run hn w)]
          simp only [Nat.add_one_ne_zero, if_false, add_spot]
          rfl
        rw [bind_run h2]
        rfl
      · trivial
    · trivial
  · trivial
theorem indexAddr_holds (P : Program) (o : Oper) (ρ : Operand → Value) (t : TypeId) (x i : Operand) (h : o.op = .indexAddr t x i) : (indexAddrV P t (ρ x) (ρ i)).holds P o ρ := by
  unfold indexAddrV
  split
  · rename_i e a len c k n hu hx hi
    split
    · rename_i sz hs
      rintro b o' ⟨rfl, h0, h1⟩ w
      simp only [execOp, h, hx, hi]
      refine (bind_run (a := .pointer (some ⟨b, o' + n.toNat * sz, none⟩)) (w' := w) ?_).trans rfl
      unfold Instr.indexAt
      rw [bind_run (show (asIntOf (.int k n)).run P w = .ok (k, n) w from rfl)]
      simp only []
      rw [bind_run (underlying_run hu w)]
      simp only []
      rw [bind_run (show (pure (some ⟨b, o', none⟩, len, e) : Sem (Option Addr × Nat × TypeId)).run P w = .ok (some ⟨b, o', none⟩, len, e) w from rfl)]
      simp only []
      rw [bind_run (underlying_run hu w)]
      simp only [h0, h1, and_self, if_true]
      rw [bind_run (sizeOf_run hs w), add_spot]
      rfl
    · trivial
  · rename_i len e b o' k n hu hx hi
    split
    · rename_i sz hs
      rintro ⟨h0, h1⟩ w
      simp only [execOp, h, hx, hi]
      refine (bind_run (a := .pointer (some ⟨b, o' + n.toNat * sz, none⟩)) (w' := w) ?_).trans rfl
      unfold Instr.indexAt
      rw [bind_run (show (asIntOf (.int k n)).run P w = .ok (k, n) w from rfl)]
      simp only []
      rw [bind_run (underlying_run hu w)]
      simp only []
      rw [bind_run (show (Instr.sureAddr (.pointer (some ⟨b, o', none⟩))).run P w = .ok ⟨b, o', none⟩ w from rfl)]
      rw [bind_run (run_pure P (some (⟨b, o', none⟩ : Addr), len.succ.succ, e) w)]
      simp only []
      rw [bind_run (underlying_run hu w)]
      have h1' : n < (len.succ.succ : Int) := h1
      simp only [h0, h1', and_self, if_true]
      rw [bind_run (sizeOf_run hs w), add_spot]
      rfl
    · trivial
  · trivial
theorem byteAt_get (s : ByteArray) (i : Nat) (h : i < s.size) : s[i]? = some (s.data.toList.getD i 0) := by
  have h' : i < s.data.toList.length := by simpa using h
  rw [List.getD_eq_getElem?_getD, List.getElem?_eq_getElem h']
  simp [getElem?_pos, h]
  rfl
theorem index_holds (P : Program) (o : Oper) (ρ : Operand → Value) (t : TypeId) (x i : Operand) (h : o.op = .index t x i) : (indexV P t (ρ x) (ρ i)).holds P o ρ := by
  unfold indexV
  split
  · rename_i s k n hu hx hi
    rintro ⟨h0, h1⟩ w
    simp only [execOp, h, hx, hi]
    refine (bind_run (a := .int .u8 (byteAt s n.toNat)) (w' := w) ?_).trans rfl
    unfold Instr.index
    rw [bind_run (show (asIntOf (.int k n)).run P w = .ok (k, n) w from rfl)]
    simp only []
    rw [bind_run (underlying_run hu w)]
    simp only [h0, if_true]
    rw [byteAt_get s n.toNat (by omega)]
    rfl
  · trivial
theorem part_run_one {P : Program} {t : TypeId} {d : TypeDesc} (hu : P.underlying t = some d) (hs : ∀ fs, d ≠ .struct fs) (ha : ∀ n e, d ≠ .array n e)
    {cs : Array Value} {off : Nat} {v : Value} (hv : cs.toList[off]? = some v) (w : World) : (part t cs off).run P w = .ok v w := by
  have h1 : (isAgg t).run P w = .ok false w := by
    unfold isAgg
    rw [bind_run (underlying_run hu w)]
    cases d <;> first | rfl | exact absurd rfl (hs _) | exact absurd rfl (ha _ _)
  unfold part
  rw [bind_run h1]
  have hv' : cs[off]? = some v := by rw [← Array.getElem?_toList]; exact hv
  simp only [Bool.false_eq_true, if_false, hv']
  rfl
theorem part_run_agg {P : Program} {t : TypeId} {d : TypeDesc} (hu : P.underlying t = some d) (hd : (∃ fs, d = .struct fs) ∨ ∃ n e, d = .array n e) {n : Nat} (hn : sizeP P t = some n)
    (cs : Array Value) (off : Nat) (w : World) : (part t cs off).run P w = .ok (.agg ⟨(cs.toList.drop off).take n⟩) w := by
  have h1 : (isAgg t).run P w = .ok true w := by
    unfold isAgg
    rw [bind_run (underlying_run hu w)]
    rcases hd with ⟨fs, rfl⟩ | ⟨n, e, rfl⟩ <;> rfl
  unfold part
  rw [bind_run h1]
  simp only [if_true]
  rw [bind_run (sizeOf_run hn w)]
  have : cs.extract off (off + n) = ⟨(cs.toList.drop off).take n⟩ := by
    apply Array.toList_inj.1
    simp [Array.toList_extract, List.extract_eq_take_drop]
  rw [this]
  rfl
theorem field_holds (P : Program) (o : Oper) (ρ : Operand → Value) (t : TypeId) (x : Operand) (f : Nat) (h : o.op = .field t x f) : (fieldV P t (ρ x) f).holds P o ρ := by
  have key : ∀ (fs : Array Field) (fd : Field) (cs : Array Value) (v : Value), P.underlying t = some (.struct fs) → ρ x = .agg cs → fs.toList[f]? = some fd →
      (∀ w, (part fd.type cs fd.offset).run P w = .ok v w) → Gives P o ρ v := by
    intro fs fd cs v hu hx hf hp w
    simp only [execOp, h, hx]
    refine (bind_run (a := v) (w' := w) ?_).trans rfl
    unfold Instr.field
    rw [bind_run (underlying_run hu w)]
    have hf' : fs[f]? = some fd := by rw [← Array.getElem?_toList]; exact hf
    simp only [hf']
    rw [bind_run (show (asAgg (.agg cs)).run P w = .ok cs w from rfl)]
    exact hp w
  unfold fieldV
  split
  · rename_i fs cs hu hx
    split
    · rename_i fd hf
      split
      · rename_i fs' n hu' hn
        exact key fs fd cs _ hu hx hf fun w => part_run_agg hu' (.inl ⟨_, rfl⟩) hn cs _ w
      · rename_i m e n hu' hn
        exact key fs fd cs _ hu hx hf fun w => part_run_agg hu' (.inr ⟨_, _, rfl⟩) hn cs _ w
      · rename_i d n h1 h2 hu' hn
        split
        · rename_i v hv
          refine key fs fd cs _ hu hx hf fun w => part_run_one hu' ?_ ?_ hv w
          · rintro fs' rfl; exact h1 _ rfl
          · rintro m e rfl; exact h2 _ _ rfl
        · trivial
      · trivial
    · trivial
  · trivial
theorem bound_run {P : Program} {k : IntKind} {n : Int} {y : Nat} {code : BoundsCode} (h0 : 0 ≤ n) (h1 : n ≤ (y : Int)) (w : World) : (Instr.sliceBound (.int k n) y code).run P w = .ok n.toNat w := by
  unfold Instr.sliceBound
  rw [bind_run (show (asIntOf (.int k n)).run P w = .ok (k, n) w from rfl)]
  simp only [h0, h1, and_self, if_true]
  rfl
theorem slice_holds (P : Program) (o : Oper) (ρ : Operand → Value) (t : TypeId) (x : Operand) (l h' m : Option Operand) (h : o.op = .slice t x l h' m) :
    (sliceV P t (ρ x) (l.map ρ) (h'.map ρ) (m.map ρ)).holds P o ρ := by
  have key : ∀ (s : ByteArray) (a b : Nat) (lo hi : Option Value) (w : World), P.underlying t = some .string → ρ x = .string s → l.map ρ = lo → h'.map ρ = hi → m.map ρ = none →
      (Instr.sliceBounds false s.size s.size lo hi none).run P w = .ok (a, b, s.size) w → (execOp ρ o).run P w = .ok (.value (.string (s.extract a b))) w := by
    intro s a b lo hi w hu hx hl hh hm hb
    simp only [execOp, h, hx, hl, hh, hm]
    refine (bind_run (a := .string (s.extract a b)) (w' := w) ?_).trans rfl
    unfold Instr.sliceAt
    rw [bind_run (underlying_run hu w)]
    simp only []
    unfold Instr.slice
    rw [bind_run (underlying_run hu w)]
    simp only [Option.isSome_none, Bool.false_eq_true, if_false]
    rw [bind_run hb]
    rfl
  unfold sliceV
  split
  · rename_i s kl ln kh hn hu hx hl hh hm
    rintro ⟨h0, h1, h2⟩ w
    refine key s _ _ _ _ w hu hx hl hh hm ?_
    unfold Instr.sliceBounds
    rw [bind_run (show (pure s.size : Sem Nat).run P w = .ok s.size w from rfl)]
    simp only []
    rw [bind_run (bound_run (by omega) h2 w)]
    rw [bind_run (bound_run h0 (by omega) w)]
    rfl
  · rename_i s kl ln hu hx hl hh hm
    rintro ⟨h0, h1⟩ w
    refine key s _ _ _ _ w hu hx hl hh hm ?_
    unfold Instr.sliceBounds
    rw [bind_run (show (pure s.size : Sem Nat).run P w = .ok s.size w from rfl)]
    rw [bind_run (show (pure s.size : Sem Nat).run P w = .ok s.size w from rfl)]
    rw [bind_run (bound_run h0 h1 w)]
    rfl
  · rename_i s kh hn hu hx hl hh hm
    rintro ⟨h0, h1⟩ w
    refine key s _ _ _ _ w hu hx hl hh hm ?_
    unfold Instr.sliceBounds
    rw [bind_run (show (pure s.size : Sem Nat).run P w = .ok s.size w from rfl)]
    simp only []
    rw [bind_run (bound_run h0 h1 w)]
    rfl
  · trivial
theorem extract_holds (P : Program) (o : Oper) (ρ : Operand → Value) (x : Operand) (i : Nat) (h : o.op = .extract x i) : (extractV (ρ x) i).holds P o ρ := by
  cases hx : ρ x with
  | tuple vs =>
    simp only [extractV]
    split
    · rename_i v hv
      intro w
      have hv' : vs[i]? = some v := by rw [← Array.getElem?_toList]; exact hv
      simp only [execOp, h, hx, Instr.extract, hv']
      rfl
    · trivial
  | _ => trivial
theorem len_holds (P : Program) (o : Oper) (ρ : Operand → Value) (t : TypeId) (x : Operand) (h : o.op = .call { callee := .builtin .len, args := #[x], argTypes := #[t] }) : (lenV P t (ρ x)).holds P o ρ := by
  have key : ∀ (v : Value) (w : World), (Builtin.len_ #[t] o.type #[ρ x]).run P w = .ok v w → (execOp ρ o).run P w = .ok (.value v) w := by
    intro v w hr
    simp only [execOp, h, resolve]
    rw [bind_run (a := { target := .builtin .len #[t] o.type _, args := #[ρ x] }) (w' := w) (by simp; rfl)]
    simp only [invoke, builtin]
    rw [bind_run hr]
    rfl
  cases hx : ρ x <;> simp only [lenV] <;> try trivial
  · split
    · rename_i s hu
      intro w
      refine key _ w ?_
      unfold Builtin.len_
      simp only [hx, List.getElem?_toArray, List.getElem?_cons_zero]
      rw [bind_run (underlying_run hu w)]
      rfl
    · trivial
  · split
    · rename_i a n c e hu
      intro w
      refine key _ w ?_
      unfold Builtin.len_
      simp only [hx, List.getElem?_toArray, List.getElem?_cons_zero]
      rw [bind_run (underlying_run hu w)]
      rfl
    · trivial

theorem pureV_holds (P : Program) (o : Oper) (ρ : Operand → Value) : (pureV P o ρ).holds P o ρ := by
  unfold pureV
  split
  · rename_i x h; intro w; simp only [execOp, h]; rfl
  · rename_i x h; intro w; simp only [execOp, h]; rfl
  · rename_i c a b h; exact pick_holds P o ρ c a b h
  · rename_i x h; exact nil_holds P o ρ x h
  · rename_i op t x y yt h; exact bin_holds P o ρ op t yt x y h
  · rename_i op t x h; exact un_holds P o ρ op t x h
  · rename_i s d x h; exact conv_holds P o ρ s d x h
  · rename_i t x h; exact mkIf_holds P o ρ t x h
  · rename_i fn first captured h
    intro w
    simp only [execOp, h]
    have e1 : first.map ρ = ⟨first.toList.map ρ⟩ := by apply Array.toList_inj.1; simp
    have e2 : captured.map ρ = ⟨captured.toList.map ρ⟩ := by apply Array.toList_inj.1; simp
    rw [e1, e2]
    rfl
  · rename_i s x f h; exact fieldAddr_holds P o ρ s x f h
  · rename_i t x i h; exact indexAddr_holds P o ρ t x i h
  · rename_i t x i h; exact index_holds P o ρ t x i h
  · rename_i t x f h; exact field_holds P o ρ t x f h
  · rename_i t x l h' m h; exact slice_holds P o ρ t x l h' m h
  · rename_i t i h; exact extract_holds P o ρ t i h
  · rename_i args argTypes h
    split
    · rename_i t x h1 h2
      have e1 : argTypes = #[t] := Array.toList_inj.1 (by simpa using h1)
      have e2 : args = #[x] := Array.toList_inj.1 (by simpa using h2)
      subst e1; subst e2
      exact len_holds P o ρ t x h
    · trivial
  · trivial

end Go.Vc

/- For the rows: what was read stays readable where nothing old has changed; bytes among the arguments. No statement of the seat is proved here. -/
import Derived.Test.YtdbhnlelpcoldaaOwn
import Derived.ChangeOld
import Derived.ChangeReads
import Derived.ChangeSlices
import Derived.OpenShut
import Derived.ReadAgain
namespace Go.Vc
open Go.RowKit
set_option linter.unusedVariables false
set_option linter.unusedSimpArgs false
theorem trodAll_carry {H : Type} {enc : TypeId × Value → H} {P : Program} {w w' : World} {spare : Nat → Bool} {held : Bool} (hb : Below w.heap.size w w') :
    ∀ {ts : List TypeId} {vs : List Value} {ds : List (DataW H)} {ps : List MemPlace}, DataW.TrodAll enc P w 0 spare held ts vs ds ps → DataW.TrodAll enc P w' 0 spare held ts vs ds ps
  | [], [], [], ps, h => h
  | t :: ts, v :: vs, d :: ds, ps, ⟨p, q, ⟨n, h1⟩, h2, h3⟩ =>
    ⟨p, q, ⟨n, DataW.trod_carry n t v.cells.toList (d, p) h1 fun x hx => hb.same (DataW.trod_lt n t v.cells.toList (d, p) h1 x hx)⟩, trodAll_carry hb h2, h3⟩
  | [], [], _ :: _, _, h => h.elim
  | [], _ :: _, _, _, h => h.elim
  | _ :: _, [], _, _, h => h.elim
  | _ :: _, _ :: _, [], _, h => h.elim
theorem trodAll_back {H : Type} {enc : TypeId × Value → H} {P : Program} {w w' : World} (hb : Below w.heap.size w w') (hl : laidOutB P = true) (hm : mapsRowed P = true)
    (hf : ((List.range P.types.size).all fun t => match P.underlying t with | some (.slice e) => decide (0 < P.cellsOf e) | _ => true) = true) {ts : List TypeId} {vs : List Value} {ds : List (DataW H)} {ps : List MemPlace}
    (ht : (ts.all fun t => decide (t < P.types.size)) = true) (h : DataW.TrodAll enc P w 0 (fun _ => true) true ts vs ds ps) : DataW.TrodAll enc P w' 0 (fun b => decide (b < w.heap.size)) true ts vs ds ps :=
  trodAll_carry hb (DataW.TrodAll.respare (kids_rows hl hm) (fun t e h1 h2 => slices_full_of P hf t e h1 h2) (fun t h1 => of_decide_eq_true (List.all_eq_true.1 ht t h1)) h fun p hp => decide_eq_true (DataW.TrodAll.lt h p hp))

/-- The given bytes: readable, below B. -/
def GBytes (w : World) (B : Nat) (a : Option Addr) (l : Nat) : Prop :=
  l ≤ 1048576 ∧ (l = 0 ∨ ∃ b o, a = some ⟨b, o, none⟩ ∧ b < B ∧ ∀ i, i < l → ∃ n : Int, 0 ≤ n ∧ n ≤ 255 ∧ cellH w.heap b (o + i) = some (.int .u8 n))
theorem open_bytes {H : Type} {enc : TypeId × Value → H} {P : Program} {w : World} {base : Nat} {spare : Nat → Bool} {held : Bool} {r : Reach} {b0 : Nat} {t e : TypeId} {v : Value} {d : DataW H} {ps : List MemPlace}
    (ht : P.underlying t = some (.slice e)) (he : P.underlying e = some (.int .u8)) (hc : P.cellsOf e = 1) (hval : Value.okWide P w r b0 t v) (hd : DataW.Trod enc P w base spare held t v d ps) :
    ∃ a l c, v = .slice a l c ∧ (l ≤ 1048576 → GBytes w w.heap.size a l) := by
  obtain ⟨a0, l0, c0, rfl⟩ := Go.WideShapes.okWide_slice ht hval
  obtain ⟨fuel, hf⟩ := hd
  refine ⟨a0, l0, c0, rfl, fun hl => ⟨hl, ?_⟩⟩
  rcases Go.ChangeShapes.open_ints ht he hc hf with ⟨h1, _⟩ | ⟨a, len, cap, zs, h1, _, hle, _, hlen, _, hcell, hwf⟩
  · simp [Value.cells] at h1
    obtain ⟨rfl, rfl, rfl⟩ := h1
    exact .inl rfl
  · simp [Value.cells] at h1
    obtain ⟨rfl, rfl, rfl⟩ := h1
    by_cases h0 : l0 = 0
    · exact .inl h0
    have hz : l0 ≤ zs.length := by rw [hlen]; split <;> omega
    obtain ⟨b, o, rfl, hcell2⟩ := ints_at hcell (by omega)
    have hcell' : ∀ i, i < zs.length → cellH w.heap b (o + i) = some (.int .u8 (zs.getD i 0)) := fun i hi => by
      rw [← cell?_plain]; exact hcell2 i hi
    refine .inr ⟨b, o, rfl, ?_, fun i hi => ⟨zs.getD i 0, ?_, ?_, hcell' i (by omega)⟩⟩
    · have := hcell' 0 (by omega)
      rcases Nat.lt_or_ge b w.heap.size with h | h
      · exact h
      · unfold cellH at this; rw [Array.getElem?_eq_none h] at this; cases this
    · have := bounds_u8 (hwf (zs.getD i 0) (by rw [List.getD_eq_getElem?_getD, List.getElem?_eq_getElem (by omega)]; exact List.getElem_mem _)); omega
    · have := bounds_u8 (hwf (zs.getD i 0) (by rw [List.getD_eq_getElem?_getD, List.getElem?_eq_getElem (by omega)]; exact List.getElem_mem _)); omega
end Go.Vc

/- Equality of a struct with itself. No statement of the seat is proved here. -/
import Derived.Test.YtdbhnlelpcoldaaOwn
import Derived.Test.YtdbhnlelpcoldaaTplZ
import Derived.Laws.StructEq
namespace Go.Proofs.Ytdbhnlelpcoldaa.V
open Go.Vc Go.Proofs Go.RowKit
set_option linter.unusedVariables false
set_option linter.unusedSimpArgs false

theorem eqFields_refl {P : Program} {w : World} (d : Nat) (xs : Array Value) : ∀ fs : List Field, (∀ f ∈ fs, ∃ a, (part f.type xs f.offset).run P w = .ok a w ∧ (Op.equalIn d f.type a a).run P w = .ok true w) → (Op.eqFields d xs xs fs).run P w = .ok true w
  | [], _ => by simp [Op.eqFields]
  | f :: fs, h => by
    obtain ⟨a, h1, h2⟩ := h f (by simp)
    have ih := eqFields_refl d xs fs fun g hg => h g (by simp [hg])
    simp only [Op.eqFields]
    split
    · simp [h1, h2, ih]
    · exact ih
theorem mem_fields {fs : List Field} {l : List (TypeId × Nat)} (h : fs.map (fun f => (f.type, f.offset)) = l) {f : Field} (hf : f ∈ fs) : (f.type, f.offset) ∈ l := by
  rw [← h]; exact List.mem_map.2 ⟨f, hf, rfl⟩
theorem eq32 (n : Int) (s : ByteArray) (w : World) : (Op.equal 32 (.agg #[.int .i64 n, .string s]) (.agg #[.int .i64 n, .string s])).run Try.prog w = .ok true w := by
  unfold Op.equal
  rw [show Op.maxDepth = 9998 + 1 + 1 from rfl]
  rw [run_equalIn_struct w (9998 + 1) 32 _ _ (by kernel_rfl) (by kernel_rfl)]
  refine eqFields_refl _ _ _ fun f hf => ?_
  have := mem_fields (l := [(3, 0), (9, 1)]) (by kernel_rfl) hf
  simp only [List.mem_cons, List.not_mem_nil, or_false, Prod.mk.injEq] at this
  rcases this with ⟨h1, h2⟩ | ⟨h1, h2⟩ <;> rw [h1, h2]
  · exact ⟨.int .i64 n, by kernel_rfl, by rw [run_equalIn_int w 9998 3 .i64 .i64 _ _ Try.underlying3]; simp⟩
  · exact ⟨.string s, by kernel_rfl, by rw [run_equalIn_string w 9998 9 _ _ Try.underlying9]; simp⟩
theorem eq35 (t : Bool) (n : Int) (s : ByteArray) (w : World) : (Op.equal 35 (.agg #[.bool t, .int .i64 n, .string s]) (.agg #[.bool t, .int .i64 n, .string s])).run Try.prog w = .ok true w := by
  unfold Op.equal
  rw [show Op.maxDepth = 9998 + 1 + 1 from rfl]
  rw [run_equalIn_struct w (9998 + 1) 35 _ _ (by kernel_rfl) (by kernel_rfl)]
  refine eqFields_refl _ _ _ fun f hf => ?_
  have := mem_fields (l := [(4, 0), (3, 1), (9, 2)]) (by kernel_rfl) hf
  simp only [List.mem_cons, List.not_mem_nil, or_false, Prod.mk.injEq] at this
  rcases this with ⟨h1, h2⟩ | ⟨h1, h2⟩ | ⟨h1, h2⟩ <;> rw [h1, h2]
  · exact ⟨.bool t, by kernel_rfl, by rw [run_equalIn_bool' w 9998 4 _ _ (by kernel_rfl)]; simp⟩
  · exact ⟨.int .i64 n, by kernel_rfl, by rw [run_equalIn_int w 9998 3 .i64 .i64 _ _ Try.underlying3]; simp⟩
  · exact ⟨.string s, by kernel_rfl, by rw [run_equalIn_string w 9998 9 _ _ Try.underlying9]; simp⟩
end Go.Proofs.Ytdbhnlelpcoldaa.V

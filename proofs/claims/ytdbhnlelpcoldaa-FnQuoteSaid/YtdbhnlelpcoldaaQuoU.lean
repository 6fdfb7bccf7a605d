/- What is quoted is read back: plain lists. No statement of the seat is proved here. -/
import Derived.Test.YtdbhnlelpcoldaaUnqP
namespace Go.Vc
set_option linter.unusedVariables false
set_option linter.unusedSimpArgs false
theorem getD_app (p m : Bytes) (j : Nat) : (p ++ m).getD (p.length + j) 0 = m.getD j 0 := by
  simp only [List.getD_eq_getElem?_getD]
  rw [List.getElem?_append_right (by omega), Nat.add_sub_cancel_left]
theorem at_app (p m : Bytes) (j : Nat) : at_ (p ++ m) (p.length + j) = at_ m j := by unfold at_; rw [getD_app]
theorem at_app0 (p m : Bytes) : at_ (p ++ m) p.length = at_ m 0 := at_app p m 0
theorem hexv_hexd (k : Nat) (h : k < 16) : hexv (hexd k).toNat = some k := by
  have : ∀ k : Fin 16, hexv (hexd k.val).toNat = some k.val := by decide +kernel
  exact this ⟨k, h⟩
theorem unq_step (c : UInt8) (p r out : Bytes) (hr : r ≠ []) : unq (p ++ (quoB c.toNat ++ r)) p.length out = unq (p ++ (quoB c.toNat ++ r)) (p.length + (quoB c.toNat).length) (out ++ [c]) := by
  have hrl : 0 < r.length := List.length_pos_iff.2 hr
  have hc : c.toNat < 256 := c.toNat_lt
  have hcc : UInt8.ofNat c.toNat = c := by simp
  have hl : (p ++ (quoB c.toNat ++ r)).length = p.length + ((quoB c.toNat).length + r.length) := by simp
  by_cases h1 : c.toNat = 10
  · have hq : quoB c.toNat = [92, 110] := by unfold quoB; rw [if_pos h1]
    rw [hq] at hl ⊢
    simp only [List.length_cons, List.length_nil] at hl
    have a0 : at_ (p ++ ([92, 110] ++ r)) p.length = 92 := by rw [at_app0]; rfl
    have a1 : at_ (p ++ ([92, 110] ++ r)) (p.length + 1) = 110 := by rw [at_app]; rfl
    rw [unq_esc (by omega) a0]; unfold unqE
    rw [if_neg (by omega), if_pos a1]
    have : c = 10 := by rw [← hcc, h1]; rfl
    rw [this]; rfl
  by_cases h2 : c.toNat = 9
  · have hq : quoB c.toNat = [92, 116] := by unfold quoB; rw [if_neg h1, if_pos h2]
    rw [hq] at hl ⊢
    simp only [List.length_cons, List.length_nil] at hl
    have a0 : at_ (p ++ ([92, 116] ++ r)) p.length = 92 := by rw [at_app0]; rfl
    have a1 : at_ (p ++ ([92, 116] ++ r)) (p.length + 1) = 116 := by rw [at_app]; rfl
    rw [unq_esc (by omega) a0]; unfold unqE
    rw [if_neg (by omega), if_neg (by omega), if_pos a1]
    have : c = 9 := by rw [← hcc, h2]; rfl
    rw [this]; rfl
  by_cases h3 : c.toNat = 34 ∨ c.toNat = 92
  · have hq : quoB c.toNat = [92, c] := by unfold quoB; rw [if_neg h1, if_neg h2, if_pos h3, hcc]
    rw [hq] at hl ⊢
    simp only [List.length_cons, List.length_nil] at hl
    have a0 : at_ (p ++ ([92, c] ++ r)) p.length = 92 := by rw [at_app0]; rfl
    have a1 : at_ (p ++ ([92, c] ++ r)) (p.length + 1) = c.toNat := by rw [at_app]; rfl
    have g1 : (p ++ ([92, c] ++ r)).getD (p.length + 1) 0 = c := by rw [getD_app]; rfl
    rw [unq_esc (by omega) a0]; unfold unqE
    rw [if_neg (by omega), if_neg (by omega), if_neg (by omega), if_pos (by rw [a1]; exact h3), g1]; rfl
  by_cases h4 : c.toNat < 32 ∨ 126 < c.toNat
  · have hq : quoB c.toNat = [92, 120, hexd (c.toNat / 16), hexd (c.toNat % 16)] := by unfold quoB; rw [if_neg h1, if_neg h2, if_neg h3, if_pos h4]
    rw [hq] at hl ⊢
    simp only [List.length_cons, List.length_nil] at hl
    generalize hm : ([92, 120, hexd (c.toNat / 16), hexd (c.toNat % 16)] : Bytes) ++ r = m at *
    have a0 : at_ (p ++ m) p.length = 92 := by rw [at_app0, ← hm]; rfl
    have a1 : at_ (p ++ m) (p.length + 1) = 120 := by rw [at_app, ← hm]; rfl
    have a2 : at_ (p ++ m) (p.length + 2) = (hexd (c.toNat / 16)).toNat := by rw [at_app, ← hm]; rfl
    have a3 : at_ (p ++ m) (p.length + 3) = (hexd (c.toNat % 16)).toNat := by rw [at_app, ← hm]; rfl
    rw [unq_esc (by omega) a0]; unfold unqE
    rw [if_neg (by omega), if_neg (by omega), if_neg (by omega), if_neg (by omega), if_pos a1, if_neg (by omega), a2, hexv_hexd _ (by omega)]
    simp only []
    rw [if_neg (by omega), a3, hexv_hexd _ (by omega)]
    simp only []
    rw [show 16 * (c.toNat / 16) + c.toNat % 16 = c.toNat from by omega, hcc]; rfl
  · have hq : quoB c.toNat = [c] := by unfold quoB; rw [if_neg h1, if_neg h2, if_neg h3, if_neg h4, hcc]
    rw [hq] at hl ⊢
    simp only [List.length_cons, List.length_nil] at hl
    have a0 : at_ (p ++ ([c] ++ r)) p.length = c.toNat := by rw [at_app0]; rfl
    have g0 : (p ++ ([c] ++ r)).getD p.length 0 = c := by have := getD_app p ([c] ++ r) 0; rw [Nat.add_zero] at this; rw [this]; rfl
    rw [unq, dif_pos (by omega), if_neg (by omega), if_neg (by omega), if_pos (by omega), g0]; rfl
theorem unq_all (l : Bytes) : ∀ (p out : Bytes), unq (p ++ (l.flatMap (fun c => quoB c.toNat) ++ [34])) p.length out = (true, 0, out ++ l) := by
  induction l with
  | nil =>
    intro p out
    simp only [List.flatMap_nil, List.nil_append, List.append_nil]
    have a0 : at_ (p ++ [34]) p.length = 34 := by rw [at_app0]; rfl
    rw [unq, dif_pos (by simp), if_pos a0, if_neg (by simp)]
  | cons c l ih =>
    intro p out
    simp only [List.flatMap_cons, List.append_assoc]
    rw [unq_step c p _ out (by simp)]
    have := ih (p ++ quoB c.toNat) (out ++ [c])
    rw [List.length_append, List.append_assoc, List.append_assoc] at this
    rw [this]; rfl
theorem flat_len (l : Bytes) : (l.flatMap fun c => quoB c.toNat).length ≤ 4 * l.length := by
  induction l with
  | nil => simp
  | cons c l ih => have := quoB_len c.toNat; simp only [List.flatMap_cons, List.length_append, List.length_cons]; omega
theorem quoT_eq (l : Bytes) (h : l.length ≤ 200) : quoT l = [34] ++ (l.flatMap (fun c => quoB c.toNat) ++ [34]) := by
  unfold quoT quoL; rw [if_neg (by omega)]; rfl
theorem unq_quo (l : Bytes) (h : l.length ≤ 200) : unqT (quoT l) = (true, 0, l) := by
  rw [quoT_eq l h]
  have hl := flat_len l
  unfold unqT
  rw [if_neg (by simp only [List.length_append, List.length_cons, List.length_nil]; omega), if_neg]
  · have := unq_all l [34] []
    simpa using this
  · intro h
    rcases h with h | h
    · simp at h
    · exact h rfl
theorem quoT_len (l : Bytes) (h : l.length ≤ 200) : (quoT l).length ≤ 4 * l.length + 2 := by
  rw [quoT_eq l h]; have := flat_len l; simp only [List.length_append, List.length_cons, List.length_nil]; omega
theorem hexd_rng (k : Nat) (h : k < 16) : 32 ≤ (hexd k).toNat ∧ (hexd k).toNat ≤ 126 := by
  have : ∀ k : Fin 16, 32 ≤ (hexd k.val).toNat ∧ (hexd k.val).toNat ≤ 126 := by decide +kernel
  exact this ⟨k, h⟩
theorem quoB_rng (c : UInt8) : ∀ x ∈ quoB c.toNat, 32 ≤ x.toNat ∧ x.toNat ≤ 126 := by
  have hc : c.toNat < 256 := c.toNat_lt
  have hcc : UInt8.ofNat c.toNat = c := by simp
  intro x hx
  unfold quoB at hx
  rw [hcc] at hx
  split at hx
  · simp at hx; rcases hx with rfl | rfl <;> decide
  · split at hx
    · simp at hx; rcases hx with rfl | rfl <;> decide
    · split at hx
      · simp at hx; rcases hx with rfl | rfl
        · decide
        · omega
      · split at hx
        · simp at hx
          rcases hx with rfl | rfl | rfl | rfl
          · decide
          · decide
          · exact hexd_rng _ (by omega)
          · exact hexd_rng _ (by omega)
        · simp at hx; subst hx; omega
theorem quoT_rng (l : Bytes) : ∀ x ∈ quoT l, 32 ≤ x.toNat ∧ x.toNat ≤ 126 := by
  intro x hx
  unfold quoT quoL at hx
  split at hx
  · cases hx
  · simp only [List.cons_append, List.mem_cons, List.mem_append, List.mem_flatMap, List.not_mem_nil, or_false] at hx
    rcases hx with rfl | ⟨c, _, hx⟩ | rfl
    · decide
    · exact quoB_rng c x hx
    · decide
theorem quoT_at (l : Bytes) (i : Nat) (h : i < (quoT l).length) : 32 ≤ at_ (quoT l) i ∧ at_ (quoT l) i ≤ 126 := by
  unfold at_
  rw [List.getD_eq_getElem?_getD, List.getElem?_eq_getElem h]
  exact quoT_rng l _ (List.getElem_mem h)
end Go.Vc

/- What Unquote reads: plain lists, no program in sight. No statement of the seat is proved here. -/
import Derived.Test.YtdbhnlelpcoldaaQuoP
namespace Go.Vc
set_option linter.unusedVariables false
set_option linter.unusedSimpArgs false
def hexv (n : Nat) : Option Nat := if 48 ≤ n ∧ n ≤ 57 then some (n - 48) else if 97 ≤ n ∧ n ≤ 102 then some (n - 87) else none
theorem hexv_lt {n v : Nat} (h : hexv n = some v) : v < 16 := by
  unfold hexv at h
  split at h
  · cases h; omega
  · split at h
    · cases h; omega
    · cases h
def at_ (l : Bytes) (i : Nat) : Nat := (l.getD i 0).toNat
/-- From place i on, what was read so far being out. -/
def unq (l : Bytes) (i : Nat) (out : Bytes) : Bool × Nat × Bytes :=
  if h : i < l.length then
    if at_ l i = 34 then (if i + 1 < l.length then (false, i + 1, []) else (true, 0, out))
    else if at_ l i < 32 ∨ 126 < at_ l i then (false, i, [])
    else if at_ l i ≠ 92 then unq l (i + 1) (out ++ [l.getD i 0])
    else if i + 1 = l.length then (false, i + 1, [])
    else if at_ l (i + 1) = 110 then unq l (i + 2) (out ++ [10])
    else if at_ l (i + 1) = 116 then unq l (i + 2) (out ++ [9])
    else if at_ l (i + 1) = 34 ∨ at_ l (i + 1) = 92 then unq l (i + 2) (out ++ [l.getD (i + 1) 0])
    else if at_ l (i + 1) = 120 then
      if i + 2 = l.length then (false, i + 2, [])
      else match hexv (at_ l (i + 2)) with
        | none => (false, i + 2, [])
        | some a => if i + 3 = l.length then (false, i + 3, [])
          else match hexv (at_ l (i + 3)) with
            | none => (false, i + 3, [])
            | some b => unq l (i + 4) (out ++ [UInt8.ofNat (16 * a + b)])
    else (false, i + 1, [])
  else (false, i, [])
  termination_by l.length - i
  decreasing_by all_goals omega
def unqT (l : Bytes) : Bool × Nat × Bytes := if l.length > 1300 then (false, 1300, []) else if l.length = 0 ∨ at_ l 0 ≠ 34 then (false, 0, []) else unq l 1 []
def unqV (r : Bool × Nat × Bytes) : Value := .agg #[.bool r.1, .int .i64 (r.2.1 : Int), .string (B r.2.2)]
/-- Two hexadecimal digits, one by one: k of them are read, v is their number. -/
def Hx (l : Bytes) (j : Nat) (k : Nat) (v : Nat) : Prop := (k = 0 ∧ v = 0) ∨ (k = 1 ∧ hexv (at_ l j) = some v) ∨ (k = 2 ∧ ∃ a b, hexv (at_ l j) = some a ∧ hexv (at_ l (j + 1)) = some b ∧ v = 16 * a + b)
theorem Hx.step {l : Bytes} {j k v d : Nat} (h : Hx l j k v) (hk : k < 2) (hd : hexv (at_ l (j + k)) = some d) : Hx l j (k + 1) (16 * v + d) := by
  rcases h with ⟨rfl, rfl⟩ | ⟨rfl, h⟩ | ⟨rfl, _⟩
  · exact .inr (.inl ⟨rfl, by simpa using hd⟩)
  · exact .inr (.inr ⟨rfl, v, d, h, hd, rfl⟩)
  · omega
theorem Hx.lt {l : Bytes} {j k v : Nat} (h : Hx l j k v) : v < 256 ∧ (k < 2 → v < 16) := by
  rcases h with ⟨rfl, rfl⟩ | ⟨rfl, h⟩ | ⟨rfl, a, b, h1, h2, rfl⟩
  · omega
  · have := hexv_lt h; omega
  · have := hexv_lt h1; have := hexv_lt h2; omega
/-- The escape by two digits: where it ends too early or at no digit. -/
theorem unq_x_end {l : Bytes} {i : Nat} {out : Bytes} (h : i + 1 < l.length) (h1 : at_ l i = 92) (h2 : at_ l (i + 1) = 120) {k v : Nat} (hx : Hx l (i + 2) k v) (hk : k < 2) (he : i + 2 + k = l.length) : unq l i out = (false, l.length, []) := by
  rw [unq]
  rw [dif_pos (by omega), if_neg (by omega), if_neg (by omega), if_neg (by omega), if_neg (by omega), if_neg (by omega), if_neg (by omega), if_neg (by omega), if_pos h2]
  rcases hx with ⟨rfl, rfl⟩ | ⟨rfl, hx⟩ | ⟨rfl, _⟩
  · rw [if_pos (by omega)]; simp; omega
  · rw [if_neg (by omega), hx]; simp only []; rw [if_pos (by omega)]; simp; omega
  · omega
theorem unq_x_bad {l : Bytes} {i : Nat} {out : Bytes} (h : i + 1 < l.length) (h1 : at_ l i = 92) (h2 : at_ l (i + 1) = 120) {k v : Nat} (hx : Hx l (i + 2) k v) (hk : k < 2) (hl : i + 2 + k < l.length) (he : hexv (at_ l (i + 2 + k)) = none) : unq l i out = (false, i + 2 + k, []) := by
  rw [unq]
  rw [dif_pos (by omega), if_neg (by omega), if_neg (by omega), if_neg (by omega), if_neg (by omega), if_neg (by omega), if_neg (by omega), if_neg (by omega), if_pos h2]
  rcases hx with ⟨rfl, rfl⟩ | ⟨rfl, hx⟩ | ⟨rfl, _⟩
  · rw [if_neg (by omega)]; rw [Nat.add_zero] at he; rw [he]
  · rw [if_neg (by omega), hx]; simp only []; rw [if_neg (by omega)]; rw [he]
  · omega
theorem unq_x_ok {l : Bytes} {i : Nat} {out : Bytes} (h : i + 3 < l.length) (h1 : at_ l i = 92) (h2 : at_ l (i + 1) = 120) {v : Nat} (hx : Hx l (i + 2) 2 v) : unq l i out = unq l (i + 4) (out ++ [UInt8.ofNat v]) := by
  rw [unq]
  rw [dif_pos (by omega), if_neg (by omega), if_neg (by omega), if_neg (by omega), if_neg (by omega), if_neg (by omega), if_neg (by omega), if_neg (by omega), if_pos h2]
  rcases hx with ⟨h0, _⟩ | ⟨h0, _⟩ | ⟨_, a, b, h3, h4, rfl⟩
  · omega
  · omega
  · rw [if_neg (by omega), h3]; simp only []; rw [if_neg (by omega), h4]
/-- Behind a backslash. -/
def unqE (l : Bytes) (i : Nat) (out : Bytes) : Bool × Nat × Bytes :=
  if i + 1 = l.length then (false, i + 1, [])
  else if at_ l (i + 1) = 110 then unq l (i + 2) (out ++ [10])
  else if at_ l (i + 1) = 116 then unq l (i + 2) (out ++ [9])
  else if at_ l (i + 1) = 34 ∨ at_ l (i + 1) = 92 then unq l (i + 2) (out ++ [l.getD (i + 1) 0])
  else if at_ l (i + 1) = 120 then
    if i + 2 = l.length then (false, i + 2, [])
    else match hexv (at_ l (i + 2)) with
      | none => (false, i + 2, [])
      | some a => if i + 3 = l.length then (false, i + 3, [])
        else match hexv (at_ l (i + 3)) with
          | none => (false, i + 3, [])
          | some b => unq l (i + 4) (out ++ [UInt8.ofNat (16 * a + b)])
  else (false, i + 1, [])
theorem unq_esc {l : Bytes} {i : Nat} {out : Bytes} (h : i < l.length) (h1 : at_ l i = 92) : unq l i out = unqE l i out := by
  rw [unq, dif_pos h, if_neg (by omega), if_neg (by omega), if_neg (by omega)]
  rfl
theorem byteAt_at (s : ByteArray) (i : Nat) : byteAt s i = (at_ (L s) i : Int) := rfl
end Go.Vc

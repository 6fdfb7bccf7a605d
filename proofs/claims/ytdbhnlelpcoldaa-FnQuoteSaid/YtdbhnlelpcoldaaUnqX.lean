import Derived.Test.YtdbhnlelpcoldaaUnqW
namespace Go.Proofs.Ytdbhnlelpcoldaa.V
open Go Go.RowKit Go.Vc Go.Proofs.Ytdbhnlelpcoldaa
set_option linter.unusedVariables false

theorem eqUnquoted_ok (t : Bool) (n : Int) (s : ByteArray) (w : World) : Cl Try.prog 19 [.agg #[.bool t, .int .i64 n, .string s], .agg #[.bool t, .int .i64 n, .string s]] w (RetB (.bool true) w) := by
  apply vc19
  unfold V19
  have hE1 : Ext (fun _ => False) w (newW w (.cells ⟨[.bool t, .int .i64 n, .string s]⟩ 35)) := (Ext.refl _ w).vnew _
  have h1 := Blk.new w 35 [.bool t, .int .i64 n, .string s]
  generalize hw1 : newW w (.cells ⟨[.bool t, .int .i64 n, .string s]⟩ 35) = w1 at *
  have h1' := h1.keep ((Ext.refl (fun _ => False) w1).vnew (.cells ⟨[.bool t, .int .i64 n, .string s]⟩ 35)) (fun h => h)
  have h2 := Blk.new w1 35 [.bool t, .int .i64 n, .string s]
  have hB : Below w.heap.size w (newW w1 (.cells ⟨[.bool t, .int .i64 n, .string s]⟩ 35)) := (hE1.vnew _).below (fun _ _ h => h)
  show newC _ _ _ w
  unfold newC
  rw [hw1]
  show _
  refine ⟨t, h1'.cell 0, t, h2.cell 0, fun g => by simp at g, fun _ => ⟨n, h1'.cell 1, n, h2.cell 1, fun g => by simp at g, fun _ => ⟨s, h1'.cell 2, s, h2.cell 2, fun g => by simp at g, fun _ => ⟨rfl, hB⟩⟩⟩⟩

theorem lawUnquote_ok (s : ByteArray) (w : World) : Cl Try.prog 7 [.string s] w (RetB (.bool true) w) := by
  apply vc7
  unfold V7
  refine ⟨fun h1 => ⟨rfl, Below.refl _ _⟩, fun h1 => ?_⟩
  refine (specUnquote_ok s w).ret fun w1 hb1 => ?_
  obtain ⟨t, n, x, hV⟩ : ∃ t n x, unqV (unqT (L s)) = .agg #[.bool t, .int .i64 ((n : Nat) : Int), .string (B x)] := ⟨_, _, _, rfl⟩
  refine ⟨t, (n : Int), B x, hV, ?_⟩
  unfold newC
  have hb2 : Below w.heap.size w (newW w1 (.cells ⟨[.bool false, .int .i64 0, .string ⟨#[]⟩]⟩ 35)) := hb1.vnew hb1.size _
  have k2 := Blk.new w1 35 [.bool false, .int .i64 0, .string ⟨#[]⟩]
  refine ⟨k2.wrL (by show 0 + 3 ≤ 3; decide), ?_⟩
  have k3 : Blk (setsW (newW w1 (.cells ⟨[.bool false, .int .i64 0, .string ⟨#[]⟩]⟩ 35)) w1.heap.size 0 [.bool t, .int .i64 (n : Int), .string (B x)]).heap w1.heap.size 35 [.bool t, .int .i64 (n : Int), .string (B x)] := k2.sets
  have hb3 := hb2.vsets (b := w1.heap.size) hb1.size (vs := [.bool t, .int .i64 (n : Int), .string (B x)]) (o := 0)
  generalize setsW (newW w1 (.cells ⟨[.bool false, .int .i64 0, .string ⟨#[]⟩]⟩ 35)) w1.heap.size 0 [.bool t, .int .i64 (n : Int), .string (B x)] = w3 at *
  refine (implUnquote_ok s w3).ret fun w4 hb4 => ?_
  refine ⟨t, (n : Int), B x, hV, ?_⟩
  have k5 : Blk (newW w4 (.cells ⟨[.bool false, .int .i64 0, .string ⟨#[]⟩]⟩ 35)).heap w1.heap.size 35 [.bool t, .int .i64 (n : Int), .string (B x)] :=
    (k3.keep (Ext.of_below (S := fun _ => False) hb4) (fun h => h)).keep ((Ext.refl (fun _ => False) w4).vnew _) (fun h => h)
  have hlt : w1.heap.size < w4.heap.size := (k3.keep (Ext.of_below (S := fun _ => False) hb4) (fun h => h)).lt
  have hb5 := hb3.vstep hb4
  have k6 := Blk.new w4 35 [.bool false, .int .i64 0, .string ⟨#[]⟩]
  show stW _ _ _ _ _
  refine ⟨k6.wrL (by show 0 + 3 ≤ 3; decide), ?_⟩
  have hb6 : Below w.heap.size w (newW w4 (.cells ⟨[.bool false, .int .i64 0, .string ⟨#[]⟩]⟩ 35)) := hb5.vnew hb5.size _
  have k7 : Blk (setsW (newW w4 (.cells ⟨[.bool false, .int .i64 0, .string ⟨#[]⟩]⟩ 35)) w4.heap.size 0 [.bool t, .int .i64 (n : Int), .string (B x)]).heap w4.heap.size 35 [.bool t, .int .i64 (n : Int), .string (B x)] := k6.sets
  have k8 : Blk (setsW (newW w4 (.cells ⟨[.bool false, .int .i64 0, .string ⟨#[]⟩]⟩ 35)) w4.heap.size 0 [.bool t, .int .i64 (n : Int), .string (B x)]).heap w1.heap.size 35 [.bool t, .int .i64 (n : Int), .string (B x)] :=
    k5.keep (Ext.vsets (S := fun k => k = w4.heap.size) (b := w4.heap.size) (.inl rfl) (Ext.refl _ _)) (by omega)
  have hb7 := hb6.vsets (b := w4.heap.size) hb5.size (vs := [.bool t, .int .i64 (n : Int), .string (B x)]) (o := 0)
  generalize setsW (newW w4 (.cells ⟨[.bool false, .int .i64 0, .string ⟨#[]⟩]⟩ 35)) w4.heap.size 0 [.bool t, .int .i64 (n : Int), .string (B x)] = w5 at *
  refine ⟨t, k7.cell 0, n, k7.cell 1, B x, k7.cell 2, t, k8.cell 0, n, k8.cell 1, B x, k8.cell 2, ?_⟩
  refine (eqUnquoted_ok t n (B x) w5).ret fun w6 hb8 => ⟨true, rfl, fun h => by simp at h, fun _ => ⟨rfl, hb7.vstep hb8⟩⟩

end Go.Proofs.Ytdbhnlelpcoldaa.V

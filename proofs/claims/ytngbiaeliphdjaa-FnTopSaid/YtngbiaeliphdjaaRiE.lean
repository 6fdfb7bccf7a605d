/- Parts of a proof, put together: definitions, formulas of Go functions and lemmas. No statement of the seat is proved here. -/
import Derived.ChangeOld
import Derived.ChangeReads
import Derived.ChangeSlices
import Derived.OpenShut
import Derived.ReadAgain
import Derived.Test.YtngbiaeliphdjaaProg
import Derived.Test.YtngbiaeliphdjaaRiD
set_option maxHeartbeats 4000000
/- The reference's reader: sets in brackets. No statement of the seat is proved here. -/
namespace Go.Proofs.Ytngbiaeliphdjaa.V
open Go.Vc Go.Proofs Go.RowKit
set_option linter.unusedVariables false
set_option linter.unusedSimpArgs false
theorem sclass_loop {w w6 : World} {b : Nat} {s : ByteArray} {j0 g : Nat} {a : Option Addr} {ln c kb : Nat} {C : Pr (Nat × Rs)} {neg : Bool} (hb : b < w.heap.size) (hkb : w.heap.size ≤ kb) (hs : s.size ≤ 120)
    (hE : Ext (fun x => x = b) w w6) (h6 : Sd w6 b s j0 (-1) g a ln c) (hj0 : j0 ≤ s.size) (hk6 : Blk w6.heap kb 4 (b256 fun _ => false)) (hC : clsP (L s) j0 true [] = C)
    {R : Ending → World → Prop} (hR : R = ClsS w b s g a ln c (clsFin neg C)) :
    ∃ (I8 : Nat → Int → World → Prop), (∃ (k10 : Nat), I8 k10 0 w6) ∧ ∀ (k9 : Nat) (d12 : Nat → Value) (n13 : Int) (w11 : World), I8 k9 n13 w11 → ∃ (J14 : World → Prop), (drw (fun (w15 : World) => Cl Try.prog 78 ([.pointer (some ⟨b, 0, none⟩)]) w15 (retG (fun (r18 : Value) (w17 : World) => ∃ (t16 : Bool), r18 = .bool t16 ∧ ((t16 = true → ∃ (s19 : ByteArray), cellH w17.heap b 0 = some (.string s19) ∧ ∃ (n20 : Int), cellH w17.heap b (0 + 1) = some (.int .i64 n20) ∧ (0 ≤ (n20 : Int) ∧ (n20 : Int) < ((ByteArray.size s19 : Nat) : Int)) ∧ ((((byteAt s19 (Int.toNat n20) : Int) != 93) = true → J14  w17) ∧ (((byteAt s19 (Int.toNat n20) : Int) != 93) = false → ((((n13 : Int) == 0) = true → J14  w17) ∧ (((n13 : Int) == 0) = false → Cl Try.prog 112 ([.pointer (some ⟨b, 0, none⟩), .int .u8 93]) w17 (retG (fun (r23 : Value) (w22 : World) => ∃ (t21 : Bool), r23 = .bool t21 ∧ (((!t21) = true → Cl Try.prog 79 ([.pointer (some ⟨b, 0, none⟩)]) w22 (retG (fun (r25 : Value) (w24 : World) => r25 = .tuple #[] ∧ R (.returned (.slice none 0 0)) w24) (fun c w => R (.panicked c) w))) ∧ ((!t21) = false → ((neg = true → ∃ (I26 : Nat → Int → World → Prop), (∃ (k28 : Nat), I26 k28 0 w22) ∧ ∀ (k27 : Nat) (d30 : Nat → Value) (n31 : Int) (w29 : World), I26 k27 n31 w29 → (((decide ((n31 : Int) < ((256 : Nat) : Int))) = true → ∃ (b32 : Nat) (o33 : Nat), (((some ⟨kb, 0, none⟩) : Option Addr) = some ⟨b32, o33, none⟩ ∧ 0 ≤ (n31 : Int) ∧ (n31 : Int) < ((256 : Nat) : Int)) ∧ ∃ (t34 : Bool), cellH w29.heap b32 (o33 + (Int.toNat n31) * 1) = some (.bool t34) ∧ ∃ (b35 : Nat) (o36 : Nat), (((some ⟨kb, 0, none⟩) : Option Addr) = some ⟨b35, o36, none⟩ ∧ 0 ≤ (n31 : Int) ∧ (n31 : Int) < ((256 : Nat) : Int)) ∧ stW b35 (o36 + (Int.toNat n31) * 1) [.bool (!t34)] (fun (w37 : World) => (∃ (m38 : Nat), m38 < k27 ∧ I26 m38 (IntKind.wrap .i64 (n31 + 1)) w37)) w29) ∧ ((decide ((n31 : Int) < ((256 : Nat) : Int))) = false → Cl Try.prog 167 ([.slice (some ⟨kb, 0, none⟩) 256 256]) w29 (retG (fun (r41 : Value) (w40 : World) => ∃ (a39 : Option Addr), ∃ (l39 : Nat), ∃ (c39 : Nat), r41 = .slice a39 l39 c39 ∧ R (.returned (.slice a39 l39 c39)) w40) (fun c w => R (.panicked c) w))))) ∧ (neg = false → Cl Try.prog 167 ([.slice (some ⟨kb, 0, none⟩) 256 256]) w22 (retG (fun (r44 : Value) (w43 : World) => ∃ (a42 : Option Addr), ∃ (l42 : Nat), ∃ (c42 : Nat), r44 = .slice a42 l42 c42 ∧ R (.returned (.slice a42 l42 c42)) w43) (fun c w => R (.panicked c) w))))))) (fun c w => R (.panicked c) w))))))) ∧ (t16 = false → Cl Try.prog 112 ([.pointer (some ⟨b, 0, none⟩), .int .u8 93]) w17 (retG (fun (r47 : Value) (w46 : World) => ∃ (t45 : Bool), r47 = .bool t45 ∧ (((!t45) = true → Cl Try.prog 79 ([.pointer (some ⟨b, 0, none⟩)]) w46 (retG (fun (r49 : Value) (w48 : World) => r49 = .tuple #[] ∧ R (.returned (.slice none 0 0)) w48) (fun c w => R (.panicked c) w))) ∧ ((!t45) = false → ((neg = true → ∃ (I50 : Nat → Int → World → Prop), (∃ (k52 : Nat), I50 k52 0 w46) ∧ ∀ (k51 : Nat) (d54 : Nat → Value) (n55 : Int) (w53 : World), I50 k51 n55 w53 → (((decide ((n55 : Int) < ((256 : Nat) : Int))) = true → ∃ (b56 : Nat) (o57 : Nat), (((some ⟨kb, 0, none⟩) : Option Addr) = some ⟨b56, o57, none⟩ ∧ 0 ≤ (n55 : Int) ∧ (n55 : Int) < ((256 : Nat) : Int)) ∧ ∃ (t58 : Bool), cellH w53.heap b56 (o57 + (Int.toNat n55) * 1) = some (.bool t58) ∧ ∃ (b59 : Nat) (o60 : Nat), (((some ⟨kb, 0, none⟩) : Option Addr) = some ⟨b59, o60, none⟩ ∧ 0 ≤ (n55 : Int) ∧ (n55 : Int) < ((256 : Nat) : Int)) ∧ stW b59 (o60 + (Int.toNat n55) * 1) [.bool (!t58)] (fun (w61 : World) => (∃ (m62 : Nat), m62 < k51 ∧ I50 m62 (IntKind.wrap .i64 (n55 + 1)) w61)) w53) ∧ ((decide ((n55 : Int) < ((256 : Nat) : Int))) = false → Cl Try.prog 167 ([.slice (some ⟨kb, 0, none⟩) 256 256]) w53 (retG (fun (r65 : Value) (w64 : World) => ∃ (a63 : Option Addr), ∃ (l63 : Nat), ∃ (c63 : Nat), r65 = .slice a63 l63 c63 ∧ R (.returned (.slice a63 l63 c63)) w64) (fun c w => R (.panicked c) w))))) ∧ (neg = false → Cl Try.prog 167 ([.slice (some ⟨kb, 0, none⟩) 256 256]) w46 (retG (fun (r68 : Value) (w67 : World) => ∃ (a66 : Option Addr), ∃ (l66 : Nat), ∃ (c66 : Nat), r68 = .slice a66 l66 c66 ∧ R (.returned (.slice a66 l66 c66)) w67) (fun c w => R (.panicked c) w))))))) (fun c w => R (.panicked c) w))))) (fun c w => R (.panicked c) w))) w11) ∧ ∀ (d69 : Nat → Value) (w70 : World), J14  w70 → Cl Try.prog 112 ([.pointer (some ⟨b, 0, none⟩), .int .u8 92]) w70 (retG (fun (r73 : Value) (w72 : World) => ∃ (t71 : Bool), r73 = .bool t71 ∧ ∃ (J74 : Int → Bool → World → Prop), (((t71 = true → Cl Try.prog 166 ([.pointer (some ⟨b, 0, none⟩), .slice (some ⟨kb, 0, none⟩) 256 256]) w72 (retG (fun (r78 : Value) (w77 : World) => ∃ (n75 : Int), ∃ (t76 : Bool), r78 = .tuple #[.int .i64 n75, .bool t76] ∧ J74 n75 t76 w77) (fun c w => R (.panicked c) w))) ∧ (t71 = false → drw (fun (w79 : World) => ∃ (s80 : ByteArray), cellH w79.heap b 0 = some (.string s80) ∧ ∃ (n81 : Int), cellH w79.heap b (0 + 1) = some (.int .i64 n81) ∧ (0 ≤ (n81 : Int) ∧ (n81 : Int) < ((ByteArray.size s80 : Nat) : Int)) ∧ ∃ (b82 : Nat) (o83 : Nat), (((some ⟨kb, 0, none⟩) : Option Addr) = some ⟨b82, o83, none⟩ ∧ 0 ≤ (IntKind.wrap .i64 (byteAt s80 (Int.toNat n81)) : Int) ∧ (IntKind.wrap .i64 (byteAt s80 (Int.toNat n81)) : Int) < ((256 : Nat) : Int)) ∧ stW b82 (o83 + (Int.toNat (IntKind.wrap .i64 (byteAt s80 (Int.toNat n81)))) * 1) [.bool true] (fun (w84 : World) => ∃ (n85 : Int), cellH w84.heap b (0 + 1) = some (.int .i64 n85) ∧ stW b (0 + 1) [.int .i64 (IntKind.wrap .i64 (n85 + 1))] (fun (w86 : World) => J74 (IntKind.wrap .i64 (byteAt s80 (Int.toNat n81))) true w86) w84) w79) w72))) ∧ ∀ (d87 : Nat → Value) (n88 : Int) (t89 : Bool) (w90 : World), J74 n88 t89 w90 → drw (fun (w91 : World) => (((!t89) = true → (∃ (m92 : Nat), m92 < k9 ∧ I8 m92 (IntKind.wrap .i64 (n13 + 1)) w91)) ∧ ((!t89) = false → ∃ (n93 : Int), cellH w91.heap b (0 + 1) = some (.int .i64 n93) ∧ ∃ (s94 : ByteArray), cellH w91.heap b 0 = some (.string s94) ∧ (((decide ((IntKind.wrap .i64 (n93 + 1) : Int) ≥ ((ByteArray.size s94 : Nat) : Int))) = true → (∃ (m95 : Nat), m95 < k9 ∧ I8 m95 (IntKind.wrap .i64 (n13 + 1)) w91)) ∧ ((decide ((IntKind.wrap .i64 (n93 + 1) : Int) ≥ ((ByteArray.size s94 : Nat) : Int))) = false → ∃ (n96 : Int), cellH w91.heap b (0 + 2) = some (.int .i64 n96) ∧ (((decide ((n96 : Int) ≥ 0)) = true → (∃ (m97 : Nat), m97 < k9 ∧ I8 m97 (IntKind.wrap .i64 (n13 + 1)) w91)) ∧ ((decide ((n96 : Int) ≥ 0)) = false → ∃ (s98 : ByteArray), cellH w91.heap b 0 = some (.string s98) ∧ ∃ (n99 : Int), cellH w91.heap b (0 + 1) = some (.int .i64 n99) ∧ (0 ≤ (n99 : Int) ∧ (n99 : Int) < ((ByteArray.size s98 : Nat) : Int)) ∧ ((((byteAt s98 (Int.toNat n99) : Int) != 45) = true → (∃ (m100 : Nat), m100 < k9 ∧ I8 m100 (IntKind.wrap .i64 (n13 + 1)) w91)) ∧ (((byteAt s98 (Int.toNat n99) : Int) != 45) = false → ∃ (s101 : ByteArray), cellH w91.heap b 0 = some (.string s101) ∧ ∃ (n102 : Int), cellH w91.heap b (0 + 1) = some (.int .i64 n102) ∧ (0 ≤ (IntKind.wrap .i64 (n102 + 1) : Int) ∧ (IntKind.wrap .i64 (n102 + 1) : Int) < ((ByteArray.size s101 : Nat) : Int)) ∧ ((((byteAt s101 (Int.toNat (IntKind.wrap .i64 (n102 + 1))) : Int) == 93) = true → (∃ (m103 : Nat), m103 < k9 ∧ I8 m103 (IntKind.wrap .i64 (n13 + 1)) w91)) ∧ (((byteAt s101 (Int.toNat (IntKind.wrap .i64 (n102 + 1))) : Int) == 93) = false → ∃ (n104 : Int), cellH w91.heap b (0 + 1) = some (.int .i64 n104) ∧ stW b (0 + 1) [.int .i64 (IntKind.wrap .i64 (n104 + 1))] (fun (w105 : World) => ∃ (n106 : Int), cellH w105.heap b (0 + 1) = some (.int .i64 n106) ∧ drw (fun (w107 : World) => ∃ (s108 : ByteArray), cellH w107.heap b 0 = some (.string s108) ∧ ∃ (n109 : Int), cellH w107.heap b (0 + 1) = some (.int .i64 n109) ∧ (0 ≤ (n109 : Int) ∧ (n109 : Int) < ((ByteArray.size s108 : Nat) : Int)) ∧ Cl Try.prog 112 ([.pointer (some ⟨b, 0, none⟩), .int .u8 92]) w107 (retG (fun (r112 : Value) (w111 : World) => ∃ (t110 : Bool), r112 = .bool t110 ∧ ((t110 = true → ∃ (a113 : Option Addr), ∃ (l113 : Nat), ∃ (c113 : Nat), ∃ (w114 : World), (Instr.makeSlice 59 (.int .i64 256) (.int .i64 256)).run Try.prog w111 = .ok (.slice a113 l113 c113) w114 ∧ Cl Try.prog 166 ([.pointer (some ⟨b, 0, none⟩), .slice a113 l113 c113]) w114 (retG (fun (r118 : Value) (w117 : World) => ∃ (n115 : Int), ∃ (t116 : Bool), r118 = .tuple #[.int .i64 n115, .bool t116] ∧ ∃ (n119 : Int), cellH w117.heap b (0 + 2) = some (.int .i64 n119) ∧ (((decide ((n119 : Int) < 0)) = true → (((!t116) = true → stW b (0 + 1) [.int .i64 n106] (fun (w120 : World) => Cl Try.prog 79 ([.pointer (some ⟨b, 0, none⟩)]) w120 (retG (fun (r122 : Value) (w121 : World) => r122 = .tuple #[] ∧ R (.returned (.slice none 0 0)) w121) (fun c w => R (.panicked c) w))) w117) ∧ ((!t116) = false → (((decide ((n115 : Int) < n88)) = true → stW b (0 + 1) [.int .i64 n106] (fun (w123 : World) => Cl Try.prog 79 ([.pointer (some ⟨b, 0, none⟩)]) w123 (retG (fun (r125 : Value) (w124 : World) => r125 = .tuple #[] ∧ R (.returned (.slice none 0 0)) w124) (fun c w => R (.panicked c) w))) w117) ∧ ((decide ((n115 : Int) < n88)) = false → ∃ (n126 : Int), cellH w117.heap b (0 + 2) = some (.int .i64 n126) ∧ (((decide ((n126 : Int) < 0)) = true → Cl Try.prog 165 ([.slice (some ⟨kb, 0, none⟩) 256 256, .int .i64 n88, .int .i64 n115]) w117 (retG (fun (r128 : Value) (w127 : World) => r128 = .tuple #[] ∧ (∃ (m129 : Nat), m129 < k9 ∧ I8 m129 (IntKind.wrap .i64 (n13 + 1)) w127)) (fun c w => R (.panicked c) w))) ∧ ((decide ((n126 : Int) < 0)) = false → (∃ (m130 : Nat), m130 < k9 ∧ I8 m130 (IntKind.wrap .i64 (n13 + 1)) w117)))))))) ∧ ((decide ((n119 : Int) < 0)) = false → ∃ (n131 : Int), cellH w117.heap b (0 + 2) = some (.int .i64 n131) ∧ (((decide ((n131 : Int) < 0)) = true → Cl Try.prog 165 ([.slice (some ⟨kb, 0, none⟩) 256 256, .int .i64 n88, .int .i64 n115]) w117 (retG (fun (r133 : Value) (w132 : World) => r133 = .tuple #[] ∧ (∃ (m134 : Nat), m134 < k9 ∧ I8 m134 (IntKind.wrap .i64 (n13 + 1)) w132)) (fun c w => R (.panicked c) w))) ∧ ((decide ((n131 : Int) < 0)) = false → (∃ (m135 : Nat), m135 < k9 ∧ I8 m135 (IntKind.wrap .i64 (n13 + 1)) w117)))))) (fun c w => R (.panicked c) w))) ∧ (t110 = false → ∃ (n136 : Int), cellH w111.heap b (0 + 1) = some (.int .i64 n136) ∧ stW b (0 + 1) [.int .i64 (IntKind.wrap .i64 (n136 + 1))] (fun (w137 : World) => ∃ (n138 : Int), cellH w137.heap b (0 + 2) = some (.int .i64 n138) ∧ (((decide ((n138 : Int) < 0)) = true → (((!t89) = true → stW b (0 + 1) [.int .i64 n106] (fun (w139 : World) => Cl Try.prog 79 ([.pointer (some ⟨b, 0, none⟩)]) w139 (retG (fun (r141 : Value) (w140 : World) => r141 = .tuple #[] ∧ R (.returned (.slice none 0 0)) w140) (fun c w => R (.panicked c) w))) w137) ∧ ((!t89) = false → (((decide ((IntKind.wrap .i64 (byteAt s108 (Int.toNat n109)) : Int) < n88)) = true → stW b (0 + 1) [.int .i64 n106] (fun (w142 : World) => Cl Try.prog 79 ([.pointer (some ⟨b, 0, none⟩)]) w142 (retG (fun (r144 : Value) (w143 : World) => r144 = .tuple #[] ∧ R (.returned (.slice none 0 0)) w143) (fun c w => R (.panicked c) w))) w137) ∧ ((decide ((IntKind.wrap .i64 (byteAt s108 (Int.toNat n109)) : Int) < n88)) = false → ∃ (n145 : Int), cellH w137.heap b (0 + 2) = some (.int .i64 n145) ∧ (((decide ((n145 : Int) < 0)) = true → Cl Try.prog 165 ([.slice (some ⟨kb, 0, none⟩) 256 256, .int .i64 n88, .int .i64 (IntKind.wrap .i64 (byteAt s108 (Int.toNat n109)))]) w137 (retG (fun (r147 : Value) (w146 : World) => r147 = .tuple #[] ∧ (∃ (m148 : Nat), m148 < k9 ∧ I8 m148 (IntKind.wrap .i64 (n13 + 1)) w146)) (fun c w => R (.panicked c) w))) ∧ ((decide ((n145 : Int) < 0)) = false → (∃ (m149 : Nat), m149 < k9 ∧ I8 m149 (IntKind.wrap .i64 (n13 + 1)) w137)))))))) ∧ ((decide ((n138 : Int) < 0)) = false → ∃ (n150 : Int), cellH w137.heap b (0 + 2) = some (.int .i64 n150) ∧ (((decide ((n150 : Int) < 0)) = true → Cl Try.prog 165 ([.slice (some ⟨kb, 0, none⟩) 256 256, .int .i64 n88, .int .i64 (IntKind.wrap .i64 (byteAt s108 (Int.toNat n109)))]) w137 (retG (fun (r152 : Value) (w151 : World) => r152 = .tuple #[] ∧ (∃ (m153 : Nat), m153 < k9 ∧ I8 m153 (IntKind.wrap .i64 (n13 + 1)) w151)) (fun c w => R (.panicked c) w))) ∧ ((decide ((n150 : Int) < 0)) = false → (∃ (m154 : Nat), m154 < k9 ∧ I8 m154 (IntKind.wrap .i64 (n13 + 1)) w137)))))) w111))) (fun c w => R (.panicked c) w))) w105) w91))))))))))) w90) (fun c w => R (.panicked c) w)) := by
  have hsz := size_L s
  refine ⟨ClsI w b s g a ln c kb C, ⟨_, hE, .inl ⟨j0, [], rfl, by omega, by omega, hj0, h6, by rw [inR_nil]; exact hk6, hC⟩⟩, ?_⟩
  clear hC hk6 hj0 h6 hE
  rintro m d n w1 ⟨hE, hI⟩
  refine ⟨fun w' => Ext (fun x => x = b) w w' ∧ ∃ j rs, m = s.size - j + 1 ∧ 0 ≤ n ∧ n ≤ j ∧ j < s.size ∧ Sd w' b s j (-1) g a ln c ∧ Blk w'.heap kb 4 (b256 (inR rs)) ∧ clsP (L s) j (decide (n = 0)) rs = C ∧ ¬ (decide (n = 0) = false ∧ at_ (L s) j = 93), ?_, ?_⟩
  · refine drw_in fun w2 q2 e2 => ?_
    have E2 := hE.trans (Ext.mono e2 fun _ _ h => h.elim)
    rcases hI with ⟨j, rs, hm, hn0, hnj, hj, h1, hk1, hC⟩ | ⟨i, e, hm, h1, hC⟩
    · have h2 : Sd w2 b s j (-1) g a ln c := Blk.keep h1 e2 fun h => h
      have k2 := hk1.keep e2 fun h => h
      refine (more_ok h2).ret fun w3 b3 => ⟨_, rfl, fun g1 => ?_, fun g1 => ?_⟩
      · have g1' := of_decide_eq_true g1
        have h3 := h2.below b3
        have E3 := E2.trans (Ext.of_below b3)
        refine ⟨s, h3.cell 0, j, h3.cell 1, ⟨by omega, by omega⟩, ?_⟩
        rw [byteI s (j := j) rfl]
        refine ⟨fun g2 => ?_, fun g2 => ⟨fun g3 => ?_, fun g3 => ?_⟩⟩
        · have g2' : ¬ at_ (L s) j = 93 := by simp only [bne_iff_ne, ne_eq] at g2; omega
          exact ⟨E3, j, rs, hm, hn0, hnj, g1', h3, k2.below b3, hC, fun h => g2' h.2⟩
        · have g3' : n = 0 := by simpa using g3
          exact ⟨E3, j, rs, hm, hn0, hnj, g1', h3, k2.below b3, hC, fun h => by simp [g3'] at h⟩
        · have g3' : n ≠ 0 := by simpa using g3
          have g2' : at_ (L s) j = 93 := by
            have : (at_ (L s) j : Int) = 93 := by simpa using g2
            omega
          rw [clsP_end (by omega) (decide_eq_false g3') g2'] at hC
          exact sclass_end hb hkb hs E3 (.inl ⟨j, rs, hj, h3, k2.below b3, .inr ⟨g1', g2', hC.symm⟩⟩) hR
      · have g1' := of_decide_eq_false g1
        rw [clsP_out (by omega)] at hC
        exact sclass_end hb hkb hs (E2.trans (Ext.of_below b3)) (.inl ⟨j, rs, hj, h2.below b3, k2.below b3, .inl ⟨g1', by rw [← hC]; congr 1; omega⟩⟩) hR
    · have h2 : Sd w2 b s i (e : Int) g a ln c := Blk.keep h1 e2 fun h => h
      refine (more_bad h2).ret fun w3 b3 => ⟨_, rfl, fun g1 => (by cases g1), fun g1 => ?_⟩
      exact sclass_end hb hkb hs (E2.trans (Ext.of_below b3)) (.inr ⟨i, e, h2.below b3, hC⟩) hR
  clear hI hE
  rintro d2 w2 ⟨E2, j, rs, rfl, hn0, hnj, hj, h2, k2, hC, hne⟩
  have ew : IntKind.wrap .i64 (n + 1) = n + 1 := w64 (by omega)
  have en : decide (n + 1 = 0) = false := decide_eq_false (by omega)
  rw [ew]
  -- the next round
  have hnext : ∀ {w' : World} {j' : Nat} {rs' : Rs}, j < j' → j' ≤ s.size → Sd w' b s j' (-1) g a ln c → Blk w'.heap kb 4 (b256 (inR rs')) → clsP (L s) j' false rs' = C → Ext (fun x => x = b) w w' → ∃ m, m < s.size - j + 1 ∧ ClsI w b s g a ln c kb C m (n + 1) w' :=
    fun h1 h2 h3 h4 h5 h6 => ⟨s.size - _ + 1, by omega, h6, .inl ⟨_, _, rfl, by omega, by omega, h2, h3, h4, by rw [en]; exact h5⟩⟩
  have hnbad : ∀ {w' : World} {i' e' : Nat}, Sd w' b s i' (e' : Int) g a ln c → C = .bad e' → Ext (fun x => x = b) w w' → ∃ m, m < s.size - j + 1 ∧ ClsI w b s g a ln c kb C m (n + 1) w' :=
    fun h1 h2 h3 => ⟨0, by omega, h3, .inr ⟨_, _, rfl, h1, h2⟩⟩
  have happ : ∀ (h : Array Obj) (rs r : Rs), Blk h kb 4 (b256 fun n => inR rs n || inR r n) → Blk h kb 4 (b256 (inR (rs ++ r))) := by
    intro h rs r hB
    rw [b256_ext (g := fun n => inR rs n || inR r n) fun n _ => inR_app rs r n]; exact hB
  -- what the part leaves
  suffices hJ : ∀ (w3 : World) (hE3 : Ext (fun x => x = b) w w3), (at_ (L s) j = 92 → Sd w3 b s (j + 1) (-1) g a ln c) → (at_ (L s) j ≠ 92 → Sd w3 b s j (-1) g a ln c) → Blk w3.heap kb 4 (b256 (inR rs)) → ∀ t, t = decide (at_ (L s) j = 92) → (∃ (J74 : Int → Bool → World → Prop), (((t = true → Cl Try.prog 166 ([.pointer (some ⟨b, 0, none⟩), .slice (some ⟨kb, 0, none⟩) 256 256]) w3 (retG (fun (r78 : Value) (w77 : World) => ∃ (n75 : Int), ∃ (t76 : Bool), r78 = .tuple #[.int .i64 n75, .bool t76] ∧ J74 n75 t76 w77) (fun c w => R (.panicked c) w))) ∧ (t = false → drw (fun (w79 : World) => ∃ (s80 : ByteArray), cellH w79.heap b 0 = some (.string s80) ∧ ∃ (n81 : Int), cellH w79.heap b (0 + 1) = some (.int .i64 n81) ∧ (0 ≤ (n81 : Int) ∧ (n81 : Int) < ((ByteArray.size s80 : Nat) : Int)) ∧ ∃ (b82 : Nat) (o83 : Nat), (((some ⟨kb, 0, none⟩) : Option Addr) = some ⟨b82, o83, none⟩ ∧ 0 ≤ (IntKind.wrap .i64 (byteAt s80 (Int.toNat n81)) : Int) ∧ (IntKind.wrap .i64 (byteAt s80 (Int.toNat n81)) : Int) < ((256 : Nat) : Int)) ∧ stW b82 (o83 + (Int.toNat (IntKind.wrap .i64 (byteAt s80 (Int.toNat n81)))) * 1) [.bool true] (fun (w84 : World) => ∃ (n85 : Int), cellH w84.heap b (0 + 1) = some (.int .i64 n85) ∧ stW b (0 + 1) [.int .i64 (IntKind.wrap .i64 (n85 + 1))] (fun (w86 : World) => J74 (IntKind.wrap .i64 (byteAt s80 (Int.toNat n81))) true w86) w84) w79) w3))) ∧ ∀ (d87 : Nat → Value) (n88 : Int) (t89 : Bool) (w90 : World), J74 n88 t89 w90 → drw (fun (w91 : World) => (((!t89) = true → (∃ (m92 : Nat), m92 < (s.size - j + 1) ∧ ClsI w b s g a ln c kb C m92 (n + 1) w91)) ∧ ((!t89) = false → ∃ (n93 : Int), cellH w91.heap b (0 + 1) = some (.int .i64 n93) ∧ ∃ (s94 : ByteArray), cellH w91.heap b 0 = some (.string s94) ∧ (((decide ((IntKind.wrap .i64 (n93 + 1) : Int) ≥ ((ByteArray.size s94 : Nat) : Int))) = true → (∃ (m95 : Nat), m95 < (s.size - j + 1) ∧ ClsI w b s g a ln c kb C m95 (n + 1) w91)) ∧ ((decide ((IntKind.wrap .i64 (n93 + 1) : Int) ≥ ((ByteArray.size s94 : Nat) : Int))) = false → ∃ (n96 : Int), cellH w91.heap b (0 + 2) = some (.int .i64 n96) ∧ (((decide ((n96 : Int) ≥ 0)) = true → (∃ (m97 : Nat), m97 < (s.size - j + 1) ∧ ClsI w b s g a ln c kb C m97 (n + 1) w91)) ∧ ((decide ((n96 : Int) ≥ 0)) = false → ∃ (s98 : ByteArray), cellH w91.heap b 0 = some (.string s98) ∧ ∃ (n99 : Int), cellH w91.heap b (0 + 1) = some (.int .i64 n99) ∧ (0 ≤ (n99 : Int) ∧ (n99 : Int) < ((ByteArray.size s98 : Nat) : Int)) ∧ ((((byteAt s98 (Int.toNat n99) : Int) != 45) = true → (∃ (m100 : Nat), m100 < (s.size - j + 1) ∧ ClsI w b s g a ln c kb C m100 (n + 1) w91)) ∧ (((byteAt s98 (Int.toNat n99) : Int) != 45) = false → ∃ (s101 : ByteArray), cellH w91.heap b 0 = some (.string s101) ∧ ∃ (n102 : Int), cellH w91.heap b (0 + 1) = some (.int .i64 n102) ∧ (0 ≤ (IntKind.wrap .i64 (n102 + 1) : Int) ∧ (IntKind.wrap .i64 (n102 + 1) : Int) < ((ByteArray.size s101 : Nat) : Int)) ∧ ((((byteAt s101 (Int.toNat (IntKind.wrap .i64 (n102 + 1))) : Int) == 93) = true → (∃ (m103 : Nat), m103 < (s.size - j + 1) ∧ ClsI w b s g a ln c kb C m103 (n + 1) w91)) ∧ (((byteAt s101 (Int.toNat (IntKind.wrap .i64 (n102 + 1))) : Int) == 93) = false → ∃ (n104 : Int), cellH w91.heap b (0 + 1) = some (.int .i64 n104) ∧ stW b (0 + 1) [.int .i64 (IntKind.wrap .i64 (n104 + 1))] (fun (w105 : World) => ∃ (n106 : Int), cellH w105.heap b (0 + 1) = some (.int .i64 n106) ∧ drw (fun (w107 : World) => ∃ (s108 : ByteArray), cellH w107.heap b 0 = some (.string s108) ∧ ∃ (n109 : Int), cellH w107.heap b (0 + 1) = some (.int .i64 n109) ∧ (0 ≤ (n109 : Int) ∧ (n109 : Int) < ((ByteArray.size s108 : Nat) : Int)) ∧ Cl Try.prog 112 ([.pointer (some ⟨b, 0, none⟩), .int .u8 92]) w107 (retG (fun (r112 : Value) (w111 : World) => ∃ (t110 : Bool), r112 = .bool t110 ∧ ((t110 = true → ∃ (a113 : Option Addr), ∃ (l113 : Nat), ∃ (c113 : Nat), ∃ (w114 : World), (Instr.makeSlice 59 (.int .i64 256) (.int .i64 256)).run Try.prog w111 = .ok (.slice a113 l113 c113) w114 ∧ Cl Try.prog 166 ([.pointer (some ⟨b, 0, none⟩), .slice a113 l113 c113]) w114 (retG (fun (r118 : Value) (w117 : World) => ∃ (n115 : Int), ∃ (t116 : Bool), r118 = .tuple #[.int .i64 n115, .bool t116] ∧ ∃ (n119 : Int), cellH w117.heap b (0 + 2) = some (.int .i64 n119) ∧ (((decide ((n119 : Int) < 0)) = true → (((!t116) = true → stW b (0 + 1) [.int .i64 n106] (fun (w120 : World) => Cl Try.prog 79 ([.pointer (some ⟨b, 0, none⟩)]) w120 (retG (fun (r122 : Value) (w121 : World) => r122 = .tuple #[] ∧ R (.returned (.slice none 0 0)) w121) (fun c w => R (.panicked c) w))) w117) ∧ ((!t116) = false → (((decide ((n115 : Int) < n88)) = true → stW b (0 + 1) [.int .i64 n106] (fun (w123 : World) => Cl Try.prog 79 ([.pointer (some ⟨b, 0, none⟩)]) w123 (retG (fun (r125 : Value) (w124 : World) => r125 = .tuple #[] ∧ R (.returned (.slice none 0 0)) w124) (fun c w => R (.panicked c) w))) w117) ∧ ((decide ((n115 : Int) < n88)) = false → ∃ (n126 : Int), cellH w117.heap b (0 + 2) = some (.int .i64 n126) ∧ (((decide ((n126 : Int) < 0)) = true → Cl Try.prog 165 ([.slice (some ⟨kb, 0, none⟩) 256 256, .int .i64 n88, .int .i64 n115]) w117 (retG (fun (r128 : Value) (w127 : World) => r128 = .tuple #[] ∧ (∃ (m129 : Nat), m129 < (s.size - j + 1) ∧ ClsI w b s g a ln c kb C m129 (n + 1) w127)) (fun c w => R (.panicked c) w))) ∧ ((decide ((n126 : Int) < 0)) = false → (∃ (m130 : Nat), m130 < (s.size - j + 1) ∧ ClsI w b s g a ln c kb C m130 (n + 1) w117)))))))) ∧ ((decide ((n119 : Int) < 0)) = false → ∃ (n131 : Int), cellH w117.heap b (0 + 2) = some (.int .i64 n131) ∧ (((decide ((n131 : Int) < 0)) = true → Cl Try.prog 165 ([.slice (some ⟨kb, 0, none⟩) 256 256, .int .i64 n88, .int .i64 n115]) w117 (retG (fun (r133 : Value) (w132 : World) => r133 = .tuple #[] ∧ (∃ (m134 : Nat), m134 < (s.size - j + 1) ∧ ClsI w b s g a ln c kb C m134 (n + 1) w132)) (fun c w => R (.panicked c) w))) ∧ ((decide ((n131 : Int) < 0)) = false → (∃ (m135 : Nat), m135 < (s.size - j + 1) ∧ ClsI w b s g a ln c kb C m135 (n + 1) w117)))))) (fun c w => R (.panicked c) w))) ∧ (t110 = false → ∃ (n136 : Int), cellH w111.heap b (0 + 1) = some (.int .i64 n136) ∧ stW b (0 + 1) [.int .i64 (IntKind.wrap .i64 (n136 + 1))] (fun (w137 : World) => ∃ (n138 : Int), cellH w137.heap b (0 + 2) = some (.int .i64 n138) ∧ (((decide ((n138 : Int) < 0)) = true → (((!t89) = true → stW b (0 + 1) [.int .i64 n106] (fun (w139 : World) => Cl Try.prog 79 ([.pointer (some ⟨b, 0, none⟩)]) w139 (retG (fun (r141 : Value) (w140 : World) => r141 = .tuple #[] ∧ R (.returned (.slice none 0 0)) w140) (fun c w => R (.panicked c) w))) w137) ∧ ((!t89) = false → (((decide ((IntKind.wrap .i64 (byteAt s108 (Int.toNat n109)) : Int) < n88)) = true → stW b (0 + 1) [.int .i64 n106] (fun (w142 : World) => Cl Try.prog 79 ([.pointer (some ⟨b, 0, none⟩)]) w142 (retG (fun (r144 : Value) (w143 : World) => r144 = .tuple #[] ∧ R (.returned (.slice none 0 0)) w143) (fun c w => R (.panicked c) w))) w137) ∧ ((decide ((IntKind.wrap .i64 (byteAt s108 (Int.toNat n109)) : Int) < n88)) = false → ∃ (n145 : Int), cellH w137.heap b (0 + 2) = some (.int .i64 n145) ∧ (((decide ((n145 : Int) < 0)) = true → Cl Try.prog 165 ([.slice (some ⟨kb, 0, none⟩) 256 256, .int .i64 n88, .int .i64 (IntKind.wrap .i64 (byteAt s108 (Int.toNat n109)))]) w137 (retG (fun (r147 : Value) (w146 : World) => r147 = .tuple #[] ∧ (∃ (m148 : Nat), m148 < (s.size - j + 1) ∧ ClsI w b s g a ln c kb C m148 (n + 1) w146)) (fun c w => R (.panicked c) w))) ∧ ((decide ((n145 : Int) < 0)) = false → (∃ (m149 : Nat), m149 < (s.size - j + 1) ∧ ClsI w b s g a ln c kb C m149 (n + 1) w137)))))))) ∧ ((decide ((n138 : Int) < 0)) = false → ∃ (n150 : Int), cellH w137.heap b (0 + 2) = some (.int .i64 n150) ∧ (((decide ((n150 : Int) < 0)) = true → Cl Try.prog 165 ([.slice (some ⟨kb, 0, none⟩) 256 256, .int .i64 n88, .int .i64 (IntKind.wrap .i64 (byteAt s108 (Int.toNat n109)))]) w137 (retG (fun (r152 : Value) (w151 : World) => r152 = .tuple #[] ∧ (∃ (m153 : Nat), m153 < (s.size - j + 1) ∧ ClsI w b s g a ln c kb C m153 (n + 1) w151)) (fun c w => R (.panicked c) w))) ∧ ((decide ((n150 : Int) < 0)) = false → (∃ (m154 : Nat), m154 < (s.size - j + 1) ∧ ClsI w b s g a ln c kb C m154 (n + 1) w137)))))) w111))) (fun c w => R (.panicked c) w))) w105) w91))))))))))) w90) by
    by_cases h92 : at_ (L s) j = 92
    · refine (is_yes h2 hj (by omega) h92 rfl).use fun e w3 he => ?_
      obtain ⟨rfl, h3, e3⟩ := he
      exact ⟨true, rfl, hJ w3 (E2.trans e3) (fun _ => h3) (fun h => absurd h92 h) (k2.keep e3 (by omega)) true (by simp [h92])⟩
    · refine (is_no h2 (ch := 92) (by omega) rfl).ret fun w3 b3 => ?_
      exact ⟨false, rfl, hJ w3 (E2.trans (Ext.of_below b3)) (fun h => absurd h h92) (fun _ => h2.below b3) (k2.below b3) false (by simp [h92])⟩
  intro w3 E3 h3y h3n k3 t ht
  refine ⟨fun v t w' => Ext (fun x => x = b) w w' ∧ ((∃ i e, t = false ∧ Sd w' b s i ((e : Nat) : Int) g a ln c ∧ C = .bad e) ∨
    (∃ j1 r, t = false ∧ j < j1 ∧ j1 ≤ s.size ∧ Sd w' b s j1 (-1) g a ln c ∧ Blk w'.heap kb 4 (b256 (inR (rs ++ r))) ∧ partP (L s) j = .ok (j1, r, none)) ∨
    (∃ j1 r u, t = true ∧ v = ((u : Nat) : Int) ∧ j < j1 ∧ j1 ≤ s.size ∧ Sd w' b s j1 (-1) g a ln c ∧ Blk w'.heap kb 4 (b256 (inR (rs ++ r))) ∧ partP (L s) j = .ok (j1, r, some u))), ⟨fun g1 => ?_, fun g1 => ?_⟩, ?_⟩
  · have h92 : at_ (L s) j = 92 := by rw [ht] at g1; exact of_decide_eq_true g1
    have hpp : partP (L s) j = escP (L s) (j + 1) := by unfold partP; rw [if_pos h92]
    refine (sescape_ok (h3y h92) hs (by omega) k3 (by omega)).use fun e w4 he => ?_
    obtain ⟨e4, he⟩ := he
    have E4 : Ext (fun x => x = b) w w4 := E3.step e4 fun i hi h => by omega
    cases hp : escP (L s) (j + 1) with
    | bad n4 =>
      rw [hp] at he
      obtain ⟨rfl, ⟨i, h4⟩, _⟩ := he
      exact ⟨_, _, rfl, E4, .inl ⟨i, n4, rfl, h4, by rw [← hC]; exact clsP_bad (by omega) hne (hpp.trans hp)⟩⟩
    | ok y =>
      obtain ⟨j1, r, o⟩ := y
      have hgt := partP_gt (by omega) (hpp.trans hp)
      rw [hp] at he
      cases o with
      | none =>
        obtain ⟨rfl, h4, k4⟩ := he
        exact ⟨_, _, rfl, E4, .inr (.inl ⟨j1, r, rfl, hgt.1, by omega, h4, happ _ _ _ k4, hpp.trans hp⟩)⟩
      | some u =>
        obtain ⟨rfl, h4, k4⟩ := he
        exact ⟨_, _, rfl, E4, .inr (.inr ⟨j1, r, u, rfl, rfl, hgt.1, by omega, h4, happ _ _ _ k4, hpp.trans hp⟩)⟩
  · have h92 : at_ (L s) j ≠ 92 := by rw [ht] at g1; exact of_decide_eq_false g1
    refine drw_in fun w4 q4 e4 => ?_
    have h4 : Sd w4 b s j (-1) g a ln c := Blk.keep (h3n h92) e4 fun h => h
    have k4 := k3.keep e4 fun h => h
    have E4 := E3.trans (Ext.mono e4 fun _ _ h => h.elim)
    refine ⟨s, h4.cell 0, j, h4.cell 1, ⟨by omega, by omega⟩, ?_⟩
    have hc := at_lt (L s) j
    rw [byteI s (j := j) rfl, w64 (n := (at_ (L s) j : Int)) (by omega)]
    refine ⟨kb, 0, ⟨rfl, by omega, by omega⟩, st_one k4 hc (by omega) fun w5 s5 k5 e5 => ?_⟩
    have h5 : Sd w5 b s j (-1) g a ln c := Blk.keep h4 e5 (by omega)
    have E5 : Ext (fun x => x = b) w w5 := E4.step e5 fun i hi h => by omega
    refine ⟨j, h5.cell 1, h5.mv (j := j + 1) (by rw [w64 (by omega)]; omega) fun w6 s6 h6 e6 => ?_⟩
    exact ⟨E5.trans e6, .inr (.inr ⟨j + 1, _, at_ (L s) j, rfl, rfl, by omega, by omega, h6, happ _ _ _ (k5.keep e6 (by omega)), by unfold partP; rw [if_neg h92]⟩)⟩
  clear h3y h3n k3 E3 ht t
  rintro d3 v t w4 ⟨E4, hst⟩
  refine drw_in fun w5 q5 e5 => ?_
  have E5 := E4.trans (Ext.mono e5 fun _ _ h => h.elim)
  have hS5 : ∀ {i : Nat} {bd : Int}, Sd w4 b s i bd g a ln c → Sd w5 b s i bd g a ln c := fun h => Blk.keep h e5 fun h => h
  have hK5 : ∀ {l : List Value}, Blk w4.heap kb 4 l → Blk w5.heap kb 4 l := fun h => h.keep e5 fun h => h
  rcases hst with ⟨i, e, rfl, h4, hb4⟩ | ⟨j1, r, rfl, hj1, hj1', h4, k4, hp⟩ | ⟨j1, r, u, rfl, rfl, hj1, hj1', h4, k4, hp⟩
  · exact ⟨fun _ => hnbad (hS5 h4) hb4 E5, fun g => (by cases g)⟩
  · exact ⟨fun _ => hnext hj1 hj1' (hS5 h4) (hK5 k4) (by rw [← hC]; exact (clsP_many (by omega) hne hp).symm) E5, fun g => (by cases g)⟩
  have h5 := hS5 h4
  have k5 := hK5 k4
  have hu := partP_one hp
  have hone := clsP_one (rs := rs) (by omega : j < (L s).length) hne hp
  rw [hC] at hone
  have hgo : (s.size ≤ j1 + 1 ∨ at_ (L s) j1 ≠ 45 ∨ at_ (L s) (j1 + 1) = 93) → clsP (L s) j1 false (rs ++ r) = C := fun hx => by
    rw [← hC]; exact (clsP_go (by omega) hne hp (by omega)).symm
  refine ⟨fun g => (by cases g), fun _ => ⟨j1, h5.cell 1, s, h5.cell 0, ?_⟩⟩
  rw [w64 (n := (j1 : Int) + 1) (by omega)]
  refine ⟨fun g1 => ?_, fun g1 => ?_⟩
  · exact hnext hj1 hj1' h5 k5 (hgo (.inl (by have := of_decide_eq_true g1; omega))) E5
  have g1' : j1 + 1 < s.size := by have := of_decide_eq_false g1; omega
  refine ⟨-1, h5.cell 2, fun g2 => absurd (of_decide_eq_true g2) (by decide), fun _ => ⟨s, h5.cell 0, j1, h5.cell 1, ⟨by omega, by omega⟩, ?_⟩⟩
  rw [byteI s (j := j1) rfl]
  refine ⟨fun g2 => ?_, fun g2 => ?_⟩
  · have g2' : at_ (L s) j1 ≠ 45 := by simp only [bne_iff_ne, ne_eq] at g2; omega
    exact hnext hj1 hj1' h5 k5 (hgo (.inr (.inl g2'))) E5
  have g2' : at_ (L s) j1 = 45 := by
    have : (at_ (L s) j1 : Int) = 45 := by simpa using g2
    omega
  refine ⟨s, h5.cell 0, j1, h5.cell 1, ⟨by rw [w64 (by omega)]; omega, by rw [w64 (by omega)]; omega⟩, ?_⟩
  rw [w64 (n := (j1 : Int) + 1) (by omega), byteI s (j := j1 + 1) (by omega)]
  refine ⟨fun g3 => ?_, fun g3 => ?_⟩
  · have g3' : at_ (L s) (j1 + 1) = 93 := by
      have : (at_ (L s) (j1 + 1) : Int) = 93 := by simpa using g3
      omega
    exact hnext hj1 hj1' h5 k5 (hgo (.inr (.inr g3'))) E5
  have g3' : at_ (L s) (j1 + 1) ≠ 93 := by
    have : ¬ (at_ (L s) (j1 + 1) : Int) = 93 := by simpa using g3
    omega
  rw [if_neg (by omega), if_neg (by omega), if_neg (by omega), if_neg g3'] at hone
  clear hgo
  refine ⟨j1, h5.cell 1, h5.mv (j := j1 + 1) (by rw [w64 (by omega)]; omega) fun w6 s6 h6 e6 => ⟨_, h6.cell 1, drw_in fun w7 q7 e7 => ?_⟩⟩
  have h7 : Sd w7 b s (j1 + 1) (-1) g a ln c := Blk.keep h6 e7 fun h => h
  have k7 := (k5.keep e6 (by omega)).keep e7 fun h => h
  have E7 := (E5.trans e6).trans (Ext.mono e7 fun _ _ h => h.elim)
  refine ⟨s, h7.cell 0, _, h7.cell 1, ⟨by omega, by omega⟩, ?_⟩
  rw [byteI s (j := j1 + 1) rfl]
  have hc2 := at_lt (L s) (j1 + 1)
  have hw2 : IntKind.wrap .i64 (at_ (L s) (j1 + 1) : Int) = (at_ (L s) (j1 + 1) : Int) := w64 (by omega)
  -- it goes wrong at the range's second part
  have hfail : ∀ {w' : World} {i' : Nat}, Sd w' b s i' (-1) g a ln c → Ext (fun x => x = b) w w' → C = .bad (j1 + 1) → stW b (0 + 1) [.int .i64 ((j1 + 1 : Nat) : Int)] (fun (w120 : World) => Cl Try.prog 79 ([.pointer (some ⟨b, 0, none⟩)]) w120 (retG (fun (r122 : Value) (w121 : World) => r122 = .tuple #[] ∧ R (.returned (.slice none 0 0)) w121) (fun c w => R (.panicked c) w))) w' := by
    intro w' i' h' E' hb'
    refine h'.mv (j := j1 + 1) rfl fun w8 s8 h8 e8 => ?_
    refine (sfail_ok h8).use fun e w9 he => ?_
    obtain ⟨rfl, h9, e9⟩ := he
    refine ⟨rfl, ?_⟩
    subst hR hb'
    exact ⟨(E'.trans e8).trans e9, rfl, _, h9⟩
  -- the range is put in
  have hput : ∀ {w' : World} {j2 hi : Nat}, Sd w' b s j2 (-1) g a ln c → j < j2 → j2 ≤ s.size → Blk w'.heap kb 4 (b256 (inR (rs ++ r))) → Ext (fun x => x = b) w w' → hi < 256 → clsP (L s) j2 false (rs ++ r ++ [(u, hi)]) = C → ∀ {hi' : Int}, hi' = hi → Cl Try.prog 165 ([.slice (some ⟨kb, 0, none⟩) 256 256, .int .i64 ((u : Nat) : Int), .int .i64 hi']) w' (retG (fun (r128 : Value) (w127 : World) => r128 = .tuple #[] ∧ (∃ (m129 : Nat), m129 < s.size - j + 1 ∧ ClsI w b s g a ln c kb C m129 (n + 1) w127)) (fun c w => R (.panicked c) w)) := by
    intro w' j2 hi h' hj2 hj2' k' E' hhi hC2 hi' hhi'
    refine (srange_ok k' u hi hhi rfl hhi').use fun e w8 he => ?_
    obtain ⟨rfl, k8, e8⟩ := he
    exact ⟨rfl, hnext hj2 hj2' (Blk.keep h' e8 (by omega)) (happ _ _ _ k8) hC2 (E'.step e8 fun i hi h => by omega)⟩
  by_cases h92 : at_ (L s) (j1 + 1) = 92
  · have hpp : partP (L s) (j1 + 1) = escP (L s) (j1 + 2) := by unfold partP; rw [if_pos h92]
    refine (is_yes h7 g1' (by omega) h92 rfl).use fun e w8 he => ?_
    obtain ⟨rfl, h8, e8⟩ := he
    refine ⟨true, rfl, fun _ => ?_, fun g => (by cases g)⟩
    obtain ⟨w9, hr9, s9, k9, e9⟩ := make256 w8
    refine ⟨_, _, _, w9, hr9, ?_⟩
    have h9 : Sd w9 b s (j1 + 2) (-1) g a ln c := Blk.keep h8 e9 fun h => h
    have k9' := (k7.keep e8 (by omega)).keep e9 fun h => h
    have E9 := (E7.trans e8).trans (Ext.mono e9 fun _ _ h => h.elim)
    have hz8 := (E7.trans e8).size
    have hkb8 := (k7.keep e8 (by omega)).lt
    refine (sescape_ok h9 hs (by omega) k9 (by omega)).use fun e w10 he => ?_
    obtain ⟨e10, he⟩ := he
    have E10 : Ext (fun x => x = b) w w10 := E9.step e10 fun i hi h => by omega
    have k10 := k9'.keep e10 (by omega)
    cases hp2 : escP (L s) (j1 + 2) with
    | bad n4 =>
      rw [hp2] at he
      rw [hpp, hp2] at hone
      obtain ⟨rfl, ⟨i, h10⟩, _⟩ := he
      refine ⟨_, _, rfl, n4, h10.cell 2, fun g => ?_, fun _ => ⟨n4, h10.cell 2, fun g => ?_, fun _ => hnbad h10 hone E10⟩⟩
      · have := of_decide_eq_true g; omega
      · have := of_decide_eq_true g; omega
    | ok y =>
      obtain ⟨j2, r2, o⟩ := y
      have hgt := partP_gt (by omega) (hpp.trans hp2)
      rw [hp2] at he
      rw [hpp, hp2] at hone
      cases o with
      | none =>
        obtain ⟨rfl, h10, _⟩ := he
        refine ⟨_, _, rfl, -1, h10.cell 2, fun _ => ⟨fun _ => hfail h10 E10 hone, fun g => by simp at g⟩, fun g => absurd (of_decide_eq_false g) (by decide)⟩
      | some hi =>
        have hhi := (partP_one (hpp.trans hp2)).2
        simp only [] at hone
        obtain ⟨rfl, h10, _⟩ := he
        refine ⟨_, _, rfl, -1, h10.cell 2, fun _ => ⟨fun g => by simp at g, fun _ => ⟨fun g4 => ?_, fun g4 => ⟨-1, h10.cell 2, fun _ => ?_, fun g => absurd (of_decide_eq_false g) (by decide)⟩⟩⟩, fun g => absurd (of_decide_eq_false g) (by decide)⟩
        · have := of_decide_eq_true g4
          rw [if_pos (by omega)] at hone
          exact hfail h10 E10 hone
        · have := of_decide_eq_false g4
          rw [if_neg (by omega)] at hone
          exact hput h10 (by omega) (by omega) k10 E10 hhi hone.symm rfl
  · have hpp : partP (L s) (j1 + 1) = .ok (j1 + 2, [(at_ (L s) (j1 + 1), at_ (L s) (j1 + 1))], some (at_ (L s) (j1 + 1))) := by unfold partP; rw [if_neg h92]
    rw [hpp] at hone
    simp only [] at hone
    refine (is_no h7 (ch := 92) (by omega) rfl).ret fun w8 b8 => ⟨false, rfl, fun g => (by cases g), fun _ => ?_⟩
    have h8 := h7.below b8
    refine ⟨_, h8.cell 1, h8.mv (j := j1 + 2) (by rw [w64 (by omega)]; omega) fun w9 s9 h9 e9 => ?_⟩
    have E9 := (E7.trans (Ext.of_below b8)).trans e9
    have k9 := (k7.below b8).keep e9 (by omega)
    rw [hw2]
    refine ⟨-1, h9.cell 2, fun _ => ⟨fun g => by simp at g, fun _ => ⟨fun g4 => ?_, fun g4 => ⟨-1, h9.cell 2, fun _ => ?_, fun g => absurd (of_decide_eq_false g) (by decide)⟩⟩⟩, fun g => absurd (of_decide_eq_false g) (by decide)⟩
    · have := of_decide_eq_true g4
      rw [if_pos (by omega)] at hone
      exact hfail h9 E9 hone
    · have := of_decide_eq_false g4
      rw [if_neg (by omega)] at hone
      exact hput h9 (by omega) (by omega) k9 E9 hc2 hone.symm rfl
theorem sclass_ok {w : World} {b : Nat} {s : ByteArray} {p g : Nat} {a : Option Addr} {ln c : Nat} (h : Sd w b s p (-1) g a ln c) (hs : s.size ≤ 120) (hp : p ≤ s.size) :
    Cl Try.prog 164 [.pointer (some ⟨b, 0, none⟩)] w (ClsS w b s g a ln c (clsFin (decide (at_ (L s) p = 94)) (clsP (L s) (if at_ (L s) p = 94 then p + 1 else p) true []))) := by
  apply vc164
  unfold V164
  have hsz := size_L s
  have hbl := h.lt
  obtain ⟨w4, hr4, s4, k4, e4⟩ := make256 w
  refine ⟨_, _, _, w4, hr4, ?_⟩
  have h4 : Sd w4 b s p (-1) g a ln c := Blk.keep h e4 fun h => h
  have E4 : Ext (fun x => x = b) w w4 := Ext.mono e4 fun _ _ h => h.elim
  by_cases h94 : at_ (L s) p = 94
  · have hlt : p < s.size := by
      by_cases hlt : p < s.size
      · exact hlt
      · unfold at_ at h94
        rw [List.getD_eq_getElem?_getD, List.getElem?_eq_none (by omega)] at h94
        exact absurd h94 (by decide)
    rw [if_pos h94]
    refine (is_yes h4 hlt (by omega) h94 rfl).use fun e w6 he => ?_
    obtain ⟨rfl, h6, e6⟩ := he
    exact ⟨true, rfl, sclass_loop hbl (Nat.le_refl _) hs (E4.trans e6) h6 (by omega) (k4.keep e6 (by omega)) rfl (by rw [decide_eq_true h94])⟩
  · rw [if_neg h94]
    refine (is_no h4 (ch := 94) (by omega) rfl).ret fun w6 b6 => ?_
    exact ⟨false, rfl, sclass_loop hbl (Nat.le_refl _) hs (E4.trans (Ext.of_below b6)) (h4.below b6) (by omega) (k4.below b6) rfl (by rw [decide_eq_false h94])⟩
end Go.Proofs.Ytngbiaeliphdjaa.V
/- The reference's reader: counts. No statement of the seat is proved here. -/
namespace Go.Vc
set_option linter.unusedVariables false
theorem digP_big (l : Bytes) : ∀ (k i n : Nat), k = l.length - i → 50 < n → 50 < (digP l i n).2 := by
  intro k
  induction k using Nat.strongRecOn with
  | _ k ih =>
    intro i n hk hn
    rw [digP]
    split
    · refine ih _ (by omega) _ _ rfl ?_
      show 50 < min _ _
      omega
    · exact hn
/-- Is there a digit? -/
def isDig (l : Bytes) (i : Nat) : Prop := i < l.length ∧ 48 ≤ at_ l i ∧ at_ l i ≤ 57
theorem numP_no {l : Bytes} {i : Nat} (hi : i ≤ l.length) (h : ¬ isDig l i) : numP l i = .bad i := by
  unfold isDig at h
  unfold numP
  split
  · congr 1; omega
  split
  · rfl
  · omega
end Go.Vc
namespace Go.Proofs.Ytngbiaeliphdjaa.V
open Go.Vc Go.Proofs Go.RowKit
set_option linter.unusedVariables false
set_option linter.unusedSimpArgs false
/-- What number leaves. -/
def NumS (w : World) (b : Nat) (s : ByteArray) (i g : Nat) (a : Option Addr) (ln c : Nat) : Ending → World → Prop := fun e w' => Ext (fun x => x = b) w w' ∧
  ((¬ isDig (L s) i ∧ e = .returned (.int .i64 (-1)) ∧ Sd w' b s i (-1) g a ln c) ∨
   (isDig (L s) i ∧ numP (L s) i = .bad i ∧ e = .returned (.int .i64 0) ∧ ∃ i', Sd w' b s i' (i : Int) g a ln c) ∨
   (∃ j n, isDig (L s) i ∧ numP (L s) i = .ok (j, n) ∧ n ≤ 50 ∧ i < j ∧ j ≤ s.size ∧ e = .returned (.int .i64 (n : Int)) ∧ Sd w' b s j (-1) g a ln c))
theorem snumber_ok {w : World} {b : Nat} {s : ByteArray} {i g : Nat} {a : Option Addr} {ln c : Nat} (h : Sd w b s i (-1) g a ln c) (hs : s.size ≤ 120) (hi : i ≤ s.size) :
    Cl Try.prog 168 [.pointer (some ⟨b, 0, none⟩)] w (NumS w b s i g a ln c) := by
  apply vc168
  unfold V168
  have hsz := size_L s
  refine ⟨i, h.cell 1, fun k n w' => ∃ j v : Nat, n = (v : Int) ∧ v ≤ 50 ∧ i ≤ j ∧ j ≤ s.size ∧ k = s.size - j ∧ digP (L s) j v = digP (L s) i 0 ∧ Sd w' b s j (-1) g a ln c ∧ Ext (fun x => x = b) w w' ∧ (i < j → isDig (L s) i), ⟨_, i, 0, rfl, by omega, Nat.le_refl _, hi, rfl, rfl, h, Ext.refl _ _, fun h => absurd h (Nat.lt_irrefl _)⟩, ?_⟩
  rintro k d n w1 ⟨j, v, rfl, hv, hij, hj, rfl, hd, h1, E1, hdg⟩
  refine drw_in fun w2 q2 e2 => ?_
  have h2 : Sd w2 b s j (-1) g a ln c := Blk.keep h1 e2 fun h => h
  have E2 := E1.trans (Ext.mono e2 fun _ _ h => h.elim)
  refine (more_ok h2).ret fun w3 b3 => ⟨_, rfl, ?_⟩
  have h3 := h2.below b3
  have E3 := E2.trans (Ext.of_below b3)
  have hout : ¬ isDig (L s) j → ∃ (n27 : Int), cellH w3.heap b (0 + 1) = some (.int .i64 n27) ∧ ((((n27 : Int) == (i : Int)) = true → NumS w b s i g a ln c (.returned (.int .i64 (-1))) w3) ∧ (((n27 : Int) == (i : Int)) = false → NumS w b s i g a ln c (.returned (.int .i64 (v : Int))) w3)) := by
    intro hnd
    have hdj : digP (L s) j v = (j, v) := by unfold isDig at hnd; rw [digP, dif_neg hnd]
    refine ⟨j, h3.cell 1, fun g1 => ?_, fun g1 => ?_⟩
    · have : j = i := by have : (j : Int) = i := by simpa using g1
                         omega
      subst this
      exact ⟨E3, .inl ⟨hnd, rfl, h3⟩⟩
    · have : j ≠ i := by have : ¬ (j : Int) = i := by simpa using g1
                         omega
      have hdi := hdg (by omega)
      refine ⟨E3, .inr (.inr ⟨j, v, hdi, ?_, hv, by omega, hj, rfl, h3⟩)⟩
      unfold numP
      unfold isDig at hdi
      rw [if_neg (by omega), if_neg (by omega), ← hd, hdj, if_neg (by show ¬ 50 < v; omega)]
  refine ⟨fun g1 => ?_, fun g1 => hout ?_⟩
  · have g1' := of_decide_eq_true g1
    refine ⟨s, h3.cell 0, j, h3.cell 1, ⟨by omega, by omega⟩, ?_⟩
    rw [byteI s (j := j) rfl]
    refine ⟨fun g2 => ⟨s, h3.cell 0, j, h3.cell 1, ⟨by omega, by omega⟩, ?_⟩, fun g2 => hout ?_⟩
    · have g2' := of_decide_eq_true g2
      rw [byteI s (j := j) rfl]
      refine ⟨fun g3 => drw_in fun w4 q4 e4 => ?_, fun g3 => hout ?_⟩
      · have g3' := of_decide_eq_true g3
        have h4 : Sd w4 b s j (-1) g a ln c := Blk.keep h3 e4 fun h => h
        have E4 := E3.trans (Ext.mono e4 fun _ _ h => h.elim)
        have hdj : isDig (L s) j := ⟨by omega, by omega, by omega⟩
        have hdi : isDig (L s) i := by
          rcases Nat.lt_or_ge i j with h | h
          · exact hdg h
          · have : j = i := by omega
            rw [← this]; exact hdj
        refine ⟨s, h4.cell 0, j, h4.cell 1, ⟨by omega, by omega⟩, ?_⟩
        rw [byteI s (j := j) rfl]
        have hw : IntKind.wrap .i64 (IntKind.wrap .i64 ((v : Int) * 10) + IntKind.wrap .i64 (IntKind.wrap .u8 ((at_ (L s) j : Int) - 48))) = ((10 * v + (at_ (L s) j - 48) : Nat) : Int) := by
          rw [w8, w64 (n := (v : Int) * 10) (by omega), w64 (n := ((at_ (L s) j : Int) - 48) % 256) (by omega), w64 (by omega)]; omega
        rw [hw]
        have hst : digP (L s) j v = digP (L s) (j + 1) (Nat.min 1000 (10 * v + (at_ (L s) j - 48))) := by
          conv => lhs; rw [digP]
          unfold isDig at hdj; rw [dif_pos hdj]
        have hmin : Nat.min 1000 (10 * v + (at_ (L s) j - 48)) = 10 * v + (at_ (L s) j - 48) := by
          show min _ _ = _
          omega
        rw [hmin] at hst
        refine ⟨fun g4 => ?_, fun g4 => ?_⟩
        · have g4' := of_decide_eq_true g4
          refine h4.mv (j := i) rfl fun w5 s5 h5 e5 => ?_
          refine (sfail_ok h5).use fun e w6 he => ?_
          obtain ⟨rfl, h6, e6⟩ := he
          refine ⟨rfl, (E4.trans e5).trans e6, .inr (.inl ⟨hdi, ?_, rfl, _, h6⟩)⟩
          unfold numP
          have hdi' := hdi
          unfold isDig at hdi'
          rw [if_neg (by omega), if_neg (by omega), ← hd, hst, if_pos (digP_big _ _ _ _ rfl (by omega))]
        · have g4' := of_decide_eq_false g4
          refine ⟨j, h4.cell 1, h4.mv (j := j + 1) (by rw [w64 (by omega)]; omega) fun w5 s5 h5 e5 => ?_⟩
          exact ⟨s.size - (j + 1), by omega, j + 1, 10 * v + (at_ (L s) j - 48), rfl, by omega, by omega, by omega, rfl, by rw [← hd, hst], h5, E4.trans e5, fun _ => hdi⟩
      · have g3' := of_decide_eq_false g3
        unfold isDig; omega
    · have g2' := of_decide_eq_false g2
      unfold isDig; omega
  · have g1' := of_decide_eq_false g1
    unfold isDig; omega
/-- What counts leaves. -/
def CntS (w : World) (b : Nat) (s : ByteArray) (g : Nat) (a : Option Addr) (ln c : Nat) (r : Pr (Nat × Int × Int)) : Ending → World → Prop := fun e w' => Ext (fun x => x = b) w w' ∧ match r with
  | .bad n => (∃ x y, e = .returned (.tuple #[.int .i64 x, .int .i64 y])) ∧ ∃ i, Sd w' b s i (n : Int) g a ln c
  | .ok (j, lo, hi) => e = .returned (.tuple #[.int .i64 lo, .int .i64 hi]) ∧ Sd w' b s j (-1) g a ln c
theorem scounts_ok {w : World} {b : Nat} {s : ByteArray} {i g : Nat} {a : Option Addr} {ln c : Nat} (h : Sd w b s i (-1) g a ln c) (hs : s.size ≤ 120) (hi : i ≤ s.size) :
    Cl Try.prog 150 [.pointer (some ⟨b, 0, none⟩)] w (CntS w b s g a ln c (braP (L s) i)) := by
  apply vc150
  unfold V150
  have hsz := size_L s
  generalize hC : braP (L s) i = C
  unfold braP at hC
  refine (snumber_ok h hs hi).use fun e w1 he => ?_
  obtain ⟨E1, he⟩ := he
  -- the end
  have hfin : ∀ {lo n : Int} {w' : World}, Ext (fun x => x = b) w w' → ((∃ j, j ≤ s.size ∧ Sd w' b s j (-1) g a ln c ∧ C = (if j < s.size ∧ at_ (L s) j = 125 then .ok (j + 1, lo, n) else .bad j)) ∨ (∃ i e, Sd w' b s i ((e : Nat) : Int) g a ln c ∧ C = .bad e)) →
      Cl Try.prog 112 ([.pointer (some ⟨b, 0, none⟩), .int .u8 125]) w' (retG (fun (r25 : Value) (w24 : World) => ∃ (t23 : Bool), r25 = .bool t23 ∧ (((!t23) = true → Cl Try.prog 79 ([.pointer (some ⟨b, 0, none⟩)]) w24 (retG (fun (r27 : Value) (w26 : World) => r27 = .tuple #[] ∧ CntS w b s g a ln c C (.returned (.tuple #[.int .i64 lo, .int .i64 n])) w26) (fun c1 w' => CntS w b s g a ln c C (.panicked c1) w'))) ∧ ((!t23) = false → CntS w b s g a ln c C (.returned (.tuple #[.int .i64 lo, .int .i64 n])) w24))) (fun c1 w' => CntS w b s g a ln c C (.panicked c1) w')) := by
    intro lo n w' E' hst
    rcases hst with ⟨j, hj, h', hC'⟩ | ⟨i', e', h', hC'⟩
    · by_cases hy : j < s.size ∧ at_ (L s) j = 125
      · rw [if_pos hy] at hC'
        refine (is_yes h' hy.1 (by omega) hy.2 rfl).use fun e w2 he => ?_
        obtain ⟨rfl, h2, e2⟩ := he
        refine ⟨true, rfl, fun g => by simp at g, fun _ => ?_⟩
        subst hC'
        exact ⟨E'.trans e2, rfl, h2⟩
      · rw [if_neg hy] at hC'
        refine (is_no h' (ch := 125) hy rfl).ret fun w2 b2 => ⟨false, rfl, fun _ => ?_, fun g => by simp at g⟩
        refine (sfail_ok (h'.below b2)).use fun e w3 he => ?_
        obtain ⟨rfl, h3, e3⟩ := he
        refine ⟨rfl, ?_⟩
        subst hC'
        exact ⟨(E'.trans (Ext.of_below b2)).trans e3, ⟨_, _, rfl⟩, _, h3⟩
    · refine (is_bad h' 125).ret fun w2 b2 => ⟨false, rfl, fun _ => ?_, fun g => by simp at g⟩
      refine (sfail_bad (h'.below b2)).ret fun w3 b3 => ⟨rfl, ?_⟩
      subst hC'
      exact ⟨(E'.trans (Ext.of_below b2)).trans (Ext.of_below b3), ⟨_, _, rfl⟩, _, (h'.below b2).below b3⟩
  rcases he with ⟨hnd, rfl, h1⟩ | ⟨hd, hnum, rfl, i1, h1⟩ | ⟨j, lo, hd, hnum, hlo, hij, hj, rfl, h1⟩
  · rw [numP_no (by omega) hnd] at hC
    refine ⟨-1, rfl, fun _ => ?_, fun g => absurd (of_decide_eq_false g) (by decide)⟩
    refine (sfail_ok h1).use fun e w2 he => ?_
    obtain ⟨rfl, h2, e2⟩ := he
    refine ⟨rfl, ?_⟩
    subst hC
    exact ⟨E1.trans e2, ⟨_, _, rfl⟩, _, h2⟩
  · rw [hnum] at hC
    refine ⟨0, rfl, fun g => absurd (of_decide_eq_true g) (by decide), fun _ => ?_⟩
    refine (is_bad h1 44).ret fun w2 b2 => ⟨false, rfl, ?_⟩
    refine ⟨fun n w' => Ext (fun x => x = b) w w' ∧ ∃ i1, Sd w' b s i1 (i : Int) g a ln c, ⟨fun g => (by cases g), fun _ => ⟨E1.trans (Ext.of_below b2), _, h1.below b2⟩⟩, ?_⟩
    rintro d n w3 ⟨E3, i3, h3⟩
    exact hfin E3 (.inr ⟨i3, i, h3, hC.symm⟩)
  · rw [hnum] at hC
    simp only [] at hC
    refine ⟨lo, rfl, fun g => ?_, fun _ => ?_⟩
    · have := of_decide_eq_true g; omega
    by_cases hcm : j < s.size ∧ at_ (L s) j = 44
    · rw [if_neg (by omega), if_pos hcm.2] at hC
      refine (is_yes h1 hcm.1 (by omega) hcm.2 rfl).use fun e w2 he => ?_
      obtain ⟨rfl, h2, e2⟩ := he
      have E2 := E1.trans e2
      refine ⟨true, rfl, fun n w' => Ext (fun x => x = b) w w' ∧ ((∃ j, j ≤ s.size ∧ Sd w' b s j (-1) g a ln c ∧ C = (if j < s.size ∧ at_ (L s) j = 125 then .ok (j + 1, (lo : Int), n) else .bad j)) ∨ (∃ i e, Sd w' b s i ((e : Nat) : Int) g a ln c ∧ C = .bad e)), ⟨fun _ => ⟨_, h2.cell 1, ?_⟩, fun g => (by cases g)⟩, fun d n w3 h3 => hfin h3.1 h3.2⟩
      refine (snumber_ok h2 hs (by omega)).use fun e w3 he => ?_
      obtain ⟨E3', he⟩ := he
      have E3 := E2.trans E3'
      rcases he with ⟨hnd, rfl, h3⟩ | ⟨hd2, hnum2, rfl, i3, h3⟩ | ⟨k, hi2, hd2, hnum2, hlo2, hij2, hj2, rfl, h3⟩
      · refine ⟨-1, rfl, -1, h3.cell 2, fun _ => ⟨fun g => absurd (of_decide_eq_true g) (by decide), fun _ => ⟨E3, .inl ⟨j + 1, by omega, h3, ?_⟩⟩⟩, fun g => absurd (of_decide_eq_false g) (by decide)⟩
        rw [← hC]
        by_cases hl : (L s).length ≤ j + 1
        · rw [if_pos hl, if_neg (by omega)]; congr 1; omega
        · rw [if_neg hl]
          by_cases h125 : at_ (L s) (j + 1) = 125
          · rw [if_pos h125, if_pos ⟨by omega, h125⟩]
          · rw [if_neg h125, if_neg (by omega), numP_no (by omega) hnd]
      · have h125 : at_ (L s) (j + 1) ≠ 125 := by unfold isDig at hd2; omega
        refine ⟨0, rfl, _, h3.cell 2, fun g => ?_, fun _ => ⟨E3, .inr ⟨i3, j + 1, h3, ?_⟩⟩⟩
        · have := of_decide_eq_true g; omega
        · unfold isDig at hd2
          rw [← hC, if_neg (by omega), if_neg h125, hnum2]
      · have h125 : at_ (L s) (j + 1) ≠ 125 := by unfold isDig at hd2; omega
        have hC2 := hC
        unfold isDig at hd2
        rw [if_neg (by omega), if_neg h125, hnum2] at hC2
        simp only [] at hC2
        refine ⟨hi2, rfl, -1, h3.cell 2, fun _ => ⟨fun _ => ⟨fun g => ?_, fun g => ?_⟩, fun g => ?_⟩, fun g => absurd (of_decide_eq_false g) (by decide)⟩
        · have g' := of_decide_eq_true g
          rw [if_pos (by omega)] at hC2
          refine h3.mv (j := j + 1) rfl fun w4 s4 h4 e4 => ?_
          refine (sfail_ok h4).use fun e w5 he => ?_
          obtain ⟨rfl, h5, e5⟩ := he
          exact ⟨rfl, (E3.trans e4).trans e5, .inr ⟨_, j + 1, h5, hC2.symm⟩⟩
        · have g' := of_decide_eq_false g
          rw [if_neg (by omega)] at hC2
          refine ⟨E3, .inl ⟨k, hj2, h3, ?_⟩⟩
          rw [← hC2]
          by_cases hl : (L s).length ≤ k
          · rw [if_pos hl, if_neg (by omega)]; congr 1; omega
          · rw [if_neg hl]
            by_cases h125' : at_ (L s) k = 125
            · rw [if_pos h125', if_pos ⟨by omega, h125'⟩]
            · rw [if_neg h125', if_neg (by omega)]
        · have := of_decide_eq_false g; omega
    · refine (is_no h1 (ch := 44) hcm rfl).ret fun w2 b2 => ?_
      refine ⟨false, rfl, fun n w' => Ext (fun x => x = b) w w' ∧ n = (lo : Int) ∧ Sd w' b s j (-1) g a ln c, ⟨fun g => (by cases g), fun _ => ⟨E1.trans (Ext.of_below b2), rfl, h1.below b2⟩⟩, ?_⟩
      rintro d n w3 ⟨E3, rfl, h3⟩
      refine hfin E3 (.inl ⟨j, hj, h3, ?_⟩)
      rw [← hC]
      by_cases hl : (L s).length ≤ j
      · rw [if_pos hl, if_neg (by omega)]; congr 1; omega
      · rw [if_neg hl, if_neg (by omega)]
        by_cases h125' : at_ (L s) j = 125
        · rw [if_pos h125', if_pos ⟨by omega, h125'⟩]
        · rw [if_neg h125', if_neg (by omega)]
end Go.Proofs.Ytngbiaeliphdjaa.V
/- The reference's reader: pieces are put. No statement of the seat is proved here. -/
namespace Go.Proofs.Ytngbiaeliphdjaa.V
open Go.Vc Go.Proofs Go.RowKit
set_option linter.unusedVariables false
set_option linter.unusedSimpArgs false
/-- The reference's reader, nothing being wrong yet. -/
structure SSt (N : Nat) (w : World) (b : Nat) (s : ByteArray) (i g : Nat) (a : Option Addr) (ln c : Nat) (rs : List Raw) (ps : List Pc) : Prop where
  rd : Sd w b s i (-1) g a ln c
  pcs : Pcs N w a ln c rs ps
  lt : b < N
  hN : N ≤ w.heap.size
theorem SSt.notb {N : Nat} {w : World} {b : Nat} {s : ByteArray} {i g : Nat} {a : Option Addr} {ln c : Nat} {rs : List Raw} {ps : List Pc} (h : SSt N w b s i g a ln c rs ps) : b ∉ blks a rs := fun hb => by have := h.pcs.low b hb; have := h.lt; omega
theorem SSt.below {N : Nat} {w w' : World} {b : Nat} {s : ByteArray} {i g : Nat} {a : Option Addr} {ln c : Nat} {rs : List Raw} {ps : List Pc} (h : SSt N w b s i g a ln c rs ps) (k : Below w.heap.size w w') : SSt N w' b s i g a ln c rs ps :=
  ⟨h.rd.below k, h.pcs.below k, h.lt, Nat.le_trans h.hN k.size⟩
/-- The reader's own block alone has changed. -/
theorem SSt.upd {N : Nat} {w w' : World} {b : Nat} {s : ByteArray} {i g i' g' : Nat} {a : Option Addr} {ln c : Nat} {rs : List Raw} {ps : List Pc} (h : SSt N w b s i g a ln c rs ps) (e : Ext (fun k => k = b) w w') (hr : Sd w' b s i' (-1) g' a ln c) : SSt N w' b s i' g' a ln c rs ps :=
  ⟨hr, h.pcs.keep e fun k hk hb => by subst hb; exact h.notb hk, h.lt, Nat.le_trans h.hN e.size⟩
theorem SSt.other {S : Nat → Prop} {N : Nat} {w w' : World} {b : Nat} {s : ByteArray} {i g : Nat} {a : Option Addr} {ln c : Nat} {rs : List Raw} {ps : List Pc} (h : SSt N w b s i g a ln c rs ps) (e : Ext S w w') (hb : ¬ S b) (hs : ∀ k ∈ blks a rs, ¬ S k) : SSt N w' b s i g a ln c rs ps :=
  ⟨Blk.keep h.rd e hb, h.pcs.keep e hs, h.lt, Nat.le_trans h.hN e.size⟩

/-- What put leaves. -/
def SPutR (N : Nat) (w : World) (b : Nat) (s : ByteArray) (i g : Nat) (a : Option Addr) (ln : Nat) (rs : List Raw) (ps : List Pc) (r : Raw) (p : Pc) : Ending → World → Prop := fun e w' =>
  e = .returned (.int .i64 ln) ∧ ∃ a2 c2, SSt N w' b s i g a2 (ln + 1) c2 (rs ++ [r]) (ps ++ [p]) ∧ Ext (fun k => k = b ∨ k ∈ blks a rs) w w' ∧ ∀ k ∈ blks a2 (rs ++ [r]), k ∈ blks a rs ∨ k ∈ r.blocks ∨ w.heap.size ≤ k
theorem sadd_ok {N : Nat} {w : World} {b : Nat} {s : ByteArray} {i g : Nat} {a : Option Addr} {ln c : Nat} {rs : List Raw} {ps : List Pc} (h : SSt N w b s i g a ln c rs ps) {r : Raw} {p : Pc} (hr : RawOk w r p) (hb : r.blocks.Nodup) (hd : ∀ k ∈ r.blocks, k ∉ blks a rs ∧ N ≤ k) (hl : ln ≤ 1000) :
    Cl Try.prog 113 [.pointer (some ⟨b, 0, none⟩), .agg ⟨r.cells⟩] w (SPutR N w b s i g a ln rs ps r p) := by
  have hbl := h.rd.lt
  refine vc113 (n3 := r.kind) (a4 := r.sa) (l4 := r.sl) (c4 := r.sc) (n5 := r.min) (n6 := r.max) (t7 := r.lazy) (n8 := r.num) (a9 := r.ka) (l9 := r.kl) (c9 := r.kc) ?_
  unfold V113
  refine newC_in fun w1 s1 k1 e1 => ?_
  refine drw_in fun w2 q2 e2 => ?_
  have E2 : Below w.heap.size w w2 := Ext.to (Ext.to (Below.refl _ _) e1 fun _ h => h.elim) e2 fun _ h => h.elim
  have h2 := h.below E2
  have k2 : Blk w2.heap w.heap.size 111 r.cells := k1.keep e2 fun h => h
  have r2 : RawOk w2 r p := hr.keep (S := fun _ => False) (Ext.of_below E2) fun _ _ h => h
  refine ⟨a, ln, c, h2.rd.cell 4, _, k2.cell 0, _, _, _, k2.cell 1, _, k2.cell 2, _, k2.cell 3, _, k2.cell 4, _, k2.cell 5, _, _, _, k2.cell 6, ?_⟩
  obtain ⟨a2, c2, w3, p1, p2, p3, p4⟩ := Pcs_app h2.pcs h2.hN r2 hb hd hl
  refine ⟨?_, a2, ln + 1, c2, w3, p1, ?_⟩
  · exact (Blk.vnew h2.rd _).cell 4
  have hob : ∀ k, k ∈ ob a → k ∈ blks a rs := fun k hk => List.mem_append_left _ hk
  have hR3 : Sd w3 b s i (-1) g a ln c := Blk.keep h2.rd p3 fun hk => h2.notb (hob _ hk)
  refine stW_in hR3 (by show 0 + 4 + 1 ≤ 5; decide) fun w4 s4 k4 e4 => ?_
  have hR4 : Sd w4 b s i (-1) g a2 (ln + 1) c2 := k4
  have hz := E2.size
  have hz3 := p3.size
  have hblk : ∀ k ∈ blks a2 (rs ++ [r]), k ∈ blks a rs ∨ k ∈ r.blocks ∨ w2.heap.size ≤ k := by
    intro k hk
    simp only [blks, List.flatMap_append, List.mem_append, List.flatMap_cons, List.flatMap_nil, List.append_nil] at hk ⊢
    rcases hk with hk | hk | hk
    · rcases p4 with rfl | rfl
      · exact .inl (.inl hk)
      · right; right; rw [mem_ob] at hk; simp [blkOf] at hk; omega
    · exact .inl (.inr hk)
    · exact .inr (.inl hk)
  refine ⟨_, _, _, hR4.cell 4, ?_, a2, c2, ⟨hR4, p2.keep e4 fun k hk hkb => ?_, h.lt, by have := h.hN; omega⟩, ?_, ?_⟩
  · rw [show IntKind.wrap .i64 ((((ln + 1 : Nat) : Int)) - 1) = (ln : Int) from by rw [w64 (by omega)]; omega]
  · subst hkb
    rcases hblk k hk with h1 | h1 | h1
    · exact h.notb h1
    · have := (hd k h1).2; have := h.lt; omega
    · omega
  · exact ((Ext.of_below E2).trans (Ext.mono p3 fun k _ hk => .inr (hob k hk))).trans (Ext.mono e4 fun k _ hk => .inl hk)
  · intro k hk
    rcases hblk k hk with h1 | h1 | h1
    · exact .inl h1
    · exact .inr (.inl h1)
    · exact .inr (.inr (by omega))


/-- The reader, something being wrong. -/
def SBd (N : Nat) (w : World) (b : Nat) (s : ByteArray) (e : Nat) (a : Option Addr) (ln c : Nat) : Prop := (∃ i g, Sd w b s i (e : Int) g a ln c) ∧ (∃ xs, Row N w 111 7 a ln c xs) ∧ b < N
theorem SBd.below {N : Nat} {w w' : World} {b : Nat} {s : ByteArray} {e : Nat} {a : Option Addr} {ln c : Nat} (h : SBd N w b s e a ln c) (k : Below w.heap.size w w') : SBd N w' b s e a ln c := by
  obtain ⟨⟨i, g, h1⟩, ⟨xs, h2⟩, h3⟩ := h
  exact ⟨⟨i, g, h1.below k⟩, ⟨xs, h2.below k⟩, h3⟩
theorem SBd.other {S : Nat → Prop} {N : Nat} {w w' : World} {b : Nat} {s : ByteArray} {e : Nat} {a : Option Addr} {ln c : Nat} (h : SBd N w b s e a ln c) (k : Ext S w w') (hb : ¬ S b) (ha : ∀ x ∈ ob a, ¬ S x) : SBd N w' b s e a ln c := by
  obtain ⟨⟨i, g, h1⟩, ⟨xs, h2⟩, h3⟩ := h
  exact ⟨⟨i, g, Blk.keep h1 k hb⟩, ⟨xs, h2.1.keep k (fun x hx => ha x (mem_ob.2 hx)), h2.2.1, Nat.le_trans h2.2.2 k.size⟩, h3⟩
/-- It goes wrong. -/
theorem SSt.bad {N : Nat} {w w' : World} {b : Nat} {s : ByteArray} {i i' g e : Nat} {a : Option Addr} {ln c : Nat} {rs : List Raw} {ps : List Pc} (h : SSt N w b s i g a ln c rs ps) (hE : Ext (fun x => x = b) w w') (hd : Sd w' b s i' (e : Int) g a ln c) : SBd N w' b s e a ln c := by
  have hv : Vec w'.heap 111 7 a ln c (rawC rs) := h.pcs.row.keep hE fun x hx hxb => h.notb (by rw [← hxb]; exact List.mem_append_left _ (mem_ob.2 hx))
  exact ⟨⟨_, _, hd⟩, ⟨_, hv, fun x hx => h.pcs.low x (List.mem_append_left _ (mem_ob.2 hx)), Nat.le_trans h.hN hE.size⟩, h.lt⟩
theorem sadd_bad {N : Nat} {w : World} {b : Nat} {s : ByteArray} {e : Nat} {a : Option Addr} {ln c : Nat} (h : SBd N w b s e a ln c) (hl : ln ≤ 1000) (n1 : Int) (a2 : Option Addr) (l2 c2 : Nat) (n3 n4 : Int) (t5 : Bool) (n6 : Int) (a7 : Option Addr) (l7 c7 : Nat) :
    Cl Try.prog 113 [.pointer (some ⟨b, 0, none⟩), .agg #[.int .i64 n1, .slice a2 l2 c2, .int .i64 n3, .int .i64 n4, .bool t5, .int .i64 n6, .slice a7 l7 c7]] w (fun en w' => (∃ x, en = .returned (.int .i64 x)) ∧ ∃ a' c', SBd N w' b s e a' (ln + 1) c' ∧ (∀ k ∈ ob a', k ∈ ob a ∨ w.heap.size ≤ k) ∧ Ext (fun k => k = b ∨ k ∈ ob a) w w') := by
  obtain ⟨⟨i, g, h⟩, ⟨xs, hr⟩, hb⟩ := h
  have hbl := h.lt
  refine vc113 ?_
  unfold V113
  refine newC_in fun w1 s1 k1 e1 => ?_
  refine drw_in fun w2 q2 e2 => ?_
  have E2 : Below w.heap.size w w2 := Ext.to (Ext.to (Below.refl _ _) e1 fun _ h => h.elim) e2 fun _ h => h.elim
  have h2 := h.below E2
  have r2 := hr.below E2
  have k2 := k1.keep e2 fun h => h
  refine ⟨a, ln, c, h2.cell 4, _, k2.cell 0, _, _, _, k2.cell 1, _, k2.cell 2, _, k2.cell 3, _, k2.cell 4, _, k2.cell 5, _, _, _, k2.cell 6, ?_⟩
  have E1 : Ext (fun _ => False) w2 (newW w2 (.cells ⟨[.int .i64 n1, .slice a2 l2 c2, .int .i64 n3, .int .i64 n4, .bool t5, .int .i64 n6, .slice a7 l7 c7]⟩ 111)) := (Ext.refl _ w2).vnew _
  obtain ⟨a3, c3, w3, p1, p2, p3, p4⟩ := append_run (P := Try.prog) (T := 35) (T' := 35) (T'' := 35) elemPc.und elemPc.und elemPc.size elemPc.bytes (by rw [show zeroL Try.prog 111 = some _ from elemPc.zero.choose_spec.1]; simp)
    (by rw [show zeroL Try.prog 111 = some _ from elemPc.zero.choose_spec.1]; intro y hy; cases hy; exact elemPc.zero.choose_spec.2) (r2.1.keep E1 fun _ _ h => h) (a' := some ⟨w2.heap.size, 0, none⟩) (n := 1) (c' := 1) (ys := [.int .i64 n1, .slice a2 l2 c2, .int .i64 n3, .int .i64 n4, .bool t5, .int .i64 n6, .slice a7 l7 c7]) rfl rfl (.inr ⟨_, _, rfl, cellsAt_newW w2 _ _⟩) (fun h => by cases h) (by omega) (by omega)
  rw [size_newW] at p4
  have E3 : Ext (fun k => k ∈ ob a) w2 w3 := (Ext.mono E1 fun _ _ h => h.elim).trans (Ext.mono p3 fun k _ hk => mem_ob.2 hk)
  refine ⟨(Blk.vnew h2 _).cell 4, a3, ln + 1, c3, w3, p1, ?_⟩
  have hna : b ∉ ob a := fun hm => by have := hr.2.1 b (mem_ob.1 hm); omega
  have h3 : Sd w3 b s i (e : Int) g a ln c := Blk.keep h2 E3 hna
  refine stW_in h3 (by show 0 + 4 + 1 ≤ 5; decide) fun w4 s4 k4 e4 => ?_
  have h4 : Sd w4 b s i (e : Int) g a3 (ln + 1) c3 := k4
  have hz := E2.size
  have hz3 := E3.size
  have hN := hr.2.2
  have hnew : ∀ k, blkOf a3 = some k → blkOf a = some k ∨ w2.heap.size ≤ k := by
    intro k hk
    rcases p4 with rfl | rfl
    · exact .inl hk
    · simp only [blkOf, Option.some.injEq] at hk; exact .inr (by omega)
  have hlow : ∀ k, blkOf a3 = some k → N ≤ k := fun k hk => by
    rcases hnew k hk with h1 | h1
    · exact hr.2.1 k h1
    · omega
  refine ⟨_, _, _, h4.cell 4, ⟨_, rfl⟩, a3, c3, ⟨⟨i, g, h4⟩, ⟨_, p2.keep e4 fun k hk hkb => ?_, hlow, by omega⟩, hb⟩, fun k hk => ?_, ?_⟩
  · have := hlow k hk; omega
  · rcases hnew k (mem_ob.1 hk) with h1 | h1
    · exact .inl (mem_ob.2 h1)
    · exact .inr (by omega)
  · exact ((Ext.of_below E2).trans (Ext.mono E3 fun k _ hk => .inr hk)).trans (Ext.mono e4 fun k _ hk => .inl hk)

/-- What a reading function leaves; K bounds the pieces when something is wrong. -/
def ResS (N : Nat) (w : World) (b : Nat) (s : ByteArray) (B : List Nat) (K : Nat) (r : Pr (St × Int)) : Ending → World → Prop := fun e w' => match r with
  | .bad n => (∃ x, e = .returned (.int .i64 x)) ∧ (∃ a ln c, SBd N w' b s n a ln c ∧ ln ≤ K ∧ ∀ k ∈ ob a, k ∈ B ∨ w.heap.size ≤ k) ∧ Ext (fun k => k = b ∨ k ∈ B) w w'
  | .ok ((j, g, out), x) => e = .returned (.int .i64 x) ∧ ∃ a ln c rs, SSt N w' b s j g a ln c rs out ∧ Step b B w w' (blks a rs)
/-- A state on the way: right, or wrong. -/
def Mid (N : Nat) (w0 w : World) (b : Nat) (s : ByteArray) (B : List Nat) (K e : Nat) : Prop := Ext (fun k => k = b ∨ k ∈ B) w0 w ∧ ∃ a ln c, SBd N w b s e a ln c ∧ ln ≤ K ∧ ∀ k ∈ ob a, k ∈ B ∨ w0.heap.size ≤ k
theorem Mid.below {N : Nat} {w0 w w' : World} {b : Nat} {s : ByteArray} {B : List Nat} {K e : Nat} (h : Mid N w0 w b s B K e) (k : Below w.heap.size w w') : Mid N w0 w' b s B K e := by
  obtain ⟨h1, a, ln, c, h2, h3, h4⟩ := h
  exact ⟨h1.trans (Ext.of_below k), a, ln, c, h2.below k, h3, h4⟩
theorem Mid.mono {N : Nat} {w0 w : World} {b : Nat} {s : ByteArray} {B : List Nat} {K K' e : Nat} (h : Mid N w0 w b s B K e) (hk : K ≤ K') : Mid N w0 w b s B K' e := by
  obtain ⟨h1, a, ln, c, h2, h3, h4⟩ := h
  exact ⟨h1, a, ln, c, h2, by omega, h4⟩
theorem Mid.res {N : Nat} {w0 w : World} {b : Nat} {s : ByteArray} {B : List Nat} {K e : Nat} (h : Mid N w0 w b s B K e) {r : Pr (St × Int)} (hr : r = .bad e) (x : Int) : ResS N w0 b s B K r (.returned (.int .i64 x)) w := by
  subst hr
  exact ⟨⟨x, rfl⟩, h.2, h.1⟩
theorem Mid.of {N : Nat} {w0 w : World} {b : Nat} {s : ByteArray} {B : List Nat} {K n : Nat} {e : Ending} (h : ResS N w0 b s B K (.bad n) e w) : (∃ x, e = .returned (.int .i64 x)) ∧ Mid N w0 w b s B K n := ⟨h.1, h.2.2, h.2.1⟩
/-- Behind a step that was right. -/
theorem Mid.step {N : Nat} {w0 w1 w : World} {b : Nat} {s : ByteArray} {B B1 : List Nat} {K e : Nat} (st : Step b B w0 w1 B1) (h : Mid N w1 w b s B1 K e) : Mid N w0 w b s B K e := by
  obtain ⟨h1, a, ln, c, h2, h3, h4⟩ := h
  refine ⟨stepBad st h1, a, ln, c, h2, h3, fun k hk => ?_⟩
  rcases h4 k hk with h5 | h5
  · exact st.2 k h5
  · exact .inr (Nat.le_trans st.1.size h5)
theorem Mid.start {N : Nat} {w0 w : World} {b : Nat} {s : ByteArray} {i i' g e : Nat} {a : Option Addr} {ln c : Nat} {rs : List Raw} {ps : List Pc} {w1 : World} {B : List Nat} {K : Nat} (st : Step b B w0 w1 (blks a rs)) (h : SSt N w1 b s i g a ln c rs ps) (hE : Ext (fun x => x = b) w1 w) (hd : Sd w b s i' (e : Int) g a ln c) (hl : ln ≤ K) : Mid N w0 w b s B K e :=
  Mid.step st ⟨Ext.mono hE fun _ _ hk => .inl hk, a, ln, c, h.bad hE hd, hl, fun k hk => .inl (List.mem_append_left _ hk)⟩
/-- Nothing but other blocks has changed. -/
theorem Mid.other {S : Nat → Prop} {N : Nat} {w0 w w' : World} {b : Nat} {s : ByteArray} {B : List Nat} {K e : Nat} (h : Mid N w0 w b s B K e) (k : Ext S w w') (hb : ¬ S b) (hB : ∀ x, S x → w0.heap.size ≤ x) (hS : ∀ a ln c, SBd N w b s e a ln c → ∀ x ∈ ob a, ¬ S x) : Mid N w0 w' b s B K e := by
  obtain ⟨h1, a, ln, c, h2, h3, h4⟩ := h
  exact ⟨h1.step k fun x hx h => by have := hB x h; omega, a, ln, c, h2.other k hb (hS a ln c h2), h3, h4⟩
/-- A piece is put, something being wrong. -/
theorem sput_bad {N : Nat} {w0 w : World} {b : Nat} {s : ByteArray} {B : List Nat} {K e : Nat} {K' : Nat} (h : Mid N w0 w b s B K e) (hK : K + 1 ≤ K') (hK' : K' ≤ 1001) {r : Pr (St × Int)} (hr : r = .bad e) {n1 : Int} {a2 : Option Addr} {l2 c2 : Nat} {n3 n4 : Int} {t5 : Bool} {n6 : Int} {a7 : Option Addr} {l7 c7 : Nat} :
    Cl Try.prog 113 [.pointer (some ⟨b, 0, none⟩), .agg #[.int .i64 n1, .slice a2 l2 c2, .int .i64 n3, .int .i64 n4, .bool t5, .int .i64 n6, .slice a7 l7 c7]] w
      (retG (fun (r112 : Value) (w111 : World) => ∃ (n110 : Int), r112 = .int .i64 n110 ∧ ResS N w0 b s B K' r (.returned (.int .i64 n110)) w111) fun c1 w1 => ResS N w0 b s B K' r (.panicked c1) w1) := by
  obtain ⟨h1, a, ln, c, h2, h3, h4⟩ := h
  refine (sadd_bad h2 (by omega) n1 a2 l2 c2 n3 n4 t5 n6 a7 l7 c7).use fun en w2 he => ?_
  obtain ⟨⟨x, rfl⟩, a', c', h5, h6, h7⟩ := he
  refine ⟨x, rfl, ?_⟩
  subst hr
  refine ⟨⟨x, rfl⟩, ⟨a', ln + 1, c', h5, by omega, fun k hk => ?_⟩, h1.step h7 fun k hk hk' => ?_⟩
  · rcases h6 k hk with h8 | h8
    · exact h4 k h8
    · exact .inr (Nat.le_trans h1.size h8)
  · rcases hk' with h8 | h8
    · exact .inl h8
    · rcases h4 k h8 with h9 | h9
      · exact .inr h9
      · omega
/-- A piece is put. -/
theorem sput_ok {N : Nat} {w0 w : World} {b : Nat} {s : ByteArray} {i g : Nat} {a : Option Addr} {ln c : Nat} {rs : List Raw} {ps : List Pc} {B0 : List Nat} {K : Nat} (h : SSt N w b s i g a ln c rs ps) (st : Step b B0 w0 w (blks a rs)) {q : Raw} {p : Pc} (hok : RawOk w q p) (hnd : q.blocks.Nodup) (hq : ∀ k ∈ q.blocks, w0.heap.size ≤ k ∧ k ∉ blks a rs) (hN0 : N ≤ w0.heap.size) (hl : ln ≤ 1000)
    {r : Pr (St × Int)} (hr : r = .ok ((i, g, ps ++ [p]), (ps.length : Int))) :
    Cl Try.prog 113 [.pointer (some ⟨b, 0, none⟩), .agg ⟨q.cells⟩] w
      (retG (fun (r112 : Value) (w111 : World) => ∃ (n110 : Int), r112 = .int .i64 n110 ∧ ResS N w0 b s B0 K r (.returned (.int .i64 n110)) w111) fun c1 w1 => ResS N w0 b s B0 K r (.panicked c1) w1) := by
  refine (sadd_ok h hok hnd (fun k hm => ⟨(hq k hm).2, by have := (hq k hm).1; omega⟩) hl).use fun e w8 he => ?_
  obtain ⟨rfl, a2, c2, p8, e8, hb8⟩ := he
  refine ⟨_, rfl, ?_⟩
  subst hr
  refine ⟨by rw [h.pcs.len'], a2, ln + 1, c2, _, p8, stepBad st e8, fun k hk' => ?_⟩
  rcases hb8 k hk' with h1 | h1 | h1
  · exact st.2 k h1
  · exact .inr (hq k h1).1
  · exact .inr (Nat.le_trans st.1.size h1)
/-- A piece of a set is put, its ranges being a new row. -/
theorem sputSet {N : Nat} {w0 w : World} {b : Nat} {s : ByteArray} {i g : Nat} {a : Option Addr} {ln c : Nat} {rs : List Raw} {ps : List Pc} {B0 : List Nat} {K : Nat} (h : SSt N w b s i g a ln c rs ps) (st : Step b B0 w0 w (blks a rs)) {sa : Option Addr} {sc sl : Nat} {set : List (Int × Int)} (hsl : sl = set.length) (hv : Vec w.heap 134 2 sa sl sc (rngC set)) (hf : ∀ k, blkOf sa = some k → w0.heap.size ≤ k ∧ k ∉ blks a rs) (hN0 : N ≤ w0.heap.size) (hl : ln ≤ 1000) {r : Pr (St × Int)}
    (hr : r = .ok ((i, g, ps ++ [pSet set]), (ps.length : Int))) : Cl Try.prog 113 [.pointer (some ⟨b, 0, none⟩), .agg #[.int .i64 1, .slice sa sl sc, .int .i64 0, .int .i64 0, .bool false, .int .i64 0, .slice none 0 0]] w
      (retG (fun (r112 : Value) (w111 : World) => ∃ (n110 : Int), r112 = .int .i64 n110 ∧ ResS N w0 b s B0 K r (.returned (.int .i64 n110)) w111) fun c1 w1 => ResS N w0 b s B0 K r (.panicked c1) w1) := by
  have hblk : (Raw.mk 1 sa sl sc 0 0 false 0 none 0 0).blocks = ob sa := by simp [Raw.blocks, ob, blkOf]
  exact sput_ok (q := ⟨1, sa, sl, sc, 0, 0, false, 0, none, 0, 0⟩) h st ⟨rfl, rfl, rfl, rfl, rfl, hv, Vec.nil _ _ _⟩ (by rw [hblk]; unfold ob; cases blkOf sa <;> simp) (fun k hk => by rw [hblk] at hk; exact hf k (mem_ob.1 hk)) hN0 hl hr
/-- A piece without rows is put. -/
theorem sputBare {N : Nat} {w0 w : World} {b : Nat} {s : ByteArray} {i g : Nat} {a : Option Addr} {ln c : Nat} {rs : List Raw} {ps : List Pc} {B0 : List Nat} {K : Nat} (h : SSt N w b s i g a ln c rs ps) (st : Step b B0 w0 w (blks a rs)) (kind : Int) {p : Pc} (hp : p = ⟨kind, [], 0, 0, false, 0, []⟩) (hN0 : N ≤ w0.heap.size) (hl : ln ≤ 1000) {r : Pr (St × Int)}
    (hr : r = .ok ((i, g, ps ++ [p]), (ps.length : Int))) : Cl Try.prog 113 [.pointer (some ⟨b, 0, none⟩), .agg #[.int .i64 kind, .slice none 0 0, .int .i64 0, .int .i64 0, .bool false, .int .i64 0, .slice none 0 0]] w
      (retG (fun (r112 : Value) (w111 : World) => ∃ (n110 : Int), r112 = .int .i64 n110 ∧ ResS N w0 b s B0 K r (.returned (.int .i64 n110)) w111) fun c1 w1 => ResS N w0 b s B0 K r (.panicked c1) w1) := by
  subst hp
  have hblk : (Raw.mk kind none 0 0 0 0 false 0 none 0 0).blocks = [] := by simp [Raw.blocks, ob, blkOf]
  exact sput_ok (q := ⟨kind, none, 0, 0, 0, 0, false, 0, none, 0, 0⟩) h st ⟨rfl, rfl, rfl, rfl, rfl, Vec.nil _ _ _, Vec.nil _ _ _⟩ (by rw [hblk]; simp) (fun k hk => by rw [hblk] at hk; cases hk) hN0 hl hr
/-- A piece with kids is put. -/
theorem sputKids {N : Nat} {w0 w : World} {b : Nat} {s : ByteArray} {i g : Nat} {a : Option Addr} {ln c : Nat} {rs : List Raw} {ps : List Pc} {B0 : List Nat} {K : Nat} (h : SSt N w b s i g a ln c rs ps) (st : Step b B0 w0 w (blks a rs)) {ka : Option Addr} {kl kc : Nat} {kids : List Int} (hk : Kids w0 w (blks a rs) ka kl kc kids) (hN0 : N ≤ w0.heap.size) (hl : ln ≤ 1000)
    {n m1 m2 m3 : Int} {z : Bool} {p : Pc} (hp : p = ⟨n, [], m1, m2, z, m3, kids⟩) {r : Pr (St × Int)} (hr : r = .ok ((i, g, ps ++ [p]), (ps.length : Int))) :
    Cl Try.prog 113 [.pointer (some ⟨b, 0, none⟩), .agg #[.int .i64 n, .slice none 0 0, .int .i64 m1, .int .i64 m2, .bool z, .int .i64 m3, .slice ka kl kc]] w
      (retG (fun (r112 : Value) (w111 : World) => ∃ (n110 : Int), r112 = .int .i64 n110 ∧ ResS N w0 b s B0 K r (.returned (.int .i64 n110)) w111) fun c1 w1 => ResS N w0 b s B0 K r (.panicked c1) w1) := by
  subst hp
  have hblk : (Raw.mk n none 0 0 m1 m2 z m3 ka kl kc).blocks = ob ka := by simp [Raw.blocks, ob, blkOf]
  exact sput_ok (q := ⟨n, none, 0, 0, m1, m2, z, m3, ka, kl, kc⟩) h st ⟨rfl, rfl, rfl, rfl, rfl, Vec.nil _ _ _, hk.1⟩ (by rw [hblk]; unfold ob; cases blkOf ka <;> simp) (fun k hm => by rw [hblk] at hm; exact hk.2.2 k (mem_ob.1 hm)) hN0 hl hr
end Go.Proofs.Ytngbiaeliphdjaa.V
/- The reference's reader: atoms. No statement of the seat is proved here. -/
namespace Go.Vc
set_option linter.unusedVariables false
theorem runsF_skip {f : Nat → Bool} : ∀ (k i j : Nat), k = j - i → i ≤ j → j ≤ 256 → (∀ n, i ≤ n → n < j → f n = false) → runsF f i = runsF f j
  | 0, i, j, hk, hij, _, _ => by rw [show i = j from by omega]
  | k + 1, i, j, hk, hij, hj, h => by
    rw [runsF_no (by omega) (h i (Nat.le_refl _) (by omega))]
    exact runsF_skip k (i + 1) j (by omega) (by omega) hj fun n h1 h2 => h n (by omega) h2
end Go.Vc
namespace Go.Proofs.Ytngbiaeliphdjaa.V
open Go.Vc Go.Proofs Go.RowKit
set_option linter.unusedVariables false
set_option linter.unusedSimpArgs false
theorem runs_one {c : Nat} (hc : c < 256) : runs (inR [(c, c)]) = [((c : Int), (c : Int))] := by
  have hf : ∀ n, inR [(c, c)] n = decide (n = c) := by
    intro n; rw [inR_one]; apply decide_eq_decide.2; omega
  have h1 : runs (inR [(c, c)]) = runsF (inR [(c, c)]) c := runsF_skip c 0 c rfl (by omega) (by omega) fun n _ h => by rw [hf]; exact decide_eq_false (by omega)
  have h2 : runEnd (inR [(c, c)]) c = c := runEnd_no (by rw [hf]; exact decide_eq_false (by omega))
  rw [h1, runsF_yes hc (by rw [hf]; exact decide_eq_true rfl), h2]
  rw [runsF_skip (256 - (c + 1)) (c + 1) 256 rfl (by omega) (Nat.le_refl _) fun n h _ => by rw [hf]; exact decide_eq_false (by omega)]
  rw [runsF_out (by omega)]
/-- The contract of alt, at most d groups deep. -/
def PatS (d : Nat) : Prop := ∀ (N : Nat) (w : World) (b : Nat) (s : ByteArray) (i g : Nat) (a : Option Addr) (ln c : Nat) (rs : List Raw) (ps : List Pc) (dp : Int), SSt N w b s i g a ln c rs ps → s.size ≤ 120 → i ≤ s.size → g ≤ 9 → dp = 6 - (d : Int) → d ≤ 6 → ln + 4 * (s.size - i) + 4 * d ≤ 900 →
  Cl Try.prog 77 [.pointer (some ⟨b, 0, none⟩), .int .i64 dp] w (ResS N w b s (blks a rs) (904 + 4 * d) (patP (L s) d (i, g, ps)))
section
variable {N : Nat} {w0 w : World} {b : Nat} {s : ByteArray} {B : List Nat} {K e : Nat}
theorem mid_is (h : Mid N w0 w b s B K e) (ch : Int) : Cl Try.prog 112 [.pointer (some ⟨b, 0, none⟩), .int .u8 ch] w (RetB (.bool false) w) := by
  obtain ⟨_, a, ln, c, ⟨⟨i, g, h⟩, _⟩, _⟩ := h
  exact is_bad h ch
theorem mid_fail (h : Mid N w0 w b s B K e) : Cl Try.prog 79 [.pointer (some ⟨b, 0, none⟩)] w (RetB (.tuple #[]) w) := by
  obtain ⟨_, a, ln, c, ⟨⟨i, g, h⟩, _⟩, _⟩ := h
  exact sfail_bad h
theorem mid_more (h : Mid N w0 w b s B K e) : Cl Try.prog 78 [.pointer (some ⟨b, 0, none⟩)] w (RetB (.bool false) w) := by
  obtain ⟨_, a, ln, c, ⟨⟨i, g, h⟩, _⟩, _⟩ := h
  exact more_bad h
theorem mid_cell (h : Mid N w0 w b s B K e) : cellH w.heap b 2 = some (.int .i64 (e : Int)) := by
  obtain ⟨_, a, ln, c, ⟨⟨i, g, h⟩, _⟩, _⟩ := h
  exact h.cell 2
end
theorem SSt.mv {N : Nat} {w : World} {b : Nat} {s : ByteArray} {i g : Nat} {a : Option Addr} {ln c : Nat} {rs : List Raw} {ps : List Pc} {K : World → Prop} {n : Int} (h : SSt N w b s i g a ln c rs ps) (hj : i ≤ 1000) (hn : n = i) (hK : ∀ w', SSt N w' b s (i + 1) g a ln c rs ps → Ext (fun k => k = b) w w' → K w') : stW b (0 + 1) [.int .i64 (IntKind.wrap .i64 (n + 1))] K w := by
  subst hn
  exact h.rd.mv (j := i + 1) (by rw [w64 (by omega)]; omega) fun w'' s'' k'' e'' => hK w'' (h.upd e'' k'') e''
/-- A kid alone, as a new row. -/
theorem kidOne {w0 w w' : World} {B : List Nat} (hw : w0.heap.size ≤ w.heap.size) (hB : ∀ k ∈ B, k < w.heap.size) {x : Int} (k : Blk w'.heap w.heap.size 3 [.int .i64 x]) : Kids w0 w' B (some ⟨w.heap.size, 0, none⟩) 1 1 [x] :=
  ⟨⟨rfl, Nat.le_refl _, .inr ⟨_, _, rfl, k, rfl, rfl⟩⟩, rfl, fun q hq => by
    simp only [blkOf, Option.some.injEq] at hq
    subst hq
    exact ⟨hw, fun hm => by have := hB _ hm; omega⟩⟩
theorem satom_ok {N : Nat} {w : World} {b : Nat} {s : ByteArray} {i g : Nat} {a : Option Addr} {ln c : Nat} {rs : List Raw} {ps : List Pc} {dp : Int} (d : Nat) (hsub : ∀ d', d = d' + 1 → PatS d') (h : SSt N w b s i g a ln c rs ps) (hs : s.size ≤ 120) (hi : i < s.size) (hg : g ≤ 9) (hdp : dp = 6 - (d : Int)) (hd6 : d ≤ 6) (hbd : ln + 4 * (s.size - i) + 4 * d ≤ 900) (h124 : at_ (L s) i ≠ 124) (h41 : at_ (L s) i ≠ 41) :
    Cl Try.prog 149 [.pointer (some ⟨b, 0, none⟩), .int .i64 dp] w (ResS N w b s (blks a rs) (901 + 4 * d) (atomP (subP (L s) d) (decide (d = 0)) (L s) i g ps)) := by
  apply vc149
  unfold V149
  have hsz := size_L s
  have hlen' := h.pcs.len'
  have hB := h.pcs.lt
  have hbl := h.rd.lt
  have hc := at_lt (L s) i
  generalize hR : atomP (subP (L s) d) (decide (d = 0)) (L s) i g ps = R
  unfold atomP at hR
  refine drw_in fun w4 q4 e4 => ?_
  have B4 : Below w.heap.size w w4 := Ext.to (Below.refl _ _) e4 fun _ h => h.elim
  have h4 := h.below B4
  refine ⟨s, h4.rd.cell 0, i, h4.rd.cell 1, ⟨by omega, by omega⟩, ?_⟩
  rw [byteI s (j := i) rfl]
  obtain ⟨w8, hr8, s8, k8, e8⟩ := make256 w4
  generalize hkb : w4.heap.size = kb at *
  have B8 : Below w.heap.size w w8 := Ext.to B4 e8 fun _ h => h.elim
  have h8 := h.below B8
  have hkb' : w.heap.size ≤ kb := by have := B4.size; omega
  have hbk : b ≠ kb := by omega
  refine ⟨_, _, _, w8, hr8, ?_⟩
  clear hr8
  have hst8 : Step b (blks a rs) w w8 (blks a rs) := Step.of_below B8
  -- what goes wrong at once
  have hfail : R = .bad i → Cl Try.prog 79 [.pointer (some ⟨b, 0, none⟩)] w8 (retG (fun (r81 : Value) (w80 : World) => r81 = .tuple #[] ∧ ResS N w b s (blks a rs) (901 + 4 * d) R (.returned (.int .i64 0)) w80) fun c1 w1 => ResS N w b s (blks a rs) (901 + 4 * d) R (.panicked c1) w1) := by
    intro hb
    refine (sfail_ok h8.rd).use fun e w9 he => ?_
    obtain ⟨rfl, h9, e9⟩ := he
    exact ⟨rfl, (Mid.start hst8 h8 e9 h9 (by omega)).res hb 0⟩
  -- a set's piece
  have hset : ∀ {w' : World} {j : Nat} {f : Nat → Bool}, SSt N w' b s j g a ln c rs ps → Step b (blks a rs) w w' (blks a rs) → Blk w'.heap kb 4 (b256 f) → R = .ok ((j, g, ps ++ [pSet (runs f)]), (ps.length : Int)) →
      Cl Try.prog 167 ([.slice (some ⟨kb, 0, none⟩) 256 256]) w' (retG (fun (r64 : Value) (w63 : World) => ∃ (a62 : Option Addr), ∃ (l62 : Nat), ∃ (c62 : Nat), r64 = .slice a62 l62 c62 ∧ Cl Try.prog 113 ([.pointer (some ⟨b, 0, none⟩), .agg #[.int .i64 1, .slice a62 l62 c62, .int .i64 0, .int .i64 0, .bool false, .int .i64 0, .slice none 0 0]]) w63 (retG (fun (r67 : Value) (w66 : World) => ∃ (n65 : Int), r67 = .int .i64 n65 ∧ ResS N w b s (blks a rs) (901 + 4 * d) R (.returned (.int .i64 n65)) w66) fun c1 w1 => ResS N w b s (blks a rs) (901 + 4 * d) R (.panicked c1) w1)) fun c1 w1 => ResS N w b s (blks a rs) (901 + 4 * d) R (.panicked c1) w1) := by
    intro w' j f h' st' k' hr
    refine (sset_ok k').use fun e w9 he => ?_
    obtain ⟨sa, sc, rfl, hrow, b9⟩ := he
    refine ⟨sa, _, sc, rfl, sputSet (h'.below b9) (Step.trans st' (Step.of_below b9)) rfl hrow.1 (fun k hk => ?_) h.hN (by omega) hr⟩
    have := hrow.2.1 k hk
    have := st'.1.size
    exact ⟨by omega, fun hm => by have := hB k hm; omega⟩
  refine ⟨fun g1 => ?_, fun g1 => ⟨fun g2 => ?_, fun g2 => ⟨fun g3 => ?_, fun g3 => ⟨fun g4 => ?_, fun g4 => ⟨fun g5 => ?_, fun g5 => ⟨fun g6 => ?_, fun g6 => ⟨fun g7 => ?_, fun g7 => ⟨fun g8 => ?_, fun g8 => ⟨fun g9 => ?_, fun g9 => ⟨fun g10 => ?_, fun g10 => ⟨fun g11 => ?_, fun g11 => ⟨fun g12 => ?_, fun g12 => ?_⟩⟩⟩⟩⟩⟩⟩⟩⟩⟩⟩⟩
  all_goals try simp only [beq_iff_eq, beq_eq_false_iff_ne, ne_eq] at g1
  all_goals try simp only [beq_iff_eq, beq_eq_false_iff_ne, ne_eq] at g2
  all_goals try simp only [beq_iff_eq, beq_eq_false_iff_ne, ne_eq] at g3
  all_goals try simp only [beq_iff_eq, beq_eq_false_iff_ne, ne_eq] at g4
  all_goals try simp only [beq_iff_eq, beq_eq_false_iff_ne, ne_eq] at g5
  all_goals try simp only [beq_iff_eq, beq_eq_false_iff_ne, ne_eq] at g6
  all_goals try simp only [beq_iff_eq, beq_eq_false_iff_ne, ne_eq] at g7
  all_goals try simp only [beq_iff_eq, beq_eq_false_iff_ne, ne_eq] at g8
  all_goals try simp only [beq_iff_eq, beq_eq_false_iff_ne, ne_eq] at g9
  all_goals try simp only [beq_iff_eq, beq_eq_false_iff_ne, ne_eq] at g10
  all_goals try simp only [beq_iff_eq, beq_eq_false_iff_ne, ne_eq] at g11
  all_goals try simp only [beq_iff_eq, beq_eq_false_iff_ne, ne_eq] at g12
  · rw [if_pos (by omega)] at hR
    refine ⟨g, h8.rd.cell 3, fun g2 => ?_, fun g2 => ⟨fun g3 => ?_, fun g3 => ?_⟩⟩
    · simp only [beq_iff_eq] at g2
      rw [if_pos (.inl (by omega))] at hR
      exact hfail hR.symm
    · simp only [beq_iff_eq] at g3
      rw [if_pos (.inr (decide_eq_true (by omega)))] at hR
      exact hfail hR.symm
    simp only [beq_eq_false_iff_ne, ne_eq] at g2 g3
    obtain ⟨d', rfl⟩ : ∃ d', d = d' + 1 := ⟨d - 1, by omega⟩
    rw [if_neg (by simp; omega)] at hR
    refine ⟨_, h8.rd.cell 1, h8.mv (by omega) rfl fun w9 p9 e9 => ⟨_, p9.rd.cell 3, ?_⟩⟩
    dsimp only
    rw [show IntKind.wrap .i64 ((g : Int) + 1) = ((g + 1 : Nat) : Int) from by rw [w64 (by omega)]; omega]
    refine stW_in p9.rd (by show 0 + 3 + 1 ≤ 5; decide) fun w10 s10 k10 e10 => ?_
    have p10 : SSt N w10 b s (i + 1) (g + 1) a ln c rs ps := p9.upd e10 k10
    refine ⟨_, p10.rd.cell 3, ?_⟩
    rw [show IntKind.wrap .i64 (dp + 1) = dp + 1 from w64 (by omega)]
    have st10 := Step.trans (Step.trans hst8 (Step.of_ext e9)) (Step.of_ext (B := blks a rs) e10)
    refine (hsub d' rfl N w10 b s (i + 1) (g + 1) a ln c rs ps (dp + 1) p10 hs (by omega) (by omega) (by omega) (by omega) (by omega)).use fun e w11 he => ?_
    have hsubP : subP (L s) (d' + 1) (i + 1, g + 1, ps) = patP (L s) d' (i + 1, g + 1, ps) := rfl
    rw [hsubP] at hR
    cases hq : patP (L s) d' (i + 1, g + 1, ps) with
    | bad n =>
      rw [hq] at he hR
      obtain ⟨⟨x, rfl⟩, hm⟩ := Mid.of he
      have hm := Mid.step st10 hm
      refine ⟨x, rfl, (mid_is hm 41).ret fun w12 b12 => ⟨false, rfl, fun _ => ?_, fun g => by simp at g⟩⟩
      have hm := hm.below b12
      refine (mid_fail hm).ret fun w13 b13 => ⟨rfl, newC_in fun w14 s14 k14 e14 => ?_⟩
      have hm := (hm.below b13).below (Ext.to (Below.refl _ _) e14 fun _ h => h.elim)
      exact sput_bad hm (by omega) (by omega) hR.symm
    | ok y =>
    obtain ⟨⟨j, g', out'⟩, x⟩ := y
    have hlen := patP_len (L s) d' _ _ _ _ _ _ _ (by omega) hq
    rw [hq] at he hR
    simp only [] at hR
    obtain ⟨rfl, a11, ln11, c11, rs11, p11, st11⟩ := he
    have hln11 := p11.pcs.len'
    have st11 := Step.trans st10 st11
    refine ⟨x, rfl, ?_⟩
    by_cases hy : j < s.size ∧ at_ (L s) j = 41
    · rw [if_neg (by omega), if_pos hy.2] at hR
      refine (is_yes p11.rd hy.1 (by omega) hy.2 rfl).use fun e w12 he => ?_
      obtain ⟨rfl, h12, e12⟩ := he
      have p12 := p11.upd e12 h12
      have st12 := Step.trans st11 (Step.of_ext e12)
      refine ⟨true, rfl, fun g => by simp at g, fun _ => newC_in fun w13 s13 k13 e13 => ?_⟩
      have b13 : Below w12.heap.size w12 w13 := Ext.to (Below.refl _ _) e13 fun _ h => h.elim
      exact sputKids (p12.below b13) (Step.trans st12 (Step.of_below b13)) (kidOne st12.1.size p12.pcs.lt k13) h.hN (by omega) rfl hR.symm
    · have hRb : R = .bad j := by
        rw [← hR]
        by_cases hl : (L s).length ≤ j
        · rw [if_pos hl]; congr 1; omega
        · rw [if_neg hl, if_neg (by omega)]
      refine (is_no p11.rd (ch := 41) hy rfl).ret fun w12 b12 => ⟨false, rfl, fun _ => ?_, fun g => by simp at g⟩
      have p12 := p11.below b12
      refine (sfail_ok p12.rd).use fun e w13 he => ?_
      obtain ⟨rfl, h13, e13⟩ := he
      have hm := Mid.start (Step.trans st11 (Step.of_below b12)) p12 e13 h13 (K := 900 + 4 * (d' + 1)) (by omega)
      refine ⟨rfl, newC_in fun w14 s14 k14 e14 => ?_⟩
      exact sput_bad (hm.below (Ext.to (Below.refl _ _) e14 fun _ h => h.elim)) (by omega) (by omega) hRb
  · rw [if_neg (by omega), if_pos (by omega), setP_eq (by omega)] at hR
    refine ⟨_, h8.rd.cell 1, h8.mv (by omega) rfl fun w9 p9 e9 => ?_⟩
    have st9 := Step.trans hst8 (Step.of_ext (B := blks a rs) e9)
    refine (sclass_ok p9.rd hs (by omega)).use fun e w10 he => ?_
    obtain ⟨e10, he⟩ := he
    cases hq : clsFin (decide (at_ (L s) (i + 1) = 94)) (clsP (L s) (if at_ (L s) (i + 1) = 94 then i + 1 + 1 else i + 1) true []) with
    | bad n =>
      rw [hq] at he
      rw [show i + 2 = i + 1 + 1 from rfl, hq] at hR
      obtain ⟨rfl, j, h10⟩ := he
      exact ⟨_, _, _, rfl, sput_bad (Mid.start st9 p9 e10 h10 (K := 900 + 4 * d) (by omega)) (by omega) (by omega) hR.symm⟩
    | ok y =>
      obtain ⟨j, set⟩ := y
      rw [hq] at he
      rw [show i + 2 = i + 1 + 1 from rfl, hq] at hR
      obtain ⟨sa, sc, rfl, hrow, h10⟩ := he
      have p10 := p9.upd e10 h10
      refine ⟨sa, _, sc, rfl, sputSet p10 (Step.trans st9 (Step.of_ext e10)) rfl hrow.1 (fun k hk => ?_) h.hN (by omega) hR.symm⟩
      have := hrow.2.1 k hk
      have := st9.1.size
      exact ⟨by omega, fun hm => by have := hB k hm; omega⟩
  · rw [if_neg (by omega), if_neg (by omega), if_neg (by omega), if_pos (by omega)] at hR
    refine ⟨_, h8.rd.cell 1, h8.mv (by omega) rfl fun w9 p9 e9 => ?_⟩
    exact sputBare p9 (Step.trans hst8 (Step.of_ext e9)) 6 rfl h.hN (by omega) hR.symm
  · rw [if_neg (by omega), if_neg (by omega), if_neg (by omega), if_neg (by omega), if_pos (by omega)] at hR
    refine ⟨_, h8.rd.cell 1, h8.mv (by omega) rfl fun w9 p9 e9 => ?_⟩
    exact sputBare p9 (Step.trans hst8 (Step.of_ext e9)) 7 rfl h.hN (by omega) hR.symm
  · rw [if_neg (by omega), if_neg (by omega), if_pos (by omega)] at hR
    refine (srange_ok k8 0 255 (by decide) rfl rfl).use fun e w9 he => ?_
    obtain ⟨rfl, k9, e9⟩ := he
    have p9 : SSt N w9 b s i g a ln c rs ps := h8.other e9 hbk fun k hk => by have := hB k hk; omega
    have E9 : Ext (fun x => x = b) w w9 := (Ext.of_below B8).step e9 fun x hx h => by omega
    refine ⟨rfl, kb, 0, ⟨rfl, by decide, by decide⟩, ?_⟩
    refine stW_in k9 (by rw [b256_length]; decide) fun w10 s10 k10 e10 => ?_
    have p10 : SSt N w10 b s i g a ln c rs ps := p9.other e10 hbk fun k hk => by have := hB k hk; omega
    have E10 : Ext (fun x => x = b) w w10 := E9.step e10 fun x hx h => by omega
    have k10' : Blk w10.heap kb 4 (b256 (inR [(0, 9), (11, 255)])) := by
      rw [show segSet (b256 fun n => false || inR [(0, 255)] n) (0 + 10) [.bool false] = (b256 fun n => false || inR [(0, 255)] n).set 10 (.bool false) from rfl, b256_set] at k10
      rw [b256_ext (g := inR [(0, 9), (11, 255)]) fun n hn => ?_] at k10
      · exact k10
      · by_cases h10 : n = 10
        · subst h10; rfl
        · rw [if_neg h10, Bool.false_or, inR_one, show ([(0, 9), (11, 255)] : Rs) = [(0, 9)] ++ [(11, 255)] from rfl, inR_app, inR_one, inR_one]
          rw [Bool.eq_iff_iff]
          simp only [decide_eq_true_eq, Bool.or_eq_true]
          omega
    refine ⟨_, p10.rd.cell 1, p10.mv (by omega) rfl fun w11 p11 e11 => ?_⟩
    exact hset p11 (Step.of_ext (E10.trans e11)) (k10'.keep e11 hbk.symm) hR.symm
  · rw [if_neg (by omega), if_neg (by omega), if_neg (by omega), if_neg (by omega), if_neg (by omega), if_pos (by omega)] at hR
    refine ⟨_, h8.rd.cell 1, h8.mv (by omega) rfl fun w9 p9 e9 => ?_⟩
    have k9 := k8.keep e9 hbk.symm
    have st9 := Step.trans hst8 (Step.of_ext (B := blks a rs) e9)
    refine (sescape_ok p9.rd hs (by omega) k9 hbk.symm).use fun e w10 he => ?_
    obtain ⟨e10, he⟩ := he
    have E9 : Ext (fun x => x = b) w w9 := (Ext.of_below B8).trans e9
    have E10 : Ext (fun x => x = b) w w10 := E9.step e10 fun x hx h => by omega
    cases hq : escP (L s) (i + 1) with
    | bad n =>
      rw [hq] at he hR
      obtain ⟨rfl, ⟨j, h10⟩, f', k10⟩ := he
      have hm : Mid N w w10 b s (blks a rs) (900 + 4 * d) n := Mid.start (Step.refl _ _ _) h E10 h10 (by omega)
      refine ⟨_, _, rfl, (sset_ok k10).use fun e w11 he => ?_⟩
      obtain ⟨sa, sc, rfl, hrow, b11⟩ := he
      exact ⟨sa, _, sc, rfl, sput_bad (hm.below b11) (by omega) (by omega) hR.symm⟩
    | ok y =>
      obtain ⟨j, rs2, o⟩ := y
      rw [hq] at he hR
      have key : ∀ {n70 : Int} {t71 : Bool}, Sd w10 b s j (-1) g a ln c → Blk w10.heap kb 4 (b256 fun n => false || inR rs2 n) → SSt N w10 b s j g a ln c rs ps ∧ Blk w10.heap kb 4 (b256 (inR rs2)) := by
        intro n70 t71 h10 k10
        have hpcs := h.pcs.keep (S := fun x => x = b) E10 fun k hk hkb => h.notb (hkb ▸ hk)
        refine ⟨⟨h10, hpcs, h.lt, Nat.le_trans h.hN E10.size⟩, ?_⟩
        rw [b256_ext (g := inR rs2) fun n _ => by rw [Bool.false_or]] at k10
        exact k10
      cases o with
      | none =>
        obtain ⟨rfl, h10, k10⟩ := he
        obtain ⟨p10, k10⟩ := key (n70 := 0) (t71 := false) h10 k10
        exact ⟨_, _, rfl, hset p10 (Step.of_ext E10) k10 hR.symm⟩
      | some v =>
        obtain ⟨rfl, h10, k10⟩ := he
        obtain ⟨p10, k10⟩ := key (n70 := 0) (t71 := false) h10 k10
        exact ⟨_, _, rfl, hset p10 (Step.of_ext E10) k10 hR.symm⟩
  all_goals rw [if_neg (by omega), if_neg (by omega), if_neg (by omega), if_neg (by omega), if_neg (by omega), if_neg (by omega)] at hR
  · exact hfail (by rw [← hR, if_pos (by omega)])
  · exact hfail (by rw [← hR, if_pos (by omega)])
  · exact hfail (by rw [← hR, if_pos (by omega)])
  · exact hfail (by rw [← hR, if_pos (by omega)])
  · exact hfail (by rw [← hR, if_pos (by omega)])
  · exact hfail (by rw [← hR, if_pos (by omega)])
  · rw [if_neg (by omega)] at hR
    rw [w64 (n := (at_ (L s) i : Int)) (by omega)]
    refine ⟨kb, 0, ⟨rfl, by omega, by omega⟩, st_one k8 hc (by omega) fun w9 s9 k9 e9 => ?_⟩
    have p9 : SSt N w9 b s i g a ln c rs ps := h8.other e9 hbk fun k hk => by have := hB k hk; omega
    have E9 : Ext (fun x => x = b) w w9 := (Ext.of_below B8).step e9 fun x hx h => by omega
    refine ⟨_, p9.rd.cell 1, p9.mv (by omega) rfl fun w10 p10 e10 => ?_⟩
    have k10 := k9.keep e10 hbk.symm
    rw [b256_ext (g := inR [(at_ (L s) i, at_ (L s) i)]) fun n _ => by rw [Bool.false_or]] at k10
    exact hset p10 (Step.of_ext (E9.trans e10)) k10 (by rw [runs_one hc]; exact hR.symm)
end Go.Proofs.Ytngbiaeliphdjaa.V
/- The reference's reader: an atom with its count. No statement of the seat is proved here. -/
namespace Go.Proofs.Ytngbiaeliphdjaa.V
open Go.Vc Go.Proofs Go.RowKit
set_option linter.unusedVariables false
set_option linter.unusedSimpArgs false
/-- A state on the way that is wrong; some blocks are not the pieces'. -/
def MidA (N : Nat) (w0 w : World) (b : Nat) (s : ByteArray) (B : List Nat) (K e : Nat) (X : Nat → Prop) : Prop := Ext (fun k => k = b ∨ k ∈ B) w0 w ∧ ∃ a ln c, SBd N w b s e a ln c ∧ ln ≤ K ∧ (∀ k ∈ ob a, k ∈ B ∨ w0.heap.size ≤ k) ∧ ∀ k ∈ ob a, ¬ X k
section
variable {N : Nat} {w0 w w' : World} {b : Nat} {s : ByteArray} {B : List Nat} {K e : Nat} {X S : Nat → Prop}
theorem MidA.mid (h : MidA N w0 w b s B K e X) : Mid N w0 w b s B K e := by
  obtain ⟨h1, a, ln, c, h2, h3, h4, h5⟩ := h
  exact ⟨h1, a, ln, c, h2, h3, h4⟩
theorem Mid.avoid (h : Mid N w0 w b s B K e) (hX : ∀ x, X x → x ∉ B ∧ x < w0.heap.size) : MidA N w0 w b s B K e X := by
  obtain ⟨h1, a, ln, c, h2, h3, h4⟩ := h
  refine ⟨h1, a, ln, c, h2, h3, h4, fun k hk hx => ?_⟩
  have := hX k hx
  rcases h4 k hk with h | h
  · exact this.1 h
  · omega
theorem Mid.fresh (h : Mid N w0 w b s B K e) (hX : ∀ x, X x → w.heap.size ≤ x) : MidA N w0 w b s B K e X := by
  obtain ⟨h1, a, ln, c, h2, h3, h4⟩ := h
  refine ⟨h1, a, ln, c, h2, h3, h4, fun k hk hx => ?_⟩
  obtain ⟨_, ⟨xs, hr⟩, _⟩ := h2
  have := hr.1.lt k (mem_ob.1 hk)
  have := hX k hx
  omega
theorem MidA.step {w1 : World} {B1 : List Nat} (st : Step b B w0 w1 B1) (h : MidA N w1 w b s B1 K e X) : MidA N w0 w b s B K e X := by
  obtain ⟨h1, a, ln, c, h2, h3, h4, h5⟩ := h
  refine ⟨stepBad st h1, a, ln, c, h2, h3, fun k hk => ?_, h5⟩
  rcases h4 k hk with h6 | h6
  · exact st.2 k h6
  · exact .inr (Nat.le_trans st.1.size h6)
theorem MidA.other (h : MidA N w0 w b s B K e X) (k : Ext S w w') (hS : ∀ x, S x → X x) (hb : ¬ X b) (h0 : ∀ x, X x → w0.heap.size ≤ x) : MidA N w0 w' b s B K e X := by
  obtain ⟨h1, a, ln, c, h2, h3, h4, h5⟩ := h
  exact ⟨h1.step k fun x hx h => by have := h0 x (hS x h); omega, a, ln, c, h2.other k (fun h => hb (hS b h)) fun x hx h => h5 x hx (hS x h), h3, h4, h5⟩
theorem MidA.below (h : MidA N w0 w b s B K e X) (k : Below w.heap.size w w') : MidA N w0 w' b s B K e X := by
  obtain ⟨h1, a, ln, c, h2, h3, h4, h5⟩ := h
  exact ⟨h1.trans (Ext.of_below k), a, ln, c, h2.below k, h3, h4, h5⟩
theorem MidA.start {i i' g : Nat} {a : Option Addr} {ln c : Nat} {rs : List Raw} {ps : List Pc} {w1 : World} (st : Step b B w0 w1 (blks a rs)) (h : SSt N w1 b s i g a ln c rs ps) (hE : Ext (fun x => x = b) w1 w) (hd : Sd w b s i' (e : Int) g a ln c) (hl : ln ≤ K) (hX : ∀ x, X x → x ∉ blks a rs) : MidA N w0 w b s B K e X :=
  MidA.step st ⟨Ext.mono hE fun _ _ hk => .inl hk, a, ln, c, h.bad hE hd, hl, fun k hk => .inl (List.mem_append_left _ hk), fun k hk hx => hX k hx (List.mem_append_left _ hk)⟩
end
theorem spiece_ok {N : Nat} {w : World} {b : Nat} {s : ByteArray} {i g : Nat} {a : Option Addr} {ln c : Nat} {rs : List Raw} {ps : List Pc} {dp : Int} (d : Nat) (hsub : ∀ d', d = d' + 1 → PatS d') (hsl : SubOk (L s) (subP (L s) d)) (h : SSt N w b s i g a ln c rs ps) (hs : s.size ≤ 120) (hi : i < s.size) (hg : g ≤ 9) (hdp : dp = 6 - (d : Int)) (hd6 : d ≤ 6) (hbd : ln + 4 * (s.size - i) + 4 * d ≤ 900) (h124 : at_ (L s) i ≠ 124) (h41 : at_ (L s) i ≠ 41) :
    Cl Try.prog 128 [.pointer (some ⟨b, 0, none⟩), .int .i64 dp] w (ResS N w b s (blks a rs) (902 + 4 * d) (pieceP (subP (L s) d) (decide (d = 0)) (L s) i g ps)) := by
  apply vc128
  unfold V128
  have hsz := size_L s
  have hlen' := h.pcs.len'
  have hB := h.pcs.lt
  have hbl := h.rd.lt
  generalize hR : pieceP (subP (L s) d) (decide (d = 0)) (L s) i g ps = R
  unfold pieceP at hR
  refine (satom_ok d hsub h hs hi hg hdp hd6 hbd h124 h41).use fun e w5 he => ?_
  cases hq : atomP (subP (L s) d) (decide (d = 0)) (L s) i g ps with
  | bad n =>
    rw [hq] at he hR
    simp only [] at hR
    obtain ⟨⟨x, rfl⟩, hm⟩ := Mid.of he
    refine ⟨x, rfl, newC_in fun w8 s8 k8 e8 => ?_⟩
    have hA : MidA N w w5 b s (blks a rs) (901 + 4 * d) n (fun k => k = w5.heap.size) := hm.fresh fun x hx => by omega
    have hz := hm.1.size
    have hA := hA.below (Ext.to (Below.refl _ _) e8 fun _ h => h.elim)
    refine stW_in k8 (by decide) fun w9 s9 k9 e9 => ?_
    have hA := hA.other e9 (fun _ h => h) (by omega) fun x hx => by omega
    have hm := hA.mid
    refine (mid_is hm 42).ret fun w11 b11 => ⟨false, rfl, fun _ => False, ⟨fun g => (by cases g), fun _ => ?_⟩, fun _ _ h => h.elim⟩
    have hm := hm.below b11
    refine (mid_is hm 43).ret fun w12 b12 => ⟨false, rfl, fun g => (by cases g), fun _ => ?_⟩
    have hm := hm.below b12
    refine (mid_is hm 63).ret fun w13 b13 => ⟨false, rfl, fun g => (by cases g), fun _ => ?_⟩
    have hm := hm.below b13
    refine (mid_is hm 123).ret fun w14 b14 => ⟨false, rfl, fun g => (by cases g), fun _ => ?_⟩
    exact ((hm.below b14).mono (by omega)).res hR.symm x
  | ok y =>
  obtain ⟨⟨j, g', out'⟩, x⟩ := y
  have hlen := atomP_len hsl (by omega) hq
  rw [hq] at he hR
  simp only [] at hR
  obtain ⟨rfl, a5, ln5, c5, rs5, p5, st5⟩ := he
  have hln5 := p5.pcs.len'
  have hB5 := p5.pcs.lt
  have hz5 := st5.1.size
  refine ⟨x, rfl, newC_in fun w8 s8 k8 e8 => ?_⟩
  generalize hb7 : w5.heap.size = b7 at *
  refine stW_in k8 (by decide) fun w9 s9 k9 e9 => ?_
  -- what is kept all along
  let cs (m1 m2 : Int) : List Value := [.int .i64 4, .slice none 0 0, .int .i64 m1, .int .i64 m2, .bool false, .int .i64 0, .slice none 0 0]
  have hbb : b ≠ b7 := by omega
  have p8 : SSt N w8 b s j g' a5 ln5 c5 rs5 out' := p5.other e8 (fun h => h) fun _ _ h => h
  have p9 : SSt N w9 b s j g' a5 ln5 c5 rs5 out' := p8.other e9 (by omega) fun k hk hk' => by have := hB5 k hk; omega
  have k9' : Blk w9.heap b7 111 (cs 0 (-1)) := k9
  have E9 : Step b (blks a rs) w w9 (blks a5 rs5) := ⟨(st5.1.trans (Ext.mono e8 fun _ _ h => h.elim)).step e9 fun x hx h => by omega, st5.2⟩
  have hst : ∀ {w' : World} {m1 m2 : Int} {o : Nat} {v : Value} {m1' m2' : Int} {K : World → Prop}, Blk w'.heap b7 111 (cs m1 m2) → o < 7 → segSet (cs m1 m2) o [v] = cs m1' m2' → (∀ w'', Blk w''.heap b7 111 (cs m1' m2') → Ext (fun k => k = b7) w' w'' → K w'') → stW b7 o [v] K w' := by
    intro w' m1 m2 o v m1' m2' K hk ho hv hK
    refine stW_in hk (by show o + 1 ≤ 7; omega) fun w'' s'' k'' e'' => ?_
    rw [hv] at k''
    exact hK w'' k'' e''
  unfold cntR at hR
  rw [cntP_eq] at hR
  -- the count's end
  let F (r : Pr (Nat × Option (Int × Int × Bool))) : Pr (St × Int) := match r with
    | .bad e => .bad e
    | .ok (k, none) => .ok ((k, g', out'), x)
    | .ok (k, some (a, b, z)) => .ok ((k, g', out' ++ [pRep a b z x]), out'.length)
  have hRF : R = F (if (L s).length ≤ j then .ok (j, none)
      else if at_ (L s) j = 42 then lazP (L s) (j + 1) 0 (-1)
      else if at_ (L s) j = 43 then lazP (L s) (j + 1) 1 (-1)
      else if at_ (L s) j = 63 then lazP (L s) (j + 1) 0 1
      else if at_ (L s) j = 123 then match braP (L s) (j + 1) with
        | .bad e => .bad e
        | .ok (j, a, b) => lazP (L s) j a b
      else .ok (j, none)) := hR.symm
  clear hR
  suffices hmain : ∀ w', ((∃ j1 m1 m2, j1 ≤ s.size ∧ SSt N w' b s j1 g' a5 ln5 c5 rs5 out' ∧ Step b (blks a rs) w w' (blks a5 rs5) ∧ Blk w'.heap b7 111 (cs m1 m2) ∧ R = F (lazP (L s) j1 m1 m2)) ∨ (∃ e m1 m2, MidA N w w' b s (blks a rs) (901 + 4 * d) e (fun k => k = b7) ∧ Blk w'.heap b7 111 (cs m1 m2) ∧ R = .bad e)) →
      Cl Try.prog 112 ([.pointer (some ⟨b, 0, none⟩), .int .u8 63]) w' (retG (fun (r35 : Value) (w34 : World) => ∃ (t33 : Bool), r35 = .bool t33 ∧ stW b7 4 [.bool t33] (fun (w36 : World) => newC [.int .i64 x] 3 (fun (b37 : Nat) (w38 : World) => stW b7 6 [.slice (some ⟨b37, 0, none⟩) 1 1] (fun (w39 : World) => ∃ (n40 : Int), cellH w39.heap b7 0 = some (.int .i64 n40) ∧ ∃ (a41 : Option Addr), ∃ (l41 : Nat), ∃ (c41 : Nat), cellH w39.heap b7 1 = some (.slice a41 l41 c41) ∧ ∃ (n42 : Int), cellH w39.heap b7 2 = some (.int .i64 n42) ∧ ∃ (n43 : Int), cellH w39.heap b7 3 = some (.int .i64 n43) ∧ ∃ (t44 : Bool), cellH w39.heap b7 4 = some (.bool t44) ∧ ∃ (n45 : Int), cellH w39.heap b7 5 = some (.int .i64 n45) ∧ ∃ (a46 : Option Addr), ∃ (l46 : Nat), ∃ (c46 : Nat), cellH w39.heap b7 6 = some (.slice a46 l46 c46) ∧ Cl Try.prog 113 ([.pointer (some ⟨b, 0, none⟩), .agg #[.int .i64 n40, .slice a41 l41 c41, .int .i64 n42, .int .i64 n43, .bool t44, .int .i64 n45, .slice a46 l46 c46]]) w39 (retG (fun (r49 : Value) (w48 : World) => ∃ (n47 : Int), r49 = .int .i64 n47 ∧ (ResS N w b s (blks a rs) (902 + 4 * d) R) (.returned (.int .i64 n47)) w48) (fun c1 w1' => (ResS N w b s (blks a rs) (902 + 4 * d) R) (.panicked c1) w1'))) w38) w36) w34) (fun c1 w1' => (ResS N w b s (blks a rs) (902 + 4 * d) R) (.panicked c1) w1')) by
    have hJ : ∀ {w' : World}, _ → _ := fun {w'} => hmain w'
    have hno : ∀ {w' : World}, SSt N w' b s j g' a5 ln5 c5 rs5 out' → Step b (blks a rs) w w' (blks a5 rs5) → ¬ (j < s.size ∧ at_ (L s) j = 42) → ¬ (j < s.size ∧ at_ (L s) j = 43) → ¬ (j < s.size ∧ at_ (L s) j = 63) → ¬ (j < s.size ∧ at_ (L s) j = 123) → ResS N w b s (blks a rs) (902 + 4 * d) R (.returned (.int .i64 x)) w' := by
      intro w' p' st' n1 n2 n3 n4
      have : R = .ok ((j, g', out'), x) := by
        rw [hRF]
        by_cases hl : (L s).length ≤ j
        · rw [if_pos hl]
        · rw [if_neg hl, if_neg (by omega), if_neg (by omega), if_neg (by omega), if_neg (by omega)]
      subst this
      exact ⟨rfl, a5, ln5, c5, rs5, p', st'⟩
    by_cases h42 : j < s.size ∧ at_ (L s) j = 42
    · rw [if_neg (by omega), if_pos h42.2] at hRF
      refine (is_yes p9.rd h42.1 (by omega) h42.2 rfl).use fun e w11 he => ?_
      obtain ⟨rfl, h11, e11⟩ := he
      exact ⟨true, rfl, _, ⟨fun _ => .inl ⟨j + 1, 0, -1, by omega, p9.upd e11 h11, Step.trans E9 (Step.of_ext e11), k9'.keep e11 hbb.symm, hRF⟩, fun g => (by cases g)⟩, fun _ w' hw => hmain w' hw⟩
    refine (is_no p9.rd (ch := 42) h42 rfl).ret fun w11 b11 => ⟨false, rfl, _, ⟨fun g => (by cases g), fun _ => ?_⟩, fun _ w' hw => hmain w' hw⟩
    have p11 := p9.below b11
    have E11 := Step.trans E9 (Step.of_below b11)
    have k11 := k9'.below b11
    by_cases h43 : j < s.size ∧ at_ (L s) j = 43
    · rw [if_neg (by omega), if_neg (by omega), if_pos h43.2] at hRF
      refine (is_yes p11.rd h43.1 (by omega) h43.2 rfl).use fun e w12 he => ?_
      obtain ⟨rfl, h12, e12⟩ := he
      refine ⟨true, rfl, fun _ => hst (k11.keep e12 hbb.symm) (by decide) rfl fun w13 k13 e13 => ?_, fun g => (by cases g)⟩
      exact .inl ⟨j + 1, 1, -1, by omega, (p11.upd e12 h12).other e13 hbb fun k hk hk' => (by have := hB5 k hk; omega), ⟨(Step.trans E11 (Step.of_ext e12)).1.step e13 fun x hx h => by omega, E11.2⟩, k13, hRF⟩
    refine (is_no p11.rd (ch := 43) h43 rfl).ret fun w12 b12 => ⟨false, rfl, fun g => (by cases g), fun _ => ?_⟩
    have p12 := p11.below b12
    have E12 := Step.trans E11 (Step.of_below b12)
    have k12 := k11.below b12
    by_cases h63 : j < s.size ∧ at_ (L s) j = 63
    · rw [if_neg (by omega), if_neg (by omega), if_neg (by omega), if_pos h63.2] at hRF
      refine (is_yes p12.rd h63.1 (by omega) h63.2 rfl).use fun e w13 he => ?_
      obtain ⟨rfl, h13, e13⟩ := he
      refine ⟨true, rfl, fun _ => hst (k12.keep e13 hbb.symm) (by decide) rfl fun w14 k14 e14 => ?_, fun g => (by cases g)⟩
      exact .inl ⟨j + 1, 0, 1, by omega, (p12.upd e13 h13).other e14 hbb fun k hk hk' => (by have := hB5 k hk; omega), ⟨(Step.trans E12 (Step.of_ext e13)).1.step e14 fun x hx h => by omega, E12.2⟩, k14, hRF⟩
    refine (is_no p12.rd (ch := 63) h63 rfl).ret fun w13 b13 => ⟨false, rfl, fun g => (by cases g), fun _ => ?_⟩
    have p13 := p12.below b13
    have E13 := Step.trans E12 (Step.of_below b13)
    have k13 := k12.below b13
    by_cases h123 : j < s.size ∧ at_ (L s) j = 123
    · rw [if_neg (by omega), if_neg (by omega), if_neg (by omega), if_neg (by omega), if_pos h123.2] at hRF
      refine (is_yes p13.rd h123.1 (by omega) h123.2 rfl).use fun e w14 he => ?_
      obtain ⟨rfl, h14, e14⟩ := he
      have p14 := p13.upd e14 h14
      have E14 := Step.trans E13 (Step.of_ext e14)
      have k14 := k13.keep e14 hbb.symm
      refine ⟨true, rfl, fun _ => ?_, fun g => (by cases g)⟩
      refine (scounts_ok p14.rd hs (by omega)).use fun e w15 he => ?_
      obtain ⟨e15, he⟩ := he
      have k15 := k14.keep e15 hbb.symm
      cases hbr : braP (L s) (j + 1) with
      | bad n =>
        rw [hbr] at he hRF
        obtain ⟨⟨m1, m2, rfl⟩, i', h15⟩ := he
        refine ⟨m1, m2, rfl, hst k15 (by decide) rfl fun w16 k16 e16 => hst k16 (by decide) rfl fun w17 k17 e17 => ?_⟩
        have hA : MidA N w w15 b s (blks a rs) (901 + 4 * d) n (fun k => k = b7) := MidA.start E14 p14 e15 h15 (by omega) fun x hx hm => by have := hB5 x hm; omega
        exact .inr ⟨n, m1, m2, hA.other (e16.trans e17) (fun _ h => h) hbb fun x hx => by omega, k17, hRF⟩
      | ok y =>
        obtain ⟨j1, m1, m2⟩ := y
        have hj1 := braP_le hbr
        rw [hbr] at he hRF
        obtain ⟨rfl, h15⟩ := he
        refine ⟨m1, m2, rfl, hst k15 (by decide) rfl fun w16 k16 e16 => hst k16 (by decide) rfl fun w17 k17 e17 => ?_⟩
        exact .inl ⟨j1, m1, m2, by omega, (p14.upd e15 h15).other (e16.trans e17) hbb fun k hk hk' => (by have := hB5 k hk; omega), ⟨(Step.trans E14 (Step.of_ext e15)).1.step (e16.trans e17) fun x hx h => by omega, E14.2⟩, k17, hRF⟩
    refine (is_no p13.rd (ch := 123) h123 rfl).ret fun w14 b14 => ⟨false, rfl, fun g => (by cases g), fun _ => ?_⟩
    exact hno (p13.below b14) (Step.trans E13 (Step.of_below b14)) h42 h43 h63 h123
  clear hRF E9 k9' p9 p8 k9 e9 s9 w9
  rintro w10 (⟨j1, m1, m2, hj1, p10, E10, k10, hR⟩ | ⟨e, m1, m2, hA, k10, hR⟩)
  · -- lazy or not
    have hfin : ∀ {w' : World} {t : Bool} {j2 : Nat}, SSt N w' b s j2 g' a5 ln5 c5 rs5 out' → Step b (blks a rs) w w' (blks a5 rs5) → Blk w'.heap b7 111 (cs m1 m2) → R = .ok ((j2, g', out' ++ [pRep m1 m2 t x]), out'.length) → stW b7 4 [.bool t] (fun (w36 : World) => newC [.int .i64 x] 3 (fun (b37 : Nat) (w38 : World) => stW b7 6 [.slice (some ⟨b37, 0, none⟩) 1 1] (fun (w39 : World) => ∃ (n40 : Int), cellH w39.heap b7 0 = some (.int .i64 n40) ∧ ∃ (a41 : Option Addr), ∃ (l41 : Nat), ∃ (c41 : Nat), cellH w39.heap b7 1 = some (.slice a41 l41 c41) ∧ ∃ (n42 : Int), cellH w39.heap b7 2 = some (.int .i64 n42) ∧ ∃ (n43 : Int), cellH w39.heap b7 3 = some (.int .i64 n43) ∧ ∃ (t44 : Bool), cellH w39.heap b7 4 = some (.bool t44) ∧ ∃ (n45 : Int), cellH w39.heap b7 5 = some (.int .i64 n45) ∧ ∃ (a46 : Option Addr), ∃ (l46 : Nat), ∃ (c46 : Nat), cellH w39.heap b7 6 = some (.slice a46 l46 c46) ∧ Cl Try.prog 113 ([.pointer (some ⟨b, 0, none⟩), .agg #[.int .i64 n40, .slice a41 l41 c41, .int .i64 n42, .int .i64 n43, .bool t44, .int .i64 n45, .slice a46 l46 c46]]) w39 (retG (fun (r49 : Value) (w48 : World) => ∃ (n47 : Int), r49 = .int .i64 n47 ∧ (ResS N w b s (blks a rs) (902 + 4 * d) R) (.returned (.int .i64 n47)) w48) (fun c1 w1' => (ResS N w b s (blks a rs) (902 + 4 * d) R) (.panicked c1) w1'))) w38) w36) w' := by
      intro w' t j2 p' E' k' hR'
      refine stW_in k' (by show 4 + 1 ≤ 7; decide) fun w11 s11 k11 e11 => newC_in fun w12 s12 k12 e12 => ?_
      have hlt := k'.lt
      have k12' := k11.keep e12 fun h => h
      refine stW_in k12' (by show 6 + 1 ≤ 7; decide) fun w13 s13 k13 e13 => ?_
      have e11' : Ext (fun k => k = b7) w' w13 := ((e11.trans (Ext.mono e12 fun _ _ h => h.elim)).trans e13)
      have p13 : SSt N w13 b s j2 g' a5 ln5 c5 rs5 out' := p'.other e11' hbb fun k hk hk' => (by have := hB5 k hk; omega)
      have E13 : Step b (blks a rs) w w13 (blks a5 rs5) := ⟨E'.1.step e11' fun x hx h => by omega, E'.2⟩
      have kk : Kids w w13 (blks a5 rs5) (some ⟨w11.heap.size, 0, none⟩) 1 1 [x] :=
        ⟨⟨rfl, Nat.le_refl _, .inr ⟨_, _, rfl, k12.keep e13 (by omega), rfl, rfl⟩⟩, rfl, fun q hq => by
          simp only [blkOf, Option.some.injEq] at hq
          subst hq
          have := E'.1.size
          exact ⟨by omega, fun hm => by have := hB5 _ hm; omega⟩⟩
      refine ⟨_, k13.cell 0, _, _, _, k13.cell 1, _, k13.cell 2, _, k13.cell 3, _, k13.cell 4, _, k13.cell 5, _, _, _, k13.cell 6, ?_⟩
      exact sputKids p13 E13 kk h.hN (by omega) rfl hR'
    by_cases h63 : j1 < s.size ∧ at_ (L s) j1 = 63
    · refine (is_yes p10.rd h63.1 (by omega) h63.2 rfl).use fun e w11 he => ?_
      obtain ⟨rfl, h11, e11⟩ := he
      refine ⟨true, rfl, hfin (p10.upd e11 h11) (Step.trans E10 (Step.of_ext e11)) (k10.keep e11 hbb.symm) ?_⟩
      rw [hR]; unfold lazP; rw [if_pos ⟨by omega, h63.2⟩]
    · refine (is_no p10.rd (ch := 63) h63 rfl).ret fun w11 b11 => ⟨false, rfl, hfin (p10.below b11) (Step.trans E10 (Step.of_below b11)) (k10.below b11) ?_⟩
      rw [hR]; unfold lazP; rw [if_neg (by omega)]
  · refine (mid_is hA.mid 63).ret fun w11 b11 => ⟨false, rfl, ?_⟩
    have hA := hA.below b11
    have k11 := k10.below b11
    refine stW_in k11 (by show 4 + 1 ≤ 7; decide) fun w12 s12 k12 e12 => newC_in fun w13 s13 k13 e13 => ?_
    have hA := (hA.other e12 (fun _ h => h) hbb fun x hx => by omega).below (Ext.to (Below.refl _ _) e13 fun _ h => h.elim)
    have k13' := k12.keep e13 fun h => h
    refine stW_in k13' (by show 6 + 1 ≤ 7; decide) fun w14 s14 k14 e14 => ?_
    have hA := hA.other e14 (fun _ h => h) hbb fun x hx => by omega
    refine ⟨_, k14.cell 0, _, _, _, k14.cell 1, _, k14.cell 2, _, k14.cell 3, _, k14.cell 4, _, k14.cell 5, _, _, _, k14.cell 6, ?_⟩
    exact sput_bad hA.mid (by omega) (by omega) hR
end Go.Proofs.Ytngbiaeliphdjaa.V
/- The reference's reader: sequences and alternatives. No statement of the seat is proved here. -/
namespace Go.Proofs.Ytngbiaeliphdjaa.V
open Go.Vc Go.Proofs Go.RowKit
set_option linter.unusedVariables false
set_option linter.unusedSimpArgs false
/-- A piece on the way: its kids may grow. -/
def pcC (kind : Int) (ka : Option Addr) (kl kc : Nat) : List Value := [.int .i64 kind, .slice none 0 0, .int .i64 0, .int .i64 0, .bool false, .int .i64 0, .slice ka kl kc]
theorem kid_ne {w0 w : World} {B : List Nat} {ka : Option Addr} {kl kc : Nat} {kids : List Int} {b4 : Nat} {cs : List Value} (h : Kids w0 w B ka kl kc kids) (k : Blk w.heap b4 111 cs) : ∀ x, blkOf ka = some x → x ≠ b4 := by
  intro x hx hxb
  subst hxb
  obtain ⟨_, _, h3⟩ := h.1
  rcases h3 with ⟨rfl, _⟩ | ⟨b', cs', rfl, hb, _⟩
  · simp [blkOf] at hx
  · simp only [blkOf, Option.some.injEq] at hx
    subst hx
    unfold Blk at hb k
    rw [hb] at k
    simp at k
/-- One kid more, something being wrong. -/
theorem kid_bad {N : Nat} {w w1 w2 : World} {b : Nat} {s : ByteArray} {B B1 : List Nat} {K e b4 : Nat} {ka : Option Addr} {kl kc : Nat} {kids : List Int} {kind : Int} (st : Step b B w w1 B1) (hK : Kids w w1 B1 ka kl kc kids) (k4 : Blk w1.heap b4 111 (pcC kind ka kl kc)) (hb : b < w.heap.size) (hb4 : w.heap.size ≤ b4) (hn4 : b4 ∉ B1) (hl : kl ≤ 1000) (hm : Mid N w1 w2 b s B1 K e) (x : Int) {Q : World → Prop}
    (hQ : ∀ w', Mid N w w' b s B K e → (∃ ka kl kc, Blk w'.heap b4 111 (pcC kind ka kl kc)) → Q w') :
    ∃ (a23 : Option Addr), ∃ (l23 : Nat), ∃ (c23 : Nat), cellH w2.heap b4 6 = some (.slice a23 l23 c23) ∧ newC [.int .i64 x] 3 (fun (b24 : Nat) (w25 : World) => ∃ (a26 : Option Addr), ∃ (l26 : Nat), ∃ (c26 : Nat), ∃ (w27 : World), (Builtin.append_ #[109, 109] 109 #[.slice a23 l23 c23, .slice (some ⟨b24, 0, none⟩) 1 1]).run Try.prog w25 = .ok (.slice a26 l26 c26) w27 ∧ stW b4 6 [.slice a26 l26 c26] (fun (w28 : World) => Q w28) w27) w2 := by
  have hne := kid_ne hK k4
  have hA : MidA N w1 w2 b s B1 K e (fun k => k = b4 ∨ blkOf ka = some k) := hm.avoid fun k hk => by
    rcases hk with rfl | hk
    · exact ⟨hn4, k4.lt⟩
    · exact ⟨(hK.2.2 k hk).2, hK.1.lt k hk⟩
  have hE := hm.1
  have k4' := k4.keep hE (fun h => by
    rcases h with h | h
    · omega
    · exact hn4 h)
  have hK' : Kids w w2 [] ka kl kc kids := ⟨hK.1.keep hE fun k hk h => by
      rcases h with h | h
      · have := (hK.2.2 k hk).1; omega
      · exact (hK.2.2 k hk).2 h, hK.2.1, fun k hk => ⟨(hK.2.2 k hk).1, by simp⟩⟩
  obtain ⟨ka2, kc2, w6, r1, r2, r3⟩ := hK'.app (by simp) (Nat.le_trans st.1.size hE.size) hl x
  refine ⟨ka, kl, kc, k4'.cell 6, ka2, kl + 1, kc2, w6, r1, ?_⟩
  have k6 := k4'.keep r3 (fun h => hne b4 h rfl)
  have hA := MidA.step st hA
  have hX : ∀ x, (x = b4 ∨ blkOf ka = some x) → w.heap.size ≤ x := fun x hx => by
    rcases hx with rfl | hx
    · exact hb4
    · exact (hK.2.2 x hx).1
  have hbX : ¬ (b = b4 ∨ blkOf ka = some b) := fun h => by have := hX b h; omega
  have hA := hA.other r3 (fun x hx => .inr hx) hbX hX
  refine stW_in k6 (by show 6 + 1 ≤ 7; decide) fun w7 s7 k7 e7 => hQ w7 (hA.other e7 (fun x hx => .inl hx) hbX hX).mid ⟨_, _, _, k7⟩
theorem sseq_ok {N : Nat} {w : World} {b : Nat} {s : ByteArray} {i g : Nat} {a : Option Addr} {ln c : Nat} {rs : List Raw} {ps : List Pc} {dp : Int} (d : Nat) (hsub : ∀ d', d = d' + 1 → PatS d') (hsl : SubOk (L s) (subP (L s) d)) (h : SSt N w b s i g a ln c rs ps) (hs : s.size ≤ 120) (hi : i ≤ s.size) (hg : g ≤ 9) (hdp : dp = 6 - (d : Int)) (hd6 : d ≤ 6) (hbd : ln + 4 * (s.size - i) + 4 * d ≤ 950) (hbd' : i < s.size → ln + 4 * (s.size - i) + 4 * d ≤ 900) :
    Cl Try.prog 111 [.pointer (some ⟨b, 0, none⟩), .int .i64 dp] w (ResS N w b s (blks a rs) (903 + 4 * d) (seqL (subP (L s) d) (decide (d = 0)) (L s) i g ps [])) := by
  apply vc111
  unfold V111
  have hsz := size_L s
  have hbl := h.rd.lt
  have hB := h.pcs.lt
  have hlen' := h.pcs.len'
  generalize hR : seqL (subP (L s) d) (decide (d = 0)) (L s) i g ps [] = R
  refine newC_in fun w5 s5 k5 e5 => ?_
  generalize hb4 : w.heap.size = b4 at *
  refine stW_in k5 (by decide) fun w6 s6 k6 e6 => ?_
  have k6' : Blk w6.heap b4 111 (pcC 2 none 0 0) := k6
  have E6 : Below w.heap.size w w6 := Ext.to (Ext.to (Below.refl _ _) e5 fun _ h => h.elim) e6 fun _ h => by omega
  refine ⟨fun k w' => (∃ (j g' : Nat) (a' : Option Addr) (ln' c' : Nat) (rs' : List Raw) (out : List Pc) (kids : List Int) (ka : Option Addr) (kl kc : Nat), SSt N w' b s j g' a' ln' c' rs' out ∧ seqL (subP (L s) d) (decide (d = 0)) (L s) j g' out kids = R ∧ Kids w w' (blks a' rs') ka kl kc kids ∧ Blk w'.heap b4 111 (pcC 2 ka kl kc) ∧ b4 ∉ blks a' rs' ∧ Step b (blks a rs) w w' (blks a' rs') ∧ k = s.size - j + 1 ∧ i ≤ j ∧ j ≤ s.size ∧ g' ≤ 9 ∧ ln' + 4 * (s.size - j) + 4 * d ≤ 950 ∧ (j < s.size → ln' + 4 * (s.size - j) + 4 * d ≤ 900) ∧ kids.length ≤ j) ∨
      (∃ e, k = 0 ∧ R = .bad e ∧ Mid N w w' b s (blks a rs) (902 + 4 * d) e ∧ ∃ ka kl kc, Blk w'.heap b4 111 (pcC 2 ka kl kc)),
    ⟨_, .inl ⟨i, g, a, ln, c, rs, ps, [], none, 0, 0, h.below E6, hR, ⟨Vec.nil _ _ _, rfl, by simp [blkOf]⟩, k6', fun hm => (by have := hB b4 hm; omega), Step.of_below E6, rfl, Nat.le_refl _, hi, hg, hbd, hbd', by simp⟩⟩, ?_⟩
  -- the end
  have hout : ∀ {w' : World}, ((∃ (j g' : Nat) (a' : Option Addr) (ln' c' : Nat) (rs' : List Raw) (out : List Pc) (kids : List Int) (ka : Option Addr) (kl kc : Nat), SSt N w' b s j g' a' ln' c' rs' out ∧ R = .ok ((j, g', out ++ [pSeq kids]), (out.length : Int)) ∧ Kids w w' (blks a' rs') ka kl kc kids ∧ Blk w'.heap b4 111 (pcC 2 ka kl kc) ∧ Step b (blks a rs) w w' (blks a' rs') ∧ ln' ≤ 1000) ∨
      (∃ e, R = .bad e ∧ Mid N w w' b s (blks a rs) (902 + 4 * d) e ∧ ∃ ka kl kc, Blk w'.heap b4 111 (pcC 2 ka kl kc))) → ∃ (n30 : Int), cellH w'.heap b4 0 = some (.int .i64 n30) ∧ ∃ (a31 : Option Addr), ∃ (l31 : Nat), ∃ (c31 : Nat), cellH w'.heap b4 1 = some (.slice a31 l31 c31) ∧ ∃ (n32 : Int), cellH w'.heap b4 2 = some (.int .i64 n32) ∧ ∃ (n33 : Int), cellH w'.heap b4 3 = some (.int .i64 n33) ∧ ∃ (t34 : Bool), cellH w'.heap b4 4 = some (.bool t34) ∧ ∃ (n35 : Int), cellH w'.heap b4 5 = some (.int .i64 n35) ∧ ∃ (a36 : Option Addr), ∃ (l36 : Nat), ∃ (c36 : Nat), cellH w'.heap b4 6 = some (.slice a36 l36 c36) ∧ Cl Try.prog 113 ([.pointer (some ⟨b, 0, none⟩), .agg #[.int .i64 n30, .slice a31 l31 c31, .int .i64 n32, .int .i64 n33, .bool t34, .int .i64 n35, .slice a36 l36 c36]]) w' (retG (fun (r39 : Value) (w38 : World) => ∃ (n37 : Int), r39 = .int .i64 n37 ∧ ResS N w b s (blks a rs) (903 + 4 * d) R (.returned (.int .i64 n37)) w38) (fun c1 w1' => ResS N w b s (blks a rs) (903 + 4 * d) R (.panicked c1) w1')) := by
    intro w' hst
    rcases hst with ⟨j, g', a', ln', c', rs', out, kids, ka, kl, kc, p', hr, hK, k', st', hl'⟩ | ⟨e, hr, hm, ka, kl, kc, k'⟩
    · refine ⟨_, k'.cell 0, _, _, _, k'.cell 1, _, k'.cell 2, _, k'.cell 3, _, k'.cell 4, _, k'.cell 5, _, _, _, k'.cell 6, ?_⟩
      exact sputKids p' st' hK h.hN hl' rfl hr
    · refine ⟨_, k'.cell 0, _, _, _, k'.cell 1, _, k'.cell 2, _, k'.cell 3, _, k'.cell 4, _, k'.cell 5, _, _, _, k'.cell 6, ?_⟩
      exact sput_bad hm (by omega) (by omega) hr
  rintro k dd w10 (⟨j, g', a', ln', c', rs', out, kids, ka, kl, kc, p10, hq, hK, k10, hn4, st10, rfl, hij, hj, hg', hb', hb'', hkl⟩ | ⟨e, rfl, hr, hm, ka, kl, kc, k10⟩)
  case inr =>
    refine drw_in fun w12 q12 e12 => ?_
    have b12 : Below w10.heap.size w10 w12 := Ext.to (Below.refl _ _) e12 fun _ h => h.elim
    refine (mid_more (hm.below b12)).ret fun w14 b14 => ⟨false, rfl, fun g => (by cases g), fun _ => ?_⟩
    exact hout (.inr ⟨e, hr, (hm.below b12).below b14, ka, kl, kc, (k10.below b12).below b14⟩)
  refine drw_in fun w12 q12 e12 => ?_
  have b12 : Below w10.heap.size w10 w12 := Ext.to (Below.refl _ _) e12 fun _ h => h.elim
  have hln10 := p10.pcs.len'
  have hstop : ∀ {w' : World}, Below w10.heap.size w10 w' → ¬ (j < s.size ∧ at_ (L s) j ≠ 124 ∧ at_ (L s) j ≠ 41) → ∃ (n30 : Int), cellH w'.heap b4 0 = some (.int .i64 n30) ∧ ∃ (a31 : Option Addr), ∃ (l31 : Nat), ∃ (c31 : Nat), cellH w'.heap b4 1 = some (.slice a31 l31 c31) ∧ ∃ (n32 : Int), cellH w'.heap b4 2 = some (.int .i64 n32) ∧ ∃ (n33 : Int), cellH w'.heap b4 3 = some (.int .i64 n33) ∧ ∃ (t34 : Bool), cellH w'.heap b4 4 = some (.bool t34) ∧ ∃ (n35 : Int), cellH w'.heap b4 5 = some (.int .i64 n35) ∧ ∃ (a36 : Option Addr), ∃ (l36 : Nat), ∃ (c36 : Nat), cellH w'.heap b4 6 = some (.slice a36 l36 c36) ∧ Cl Try.prog 113 ([.pointer (some ⟨b, 0, none⟩), .agg #[.int .i64 n30, .slice a31 l31 c31, .int .i64 n32, .int .i64 n33, .bool t34, .int .i64 n35, .slice a36 l36 c36]]) w' (retG (fun (r39 : Value) (w38 : World) => ∃ (n37 : Int), r39 = .int .i64 n37 ∧ ResS N w b s (blks a rs) (903 + 4 * d) R (.returned (.int .i64 n37)) w38) (fun c1 w1' => ResS N w b s (blks a rs) (903 + 4 * d) R (.panicked c1) w1')) := by
    intro w' hb hn
    refine hout (.inl ⟨j, g', a', ln', c', rs', out, kids, ka, kl, kc, p10.below hb, ?_, hK.below hb, k10.below hb, Step.trans st10 (Step.of_below hb), by omega⟩)
    rw [← hq, seqL_out (by rw [← hsz]; exact hn)]
  refine (more_ok (p10.below b12).rd).ret fun w14 b14 => ⟨_, rfl, fun g1 => ?_, fun g1 => ?_⟩
  rotate_left
  · have := of_decide_eq_false g1
    exact hstop (b12.vstep b14) (by omega)
  have g1' := of_decide_eq_true g1
  have b14' := b12.vstep b14
  have p14 := p10.below b14'
  have K14 := hK.below b14'
  have k14 := k10.below b14'
  have st14 : Step b (blks a rs) w w14 (blks a' rs') := Step.trans st10 (Step.of_below b14')
  refine ⟨s, p14.rd.cell 0, j, p14.rd.cell 1, ⟨by omega, by omega⟩, ?_⟩
  rw [byteI s (j := j) rfl]
  refine ⟨fun g2 => ⟨s, p14.rd.cell 0, j, p14.rd.cell 1, ⟨by omega, by omega⟩, ?_⟩, fun g2 => ?_⟩
  rotate_left
  · have g2' : at_ (L s) j = 124 := by have : ((at_ (L s) j : Nat) : Int) = 124 := by simpa using g2
                                       omega
    exact hstop b14' (by omega)
  have g2' : at_ (L s) j ≠ 124 := by simp only [bne_iff_ne, ne_eq] at g2; omega
  rw [byteI s (j := j) rfl]
  refine ⟨fun g3 => ?_, fun g3 => ?_⟩
  rotate_left
  · have g3' : at_ (L s) j = 41 := by have : ((at_ (L s) j : Nat) : Int) = 41 := by simpa using g3
                                      omega
    exact hstop b14' (by omega)
  have g3' : at_ (L s) j ≠ 41 := by simp only [bne_iff_ne, ne_eq] at g3; omega
  have hcnd : j < (L s).length ∧ at_ (L s) j ≠ 124 ∧ at_ (L s) j ≠ 41 := ⟨by omega, g2', g3'⟩
  refine (spiece_ok d hsub hsl p14 hs g1' hg' hdp hd6 (hb'' g1') g2' g3').use fun e w21 he => ?_
  cases hp : pieceP (subP (L s) d) (decide (d = 0)) (L s) j g' out with
  | bad n =>
    rw [hp] at he
    obtain ⟨⟨x, rfl⟩, hm⟩ := Mid.of he
    refine ⟨x, rfl, kid_bad st14 K14 k14 (by omega) (by omega) hn4 (by rw [K14.2.1]; omega) hm x fun w' hm' k' => ⟨0, by omega, .inr ⟨n, rfl, ?_, hm', k'⟩⟩⟩
    rw [← hq, seqL_bad hcnd hp]
  | ok y =>
  obtain ⟨⟨j2, g2', out2⟩, x2⟩ := y
  rw [hp] at he
  obtain ⟨rfl, a5, ln5, c5, rs5, p21, s21⟩ := he
  have hpl' := pieceP_len hsl (by omega) hp
  have hstep := seqL_go (kids := kids) hcnd hp hpl'.1
  have st21 := Step.trans st14 s21
  have K21 := K14.step (by omega) s21
  have hl5 := p21.pcs.len'
  have hlt14 := k14.lt
  have hn4' : b4 ∉ blks a5 rs5 := fun hm => by
    rcases s21.2 b4 hm with h1 | h1
    · exact hn4 h1
    · omega
  have k21 := k14.keep s21.1 (fun h => by
    rcases h with h | h
    · omega
    · exact hn4 h)
  refine ⟨x2, rfl, ka, kl, kc, k21.cell 6, ?_⟩
  obtain ⟨ka2, kc2, w27, r1, r2, r3⟩ := K21.app p21.pcs.lt st21.1.size (by rw [K21.2.1]; omega) x2
  refine ⟨ka2, kl + 1, kc2, w27, r1, ?_⟩
  have hkb : ∀ k, blkOf ka = some k → k ∉ blks a5 rs5 ∧ k ≠ b ∧ w.heap.size ≤ k := fun k hk => ⟨(K21.2.2 k hk).2, by have := (K21.2.2 k hk).1; omega, (K21.2.2 k hk).1⟩
  have hne := kid_ne K21 k21
  have p27 : SSt N w27 b s j2 g2' a5 ln5 c5 rs5 out2 := p21.other r3 (fun hk => (hkb b hk).2.1 rfl) fun k hk hk' => (hkb k hk').1 hk
  have k27 := k21.keep r3 (fun h => hne b4 h rfl)
  have st27 : Step b (blks a rs) w w27 (blks a5 rs5) := ⟨st21.1.step r3 fun k hk hk' => by have := (hkb k hk').2.2; omega, fun k hk => st21.2 k hk⟩
  have hne2 := kid_ne r2 k27
  refine stW_in k27 (by show 6 + 1 ≤ 7; decide) fun w28 s28 k28 e28 => ?_
  refine ⟨s.size - j2 + 1, by omega, .inl ⟨j2, g2', a5, ln5, c5, rs5, out2, kids ++ [x2], ka2, kl + 1, kc2, p27.other e28 (by omega) (fun k hk hk' => hn4' (hk' ▸ hk)), by rw [← hstep, hq], ⟨r2.1.keep e28 fun k hk hk' => hne2 k hk hk', r2.2⟩, k28, hn4', ⟨st27.1.step e28 fun k hk hk' => by omega, st27.2⟩, rfl, by omega, by omega, hpl'.2.2.2 hg', by omega, by omega, by simp; omega⟩⟩
theorem salt_ok : ∀ d, PatS d := by
  intro d
  induction d using Nat.strongRecOn with
  | _ d ih =>
  intro N w b s i g a ln c rs ps dp h hs hi hg hdp hd6 hbd
  have hsub : ∀ d', d = d' + 1 → PatS d' := fun d' hd => ih d' (by omega)
  have hsl := subP_ok (L s) d
  apply vc77
  unfold V77
  have hsz := size_L s
  have hbl := h.rd.lt
  have hB := h.pcs.lt
  have hl0 := h.pcs.len'
  rw [patP_eq]
  refine (sseq_ok d hsub hsl h hs hi hg hdp hd6 (by omega) (fun _ => by omega)).use fun e w1 he => ?_
  cases hq : seqL (subP (L s) d) (decide (d = 0)) (L s) i g ps [] with
  | bad n =>
    rw [hq] at he
    obtain ⟨⟨x, rfl⟩, hm⟩ := Mid.of he
    refine ⟨x, rfl, drw_in fun w2 q2 e2 => ?_⟩
    have hm := hm.below (Ext.to (Below.refl _ _) e2 fun _ h => h.elim)
    refine (mid_more hm).ret fun w3 b3 => ⟨false, rfl, fun _ => ((hm.below b3).mono (by omega)).res rfl x, fun g => by simp at g⟩
  | ok y =>
  obtain ⟨⟨j, g', out'⟩, x⟩ := y
  have hlen := seqL_len hsl _ rfl (by omega) hq
  rw [hq] at he
  obtain ⟨rfl, a1, ln1, c1, rs1, p1, st1⟩ := he
  have hl1 := p1.pcs.len'
  refine ⟨x, rfl, drw_in fun w2 q2 e2 => ?_⟩
  simp only []
  generalize hR : altL (subP (L s) d) (decide (d = 0)) (L s) j g' out' [x] = R
  have b2 : Below w1.heap.size w1 w2 := Ext.to (Below.refl _ _) e2 fun _ h => h.elim
  have hone : ∀ {w' : World}, Below w1.heap.size w1 w' → ¬ (j < s.size ∧ at_ (L s) j = 124) → ResS N w b s (blks a rs) (904 + 4 * d) R (.returned (.int .i64 x)) w' := by
    intro w' hb hn
    have : R = .ok ((j, g', out'), x) := by rw [← hR, altL_out (by rw [← hsz]; exact hn)]; rfl
    subst this
    exact ⟨rfl, a1, ln1, c1, rs1, p1.below hb, Step.trans st1 (Step.of_below hb)⟩
  refine (more_ok (p1.below b2).rd).ret fun w3 b3 => ⟨_, rfl, fun g1 => ?_, fun g1 => ?_⟩
  · have : ¬ j < s.size := by simpa using g1
    exact hone (b2.vstep b3) (by omega)
  have g1' : j < s.size := by simpa using g1
  have b3' := b2.vstep b3
  have p3 := p1.below b3'
  refine ⟨s, p3.rd.cell 0, j, p3.rd.cell 1, ⟨by omega, by omega⟩, ?_⟩
  rw [byteI s (j := j) rfl]
  refine ⟨fun g2 => ?_, fun g2 => ?_⟩
  · have g2' : at_ (L s) j ≠ 124 := by simp only [bne_iff_ne, ne_eq] at g2; omega
    exact hone b3' (by omega)
  have g2' : at_ (L s) j = 124 := by have : ((at_ (L s) j : Nat) : Int) = 124 := by simpa using g2
                                     omega
  clear hone
  have st3 := Step.trans st1 (Step.of_below b3')
  have z3 := st3.1.size
  refine newC_in fun w4 s4 k4 e4 => ?_
  generalize hkb : w3.heap.size = kb at *
  refine newC_in fun w5 s5 k5 e5 => ?_
  generalize hb4 : w4.heap.size = b4 at *
  refine stW_in k5 (by show 0 + 7 ≤ 7; decide) fun w6 s6 k6 e6 => ?_
  have B6 : Below w3.heap.size w3 w6 := Ext.to (Ext.to (Ext.to (Below.refl _ _) e4 fun _ h => h.elim) e5 fun _ h => h.elim) e6 fun _ h => by omega
  have k6' : Blk w6.heap b4 111 (pcC 3 (some ⟨kb, 0, none⟩) 1 1) := k6
  have hK6 : Kids w w6 (blks a1 rs1) (some ⟨kb, 0, none⟩) 1 1 [x] :=
    ⟨⟨rfl, Nat.le_refl _, .inr ⟨_, _, rfl, (k4.keep e5 fun h => h).keep e6 (by omega), rfl, rfl⟩⟩, rfl, fun q hq => by
      simp only [blkOf, Option.some.injEq] at hq
      subst hq
      exact ⟨by omega, fun hm => by have := p3.pcs.lt _ hm; omega⟩⟩
  refine ⟨fun k w' => (∃ (j g' : Nat) (a' : Option Addr) (ln' c' : Nat) (rs' : List Raw) (out : List Pc) (kids : List Int) (ka : Option Addr) (kl kc : Nat), SSt N w' b s j g' a' ln' c' rs' out ∧ altL (subP (L s) d) (decide (d = 0)) (L s) j g' out kids = R ∧ Kids w w' (blks a' rs') ka kl kc kids ∧ Blk w'.heap b4 111 (pcC 3 ka kl kc) ∧ b4 ∉ blks a' rs' ∧ Step b (blks a rs) w w' (blks a' rs') ∧ k = s.size - j + 1 ∧ i ≤ j ∧ j ≤ s.size ∧ g' ≤ 9 ∧ ln' + 4 * (s.size - j) + 4 * d ≤ 901 ∧ (2 ≤ kids.length ∨ j < s.size ∧ at_ (L s) j = 124) ∧ 1 ≤ kids.length ∧ kids.length ≤ j + 1) ∨
      (∃ e, k = 0 ∧ R = .bad e ∧ Mid N w w' b s (blks a rs) (903 + 4 * d) e ∧ ∃ ka kl kc, Blk w'.heap b4 111 (pcC 3 ka kl kc)),
    ⟨_, .inl ⟨j, g', a1, ln1, c1, rs1, out', [x], _, 1, 1, p3.below B6, hR, hK6, k6', fun hm => (by have := p3.pcs.lt b4 hm; omega), Step.trans st3 (Step.of_below B6), rfl, by omega, by omega, hlen.2.2.2 hg, by omega, .inr ⟨g1', g2'⟩, by simp, by simp⟩⟩, ?_⟩
  have hbw4 : w.heap.size ≤ b4 := by omega
  clear hR hq hlen p1 st1 hl1 p3 st3 k4 k5 k6 k6' hK6 B6 e6 e5 e4 s6 s5 s4 g2 g1 g1' g2' b3 b3' b2 e2 q2 z3 hkb hb4
  rintro k dd w7 (⟨j, g', a', ln', c', rs', out, kids, ka, kl, kc, p7, hq, hK, k7, hn4, st7, rfl, hij, hj, hg', hb', hk2, hk1, hkl⟩ | ⟨e, rfl, hr, hm, ka, kl, kc, k7⟩)
  case inr =>
    refine (mid_is hm 124).ret fun w8 b8 => ⟨false, rfl, fun g => (by cases g), fun _ => ?_⟩
    have k' := k7.below b8
    refine ⟨_, k'.cell 0, _, _, _, k'.cell 1, _, k'.cell 2, _, k'.cell 3, _, k'.cell 4, _, k'.cell 5, _, _, _, k'.cell 6, ?_⟩
    exact sput_bad (hm.below b8) (by omega) (by omega) hr
  have hl7 := p7.pcs.len'
  by_cases hy : j < s.size ∧ at_ (L s) j = 124
  case neg =>
    refine (is_no p7.rd (ch := 124) hy rfl).ret fun w8 b8 => ⟨false, rfl, fun g => (by cases g), fun _ => ?_⟩
    have k' := k7.below b8
    have hRe : R = altE j g' out kids := by rw [← hq, altL_out (by rw [← hsz]; exact hy)]
    refine ⟨_, k'.cell 0, _, _, _, k'.cell 1, _, k'.cell 2, _, k'.cell 3, _, k'.cell 4, _, k'.cell 5, _, _, _, k'.cell 6, ?_⟩
    refine sputKids (p7.below b8) (Step.trans st7 (Step.of_below b8)) (hK.below b8) h.hN (by omega) (p := pAlt kids) rfl ?_
    rw [hRe]
    have hk2' : 2 ≤ kids.length := by
      rcases hk2 with h | h
      · exact h
      · exact absurd h hy
    match kids, hk2' with
    | _ :: _ :: _, _ => rfl
  refine (is_yes p7.rd hy.1 (by omega) hy.2 rfl).use fun e w8 he => ?_
  obtain ⟨rfl, h8, e8⟩ := he
  have p8 := p7.upd e8 h8
  have st8 := Step.trans st7 (Step.of_ext e8)
  have K8 := hK.step hbl (Step.of_ext e8)
  have k8 := k7.keep e8 (by omega)
  have hcnd : j < (L s).length ∧ at_ (L s) j = 124 := ⟨by omega, hy.2⟩
  refine ⟨true, rfl, fun _ => ?_, fun g => (by cases g)⟩
  refine (sseq_ok d hsub hsl p8 hs (by omega) hg' hdp hd6 (by omega) (fun _ => by omega)).use fun e w9 he => ?_
  cases hq2 : seqL (subP (L s) d) (decide (d = 0)) (L s) (j + 1) g' out [] with
  | bad n =>
    rw [hq2] at he
    obtain ⟨⟨x, rfl⟩, hm⟩ := Mid.of he
    refine ⟨x, rfl, kid_bad st8 K8 k8 hbl hbw4 hn4 (by rw [K8.2.1]; omega) hm x fun w' hm' k' => ⟨0, by omega, .inr ⟨n, rfl, ?_, hm', k'⟩⟩⟩
    rw [← hq, altL_bad hcnd hq2]
  | ok y =>
  obtain ⟨⟨j2, g2', out2⟩, x2⟩ := y
  have hlen2 := seqL_len hsl _ rfl (by omega) hq2
  have hgo := altL_go (kids := kids) hcnd hq2 (by omega)
  rw [hq2] at he
  obtain ⟨rfl, a9, ln9, c9, rs9, p9, s9⟩ := he
  have hl9 := p9.pcs.len'
  have st9 := Step.trans st8 s9
  have K9 := K8.step hbl s9
  have hlt8 := k8.lt
  have hn4' : b4 ∉ blks a9 rs9 := fun hm => by
    rcases s9.2 b4 hm with h1 | h1
    · exact hn4 h1
    · omega
  have k9 := k8.keep s9.1 (fun h => by
    rcases h with h | h
    · omega
    · exact hn4 h)
  refine ⟨x2, rfl, ka, kl, kc, k9.cell 6, ?_⟩
  obtain ⟨ka2, kc2, w10, r1, r2, r3⟩ := K9.app p9.pcs.lt st9.1.size (by rw [K9.2.1]; omega) x2
  refine ⟨ka2, kl + 1, kc2, w10, r1, ?_⟩
  have hkb : ∀ k, blkOf ka = some k → k ∉ blks a9 rs9 ∧ k ≠ b ∧ w.heap.size ≤ k := fun k hk => ⟨(K9.2.2 k hk).2, by have := (K9.2.2 k hk).1; omega, (K9.2.2 k hk).1⟩
  have hne := kid_ne K9 k9
  have p10 : SSt N w10 b s j2 g2' a9 ln9 c9 rs9 out2 := p9.other r3 (fun hk => (hkb b hk).2.1 rfl) fun k hk hk' => (hkb k hk').1 hk
  have k10 := k9.keep r3 (fun h => hne b4 h rfl)
  have st10 : Step b (blks a rs) w w10 (blks a9 rs9) := ⟨st9.1.step r3 fun k hk hk' => by have := (hkb k hk').2.2; omega, fun k hk => st9.2 k hk⟩
  have hne2 := kid_ne r2 k10
  refine stW_in k10 (by show 6 + 1 ≤ 7; decide) fun w11 s11 k11 e11 => ?_
  refine ⟨s.size - j2 + 1, by omega, .inl ⟨j2, g2', a9, ln9, c9, rs9, out2, kids ++ [x2], ka2, kl + 1, kc2, p10.other e11 (by omega) (fun k hk hk' => hn4' (hk' ▸ hk)), by rw [← hgo, hq], ⟨r2.1.keep e11 fun k hk hk' => hne2 k hk hk', r2.2⟩, k11, hn4', ⟨st10.1.step e11 fun k hk hk' => by omega, st10.2⟩, rfl, by omega, by omega, hlen2.2.2.2 hg', by omega, .inl (by simp; omega), by simp, by simp; omega⟩⟩
end Go.Proofs.Ytngbiaeliphdjaa.V
/- The reference's ReadPattern. No statement of the seat is proved here. -/
namespace Go.Proofs.Ytngbiaeliphdjaa.V
open Go.Vc Go.Proofs Go.RowKit
set_option linter.unusedVariables false
set_option linter.unusedSimpArgs false
theorem sreadPattern_ok (s : ByteArray) (w : World) : Cl Try.prog 27 [.string s] w (RetP (readP (L s)) w) := by
  apply vc27
  unfold V27
  have hsz := size_L s
  refine newC_in fun w3 s3 k3 e3 => ?_
  generalize hb2 : w.heap.size = b2 at *
  have B3 : Below w.heap.size w w3 := Ext.to (Below.refl _ _) e3 fun _ h => h.elim
  refine ⟨fun g1 => ?_, fun g1 => ?_⟩
  · have g1' := of_decide_eq_true g1
    refine stW_in k3 (by decide) fun w4 s4 k4 e4 => ?_
    refine ⟨_, k4.cell 0, _, k4.cell 1, _, k4.cell 2, _, _, _, k4.cell 3, ?_⟩
    have hr : readP (L s) = ⟨false, 120, 0, []⟩ := by unfold readP; rw [if_pos (by omega)]
    rw [hr]
    exact ⟨none, 0, 0, [], rfl, Pcs.nil _ _, Ext.to B3 e4 fun i hi => by omega⟩
  have g1' := of_decide_eq_false g1
  refine newC_in fun w10 s10 k10 e10 => ?_
  generalize hb9 : w3.heap.size = b9 at *
  have k3' := k3.keep e10 fun h => h
  have B10 : Below w.heap.size w w10 := Ext.to B3 e10 fun _ h => h.elim
  refine (salt_ok 6 (b9 + 1) w10 b9 s 0 0 none 0 0 [] [] 0 ⟨k10, Pcs.nil _ _, Nat.lt_succ_self _, by omega⟩ (by omega) (by omega) (by omega) (by omega) (by omega) (by omega)).use fun e w12 he => ?_
  have hX : ∀ {w' : World}, Ext (fun k => k = b9 ∨ k ∈ blks none []) w10 w' → Ext (fun k => k = b9) w10 w' := fun h => Ext.mono h fun _ _ h => by simpa [blks, ob, blkOf] using h
  -- the answers
  have hbad : ∀ {w' : World} {n : Nat}, Ext (fun k => k = b9) w10 w' → cellH w'.heap b9 2 = some (.int .i64 (n : Int)) → readP (L s) = ⟨false, n, 0, []⟩ → ∃ (n22 : Int), cellH w'.heap b9 2 = some (.int .i64 n22) ∧ (((decide ((n22 : Int) ≥ 0)) = true → ∃ (n23 : Int), cellH w'.heap b9 2 = some (.int .i64 n23) ∧ stW b2 0 [.bool false, .int .i64 n23, .int .i64 0, .slice none 0 0] (fun (w24 : World) => ∃ (t25 : Bool), cellH w24.heap b2 0 = some (.bool t25) ∧ ∃ (n26 : Int), cellH w24.heap b2 1 = some (.int .i64 n26) ∧ ∃ (n27 : Int), cellH w24.heap b2 2 = some (.int .i64 n27) ∧ ∃ (a28 : Option Addr), ∃ (l28 : Nat), ∃ (c28 : Nat), cellH w24.heap b2 3 = some (.slice a28 l28 c28) ∧ RetP (readP (L s)) w (.returned (.agg #[.bool t25, .int .i64 n26, .int .i64 n27, .slice a28 l28 c28])) w24) w') ∧ ((decide ((n22 : Int) ≥ 0)) = false → drw (fun (w29 : World) => ∃ (n30 : Int), cellH w29.heap b9 3 = some (.int .i64 n30) ∧ ∃ (a31 : Option Addr), ∃ (l31 : Nat), ∃ (c31 : Nat), cellH w29.heap b9 4 = some (.slice a31 l31 c31) ∧ stW b2 0 [.bool true, .int .i64 0, .int .i64 n30, .slice a31 l31 c31] (fun (w32 : World) => ∃ (t33 : Bool), cellH w32.heap b2 0 = some (.bool t33) ∧ ∃ (n34 : Int), cellH w32.heap b2 1 = some (.int .i64 n34) ∧ ∃ (n35 : Int), cellH w32.heap b2 2 = some (.int .i64 n35) ∧ ∃ (a36 : Option Addr), ∃ (l36 : Nat), ∃ (c36 : Nat), cellH w32.heap b2 3 = some (.slice a36 l36 c36) ∧ RetP (readP (L s)) w (.returned (.agg #[.bool t33, .int .i64 n34, .int .i64 n35, .slice a36 l36 c36])) w32) w29) w')) := by
    intro w' n hE hc hr
    have kk := k3'.keep hE (by omega)
    refine ⟨n, hc, fun _ => ⟨n, hc, stW_in kk (by show 0 + 4 ≤ 4; decide) fun w24 s24 k24 e24 => ?_⟩, fun g => ?_⟩
    · refine ⟨_, k24.cell 0, _, k24.cell 1, _, k24.cell 2, _, _, _, k24.cell 3, ?_⟩
      rw [hr]
      exact ⟨none, 0, 0, [], rfl, Pcs.nil _ _, Ext.to (Ext.to B10 hE fun i hi => by omega) e24 fun i hi => by omega⟩
    · have := of_decide_eq_false g; omega
  cases hp : patP (L s) 6 (0, 0, []) with
  | bad n =>
    rw [hp] at he
    obtain ⟨⟨x, rfl⟩, hm⟩ := Mid.of he
    have hr : readP (L s) = ⟨false, n, 0, []⟩ := by unfold readP; rw [if_neg (by omega), hp]
    refine ⟨x, rfl, (mid_more hm).ret fun w15 b15 => ⟨false, rfl, fun w' => Ext (fun k => k = b9) w10 w' ∧ cellH w'.heap b9 2 = some (.int .i64 (n : Int)), ⟨fun g => (by cases g), fun _ => ⟨hX (hm.below b15).1, mid_cell (hm.below b15)⟩⟩, ?_⟩⟩
    rintro dd w21 ⟨h21, hc⟩
    exact hbad h21 hc hr
  | ok y =>
  obtain ⟨⟨j, g, out⟩, x⟩ := y
  rw [hp] at he
  obtain ⟨rfl, a5, ln5, c5, rs5, p5, st5⟩ := he
  have hlen := patP_len (L s) 6 0 0 [] j g out x (by omega) hp
  refine ⟨x, rfl, (more_ok p5.rd).ret fun w15 b15 => ⟨_, rfl, ?_⟩⟩
  have p15 := p5.below b15
  have E15 : Ext (fun k => k = b9) w10 w15 := (hX st5.1).trans (Ext.of_below b15)
  refine ⟨fun w' => Ext (fun k => k = b9) w10 w' ∧ ((∃ i, readP (L s) = ⟨false, j, 0, []⟩ ∧ Sd w' b9 s i (j : Int) g a5 ln5 c5) ∨ (readP (L s) = ⟨true, 0, g, out⟩ ∧ SSt (b9 + 1) w' b9 s j g a5 ln5 c5 rs5 out)), ⟨fun g1 => ?_, fun g1 => ?_⟩, ?_⟩
  · have g1' := of_decide_eq_true g1
    refine (sfail_ok p15.rd).use fun e w18 he => ?_
    obtain ⟨rfl, h18, e18⟩ := he
    exact ⟨rfl, E15.trans e18, .inl ⟨j, by unfold readP; rw [if_neg (by omega), hp]; simp only []; rw [if_pos (by omega)], h18⟩⟩
  · have g1' := of_decide_eq_false g1
    exact ⟨E15, .inr ⟨by unfold readP; rw [if_neg (by omega), hp]; simp only []; rw [if_neg (by omega)], p15⟩⟩
  rintro dd w21 ⟨E21, ⟨i, hr, h21⟩ | ⟨hr, p21⟩⟩
  · exact hbad E21 (h21.cell 2) hr
  · refine ⟨-1, p21.rd.cell 2, fun g => absurd (of_decide_eq_true g) (by decide), fun _ => drw_in fun w29 q29 e29 => ?_⟩
    have p29 : SSt (b9 + 1) w29 b9 s j g a5 ln5 c5 rs5 out := p21.other e29 (fun h => h) fun _ _ h => h
    have E29 := E21.trans (Ext.mono e29 fun _ _ h => h.elim)
    refine ⟨_, p29.rd.cell 3, _, _, _, p29.rd.cell 4, stW_in (k3'.keep E29 (by omega)) (by show 0 + 4 ≤ 4; decide) fun w32 s32 k32 e32 => ?_⟩
    refine ⟨_, k32.cell 0, _, k32.cell 1, _, k32.cell 2, _, _, _, k32.cell 3, ?_⟩
    rw [hr]
    have q : Pcs (b9 + 1) w32 a5 ln5 c5 rs5 out := p29.pcs.keep e32 fun k hk hkb => by have := p29.pcs.low k hk; omega
    exact ⟨a5, ln5, c5, rs5, rfl, ⟨q.row, q.len, q.len', q.all, q.nodup, fun k hk => by have := q.low k hk; omega⟩, Ext.to (Ext.to B10 E29 fun i hi => by omega) e32 fun i hi => by omega⟩
end Go.Proofs.Ytngbiaeliphdjaa.V
/- The matchers are made; Ways, Find, Whole, All, Count on both sides. No statement of the seat is proved here. -/
namespace Go.Proofs.Ytngbiaeliphdjaa.V
open Go.Vc Go.Proofs Go.RowKit
set_option linter.unusedVariables false
set_option linter.unusedSimpArgs false
def okA (p t : Bytes) : Bool := (readP p).ok && decide (t.length ≤ 200)
theorem okA_pt {p t : Bytes} (h : okA p t = true) : PtOk (readP p) t := by
  unfold okA at h
  rw [Bool.and_eq_true] at h
  have h1 := readP_wf h.1
  exact ⟨h1.1, h1.2.2.1, h1.2.2.2.1, of_decide_eq_true h.2, (readP_small p).1, h1.2.1⟩
theorem makeMap_in (w : World) : ∃ w', (Instr.makeMap 126 none).run Try.prog w = .ok (.map (some w.heap.size)) w' ∧ w'.heap.size = w.heap.size + 1 ∧ Ext (fun _ => False) w w' ∧ ∀ G, MapIs w' w.heap.size G := by
  refine ⟨newW w (.map #[] 0), rfl, size_newW w _, (Ext.refl _ w).vnew _, fun G => ⟨#[], 0, ?_, by simp⟩⟩
  rw [newW_get, if_pos rfl]
theorem newFinder_ok (s1 s2 : ByteArray) (w : World) : Cl Try.prog 70 [.string s1, .string s2] w (fun e w' => ∃ b, e = .returned (.tuple #[.pointer (some ⟨b, 0, none⟩), .bool (okA (L s1) (L s2))]) ∧ Below w.heap.size w w' ∧ (okA (L s1) (L s2) = true → ∃ c : Cx, c.bf = b ∧ c.P = readP (L s1) ∧ c.t = s2 ∧ PtOk c.P (L c.t) ∧ FInv c (fun _ => False) w' ∧ w.heap.size ≤ c.m)) := by
  apply vc70
  unfold V70
  have hpt := fun h => okA_pt (p := L s1) (t := L s2) h
  refine (readPattern_ok s1 w).use fun e w7 he => ?_
  obtain ⟨a, l, c, rs, rfl, P7, B7⟩ := he
  have hokd : okA (L s1) (L s2) = ((readP (L s1)).ok && decide ((L s2).length ≤ 200)) := rfl
  generalize readP (L s1) = P at *
  refine ⟨_, _, _, a, l, c, rfl, ?_⟩
  refine box_in fun w11 s11 x11 B11 => ?_
  refine ⟨_, x11.cell 0, _, x11.cell 1, _, x11.cell 2, _, _, _, x11.cell 3, ?_⟩
  obtain ⟨w17, hr17, s17, e17, hmap⟩ := makeMap_in w11
  refine ⟨_, w17, hr17, newC_in fun w19 s19 k19 e19 => ?_⟩
  have x19 := (x11.keep e17 fun h => h).keep e19 fun h => h
  have B19 : Below w.heap.size w w19 := Ext.to (Ext.to (B7.vstep B11) e17 fun _ h => h.elim) e19 fun _ h => h.elim
  have P19 := ((P7.below B11).keep e17 fun _ _ h => h).keep e19 fun _ _ h => h
  have hz7 := B7.size
  have hlt := P7.lt
  have fin : okA (L s1) (L s2) = true → ∃ c : Cx, c.bf = w17.heap.size ∧ c.P = P ∧ c.t = s2 ∧ PtOk c.P (L c.t) ∧ FInv c (fun _ => False) w19 ∧ w.heap.size ≤ c.m := fun hok => by
    refine ⟨⟨w17.heap.size, w11.heap.size, w.heap.size, P, s2, a, l, c, rs⟩, rfl, rfl, rfl, hpt hok, ⟨k19, P19, (hmap _).keep e19 (fun h => h), ?_, ?_, ?_⟩, ?_⟩
    · show w17.heap.size ≠ w11.heap.size; omega
    · intro h; have := hlt _ h; simp only [] at this; omega
    · intro x hx; exact hx.elim
    · show w.heap.size ≤ w11.heap.size; omega
  refine ⟨_, x19.cell 0, fun g => ⟨w17.heap.size, ?_, B19, fin⟩, fun g => ⟨w17.heap.size, ?_, B19, fin⟩⟩
  · rw [hokd, g, Bool.true_and, size_L]
    have : decide (((List.length (L s2) : Nat) : Int) ≤ 200) = decide (List.length (L s2) ≤ 200) := decide_eq_decide.2 (by omega)
    rw [this]
  · rw [hokd, g, Bool.false_and]
theorem l2machine_ok {w : World} {N : Nat} {a : Option Addr} {l c : Nat} {rs : List Raw} {P : Pat} {s2 : ByteArray} (hP : Pcs N w a l c rs P.pieces) (hpt : PtOk P (L s2)) :
    Cl Try.prog 108 [.agg #[.bool P.ok, .int .i64 (P.at_ : Int), .int .i64 (P.groups : Int), .slice a l c], .string s2] w (fun e w' => ∃ s : Sx, e = .returned (.pointer (some ⟨s.bm, 0, none⟩)) ∧ Below w.heap.size w w' ∧ s.P = P ∧ s.t = s2 ∧ STab s P.pieces.length (fun _ => False) w' (fun _ => false) (fun _ => (none, 0, 0)) ∧ w.heap.size ≤ s.bd ∧ w.heap.size ≤ s.bl) := by
  apply vc108
  unfold V108
  have hsz := size_L s2
  have hn := hpt.n200
  have hpl := hpt.len
  have hll := hP.len'
  have hlt := hP.lt
  have hmul : P.pieces.length * ((L s2).length + 1) ≤ 482 * 201 := Nat.mul_le_mul hpl (by omega)
  have et : IntKind.wrap .i64 (((l : Nat) : Int) * (IntKind.wrap .i64 (((ByteArray.size s2 : Nat) : Int) + 1))) = ((P.pieces.length * ((L s2).length + 1) : Nat) : Int) := by
    rw [w64 (n := ((ByteArray.size s2 : Nat) : Int) + 1) (by omega), show ((ByteArray.size s2 : Nat) : Int) + 1 = (((L s2).length + 1 : Nat) : Int) from by omega, ← hll, ← Int.natCast_mul, w64 (by omega)]
  refine newC_in fun w7 s7 k7 e7 => ?_
  generalize hb6 : w.heap.size = b6 at *
  refine ⟨_, _, _, k7.cell 3, drw_in fun w9 q9 e9 => ?_⟩
  have k9 := k7.keep e9 fun h => h
  have B9 : Below w.heap.size w w9 := Ext.to (Ext.to (Below.refl _ _) e7 fun _ h => h.elim) e9 fun _ h => h.elim
  have hz9 : w9.heap.size = b6 + 1 := by rw [q9]; exact s7
  refine ⟨_, k9.cell 0, _, k9.cell 1, _, k9.cell 2, _, _, _, k9.cell 3, ?_⟩
  rw [et]
  generalize htot : P.pieces.length * ((L s2).length + 1) = tot at *
  -- the machine
  have fin : ∀ {w' w2 : World} {bd bl : Nat}, Below w9.heap.size w9 w' → bd < w'.heap.size → bl < w'.heap.size → bd ≠ bl → w9.heap.size ≤ bd → w9.heap.size ≤ bl → Blk w'.heap bd 4 (rowN tot fun _ => .bool false) → Blk w'.heap bl 147 (rowN tot fun _ => .slice none 0 0) → w2.heap.size = w'.heap.size + 1 → Blk w2.heap w'.heap.size 124 [.bool P.ok, .int .i64 (P.at_ : Int), .int .i64 (P.groups : Int), .slice a l c, .string s2, .slice (some ⟨bd, 0, none⟩) tot tot, .slice (some ⟨bl, 0, none⟩) tot tot] → Ext (fun _ => False) w' w2 →
      ∃ s : Sx, Ending.returned (.pointer (some ⟨w'.heap.size, 0, none⟩)) = .returned (.pointer (some ⟨s.bm, 0, none⟩)) ∧ Below b6 w w2 ∧ s.P = P ∧ s.t = s2 ∧ STab s P.pieces.length (fun _ => False) w2 (fun _ => false) (fun _ => (none, 0, 0)) ∧ b6 ≤ s.bd ∧ b6 ≤ s.bl := by
    intro w' w2 bd bl B hd hl hne hd2 hl2 kd kl hs2 km e2
    have Bw2 : Below w.heap.size w w2 := Ext.to (B9.vstep B) e2 fun _ h => h.elim
    refine ⟨⟨w'.heap.size, bd, bl, N, P, s2, a, l, c, rs⟩, rfl, hb6 ▸ Bw2, rfl, rfl, ⟨?_, ?_, ?_, hP.below Bw2, ?_, ?_, ?_⟩, by show b6 ≤ bd; omega, by show b6 ≤ bl; omega⟩
    · show Blk w2.heap w'.heap.size 124 [.bool P.ok, .int .i64 (P.at_ : Int), .int .i64 (P.groups : Int), .slice a l c, .string s2, .slice (some ⟨bd, 0, none⟩) (P.pieces.length * ((L s2).length + 1)) (P.pieces.length * ((L s2).length + 1)), .slice (some ⟨bl, 0, none⟩) (P.pieces.length * ((L s2).length + 1)) (P.pieces.length * ((L s2).length + 1))]
      rw [htot]; exact km
    · show Blk w2.heap bd 4 (rowN (P.pieces.length * ((L s2).length + 1)) fun _ => .bool false)
      rw [htot]; exact kd.keep e2 fun h => h
    · show Blk w2.heap bl 147 (rowN (P.pieces.length * ((L s2).length + 1)) fun _ => .slice none 0 0)
      rw [htot]; exact kl.keep e2 fun h => h
    · intro k i _ _ _ h; cases h
    · refine ⟨by show w'.heap.size ≠ bd; omega, by show w'.heap.size ≠ bl; omega, hne, fun h => ?_, fun h => ?_⟩
      · have := hlt bd h; omega
      · have := hlt bl h; omega
    · intro x hx; exact hx.elim
  refine ⟨?_, ?_⟩
  · obtain ⟨w15, hr15, s15, k15, e15⟩ := makeBools tot (by omega) w9
    obtain ⟨w17, hr17, s17, k17, e17⟩ := makeLists tot (by omega) w15
    have q15 := k9.keep e15 fun h => h
    have q17 := q15.keep e17 fun h => h
    have B17 : Below w9.heap.size w9 w17 := Ext.to (Ext.to (Below.refl _ _) e15 fun _ h => h.elim) e17 fun _ h => h.elim
    refine ⟨_, _, _, w15, hr15, ⟨q15.cell 0, q15.cell 1, q15.cell 2, q15.cell 3, trivial⟩, _, _, _, w17, hr17, ⟨q17.cell 0, q17.cell 1, q17.cell 2, q17.cell 3, trivial⟩, newC_in fun w19 s19 k19 e19 => ?_⟩
    have := k15.lt
    exact fin B17 (by omega) (by omega) (by omega) (by omega) (by omega) (k15.keep e17 fun h => h) k17 s19 k19 e19
  · obtain ⟨w15, hr15, s15, k15, e15⟩ := makeLists tot (by omega) w9
    obtain ⟨w17, hr17, s17, k17, e17⟩ := makeBools tot (by omega) w15
    have q15 := k9.keep e15 fun h => h
    have q17 := q15.keep e17 fun h => h
    have B17 : Below w9.heap.size w9 w17 := Ext.to (Ext.to (Below.refl _ _) e15 fun _ h => h.elim) e17 fun _ h => h.elim
    refine ⟨_, _, _, w15, hr15, ⟨q15.cell 0, q15.cell 1, q15.cell 2, q15.cell 3, trivial⟩, _, _, _, w17, hr17, ⟨q17.cell 0, q17.cell 1, q17.cell 2, q17.cell 3, trivial⟩, newC_in fun w19 s19 k19 e19 => ?_⟩
    have := k15.lt
    exact fin B17 (by omega) (by omega) (by omega) (by omega) (by omega) k17 (k15.keep e17 fun h => h) s19 k19 e19
theorem l2of_ok (s1 s2 : ByteArray) (w : World) : Cl Try.prog 68 [.string s1, .string s2] w (fun e w' => ∃ b, e = .returned (.tuple #[.pointer (some ⟨b, 0, none⟩), .bool (okA (L s1) (L s2))]) ∧ Below w.heap.size w w' ∧ (okA (L s1) (L s2) = true → ∃ s : Sx, s.bm = b ∧ s.P = readP (L s1) ∧ s.t = s2 ∧ PtOk s.P (L s.t) ∧ STab s s.P.pieces.length (fun _ => False) w' (fun _ => false) (fun _ => (none, 0, 0)) ∧ w.heap.size ≤ s.bd ∧ w.heap.size ≤ s.bl)) := by
  apply vc68
  unfold V68
  have hpt := fun h => okA_pt (p := L s1) (t := L s2) h
  have hsz := size_L s2
  refine (sreadPattern_ok s1 w).use fun e w7 he => ?_
  obtain ⟨a, l, c, rs, rfl, P7, B7⟩ := he
  have hokd : okA (L s1) (L s2) = ((readP (L s1)).ok && decide ((L s2).length ≤ 200)) := rfl
  generalize readP (L s1) = P at *
  refine ⟨_, _, _, a, l, c, rfl, ?_⟩
  refine box_in fun w11 s11 x11 B11 => ?_
  have B := B7.vstep B11
  refine ⟨_, x11.cell 0, fun g => ?_, fun g => ⟨fun g2 => ?_, fun g2 => ?_⟩⟩
  · have g' : P.ok = false := by simpa using g
    have ho : okA (L s1) (L s2) = false := by rw [hokd, g', Bool.false_and]
    rw [ho]
    exact newC_in fun w14 s14 k14 e14 => ⟨_, rfl, Ext.to B e14 fun _ h => h.elim, fun h => by cases h⟩
  · have g2' : ¬ (L s2).length ≤ 200 := by have := of_decide_eq_true g2; omega
    have ho : okA (L s1) (L s2) = false := by rw [hokd, decide_eq_false g2', Bool.and_false]
    rw [ho]
    exact newC_in fun w14 s14 k14 e14 => ⟨_, rfl, Ext.to B e14 fun _ h => h.elim, fun h => by cases h⟩
  · have g' : P.ok = true := by simpa using g
    have g2' : (L s2).length ≤ 200 := by have := of_decide_eq_false g2; omega
    have ho : okA (L s1) (L s2) = true := by rw [hokd, g', decide_eq_true g2', Bool.and_true]
    rw [ho] at hpt ⊢
    refine ⟨_, x11.cell 0, _, x11.cell 1, _, x11.cell 2, _, _, _, x11.cell 3, ?_⟩
    refine (l2machine_ok (P7.below B11) (hpt rfl)).use fun e w23 he => ?_
    obtain ⟨s, rfl, B23, rfl, rfl, F23, h1, h2⟩ := he
    have hz := B.size
    exact ⟨s.bm, 0, rfl, s.bm, rfl, B.vstep B23, fun _ => ⟨s, rfl, rfl, rfl, hpt rfl, F23, by omega, by omega⟩⟩
end Go.Proofs.Ytngbiaeliphdjaa.V
/- Ways, Find, Whole, All, Count on both sides give one list. No statement of the seat is proved here. -/
namespace Go.Proofs.Ytngbiaeliphdjaa.V
open Go.Vc Go.Proofs Go.RowKit
set_option linter.unusedVariables false
set_option linter.unusedSimpArgs false
def waysA (p t : Bytes) (n : Int) : List Mt := if okA p t = true ∧ 0 ≤ n ∧ n ≤ (t.length : Int) then waysP (readP p) t n.toNat else []
def findA (p t : Bytes) (n : Int) : Mt := if okA p t = true ∧ 0 ≤ n then findP (readP p) t n.toNat else mt0
def wholeA (p t : Bytes) : Mt := if okA p t = true then wholeP (readP p) t else mt0
def allA (p t : Bytes) : List Mt := if okA p t = true then allP (readP p) t 0 else []
def RetMs (ms : List Mt) (w : World) : Ending → World → Prop := fun e w' => ∃ a l c es, e = .returned (.slice a l c) ∧ Ms w.heap.size w' a l c es ∧ es.map (·.1) = ms ∧ Below w.heap.size w w'
def RetMt (m : Mt) (w : World) : Ending → World → Prop := fun e w' => ∃ g : G3', e = .returned (.agg ⟨mC (m, g)⟩) ∧ MOk w' (m, g) ∧ (∀ k, blkOf g.1 = some k → w.heap.size ≤ k) ∧ Below w.heap.size w w'
theorem retMs_nil {w w' : World} (B : Below w.heap.size w w') : RetMs [] w (.returned (.slice none 0 0)) w' := ⟨none, 0, 0, [], rfl, Ms.nil _ _, rfl, B⟩
theorem retMs_of {M : Mach} {X : Nat → Prop} {w w1 : World} {ms : List Mt} (B : Below w.heap.size w w1) (hm : ∀ x, M.mods x → w.heap.size ≤ x) {e : Ending} {w' : World} (h : RetMsM M X w1 ms e w') : RetMs ms w e w' := by
  obtain ⟨a, l, c, es, rfl, h1, h2, _, h4⟩ := h
  exact ⟨a, l, c, es, rfl, h1.mono B.size, h2, Ext.to B h4 hm⟩
theorem retMt_of {M : Mach} {X : Nat → Prop} {w w1 : World} {m : Mt} (B : Below w.heap.size w w1) (hm : ∀ x, M.mods x → w.heap.size ≤ x) {e : Ending} {w' : World} (h : RetMM M X w1 m e w') : RetMt m w e w' := by
  obtain ⟨g, rfl, h1, h2, _, h4⟩ := h
  exact ⟨g, rfl, h1, fun k hk => Nat.le_trans B.size (h2 k hk), Ext.to B h4 hm⟩
theorem fromI_out {c : Cx} {X : Nat → Prop} {w : World} {n : Int} (hF : FInv c X w) (hn : n < 0 ∨ (c.n : Int) < n) : Cl Try.prog 80 [.pointer (some ⟨c.bf, 0, none⟩), .int .i64 n] w (RetMsM (machI c) X w []) := by
  apply vc80
  unfold V80
  have hsz := size_L c.t
  have hnt : c.n = (L c.t).length := rfl
  have fin : RetMsM (machI c) X w [] (.returned (.slice none 0 0)) w := ⟨none, 0, 0, [], rfl, Ms.nil _ _, rfl, hF, Ext.refl _ _⟩
  refine ⟨fun _ => fin, fun g => ⟨c.t, hF.fb.cell 4, fun _ => fin, fun g2 => ?_⟩⟩
  have g' := of_decide_eq_false g
  have g2' := of_decide_eq_false g2
  omega
theorem findI_ok {c : Cx} (h : PtOk c.P (L c.t)) {X : Nat → Prop} {w : World} {i : Nat} (hF : FInv c X w) : Cl Try.prog 71 [.pointer (some ⟨c.bf, 0, none⟩), .int .i64 i] w (RetMM (machI c) X w (findP c.P (L c.t) i)) := by
  apply vc71
  unfold V71
  refine newC_in fun w5 s5 k5 e5 => ⟨fun g => by have := of_decide_eq_true g; omega, fun _ => ?_⟩
  exact findLoop (machI_ok h) (fun X w i hF hi => fromI_ok h hF hi) (X := X) (w0 := w) hF (Nat.le_refl _) rfl k5 (Ext.to (Below.refl _ _) e5 fun _ h => h.elim) fun _ _ h => h
theorem findI_out {c : Cx} {X : Nat → Prop} {w : World} {n : Int} (hF : FInv c X w) (hn : n < 0) : Cl Try.prog 71 [.pointer (some ⟨c.bf, 0, none⟩), .int .i64 n] w (RetMM (machI c) X w mt0) := by
  apply vc71
  unfold V71
  refine newC_in fun w5 s5 k5 e5 => ⟨fun g => ?_, fun g => by have := of_decide_eq_false g; omega⟩
  refine stW_in k5 (by show 0 + 4 ≤ 4; decide) fun w4 s4 k4 e4 => ?_
  rw [seg4 rfl] at k4
  have B : Below w.heap.size w w4 := Ext.to (Ext.to (Below.refl _ _) e5 fun _ h => h.elim) e4 fun i hi => by omega
  exact ⟨_, k4.cell 0, _, k4.cell 1, _, k4.cell 2, _, _, _, k4.cell 3, (none, 0, 0), rfl, Vec.nil _ _ _, (by intro q hq; cases hq), hF.below B, Ext.of_below B⟩
theorem findS_ok {s : Sx} (h : PtOk s.P (L s.t)) {X : Nat → Prop} {w : World} {i : Nat} {d : Nat → Bool} {sl : Nat → G3} (hF : STab s s.P.pieces.length X w d sl) : Cl Try.prog 92 [.pointer (some ⟨s.bm, 0, none⟩), .int .i64 i] w (RetMM (machS s) X w (findP s.P (L s.t) i)) := by
  apply vc92
  unfold V92
  refine newC_in fun w5 s5 k5 e5 => ?_
  exact findLoop (machS_ok h) (fun X w i ⟨d, sl, hF⟩ hi => waysS_ok h hF hi) (X := X) (w0 := w) ⟨d, sl, hF⟩ (Nat.le_refl _) rfl k5 (Ext.to (Below.refl _ _) e5 fun _ h => h.elim) fun _ _ h => h
theorem allS_ok {s : Sx} (h : PtOk s.P (L s.t)) {X : Nat → Prop} {w : World} {d : Nat → Bool} {sl : Nat → G3} (hF : STab s s.P.pieces.length X w d sl) : Cl Try.prog 69 [.pointer (some ⟨s.bm, 0, none⟩)] w (RetMsM (machS s) X w (allP s.P (L s.t) 0)) := by
  apply vc69
  unfold V69
  exact allLoopS (machS_ok h) (fun X w i ⟨d, sl, hF⟩ _ => findS_ok h hF) (X := X) ⟨d, sl, hF⟩ fun _ _ h => h
/-! ### Ways -/
theorem implWays_ok (s1 s2 : ByteArray) (n : Int) (w : World) : Cl Try.prog 30 [.string s1, .string s2, .int .i64 n] w (RetMs (waysA (L s1) (L s2) n) w) := by
  apply vc30
  unfold V30
  refine (newFinder_ok s1 s2 w).use fun e w7 he => ?_
  obtain ⟨b, rfl, B7, hM⟩ := he
  refine ⟨b, 0, _, rfl, fun g => ?_, fun g => ?_⟩
  · have g' : okA (L s1) (L s2) = false := by simpa using g
    unfold waysA
    rw [if_neg (by rw [g']; simp)]
    exact retMs_nil B7
  · have g' : okA (L s1) (L s2) = true := by simpa using g
    obtain ⟨c, rfl, hP, ht, hpt, hF, hm⟩ := hM g'
    unfold waysA
    by_cases hn : 0 ≤ n ∧ n ≤ (List.length (L s2) : Int)
    · rw [if_pos ⟨g', hn⟩]
      obtain ⟨i, rfl⟩ : ∃ i : Nat, n = i := ⟨n.toNat, by omega⟩
      have hi : i ≤ c.n := by show i ≤ List.length (L c.t); rw [ht]; omega
      refine (fromI_ok hpt hF hi).use fun e w10 he => ?_
      have hr := retMs_of B7 (M := machI c) (fun x hx => by have : x = c.m := hx; omega) he
      rw [hP, ht] at hr
      obtain ⟨a, l, cp, es, rfl, h1⟩ := hr
      exact ⟨a, l, cp, rfl, a, l, cp, es, rfl, h1⟩
    · rw [if_neg fun h => hn h.2]
      refine (fromI_out hF (n := n) (by show n < 0 ∨ (List.length (L c.t) : Int) < n; rw [ht]; omega)).use fun e w10 he => ?_
      obtain ⟨a, l, cp, es, rfl, h1⟩ := retMs_of B7 (M := machI c) (fun x hx => by have : x = c.m := hx; omega) he
      exact ⟨a, l, cp, rfl, a, l, cp, es, rfl, h1⟩
theorem specWays_ok (s1 s2 : ByteArray) (n : Int) (w : World) : Cl Try.prog 46 [.string s1, .string s2, .int .i64 n] w (RetMs (waysA (L s1) (L s2) n) w) := by
  apply vc46
  unfold V46
  have hsz := size_L s2
  refine (l2of_ok s1 s2 w).use fun e w7 he => ?_
  obtain ⟨b, rfl, B7, hM⟩ := he
  refine ⟨b, 0, _, rfl, fun g => ?_, fun g => ⟨fun g2 => ?_, fun g2 => ⟨fun g3 => ?_, fun g3 => ?_⟩⟩⟩
  · have g' : okA (L s1) (L s2) = false := by simpa using g
    unfold waysA
    rw [if_neg (by rw [g']; simp)]
    exact retMs_nil B7
  · have g2' := of_decide_eq_true g2
    unfold waysA
    rw [if_neg (by omega)]
    exact retMs_nil B7
  · have g3' := of_decide_eq_true g3
    unfold waysA
    rw [if_neg (by omega)]
    exact retMs_nil B7
  · have g' : okA (L s1) (L s2) = true := by simpa using g
    have g2' := of_decide_eq_false g2
    have g3' := of_decide_eq_false g3
    obtain ⟨s, rfl, hP, ht, hpt, hF, hm⟩ := hM g'
    unfold waysA
    rw [if_pos ⟨g', by omega, by omega⟩]
    obtain ⟨i, rfl⟩ : ∃ i : Nat, n = i := ⟨n.toNat, by omega⟩
    have hi : i ≤ s.n := by show i ≤ List.length (L s.t); rw [ht]; omega
    refine (waysS_ok hpt hF hi).use fun e w10 he => ?_
    have hr := retMs_of B7 (M := machS s) (fun x hx => by rcases hx with rfl | rfl <;> omega) he
    rw [hP, ht] at hr
    obtain ⟨a, l, cp, es, rfl, h1⟩ := hr
    exact ⟨a, l, cp, rfl, a, l, cp, es, rfl, h1⟩
/-! ### All, Count -/
theorem implAll_ok (s1 s2 : ByteArray) (w : World) : Cl Try.prog 22 [.string s1, .string s2] w (RetMs (allA (L s1) (L s2)) w) := by
  apply vc22
  unfold V22
  refine (newFinder_ok s1 s2 w).use fun e w7 he => ?_
  obtain ⟨b, rfl, B7, hM⟩ := he
  refine ⟨b, 0, _, rfl, fun g => ?_, fun g => ?_⟩
  · have g' : okA (L s1) (L s2) = false := by simpa using g
    unfold allA
    rw [if_neg (by rw [g']; simp)]
    exact retMs_nil B7
  · have g' : okA (L s1) (L s2) = true := by simpa using g
    obtain ⟨c, rfl, hP, rfl, hpt, hF, hm⟩ := hM g'
    unfold allA
    rw [if_pos g', ← hP]
    exact allLoopI (machI_ok hpt) (fun X w i hF _ => findI_ok hpt hF) hF fun e w' he => retMs_of B7 (M := machI c) (fun x hx => by have : x = c.m := hx; omega) he
theorem specAll_ok (s1 s2 : ByteArray) (w : World) : Cl Try.prog 21 [.string s1, .string s2] w (RetMs (allA (L s1) (L s2)) w) := by
  apply vc21
  unfold V21
  refine (l2of_ok s1 s2 w).use fun e w7 he => ?_
  obtain ⟨b, rfl, B7, hM⟩ := he
  refine ⟨b, 0, _, rfl, fun g => ?_, fun g => ?_⟩
  · have g' : okA (L s1) (L s2) = false := by simpa using g
    unfold allA
    rw [if_neg (by rw [g']; simp)]
    exact retMs_nil B7
  · have g' : okA (L s1) (L s2) = true := by simpa using g
    obtain ⟨s, rfl, hP, ht, hpt, hF, hm⟩ := hM g'
    unfold allA
    rw [if_pos g']
    refine (allS_ok hpt hF).use fun e w10 he => ?_
    have hr := retMs_of B7 (M := machS s) (fun x hx => by rcases hx with rfl | rfl <;> omega) he
    rw [hP, ht] at hr
    obtain ⟨a, l, cp, es, rfl, h1⟩ := hr
    exact ⟨a, l, cp, rfl, a, l, cp, es, rfl, h1⟩
theorem implCount_ok (s1 s2 : ByteArray) (w : World) : Cl Try.prog 24 [.string s1, .string s2] w (RetB (.int .i64 ((allA (L s1) (L s2)).length : Int)) w) := by
  apply vc24
  unfold V24
  refine (implAll_ok s1 s2 w).use fun e w7 he => ?_
  obtain ⟨a, l, cp, es, rfl, h1, h2, h3⟩ := he
  refine ⟨a, l, cp, rfl, ?_, h3⟩
  rw [← h2, List.length_map, h1.len]
theorem specCount_ok (s1 s2 : ByteArray) (w : World) : Cl Try.prog 39 [.string s1, .string s2] w (RetB (.int .i64 ((allA (L s1) (L s2)).length : Int)) w) := by
  apply vc39
  unfold V39
  refine (specAll_ok s1 s2 w).use fun e w7 he => ?_
  obtain ⟨a, l, cp, es, rfl, h1, h2, h3⟩ := he
  refine ⟨a, l, cp, rfl, ?_, h3⟩
  rw [← h2, List.length_map, h1.len]
end Go.Proofs.Ytngbiaeliphdjaa.V
/- Printed by vcgen.py, a program of this session: formulas of Go functions, each with the proof that it gives the function's contract. No statement of the seat is proved here. -/
namespace Go.Proofs.Ytngbiaeliphdjaa.V
open Go.Vc Go.Proofs
set_option linter.unusedVariables false
set_option maxRecDepth 100000
/-- laws.FnTop -/
def V3 (a1 : Option Addr) (l1 c1 : Nat) (R : Rt) : Pred := fun w =>
  (cB (decide (((l1 : Nat) : Int) > 1048576)) (R (.returned (.bool true)) w) (clV 20 ([.slice a1 l1 c1]) w R fun r5 w4 => ∃ s2, ∃ s3, r5 = .tuple #[.string s2, .string s3] ∧ clL 21 ([.string s2, .string s3]) w4 R fun a6 l6 c6 w7 => ∃ (I9 : Nat → Int → World → Prop), (∃ k11, I9 k11 0 w7) ∧ ∀ k10 (d13 : Nat → Value) n14 w12, I9 k10 n14 w12 → (cB (decide (n14 < 2)) (clL 22 ([.string s2, .string s3]) w12 R fun a15 l15 c15 w16 => ∃ (I18 : Nat → Int → World → Prop), (∃ k20, I18 k20 0 w16) ∧ ∀ k19 (d22 : Nat → Value) n23 w21, I18 k19 n23 w21 → (cB (decide (n23 < ((l15 : Nat) : Int))) (ixS a15 l15 n23 fun b24 o25 => lL w21 b24 (o25 + (Int.toNat n23) * 4 + 3) fun a26 l26 c26 => newC [.int .i64 77, .int .i64 0] 31 (fun b27 w28 => ∃ a29 l29 c29, ∃ w30, (Builtin.append_ #[27, 27] 27 #[.slice a26 l26 c26, .slice (some ⟨b27, 0, none⟩) 1 1]).run Try.prog w28 = .ok (.slice a29 l29 c29) w30 ∧ (cB (((l29 : Nat) : Int) == 0) (R (.returned (.bool false)) w30) ((∃ m31, m31 < k19 ∧ I18 m31 (IntKind.wrap .i64 (n23 + 1)) w30)))) w21) (clB 23 ([.slice a15 l15 c15, .slice a6 l6 c6]) w21 R fun t32 w33 => (cB (!t32) (R (.returned (.bool false)) w33) (clI 24 ([.string s2, .string s3]) w33 R fun n35 w36 => (cB (n35 != ((l6 : Nat) : Int)) (R (.returned (.bool false)) w36) (∃ (I38 : Nat → Int → World → Prop), (∃ k40, I38 k40 0 w36) ∧ ∀ k39 (d42 : Nat → Value) n43 w41, I38 k39 n43 w41 → (cB (decide (n43 < ((l15 : Nat) : Int))) (ixS a15 l15 n43 fun b44 o45 => lL w41 b44 (o45 + (Int.toNat n43) * 4 + 3) fun a46 l46 c46 => ∃ (I47 : Nat → Int → World → Prop), (∃ k49, I47 k49 0 w41) ∧ ∀ k48 (d51 : Nat → Value) n52 w50, I47 k48 n52 w50 → (cB (decide (n52 < ((l46 : Nat) : Int))) (ixS a15 l15 n43 fun b53 o54 => lL w50 b53 (o54 + (Int.toNat n43) * 4 + 3) fun a55 l55 c55 => ixS a55 l55 n52 fun b56 o57 => stW b56 (o57 + (Int.toNat n52) * 2) [.int .i64 77, .int .i64 0] (fun w58 => (∃ m59, m59 < k48 ∧ I47 m59 (IntKind.wrap .i64 (n52 + 1)) w58)) w50) ((∃ m60, m60 < k39 ∧ I38 m60 (IntKind.wrap .i64 (n43 + 1)) w50)))) ((∃ m61, m61 < k10 ∧ I9 m61 (IntKind.wrap .i64 (n14 + 1)) w41)))))))))) (clV 26 ([.string s2]) w12 R fun r67 w66 => ∃ t62, ∃ n63, ∃ n64, ∃ a65 l65 c65, r67 = .agg #[.bool t62, .int .i64 n63, .int .i64 n64, .slice a65 l65 c65] ∧ clV 27 ([.string s2]) w66 R fun r73 w72 => ∃ t68, ∃ n69, ∃ n70, ∃ a71 l71 c71, r73 = .agg #[.bool t68, .int .i64 n69, .int .i64 n70, .slice a71 l71 c71] ∧ clB 25 ([.agg #[.bool t62, .int .i64 n63, .int .i64 n64, .slice a65 l65 c65], .agg #[.bool t68, .int .i64 n69, .int .i64 n70, .slice a71 l71 c71]]) w72 R fun t74 w75 => R (.returned (.bool t74)) w75))))
def scr3 : Scr := (.q 1 (.q 3 (.cond (.q 1 .nil) (.q 7 (.q 4 (.q 1 (.loop (dr [(6, some (.int .i64))] [(2,1),(7,5),(23,60)]) (.q 2 (.cond (.q 4 (.q 3 (.loop (dr [(32, some (.int .i64))] [(2,1),(8,2),(33,14)]) (.q 1 (.cond (.q 2 (.q 9 (.q 3 (.cond (.q 1 .nil) (.q 2 .nil))))) (.run [0,1,2,3,4] (.split 51 (.r [5,6,7,8,9,10,11] (.lit (.q 1 .nil))) (.r [5,6,7,8,9,10,11] (.cond (.q 1 .nil) (.q 3 (.loop (dr [(61, some (.int .i64))] [(10,2),(62,21)]) (.q 1 (.cond (.q 2 (.q 7 (.loop (dr [(70, some (.int .i64))] [(11,1),(71,11)]) (.q 1 (.cond (.q 2 (.q 9 (.q 2 .nil))) (.q 2 .nil)))))) (.q 3 .nil)))))))))))))) (.q 6 .nil))))))))))
theorem vc3 {a1 l1 c1} {R w} (h : V3 a1 l1 c1 R w) : Cl Try.prog 3 [.slice a1 l1 c1] w R :=
  cl_of scr3 Try.func3 (by kernel_rfl) _ _ (by kernel_rfl) h
/-- laws.wPattern -/
def V25 (t1 : Bool) (n2 n3 : Int) (a4 : Option Addr) (l4 c4 : Nat) (t5 : Bool) (n6 n7 : Int) (a8 : Option Addr) (l8 c8 : Nat) (R : Rt) : Pred := fun w =>
  newC [.bool t1, .int .i64 n2, .int .i64 n3, .slice a4 l4 c4] 37 (fun b9 w10 => newC [.bool t5, .int .i64 n6, .int .i64 n7, .slice a8 l8 c8] 37 (fun b11 w12 => lB w12 b9 0 fun t13 => lB w12 b11 0 fun t14 => (cB (t13 == t14) (lI w12 b9 1 fun n15 => lI w12 b11 1 fun n16 => (cB (n15 == n16) (lI w12 b9 2 fun n17 => lI w12 b11 2 fun n18 => (cB (n17 == n18) (lL w12 b9 3 fun a19 l19 c19 => lL w12 b11 3 fun a20 l20 c20 => clB 72 ([.slice a19 l19 c19, .slice a20 l20 c20]) w12 R fun t21 w22 => R (.returned (.bool t21)) w22) (R (.returned (.bool false)) w12))) (R (.returned (.bool false)) w12))) (R (.returned (.bool false)) w12))) w10) w
def scr25 : Scr := (.q 3 (.run [0,1,2,3,4,5] (.split 10 (.run [6,7,8,9,10,11,12] (.split 17 (.run [13,14,15,16,17,18,19] (.split 24 (.r [20,21,22,23,24,25,26] .nil) (.r [20,21,22,23,24,25,26] .nil))) (.r [13,14,15,16,17,18,19,20,21,22,23,24,25,26] .nil))) (.r [6,7,8,9,10,11,12,13,14,15,16,17,18,19,20,21,22,23,24,25,26] .nil))))
theorem vc25 {t1 n2 n3 a4 l4 c4 t5 n6 n7 a8 l8 c8} {R w} (h : V25 t1 n2 n3 a4 l4 c4 t5 n6 n7 a8 l8 c8 R w) : Cl Try.prog 25 [.agg #[.bool t1, .int .i64 n2, .int .i64 n3, .slice a4 l4 c4], .agg #[.bool t5, .int .i64 n6, .int .i64 n7, .slice a8 l8 c8]] w R :=
  cl_of scr25 Try.func25 (by kernel_rfl) _ _ (by kernel_rfl) h
end Go.Proofs.Ytngbiaeliphdjaa.V
/- Printed by vcgen.py, a program of this session: formulas of Go functions, each with the proof that it gives the function's contract. No statement of the seat is proved here. -/
namespace Go.Proofs.Ytngbiaeliphdjaa.V
open Go.Vc Go.Proofs
set_option linter.unusedVariables false
set_option maxRecDepth 100000
/-- (*spec.l6Cur).pattern -/
def V107 (b1 o2 : Nat) (n3 n4 : Int) (t5 : Bool) (R : Rt) : Pred := fun w =>
  clI 82 ([.pointer (some ⟨b1, o2, none⟩), .int .i64 4]) w R fun n6 w7 => ∃ (I9 : Nat → Int → ByteArray → Int → World → Prop), (∃ k11, I9 k11 n4 (⟨#[]⟩ : ByteArray) n6 w7) ∧ ∀ k10 (d13 : Nat → Value) n14 s15 n16 w12, I9 k10 n14 s15 n16 w12 → (cB (decide (n16 > 0)) (clI 82 ([.pointer (some ⟨b1, o2, none⟩), .int .i64 12]) w12 R fun n17 w18 => ∃ (J20 : Int → ByteArray → World → Prop), ((cB (n17 == 0) (J20 n14 (⟨#[46]⟩ : ByteArray) w18) ((cB (n17 == 1) (newC [.string (⟨#[91, 97, 98, 93]⟩ : ByteArray), .string (⟨#[91, 94, 97, 93]⟩ : ByteArray), .string (⟨#[91, 97, 45, 99, 93]⟩ : ByteArray), .string (⟨#[91, 93, 97, 93]⟩ : ByteArray), .string (⟨#[91, 94, 93, 93]⟩ : ByteArray), .string (⟨#[91, 97, 45, 93]⟩ : ByteArray), .string (⟨#[91, 92, 119, 45, 93]⟩ : ByteArray), .string (⟨#[91, 92, 120, 48, 48, 45, 92, 120, 55, 102, 93]⟩ : ByteArray), .string (⟨#[91, 94, 92, 115, 92, 100, 93]⟩ : ByteArray), .string (⟨#[91, 98, 45, 98, 93]⟩ : ByteArray)] 9 (fun b21 w22 => clI 82 ([.pointer (some ⟨b1, o2, none⟩), .int .i64 ((10 : Nat) : Int)]) w22 R fun n23 w24 => ixS (some ⟨b21, 0, none⟩) 10 n23 fun b26 o27 => lS w24 b26 (o27 + (Int.toNat n23) * 1) fun s28 => J20 n14 s28 w24) w18) ((cB (n17 == 2) (newC [.string (⟨#[92, 100]⟩ : ByteArray), .string (⟨#[92, 119]⟩ : ByteArray), .string (⟨#[92, 115]⟩ : ByteArray), .string (⟨#[92, 110]⟩ : ByteArray), .string (⟨#[92, 92]⟩ : ByteArray), .string (⟨#[92, 46]⟩ : ByteArray), .string (⟨#[92, 120, 54, 49]⟩ : ByteArray), .string (⟨#[92, 40]⟩ : ByteArray), .string (⟨#[92, 45]⟩ : ByteArray)] 9 (fun b29 w30 => clI 82 ([.pointer (some ⟨b1, o2, none⟩), .int .i64 ((9 : Nat) : Int)]) w30 R fun n31 w32 => ixS (some ⟨b29, 0, none⟩) 9 n31 fun b34 o35 => lS w32 b34 (o35 + (Int.toNat n31) * 1) fun s36 => J20 n14 s36 w32) w18) ((cB (n17 == 3) ((cB t5 (J20 n14 (⟨#[97]⟩ : ByteArray) w18) (newC [.string (⟨#[94]⟩ : ByteArray), .string (⟨#[36]⟩ : ByteArray)] 9 (fun b37 w38 => clI 82 ([.pointer (some ⟨b1, o2, none⟩), .int .i64 2]) w38 R fun n39 w40 => ixS (some ⟨b37, 0, none⟩) 2 n39 fun b42 o43 => lS w40 b42 (o43 + (Int.toNat n39) * 1) fun s44 => J20 n14 s44 w40) w18))) ((cB (n17 == 4) ((cB (decide (n14 > 0)) ((cB (decide (n3 > 0)) (clV 107 ([.pointer (some ⟨b1, o2, none⟩), .int .i64 (IntKind.wrap .i64 (n3 - 1)), .int .i64 (IntKind.wrap .i64 (n14 - 1)), .bool t5]) w18 R fun r48 w47 => ∃ s45, ∃ n46, r48 = .tuple #[.string s45, .int .i64 n46] ∧ ((⟨#[40]⟩ : ByteArray).size + s45.size ≤ 9223372036854775807) ∧ (((⟨#[40]⟩ : ByteArray) ++ s45).size + (⟨#[41]⟩ : ByteArray).size ≤ 9223372036854775807) ∧ J20 n46 (((⟨#[40]⟩ : ByteArray) ++ s45) ++ (⟨#[41]⟩ : ByteArray)) w47) (J20 n14 (⟨#[98]⟩ : ByteArray) w18))) (J20 n14 (⟨#[98]⟩ : ByteArray) w18))) ((cB (n17 == 5) ((cB (decide (n14 > 0)) ((cB (decide (n3 > 0)) (clV 107 ([.pointer (some ⟨b1, o2, none⟩), .int .i64 (IntKind.wrap .i64 (n3 - 1)), .int .i64 (IntKind.wrap .i64 (n14 - 1)), .bool t5]) w18 R fun r52 w51 => ∃ s49, ∃ n50, r52 = .tuple #[.string s49, .int .i64 n50] ∧ ((⟨#[40]⟩ : ByteArray).size + s49.size ≤ 9223372036854775807) ∧ (((⟨#[40]⟩ : ByteArray) ++ s49).size + (⟨#[41]⟩ : ByteArray).size ≤ 9223372036854775807) ∧ J20 n50 (((⟨#[40]⟩ : ByteArray) ++ s49) ++ (⟨#[41]⟩ : ByteArray)) w51) (J20 n14 (⟨#[98]⟩ : ByteArray) w18))) (J20 n14 (⟨#[98]⟩ : ByteArray) w18))) ((cB (n17 == 6) ((cB (decide (n14 > 0)) ((cB (decide (n3 > 0)) (clV 107 ([.pointer (some ⟨b1, o2, none⟩), .int .i64 (IntKind.wrap .i64 (n3 - 1)), .int .i64 (IntKind.wrap .i64 (n14 - 1)), .bool t5]) w18 R fun r56 w55 => ∃ s53, ∃ n54, r56 = .tuple #[.string s53, .int .i64 n54] ∧ ((⟨#[40]⟩ : ByteArray).size + s53.size ≤ 9223372036854775807) ∧ (((⟨#[40]⟩ : ByteArray) ++ s53).size + (⟨#[41]⟩ : ByteArray).size ≤ 9223372036854775807) ∧ J20 n54 (((⟨#[40]⟩ : ByteArray) ++ s53) ++ (⟨#[41]⟩ : ByteArray)) w55) (J20 n14 (⟨#[98]⟩ : ByteArray) w18))) (J20 n14 (⟨#[98]⟩ : ByteArray) w18))) (clI 82 ([.pointer (some ⟨b1, o2, none⟩), .int .i64 3]) w18 R fun n57 w58 => newC [.int .u8 (IntKind.wrap .u8 (IntKind.wrap .i64 (97 + n57)))] 5 (fun b60 w61 => ∃ s62, (convert 22 9 (.slice (some ⟨b60, 0, none⟩) 1 1)).run Try.prog w61 = .ok (.string s62) w61 ∧ J20 n14 s62 w61) w58))))))))))))))) ∧ ∀ (d63 : Nat → Value) n64 s65 w66, J20 n64 s65 w66 → clI 82 ([.pointer (some ⟨b1, o2, none⟩), .int .i64 9]) w66 R fun n67 w68 => ∃ (J70 : ByteArray → World → Prop), ((cB (n67 == 0) ((s65.size + (⟨#[42]⟩ : ByteArray).size ≤ 9223372036854775807) ∧ J70 (s65 ++ (⟨#[42]⟩ : ByteArray)) w68) ((cB (n67 == 1) ((s65.size + (⟨#[42]⟩ : ByteArray).size ≤ 9223372036854775807) ∧ J70 (s65 ++ (⟨#[42]⟩ : ByteArray)) w68) ((cB (n67 == 2) ((s65.size + (⟨#[43]⟩ : ByteArray).size ≤ 9223372036854775807) ∧ J70 (s65 ++ (⟨#[43]⟩ : ByteArray)) w68) ((cB (n67 == 3) ((s65.size + (⟨#[63]⟩ : ByteArray).size ≤ 9223372036854775807) ∧ J70 (s65 ++ (⟨#[63]⟩ : ByteArray)) w68) ((cB (n67 == 4) (newC [.string (⟨#[123, 50, 125]⟩ : ByteArray), .string (⟨#[123, 48, 125]⟩ : ByteArray), .string (⟨#[123, 49, 44, 125]⟩ : ByteArray), .string (⟨#[123, 48, 44, 50, 125]⟩ : ByteArray), .string (⟨#[123, 49, 44, 51, 125]⟩ : ByteArray), .string (⟨#[123, 48, 44, 48, 125]⟩ : ByteArray), .string (⟨#[123, 50, 44, 50, 125]⟩ : ByteArray)] 9 (fun b71 w72 => clI 82 ([.pointer (some ⟨b1, o2, none⟩), .int .i64 ((7 : Nat) : Int)]) w72 R fun n73 w74 => ixS (some ⟨b71, 0, none⟩) 7 n73 fun b76 o77 => lS w74 b76 (o77 + (Int.toNat n73) * 1) fun s78 => (s65.size + s78.size ≤ 9223372036854775807) ∧ J70 (s65 ++ s78) w74) w68) (J70 s65 w68))))))))))) ∧ ∀ (d79 : Nat → Value) s80 w81, J70 s80 w81 → (ixT s80 (IntKind.wrap .i64 (((ByteArray.size s80 : Nat) : Int) - 1))) ∧ (cB ((byteAt s80 (Int.toNat (IntKind.wrap .i64 (((ByteArray.size s80 : Nat) : Int) - 1)))) == 42) (clI 82 ([.pointer (some ⟨b1, o2, none⟩), .int .i64 3]) w81 R fun n82 w83 => (cB (n82 == 0) ((cB (decide (((ByteArray.size s80 : Nat) : Int) > 1)) ((ixT s80 (IntKind.wrap .i64 (((ByteArray.size s80 : Nat) : Int) - 2))) ∧ (cB ((byteAt s80 (Int.toNat (IntKind.wrap .i64 (((ByteArray.size s80 : Nat) : Int) - 2)))) != 92) ((s80.size + (⟨#[63]⟩ : ByteArray).size ≤ 9223372036854775807) ∧ (s15.size + (s80 ++ (⟨#[63]⟩ : ByteArray)).size ≤ 9223372036854775807) ∧ (∃ m85, m85 < k10 ∧ I9 m85 n64 (s15 ++ (s80 ++ (⟨#[63]⟩ : ByteArray))) (IntKind.wrap .i64 (n16 - 1)) w83)) ((s15.size + s80.size ≤ 9223372036854775807) ∧ (∃ m86, m86 < k10 ∧ I9 m86 n64 (s15 ++ s80) (IntKind.wrap .i64 (n16 - 1)) w83)))) ((s15.size + s80.size ≤ 9223372036854775807) ∧ (∃ m87, m87 < k10 ∧ I9 m87 n64 (s15 ++ s80) (IntKind.wrap .i64 (n16 - 1)) w83)))) ((s15.size + s80.size ≤ 9223372036854775807) ∧ (∃ m88, m88 < k10 ∧ I9 m88 n64 (s15 ++ s80) (IntKind.wrap .i64 (n16 - 1)) w83)))) ((cB ((byteAt s80 (Int.toNat (IntKind.wrap .i64 (((ByteArray.size s80 : Nat) : Int) - 1)))) == 43) (clI 82 ([.pointer (some ⟨b1, o2, none⟩), .int .i64 3]) w81 R fun n89 w90 => (cB (n89 == 0) ((cB (decide (((ByteArray.size s80 : Nat) : Int) > 1)) ((ixT s80 (IntKind.wrap .i64 (((ByteArray.size s80 : Nat) : Int) - 2))) ∧ (cB ((byteAt s80 (Int.toNat (IntKind.wrap .i64 (((ByteArray.size s80 : Nat) : Int) - 2)))) != 92) ((s80.size + (⟨#[63]⟩ : ByteArray).size ≤ 9223372036854775807) ∧ (s15.size + (s80 ++ (⟨#[63]⟩ : ByteArray)).size ≤ 9223372036854775807) ∧ (∃ m92, m92 < k10 ∧ I9 m92 n64 (s15 ++ (s80 ++ (⟨#[63]⟩ : ByteArray))) (IntKind.wrap .i64 (n16 - 1)) w90)) ((s15.size + s80.size ≤ 9223372036854775807) ∧ (∃ m93, m93 < k10 ∧ I9 m93 n64 (s15 ++ s80) (IntKind.wrap .i64 (n16 - 1)) w90)))) ((s15.size + s80.size ≤ 9223372036854775807) ∧ (∃ m94, m94 < k10 ∧ I9 m94 n64 (s15 ++ s80) (IntKind.wrap .i64 (n16 - 1)) w90)))) ((s15.size + s80.size ≤ 9223372036854775807) ∧ (∃ m95, m95 < k10 ∧ I9 m95 n64 (s15 ++ s80) (IntKind.wrap .i64 (n16 - 1)) w90)))) ((cB ((byteAt s80 (Int.toNat (IntKind.wrap .i64 (((ByteArray.size s80 : Nat) : Int) - 1)))) == 125) (clI 82 ([.pointer (some ⟨b1, o2, none⟩), .int .i64 3]) w81 R fun n96 w97 => (cB (n96 == 0) ((cB (decide (((ByteArray.size s80 : Nat) : Int) > 1)) ((ixT s80 (IntKind.wrap .i64 (((ByteArray.size s80 : Nat) : Int) - 2))) ∧ (cB ((byteAt s80 (Int.toNat (IntKind.wrap .i64 (((ByteArray.size s80 : Nat) : Int) - 2)))) != 92) ((s80.size + (⟨#[63]⟩ : ByteArray).size ≤ 9223372036854775807) ∧ (s15.size + (s80 ++ (⟨#[63]⟩ : ByteArray)).size ≤ 9223372036854775807) ∧ (∃ m99, m99 < k10 ∧ I9 m99 n64 (s15 ++ (s80 ++ (⟨#[63]⟩ : ByteArray))) (IntKind.wrap .i64 (n16 - 1)) w97)) ((s15.size + s80.size ≤ 9223372036854775807) ∧ (∃ m100, m100 < k10 ∧ I9 m100 n64 (s15 ++ s80) (IntKind.wrap .i64 (n16 - 1)) w97)))) ((s15.size + s80.size ≤ 9223372036854775807) ∧ (∃ m101, m101 < k10 ∧ I9 m101 n64 (s15 ++ s80) (IntKind.wrap .i64 (n16 - 1)) w97)))) ((s15.size + s80.size ≤ 9223372036854775807) ∧ (∃ m102, m102 < k10 ∧ I9 m102 n64 (s15 ++ s80) (IntKind.wrap .i64 (n16 - 1)) w97)))) ((cB ((byteAt s80 (Int.toNat (IntKind.wrap .i64 (((ByteArray.size s80 : Nat) : Int) - 1)))) == 63) ((cB (decide (((ByteArray.size s80 : Nat) : Int) > 1)) (clI 82 ([.pointer (some ⟨b1, o2, none⟩), .int .i64 3]) w81 R fun n103 w104 => (cB (n103 == 0) ((cB (decide (((ByteArray.size s80 : Nat) : Int) > 1)) ((ixT s80 (IntKind.wrap .i64 (((ByteArray.size s80 : Nat) : Int) - 2))) ∧ (cB ((byteAt s80 (Int.toNat (IntKind.wrap .i64 (((ByteArray.size s80 : Nat) : Int) - 2)))) != 92) ((s80.size + (⟨#[63]⟩ : ByteArray).size ≤ 9223372036854775807) ∧ (s15.size + (s80 ++ (⟨#[63]⟩ : ByteArray)).size ≤ 9223372036854775807) ∧ (∃ m106, m106 < k10 ∧ I9 m106 n64 (s15 ++ (s80 ++ (⟨#[63]⟩ : ByteArray))) (IntKind.wrap .i64 (n16 - 1)) w104)) ((s15.size + s80.size ≤ 9223372036854775807) ∧ (∃ m107, m107 < k10 ∧ I9 m107 n64 (s15 ++ s80) (IntKind.wrap .i64 (n16 - 1)) w104)))) ((s15.size + s80.size ≤ 9223372036854775807) ∧ (∃ m108, m108 < k10 ∧ I9 m108 n64 (s15 ++ s80) (IntKind.wrap .i64 (n16 - 1)) w104)))) ((s15.size + s80.size ≤ 9223372036854775807) ∧ (∃ m109, m109 < k10 ∧ I9 m109 n64 (s15 ++ s80) (IntKind.wrap .i64 (n16 - 1)) w104)))) ((s15.size + s80.size ≤ 9223372036854775807) ∧ (∃ m110, m110 < k10 ∧ I9 m110 n64 (s15 ++ s80) (IntKind.wrap .i64 (n16 - 1)) w81)))) ((s15.size + s80.size ≤ 9223372036854775807) ∧ (∃ m111, m111 < k10 ∧ I9 m111 n64 (s15 ++ s80) (IntKind.wrap .i64 (n16 - 1)) w81)))))))))) (clI 82 ([.pointer (some ⟨b1, o2, none⟩), .int .i64 6]) w12 R fun n112 w113 => (cB (n112 == 0) (clV 107 ([.pointer (some ⟨b1, o2, none⟩), .int .i64 n3, .int .i64 n14, .bool t5]) w113 R fun r118 w117 => ∃ s115, ∃ n116, r118 = .tuple #[.string s115, .int .i64 n116] ∧ ((⟨#[124]⟩ : ByteArray).size + s115.size ≤ 9223372036854775807) ∧ (s15.size + ((⟨#[124]⟩ : ByteArray) ++ s115).size ≤ 9223372036854775807) ∧ R (.returned (.tuple #[.string (s15 ++ ((⟨#[124]⟩ : ByteArray) ++ s115)), .int .i64 n116])) w117) (R (.returned (.tuple #[.string s15, .int .i64 n14])) w113))))
def scr107 : Scr := (.q 2 (.q 1 (.q 3 (.loop (dr [(2, some (.int .i64)), (10, some .str), (11, some (.int .i64))] [(12,7),(22,140)]) (.q 2 (.cond (.q 1 (.q 2 (.q 2 (.cut (dr [(2, some (.int .i64)), (12, some .str)] [(13,4),(28,6),(36,52)]) (.cond (.q 1 .nil) (.q 2 (.cond (.q 2 (.q 8 .nil)) (.q 2 (.cond (.q 2 (.q 8 .nil)) (.q 2 (.cond (.q 1 (.cond (.q 1 .nil) (.q 2 (.q 6 .nil)))) (.q 2 (.cond (.lit (.run [0,1,2] (.split 71 (.r [3,4,5] (.cond (.q 1 (.q 12 (.q 4 .nil))) (.q 1 .nil))) (.r [3,4,5] (.lit (.q 1 .nil)))))) (.q 2 (.cond (.lit (.run [0,1,2] (.split 71 (.r [3,4,5] (.cond (.q 1 (.q 12 (.q 4 .nil))) (.q 1 .nil))) (.r [3,4,5] (.lit (.q 1 .nil)))))) (.q 2 (.cond (.run [0,1,2] (.split 71 (.r [3,4,5] (.cond (.q 1 (.q 12 (.q 4 .nil))) (.q 1 .nil))) (.r [3,4,5] (.lit (.q 1 .nil))))) (.q 7 .nil)))))))))))))) (.q 2 (.cut (dr [(12, some .str)] [(17,1),(90,25)]) (.q 2 (.cond (.lit (.q 3 .nil)) (.q 2 (.cond (.q 3 .nil) (.q 2 (.cond (.q 3 .nil) (.q 2 (.cond (.q 3 .nil) (.q 2 (.cond (.q 2 (.q 10 .nil)) .nil)))))))))) (.q 6 (.run [0,1,2] (.split 122 (.run [3,4,5,6,7,8,9,10,11,12,13,14,15,16,17,18,19,20,21,22,23,24] (.split 144 (.run [25,26,27,28,29] (.split 149 (.r [30,31,32,33,34,35,36] (.cond (.q 3 (.q 4 (.q 3 .nil))) (.q 4 (.q 3 .nil)))) (.r [30,31,32,33,34,35,36] (.lit (.q 4 (.q 3 .nil)))))) (.r [25,26,27,28,29,30,31,32,33,34,35,36] (.lit (.q 4 (.q 3 .nil)))))) (.run [3,4,5,6] (.split 126 (.run [7,8,9,10,11,12,13,14,15,16,17,18,19,20,21,22,23,24] (.split 144 (.run [25,26,27,28,29] (.split 149 (.r [30,31,32,33,34,35,36] (.cond (.q 3 (.q 4 (.q 3 .nil))) (.q 4 (.q 3 .nil)))) (.r [30,31,32,33,34,35,36] (.lit (.q 4 (.q 3 .nil)))))) (.r [25,26,27,28,29,30,31,32,33,34,35,36] (.lit (.q 4 (.q 3 .nil)))))) (.run [7,8,9,10] (.split 130 (.run [11,12,13,14,15,16,17,18,19,20,21,22,23,24] (.split 144 (.run [25,26,27,28,29] (.split 149 (.r [30,31,32,33,34,35,36] (.cond (.q 3 (.q 4 (.q 3 .nil))) (.q 4 (.q 3 .nil)))) (.r [30,31,32,33,34,35,36] (.lit (.q 4 (.q 3 .nil)))))) (.r [25,26,27,28,29,30,31,32,33,34,35,36] (.lit (.q 4 (.q 3 .nil)))))) (.run [11,12,13] (.split 133 (.run [14,15,16,17,18,19] (.split 139 (.run [20,21,22,23,24] (.split 144 (.run [25,26,27,28,29] (.split 149 (.r [30,31,32,33,34,35,36] (.cond (.q 3 (.q 4 (.q 3 .nil))) (.q 4 (.q 3 .nil)))) (.r [30,31,32,33,34,35,36] (.lit (.q 4 (.q 3 .nil)))))) (.r [25,26,27,28,29,30,31,32,33,34,35,36] (.lit (.q 4 (.q 3 .nil)))))) (.r [20,21,22,23,24,25,26,27,28,29,30,31,32,33,34,35,36] (.lit (.q 4 (.q 3 .nil)))))) (.r [14,15,16,17,18,19,20,21,22,23,24,25,26,27,28,29,30,31,32,33,34,35,36] (.lit (.q 4 (.q 3 .nil))))))))))))))))))) (.q 3 (.cond (.q 1 (.q 10 (.q 5 (.q 4 .nil)))) (.q 4 .nil)))))))))
theorem vc107 {b1 o2 n3 n4 t5} {R w} (h : V107 b1 o2 n3 n4 t5 R w) : Cl Try.prog 107 [.pointer (some ⟨b1, o2, none⟩), .int .i64 n3, .int .i64 n4, .bool t5] w R :=
  cl_of scr107 Try.func107 (by kernel_rfl) _ _ (by kernel_rfl) h
/-- (*spec.l6Cur).good -/
def V66 (b1 o2 : Nat) (t3 : Bool) (R : Rt) : Pred := fun w =>
  clV 107 ([.pointer (some ⟨b1, o2, none⟩), .int .i64 3, .int .i64 9, .bool t3]) w R fun r7 w6 => ∃ s4, ∃ n5, r7 = .tuple #[.string s4, .int .i64 n5] ∧ (cB (decide (((ByteArray.size s4 : Nat) : Int) > 120)) (R (.returned (.string (⟨#[40, 97, 124, 97, 98, 41, 42, 99, 63]⟩ : ByteArray))) w6) (R (.returned (.string s4)) w6))
def scr66 : Scr := (.q 1 (.q 8 (.q 3 (.cond (.q 1 .nil) (.q 2 .nil)))))
theorem vc66 {b1 o2 t3} {R w} (h : V66 b1 o2 t3 R w) : Cl Try.prog 66 [.pointer (some ⟨b1, o2, none⟩), .bool t3] w R :=
  cl_of scr66 Try.func66 (by kernel_rfl) _ _ (by kernel_rfl) h
/-- spec.Drawn -/
def V20 (a1 : Option Addr) (l1 c1 : Nat) (R : Rt) : Pred := fun w =>
  newC [.slice a1 l1 c1, .int .i64 0, .int .u64 0] 76 (fun b2 w3 => clS 66 ([.pointer (some ⟨b2, 0, none⟩), .bool false]) w3 R fun s4 w5 => clS 67 ([.pointer (some ⟨b2, 0, none⟩), .int .i64 14]) w5 R fun s7 w8 => R (.returned (.tuple #[.string s4, .string s7])) w8) w
def scr20 : Scr := (.q 2 (.q 4 (.q 3 (.q 5 .nil))))
theorem vc20 {a1 l1 c1} {R w} (h : V20 a1 l1 c1 R w) : Cl Try.prog 20 [.slice a1 l1 c1] w R :=
  cl_of scr20 Try.func20 (by kernel_rfl) _ _ (by kernel_rfl) h
/-- spec.Plain -/
def V55 (a1 : Option Addr) (l1 c1 : Nat) (R : Rt) : Pred := fun w =>
  newC [.slice a1 l1 c1, .int .i64 0, .int .u64 0] 76 (fun b2 w3 => clS 66 ([.pointer (some ⟨b2, 0, none⟩), .bool true]) w3 R fun s4 w5 => clS 67 ([.pointer (some ⟨b2, 0, none⟩), .int .i64 10]) w5 R fun s7 w8 => R (.returned (.tuple #[.string s4, .string s7])) w8) w
def scr55 : Scr := (.q 2 (.q 4 (.q 3 (.q 5 .nil))))
theorem vc55 {a1 l1 c1} {R w} (h : V55 a1 l1 c1 R w) : Cl Try.prog 55 [.slice a1 l1 c1] w R :=
  cl_of scr55 Try.func55 (by kernel_rfl) _ _ (by kernel_rfl) h
end Go.Proofs.Ytngbiaeliphdjaa.V
/- Printed by vcgen.py, a program of this session: formulas of Go functions, each with the proof that it gives the function's contract. No statement of the seat is proved here. -/
namespace Go.Proofs.Ytngbiaeliphdjaa.V
open Go.Vc Go.Proofs
set_option linter.unusedVariables false
set_option maxRecDepth 100000
/-- laws.wByte -/
def V28 (a1 : Option Addr) (l1 c1 : Nat) (n2 : Int) (R : Rt) : Pred := fun w =>
  (cB (((l1 : Nat) : Int) == 0) (R (.returned (.int .i64 0)) w) (((((l1 : Nat) : Int) : Int) ≠ 0) ∧ ixS a1 l1 (Int.tmod n2 ((l1 : Nat) : Int)) fun b3 o4 => lK .u8 w b3 (o4 + (Int.toNat (Int.tmod n2 ((l1 : Nat) : Int))) * 1) fun n5 => R (.returned (.int .i64 (IntKind.wrap .i64 n5))) w))
def scr28 : Scr := (.q 1 (.q 3 (.cond (.q 1 .nil) (.q 9 .nil))))
theorem vc28 {a1 l1 c1 n2} {R w} (h : V28 a1 l1 c1 n2 R w) : Cl Try.prog 28 [.slice a1 l1 c1, .int .i64 n2] w R :=
  cl_of scr28 Try.func28 (by kernel_rfl) _ _ (by kernel_rfl) h
/-- laws.wNumber -/
def V29 (n1 : Int) (R : Rt) : Pred := fun w =>
  (cB (decide (n1 < 10)) (newC [.int .u8 (IntKind.wrap .u8 (IntKind.wrap .i64 (48 + n1)))] 5 (fun b2 w3 => ∃ s4, (convert 22 9 (.slice (some ⟨b2, 0, none⟩) 1 1)).run Try.prog w3 = .ok (.string s4) w3 ∧ R (.returned (.string s4)) w3) w) (((10 : Int) ≠ 0) ∧ ((10 : Int) ≠ 0) ∧ newC [.int .u8 (IntKind.wrap .u8 (IntKind.wrap .i64 (48 + (IntKind.wrap .i64 (Int.tdiv n1 10))))), .int .u8 (IntKind.wrap .u8 (IntKind.wrap .i64 (48 + (Int.tmod n1 10))))] 5 (fun b5 w6 => ∃ s7, (convert 22 9 (.slice (some ⟨b5, 0, none⟩) 2 2)).run Try.prog w6 = .ok (.string s7) w6 ∧ R (.returned (.string s7)) w6) w))
def scr29 : Scr := (.q 1 (.q 2 (.cond (.q 6 .nil) (.q 11 .nil))))
theorem vc29 {n1} {R w} (h : V29 n1 R w) : Cl Try.prog 29 [.int .i64 n1] w R :=
  cl_of scr29 Try.func29 (by kernel_rfl) _ _ (by kernel_rfl) h
/-- laws.wA -/
def V31 (n1 : Int) (R : Rt) : Pred := fun w =>
  ∃ (I2 : Nat → Int → ByteArray → World → Prop), (∃ k4, I2 k4 n1 (⟨#[]⟩ : ByteArray) w) ∧ ∀ k3 (d6 : Nat → Value) n7 s8 w5, I2 k3 n7 s8 w5 → (cB (decide (n7 > 0)) ((s8.size + (⟨#[97]⟩ : ByteArray).size ≤ 9223372036854775807) ∧ (∃ m9, m9 < k3 ∧ I2 m9 (IntKind.wrap .i64 (n7 - 1)) (s8 ++ (⟨#[97]⟩ : ByteArray)) w5)) (R (.returned (.string s8)) w5))
def scr31 : Scr := (.q 1 (.q 1 (.loop (dr [(0, some (.int .i64)), (3, some .str)] [(4,6)]) (.q 2 (.cond (.q 3 (.q 3 .nil)) (.q 2 .nil))))))
theorem vc31 {n1} {R w} (h : V31 n1 R w) : Cl Try.prog 31 [.int .i64 n1] w R :=
  cl_of scr31 Try.func31 (by kernel_rfl) _ _ (by kernel_rfl) h
/-- (*spec.l6Cur).next -/
def V115 (b1 o2 : Nat) (R : Rt) : Pred := fun w =>
  drw (fun w3 => lI w3 b1 (o2 + 1) fun n4 => lL w3 b1 o2 fun a5 l5 c5 => (cB (decide (n4 < ((l5 : Nat) : Int))) (drw (fun w6 => lL w6 b1 o2 fun a7 l7 c7 => lI w6 b1 (o2 + 1) fun n8 => ixS a7 l7 n8 fun b9 o10 => lK .u8 w6 b9 (o10 + (Int.toNat n8) * 1) fun n11 => lI w6 b1 (o2 + 1) fun n12 => stW b1 (o2 + 1) [.int .i64 (IntKind.wrap .i64 (n12 + 1))] (fun w13 => lK .u64 w13 b1 (o2 + 2) fun n14 => stW b1 (o2 + 2) [.int .u64 (IntKind.wrap .u64 ((IntKind.wrap .u64 ((IntKind.wrap .u64 (n14 * 6364136223846793005)) + (IntKind.wrap .u64 n11))) + 1442695040888963407))] (fun w15 => R (.returned (.int .i64 (IntKind.wrap .i64 n11))) w15) w13) w6) w3) (lK .u64 w3 b1 (o2 + 2) fun n16 => stW b1 (o2 + 2) [.int .u64 (IntKind.wrap .u64 ((IntKind.wrap .u64 (n16 * 6364136223846793005)) + 1442695040888963407))] (fun w17 => lI w17 b1 (o2 + 1) fun n18 => stW b1 (o2 + 1) [.int .i64 (IntKind.wrap .i64 (n18 + 1))] (fun w19 => lK .u64 w19 b1 (o2 + 2) fun n20 => ((0 : Int) ≤ 40) ∧ R (.returned (.int .i64 (IntKind.wrap .i64 (IntKind.wrap .u64 (((BitVec.ofInt 64 (Int.fdiv n20 (2 ^ (min (Int.toNat 40) 64))) &&& BitVec.ofInt 64 255).toNat : Int)))))) w19) w17) w3))) w
def scr115 : Scr := (.q 1 (.q 10 (.cond (.q 11 (.q 8 (.q 13 (.q 3 .nil)))) (.q 10 (.q 8 (.q 8 .nil))))))
theorem vc115 {b1 o2} {R w} (h : V115 b1 o2 R w) : Cl Try.prog 115 [.pointer (some ⟨b1, o2, none⟩)] w R :=
  cl_of scr115 Try.func115 (by kernel_rfl) _ _ (by kernel_rfl) h
/-- (*spec.l6Cur).pick -/
def V82 (b1 o2 : Nat) (n3 : Int) (R : Rt) : Pred := fun w =>
  (cB (decide (n3 ≤ 1)) (R (.returned (.int .i64 0)) w) (clI 115 ([.pointer (some ⟨b1, o2, none⟩)]) w R fun n4 w5 => (cB (decide (n3 > 200)) (clI 115 ([.pointer (some ⟨b1, o2, none⟩)]) w5 R fun n7 w8 => ((n3 : Int) ≠ 0) ∧ R (.returned (.int .i64 (Int.tmod (IntKind.wrap .i64 ((IntKind.wrap .i64 (n4 * 256)) + n7)) n3))) w8) (((n3 : Int) ≠ 0) ∧ R (.returned (.int .i64 (Int.tmod n4 n3))) w5))))
def scr82 : Scr := (.q 1 (.q 2 (.cond (.q 1 .nil) (.q 3 (.q 2 (.cond (.q 6 (.q 4 .nil)) (.q 4 .nil)))))))
theorem vc82 {b1 o2 n3} {R w} (h : V82 b1 o2 n3 R w) : Cl Try.prog 82 [.pointer (some ⟨b1, o2, none⟩), .int .i64 n3] w R :=
  cl_of scr82 Try.func82 (by kernel_rfl) _ _ (by kernel_rfl) h
/-- (*spec.l6Cur).bytes -/
def V81 (b1 o2 : Nat) (n3 : Int) (R : Rt) : Pred := fun w =>
  ∃ (I4 : Nat → Int → Option Addr → Nat → Nat → World → Prop), (∃ k6, I4 k6 n3 none 0 0 w) ∧ ∀ k5 (d8 : Nat → Value) n9 a10 l10 c10 w7, I4 k5 n9 a10 l10 c10 w7 → (cB (decide (n9 > 0)) (clI 115 ([.pointer (some ⟨b1, o2, none⟩)]) w7 R fun n11 w12 => newC [.int .u8 (IntKind.wrap .u8 n11)] 5 (fun b14 w15 => ∃ a16 l16 c16, ∃ w17, (Builtin.append_ #[22, 22] 22 #[.slice a10 l10 c10, .slice (some ⟨b14, 0, none⟩) 1 1]).run Try.prog w15 = .ok (.slice a16 l16 c16) w17 ∧ (∃ m18, m18 < k5 ∧ I4 m18 (IntKind.wrap .i64 (n9 - 1)) a16 l16 c16 w17)) w12) (∃ s19, (convert 22 9 (.slice a10 l10 c10)).run Try.prog w7 = .ok (.string s19) w7 ∧ R (.returned (.string s19)) w7))
def scr81 : Scr := (.q 1 (.q 1 (.loop (dr [(1, some (.int .i64)), (5, some .slice)] [(6,10)]) (.q 2 (.cond (.q 7 (.q 3 .nil)) (.q 3 .nil))))))
theorem vc81 {b1 o2 n3} {R w} (h : V81 b1 o2 n3 R w) : Cl Try.prog 81 [.pointer (some ⟨b1, o2, none⟩), .int .i64 n3] w R :=
  cl_of scr81 Try.func81 (by kernel_rfl) _ _ (by kernel_rfl) h
/-- spec.Texts -/
def V32 (a1 : Option Addr) (l1 c1 : Nat) (R : Rt) : Pred := fun w =>
  newC [.slice a1 l1 c1, .int .i64 0, .int .u64 0] 76 (fun b2 w3 => clI 82 ([.pointer (some ⟨b2, 0, none⟩), .int .i64 28]) w3 R fun n4 w5 => clS 81 ([.pointer (some ⟨b2, 0, none⟩), .int .i64 n4]) w5 R fun s7 w8 => R (.returned (.string s7)) w8) w
def scr32 : Scr := (.q 1 (.q 4 (.q 5 .nil)))
theorem vc32 {a1 l1 c1} {R w} (h : V32 a1 l1 c1 R w) : Cl Try.prog 32 [.slice a1 l1 c1] w R :=
  cl_of scr32 Try.func32 (by kernel_rfl) _ _ (by kernel_rfl) h
/-- (*spec.l6Cur).text -/
def V67 (b1 o2 : Nat) (n3 : Int) (R : Rt) : Pred := fun w =>
  clI 82 ([.pointer (some ⟨b1, o2, none⟩), .int .i64 (IntKind.wrap .i64 (n3 + 1))]) w R fun n4 w5 => ∃ (I7 : Nat → Option Addr → Nat → Nat → Int → World → Prop), (∃ k9, I7 k9 none 0 0 n4 w5) ∧ ∀ k8 (d11 : Nat → Value) a12 l12 c12 n13 w10, I7 k8 a12 l12 c12 n13 w10 → (cB (decide (n13 > 0)) (clI 82 ([.pointer (some ⟨b1, o2, none⟩), .int .i64 12]) w10 R fun n14 w15 => (cB (n14 == 0) (clI 82 ([.pointer (some ⟨b1, o2, none⟩), .int .i64 6]) w15 R fun n17 w18 => (ixT (⟨#[49, 95, 32, 10, 92, 45]⟩ : ByteArray) n17) ∧ newC [.int .u8 (byteAt (⟨#[49, 95, 32, 10, 92, 45]⟩ : ByteArray) (Int.toNat n17))] 5 (fun b20 w21 => ∃ a22 l22 c22, ∃ w23, (Builtin.append_ #[22, 22] 22 #[.slice a12 l12 c12, .slice (some ⟨b20, 0, none⟩) 1 1]).run Try.prog w21 = .ok (.slice a22 l22 c22) w23 ∧ (∃ m24, m24 < k8 ∧ I7 m24 a22 l22 c22 (IntKind.wrap .i64 (n13 - 1)) w23)) w18) (clI 82 ([.pointer (some ⟨b1, o2, none⟩), .int .i64 3]) w15 R fun n25 w26 => newC [.int .u8 (IntKind.wrap .u8 (IntKind.wrap .i64 (97 + n25)))] 5 (fun b28 w29 => ∃ a30 l30 c30, ∃ w31, (Builtin.append_ #[22, 22] 22 #[.slice a12 l12 c12, .slice (some ⟨b28, 0, none⟩) 1 1]).run Try.prog w29 = .ok (.slice a30 l30 c30) w31 ∧ (∃ m32, m32 < k8 ∧ I7 m32 a30 l30 c30 (IntKind.wrap .i64 (n13 - 1)) w31)) w26))) (clI 82 ([.pointer (some ⟨b1, o2, none⟩), .int .i64 9]) w10 R fun n33 w34 => (cB (n33 == 0) ((cB (decide (((l12 : Nat) : Int) < n3)) (newC [.int .u8 10] 5 (fun b36 w37 => ∃ a38 l38 c38, ∃ w39, (Builtin.append_ #[22, 22] 22 #[.slice a12 l12 c12, .slice (some ⟨b36, 0, none⟩) 1 1]).run Try.prog w37 = .ok (.slice a38 l38 c38) w39 ∧ ∃ s40, (convert 22 9 (.slice a38 l38 c38)).run Try.prog w39 = .ok (.string s40) w39 ∧ R (.returned (.string s40)) w39) w34) (∃ s41, (convert 22 9 (.slice a12 l12 c12)).run Try.prog w34 = .ok (.string s41) w34 ∧ R (.returned (.string s41)) w34))) (∃ s42, (convert 22 9 (.slice a12 l12 c12)).run Try.prog w34 = .ok (.string s42) w34 ∧ R (.returned (.string s42)) w34))))
def scr67 : Scr := (.q 1 (.q 1 (.q 5 (.loop (dr [(5, some .slice), (6, some (.int .i64))] [(11,20)]) (.q 2 (.cond (.q 3 (.cond (.q 7 (.q 3 .nil)) (.q 8 (.q 3 .nil)))) (.run [0,1,2,3] (.split 34 (.r [4,5,6,7,8] (.cond (.q 4 (.q 3 .nil)) (.q 3 .nil))) (.r [4,5,6,7,8] (.lit (.q 3 .nil)))))))))))
theorem vc67 {b1 o2 n3} {R w} (h : V67 b1 o2 n3 R w) : Cl Try.prog 67 [.pointer (some ⟨b1, o2, none⟩), .int .i64 n3] w R :=
  cl_of scr67 Try.func67 (by kernel_rfl) _ _ (by kernel_rfl) h
end Go.Proofs.Ytngbiaeliphdjaa.V
/- The sequence behind the bytes: from every seed it comes to one place, behind which it is harmless for a while. No statement of the seat is proved here. -/
namespace Go.Vc
set_option linter.unusedVariables false
set_option linter.unusedSimpArgs false
def lg (x : Nat) : Nat := x * 6364136223846793005 + 1442695040888963407
def itg : Nat → Nat → Nat
  | 0, x => x
  | n + 1, x => itg n (lg x)
theorem itg_head (n x : Nat) : itg (n + 1) x = itg n (lg x) := rfl
theorem itg_add : ∀ (m n x : Nat), itg (m + n) x = itg n (itg m x)
  | 0, n, x => by rw [Nat.zero_add]; rfl
  | m + 1, n, x => by rw [Nat.add_right_comm]; exact itg_add m n (lg x)
theorem itg_last (n x : Nat) : itg (n + 1) x = lg (itg n x) := itg_add n 1 x
theorem itg_pow : ∀ k : Nat, ∃ u v : Nat, ∀ z, itg (2 ^ k) z = (1 + 2 ^ (k + 2) * u) * z + 2 ^ k * (1 + 2 * v)
  | 0 => ⟨1591034055961698251, 721347520444481703, fun z => by
      show z * 6364136223846793005 + 1442695040888963407 = _
      omega⟩
  | k + 1 => by
    obtain ⟨u, v, h⟩ := itg_pow k
    refine ⟨u + 2 ^ (k + 1) * u * u, v + 2 ^ k * u + 2 ^ (k + 1) * u * v, fun z => ?_⟩
    rw [show 2 ^ (k + 1) = 2 ^ k + 2 ^ k from by rw [Nat.pow_succ]; omega, itg_add, h, h]
    rw [show 2 ^ (k + 1 + 2) = 2 ^ k * 8 from by rw [Nat.pow_add, Nat.pow_add]; omega, show 2 ^ (k + 2) = 2 ^ k * 4 from Nat.pow_add 2 k 2]
    generalize 2 ^ k = P
    grind
theorem mod_two {P z y : Nat} (h : z % P = y % P) (hn : z % (P * 2) ≠ y % (P * 2)) : (z + P) % (P * 2) = y % (P * 2) := by
  by_cases hP : P = 0
  · subst hP; simp at h hn; exact absurd h hn
  rw [Nat.mod_mul] at hn ⊢
  rw [Nat.mod_mul] at hn ⊢
  rw [Nat.add_mod_right, Nat.add_div_right _ (by omega), h]
  rw [h] at hn
  congr 2
  have : z / P % 2 ≠ y / P % 2 := fun e => hn (by rw [e])
  omega
theorem itg_reach : ∀ (k x y : Nat), ∃ n, n < 2 ^ k ∧ itg n x % 2 ^ k = y % 2 ^ k
  | 0, x, y => ⟨0, by decide, by omega⟩
  | k + 1, x, y => by
    obtain ⟨n, h1, h2⟩ := itg_reach k x y
    obtain ⟨u, v, h⟩ := itg_pow k
    rw [Nat.pow_succ]
    by_cases h3 : itg n x % (2 ^ k * 2) = y % (2 ^ k * 2)
    · exact ⟨n, by omega, h3⟩
    · refine ⟨n + 2 ^ k, by omega, ?_⟩
      rw [itg_add, h, ← mod_two h2 h3]
      generalize itg n x = z
      rw [show 2 ^ (k + 2) = 2 ^ k * 4 from Nat.pow_add 2 k 2]
      generalize 2 ^ k = P
      have : (1 + P * 4 * u) * z + P * (1 + 2 * v) = z + P + P * 2 * (2 * u * z + v) := by grind
      rw [this, Nat.add_mul_mod_self_left]
theorem lg_mod {M x y : Nat} (h : x % M = y % M) : lg x % M = lg y % M := by
  unfold lg
  rw [Nat.add_mod, Nat.mul_mod, h, ← Nat.mul_mod, ← Nat.add_mod]
theorem itg_mod {M : Nat} : ∀ (n : Nat) {x y : Nat}, x % M = y % M → itg n x % M = itg n y % M
  | 0, _, _, h => h
  | n + 1, _, _, h => itg_mod n (lg_mod h)
/-- The place. -/
def lcS : Nat := 138374360053217
def good (v : Nat) : Prop := v % 12 ≠ 4 ∧ v % 12 ≠ 5 ∧ v % 12 ≠ 6 ∧ v % 6 ≠ 0
instance (v : Nat) : Decidable (good v) := by unfold good; infer_instance
theorem good_win : ∀ j : Nat, j < 59 → good (itg (j + 1) lcS % 281474976710656 / 1099511627776) := by
  have : ∀ j : Fin 59, good (itg (j.val + 1) lcS % 281474976710656 / 1099511627776) := by decide +kernel
  exact fun j h => this ⟨j, h⟩
/-- How many draws there may be yet: more than 5059 far from the place; the last 59 ahead of 5000 stand behind it. -/
def Bd (l p sd m : Nat) : Prop := p + m ≤ 1125899906842624 ∧
  (m ≤ 5000 ∨ (5000 < m ∧ m ≤ 5059 ∧ l ≤ p ∧ sd % 281474976710656 = itg (5059 - m) lcS % 281474976710656) ∨ (5059 < m ∧ (l ≤ p ∧ itg (m - 5059) sd % 281474976710656 = lcS % 281474976710656 ∨ p < l ∧ m = 5059 + 281474976710656 + (l - p))))
theorem bd_out {l p sd : Nat} (hp : p ≤ 1048576) (h : l ≤ p) : ∃ n, n < 281474976710656 ∧ Bd l p sd (5059 + n) := by
  obtain ⟨n, h1, h2⟩ := itg_reach 48 sd lcS
  refine ⟨n, h1, by omega, .inr ?_⟩
  by_cases hn : n = 0
  · subst hn
    exact .inl ⟨by omega, by omega, h, h2⟩
  · exact .inr ⟨by omega, .inl ⟨h, by rw [show 5059 + n - 5059 = n from by omega]; exact h2⟩⟩
theorem bd_start {l sd : Nat} (h : l ≤ 1048576) : ∃ m, 5059 ≤ m ∧ Bd l 0 sd m := by
  by_cases hl : l = 0
  · subst hl
    obtain ⟨n, _, h2⟩ := bd_out (l := 0) (p := 0) (sd := sd) (by omega) (by omega)
    exact ⟨_, by omega, h2⟩
  · exact ⟨5059 + 281474976710656 + (l - 0), by omega, by omega, .inr (.inr ⟨by omega, .inr ⟨by omega, rfl⟩⟩)⟩
theorem bd_code {l p sd m sd' : Nat} (h : Bd l p sd m) (hm : 0 < m) (hl : l ≤ 1048576) (hp : p < l) : ∃ m', m' < m ∧ min (m - 1) 5059 ≤ m' ∧ Bd l (p + 1) sd' m' := by
  obtain ⟨h1, h2 | ⟨h2, h3, h4, h5⟩ | ⟨h2, ⟨h3, h4⟩ | ⟨h3, h4⟩⟩⟩ := h
  · exact ⟨m - 1, by omega, by omega, by omega, .inl (by omega)⟩
  · omega
  · omega
  · by_cases he : p + 1 < l
    · exact ⟨m - 1, by omega, by omega, by omega, .inr (.inr ⟨by omega, .inr ⟨he, by omega⟩⟩)⟩
    · obtain ⟨n, h5, h6⟩ := bd_out (l := l) (p := p + 1) (sd := sd') (by omega) (by omega)
      exact ⟨_, by omega, by omega, h6⟩
theorem bd_seq {l p sd m sd' : Nat} (h : Bd l p sd m) (hm : 0 < m) (hp : l ≤ p) (hs : sd' % 281474976710656 = lg sd % 281474976710656) : Bd l (p + 1) sd' (m - 1) := by
  obtain ⟨h1, h2 | ⟨h2, h3, h4, h5⟩ | ⟨h2, ⟨h3, h4⟩ | ⟨h3, h4⟩⟩⟩ := h
  · exact ⟨by omega, .inl (by omega)⟩
  · refine ⟨by omega, ?_⟩
    by_cases h6 : m - 1 ≤ 5000
    · exact .inl h6
    · refine .inr (.inl ⟨by omega, by omega, by omega, ?_⟩)
      rw [show 5059 - (m - 1) = 5059 - m + 1 from by omega, itg_last, hs]
      exact lg_mod h5
  · refine ⟨by omega, .inr ?_⟩
    have h7 : itg (m - 1 - 5059) sd' % 281474976710656 = lcS % 281474976710656 := by
      rw [itg_mod _ hs]
      rw [show m - 5059 = (m - 1 - 5059) + 1 from by omega, itg_head] at h4
      exact h4
    by_cases h6 : m - 1 = 5059
    · rw [h6] at h7 ⊢
      rw [Nat.sub_self] at h7
      exact .inl ⟨by omega, by omega, by omega, by rw [Nat.sub_self]; exact h7⟩
    · exact .inr ⟨by omega, .inl ⟨by omega, h7⟩⟩
  · omega
theorem bd_good {l p sd m sd' : Nat} (h : Bd l p sd m) (h1 : 5000 < m) (h2 : m ≤ 5059) (hs : sd' % 281474976710656 = lg sd % 281474976710656) : l ≤ p ∧ good (sd' / 1099511627776 % 256) := by
  obtain ⟨_, h3 | ⟨_, _, h4, h5⟩ | ⟨h3, _⟩⟩ := h
  · omega
  · refine ⟨h4, ?_⟩
    have h6 : sd' % 281474976710656 = itg (5059 - m + 1) lcS % 281474976710656 := by rw [itg_last, hs]; exact lg_mod h5
    have h7 := good_win (5059 - m) (by omega)
    rw [← h6] at h7
    have h8 : sd' % 281474976710656 / 1099511627776 = sd' / 1099511627776 % 256 := by omega
    rw [← h8]; exact h7
  · omega
end Go.Vc
/- For the rows: what was read stays readable where nothing old has changed; bytes among the arguments. No statement of the seat is proved here. -/
namespace Go.Vc
open Go.RowKit
set_option linter.unusedVariables false
set_option linter.unusedSimpArgs false
theorem trodAll_carry {H : Type} {enc : TypeId × Value → H} {P : Program} {w w' : World} {spare : Nat → Bool} {held : Bool} (hb : Below w.heap.size w w') :
    ∀ {ts : List TypeId} {vs : List Value} {ds : List (DataW H)} {ps : List MemPlace}, DataW.TrodAll enc P w 0 spare held ts vs ds ps → DataW.TrodAll enc P w' 0 spare held ts vs ds ps
  | [], [], [], ps, h => h
  | t :: ts, v :: vs, d :: ds, ps, ⟨p, q, ⟨n, h1⟩, h2, h3⟩ =>
    ⟨p, q, ⟨n, DataW.trod_carry n t v.cells.toList (d, p) h1 fun x hx => hb.same (DataW.trod_lt n t v.cells.toList (d, p) h1 x hx)⟩, trodAll_carry hb h2, h3⟩
  | [], [], _ :: _, _, h => h.elim
  | [], _ :: _, _, _, h => h.elim
  | _ :: _, [], _, _, h => h.elim
  | _ :: _, _ :: _, [], _, h => h.elim
theorem trodAll_back {H : Type} {enc : TypeId × Value → H} {P : Program} {w w' : World} (hb : Below w.heap.size w w') (hl : laidOutB P = true) (hm : mapsRowed P = true)
    (hf : ((List.range P.types.size).all fun t => match P.underlying t with | some (.slice e) => decide (0 < P.cellsOf e) | _ => true) = true) {ts : List TypeId} {vs : List Value} {ds : List (DataW H)} {ps : List MemPlace}
    (ht : (ts.all fun t => decide (t < P.types.size)) = true) (h : DataW.TrodAll enc P w 0 (fun _ => true) true ts vs ds ps) : DataW.TrodAll enc P w' 0 (fun b => decide (b < w.heap.size)) true ts vs ds ps :=
  trodAll_carry hb (DataW.TrodAll.respare (kids_rows hl hm) (fun t e h1 h2 => slices_full_of P hf t e h1 h2) (fun t h1 => of_decide_eq_true (List.all_eq_true.1 ht t h1)) h fun p hp => decide_eq_true (DataW.TrodAll.lt h p hp))

/-- The given bytes: readable, below B. -/
def GBytes (w : World) (B : Nat) (a : Option Addr) (l : Nat) : Prop :=
  l ≤ 1048576 ∧ (l = 0 ∨ ∃ b o, a = some ⟨b, o, none⟩ ∧ b < B ∧ ∀ i, i < l → ∃ n : Int, 0 ≤ n ∧ n ≤ 255 ∧ cellH w.heap b (o + i) = some (.int .u8 n))
theorem open_bytes {H : Type} {enc : TypeId × Value → H} {P : Program} {w : World} {base : Nat} {spare : Nat → Bool} {held : Bool} {r : Reach} {b0 : Nat} {t e : TypeId} {v : Value} {d : DataW H} {ps : List MemPlace}
    (ht : P.underlying t = some (.slice e)) (he : P.underlying e = some (.int .u8)) (hc : P.cellsOf e = 1) (hval : Value.okWide P w r b0 t v) (hd : DataW.Trod enc P w base spare held t v d ps) :
    ∃ a l c, v = .slice a l c ∧ (l ≤ 1048576 → GBytes w w.heap.size a l) := by
  obtain ⟨a0, l0, c0, rfl⟩ := Go.WideShapes.okWide_slice ht hval
  obtain ⟨fuel, hf⟩ := hd
  refine ⟨a0, l0, c0, rfl, fun hl => ⟨hl, ?_⟩⟩
  rcases Go.ChangeShapes.open_ints ht he hc hf with ⟨h1, _⟩ | ⟨a, len, cap, zs, h1, _, hle, _, hlen, _, hcell, hwf⟩
  · simp [Value.cells] at h1
    obtain ⟨rfl, rfl, rfl⟩ := h1
    exact .inl rfl
  · simp [Value.cells] at h1
    obtain ⟨rfl, rfl, rfl⟩ := h1
    by_cases h0 : l0 = 0
    · exact .inl h0
    have hz : l0 ≤ zs.length := by rw [hlen]; split <;> omega
    obtain ⟨b, o, rfl, hcell2⟩ := ints_at hcell (by omega)
    have hcell' : ∀ i, i < zs.length → cellH w.heap b (o + i) = some (.int .u8 (zs.getD i 0)) := fun i hi => by
      rw [← cell?_plain]; exact hcell2 i hi
    refine .inr ⟨b, o, rfl, ?_, fun i hi => ⟨zs.getD i 0, ?_, ?_, hcell' i (by omega)⟩⟩
    · have := hcell' 0 (by omega)
      rcases Nat.lt_or_ge b w.heap.size with h | h
      · exact h
      · unfold cellH at this; rw [Array.getElem?_eq_none h] at this; cases this
    · have := bounds_u8 (hwf (zs.getD i 0) (by rw [List.getD_eq_getElem?_getD, List.getElem?_eq_getElem (by omega)]; exact List.getElem_mem _)); omega
    · have := bounds_u8 (hwf (zs.getD i 0) (by rw [List.getD_eq_getElem?_getD, List.getElem?_eq_getElem (by omega)]; exact List.getElem_mem _)); omega
end Go.Vc
/- A string of one byte, or of two. No statement of the seat is proved here. -/
namespace Go.Proofs.Ytngbiaeliphdjaa.V
open Go.Vc Go.Proofs Go.RowKit
set_option linter.unusedVariables false
set_option linter.unusedSimpArgs false
theorem strOf {x : Int} {y : UInt8} (h : x = (y.toNat : Int)) {w0 w : World} (hb : Below w0.heap.size w0 w) {F : ByteArray → World → Prop}
    (hF : ∀ w', Below w0.heap.size w0 w' → F (B [y]) w') :
    newC [.int .u8 x] 5 (fun (b : Nat) (w1 : World) => ∃ (s : ByteArray), (convert 22 9 (.slice (some ⟨b, 0, none⟩) 1 1)).run Try.prog w1 = .ok (.string s) w1 ∧ F s w1) w := by
  subst h
  have hb' : Below w0.heap.size w0 (newW w (.cells ⟨[.int .u8 (y.toNat : Int)]⟩ 5)) := hb.vnew (by have := hb.size; omega) _
  exact ⟨B [y], conv_run Try.underlying22 Try.underlying9 Try.underlying5 (l := [y]) rfl (cellsAt_newW w _ _), hF _ hb'⟩
theorem strOf2 {x x' : Int} {y y' : UInt8} (h : x = (y.toNat : Int)) (h' : x' = (y'.toNat : Int)) {w0 w : World} (hb : Below w0.heap.size w0 w) {F : ByteArray → World → Prop}
    (hF : ∀ w', Below w0.heap.size w0 w' → F (B [y, y']) w') :
    newC [.int .u8 x, .int .u8 x'] 5 (fun (b : Nat) (w1 : World) => ∃ (s : ByteArray), (convert 22 9 (.slice (some ⟨b, 0, none⟩) 2 2)).run Try.prog w1 = .ok (.string s) w1 ∧ F s w1) w := by
  subst h; subst h'
  have hb' : Below w0.heap.size w0 (newW w (.cells ⟨[.int .u8 (y.toNat : Int), .int .u8 (y'.toNat : Int)]⟩ 5)) := hb.vnew (by have := hb.size; omega) _
  exact ⟨B [y, y'], conv_run Try.underlying22 Try.underlying9 Try.underlying5 (l := [y, y']) rfl (cellsAt_newW w _ _), hF _ hb'⟩
theorem u8_of {n : Int} (h : 0 ≤ n ∧ n ≤ 255) : IntKind.wrap .u8 n = ((UInt8.ofNat n.toNat).toNat : Int) := by
  rw [w8]
  simp
  omega
end Go.Proofs.Ytngbiaeliphdjaa.V
/- The functions that draw, over their cursor: what they draw, and how many draws there may be yet. No statement of the seat is proved here. -/
namespace Go.Proofs.Ytngbiaeliphdjaa.V
open Go.Vc Go.Proofs Go.RowKit
set_option linter.unusedVariables false
set_option linter.unusedSimpArgs false

theorem _root_.Go.Vc.GBytes.ext {S : Nat → Prop} {w w' : World} {B : Nat} {a : Option Addr} {l : Nat} (h : GBytes w B a l) (e : Ext S w w') (hB : B ≤ w.heap.size) (hs : ∀ k, k < B → ¬ S k) : GBytes w' B a l := by
  refine ⟨h.1, h.2.imp id ?_⟩
  rintro ⟨b, o, rfl, hb, hc⟩
  refine ⟨b, o, rfl, hb, fun i hi => ?_⟩
  obtain ⟨n, h1, h2, h3⟩ := hc i hi
  exact ⟨n, h1, h2, by rw [e.cellH (by omega) (hs b hb)]; exact h3⟩
def Cur (w : World) (b B : Nat) (a : Option Addr) (l c m : Nat) : Prop :=
  (∃ (p : Nat) (sd : Nat), Blk w.heap b 76 [.slice a l c, .int .i64 (p : Int), .int .u64 (sd : Int)] ∧ sd < 18446744073709551616 ∧ Bd l p sd m) ∧ GBytes w B a l ∧ B ≤ b ∧ l ≤ 1048576
theorem Cur.lt {w : World} {b B : Nat} {a : Option Addr} {l c m : Nat} (h : Cur w b B a l c m) : b < w.heap.size := by obtain ⟨⟨p, sd, h, _⟩, _⟩ := h; exact h.lt
theorem Cur.ext {S : Nat → Prop} {w w' : World} {b B : Nat} {a : Option Addr} {l c m : Nat} (h : Cur w b B a l c m) (e : Ext S w w') (hs : ∀ k, k ≤ b → ¬ S k) : Cur w' b B a l c m := by
  have hlt := h.lt
  obtain ⟨⟨p, sd, h1, h2⟩, h3, h4, h5⟩ := h
  exact ⟨⟨p, sd, h1.keep e (hs b (by omega)), h2⟩, h3.ext e (by omega) (fun k hk => hs k (by omega)), h4, h5⟩
theorem Cur.below {w w' : World} {b B : Nat} {a : Option Addr} {l c m : Nat} (h : Cur w b B a l c m) (e : Below w.heap.size w w') : Cur w' b B a l c m :=
  h.ext (S := fun _ => False) (Ext.of_below e) fun _ _ h => h
theorem Cur.blk {w w' : World} {b k : Nat} {e : TypeId} {cs : List Value} (hk : Blk w.heap k e cs) (hb : b < k) (E : Ext (fun k => k = b) w w') : Blk w'.heap k e cs := hk.keep E (by omega)
/-- What a drawing leaves: the value, and how many draws there may be yet. -/
def Drew (w : World) (b B : Nat) (a : Option Addr) (l c : Nat) (φ : Value → Nat → Prop) : Ending → World → Prop :=
  fun e w' => ∃ v m', e = .returned v ∧ φ v m' ∧ Cur w' b B a l c m' ∧ Ext (fun k => k = b) w w'
theorem u64w {n : Int} : IntKind.wrap .u64 n = n % 18446744073709551616 := by
  have h1 : (2 ^ IntKind.u64.bits : Int) = 18446744073709551616 := by decide
  have h3 : IntKind.u64.signed = false := rfl
  unfold IntKind.wrap
  simp only [h1, h3, Bool.false_and, Bool.false_eq_true, if_false]
theorem lg_u64 (sd : Nat) : IntKind.wrap .u64 ((IntKind.wrap .u64 ((sd : Int) * 6364136223846793005)) + 1442695040888963407) = ((lg sd % 18446744073709551616 : Nat) : Int) := by
  rw [u64w, u64w]; unfold lg; omega
theorem top_byte {sd : Nat} (h : sd < 18446744073709551616) : IntKind.wrap .i64 (IntKind.wrap .u64 (((BitVec.ofInt 64 (Int.fdiv (sd : Int) (2 ^ (min (Int.toNat 40) 64))) &&& BitVec.ofInt 64 255).toNat : Int))) = ((sd / 1099511627776 % 256 : Nat) : Int) := by
  have e : (2 : Int) ^ (min (Int.toNat 40) 64) = 1099511627776 := by decide
  rw [e, Int.fdiv_eq_ediv_of_nonneg _ (by decide)]
  have e2 : (BitVec.ofInt 64 ((sd : Int) / 1099511627776) &&& BitVec.ofInt 64 255).toNat = sd / 1099511627776 % 256 := by
    rw [BitVec.toNat_and]
    have h1 : (BitVec.ofInt 64 ((sd : Int) / 1099511627776)).toNat = sd / 1099511627776 := by
      rw [BitVec.toNat_ofInt]
      have : ((2 ^ 64 : Nat) : Int) = 18446744073709551616 := by decide
      rw [this]; omega
    have h2 : (BitVec.ofInt 64 255).toNat = 2 ^ 8 - 1 := by decide
    rw [h1, h2, Nat.and_two_pow_sub_one_eq_mod]
  rw [e2, u64w, w64 (by omega)]
  omega
theorem next_ok {w : World} {b B : Nat} {a : Option Addr} {l c m : Nat} (h : Cur w b B a l c m) (hm : 0 < m) :
    Cl Try.prog 115 [.pointer (some ⟨b, 0, none⟩)] w (Drew w b B a l c fun v m' => m' < m ∧ min (m - 1) 5059 ≤ m' ∧ ∃ n : Nat, v = .int .i64 (n : Int) ∧ n ≤ 255 ∧ (5000 < m → m ≤ 5059 → good n)) := by
  apply vc115
  unfold V115
  obtain ⟨⟨p, sd, hB, hsd, hbd⟩, hC, hb, hl⟩ := h
  have hpl := hB.lt
  have hp := hbd.1
  refine drw_in fun w1 q1 e1 => ?_
  have hB1 := hB.keep e1 fun h => h
  refine ⟨p, hB1.cell 1, a, l, c, hB1.cell 0, fun g => ?_, fun g => ?_⟩
  · have g' : p < l := by have := of_decide_eq_true g; omega
    refine drw_in fun w2 q2 e2 => ?_
    have hB2 := hB1.keep e2 fun h => h
    have hC2 := (hC.ext e1 (by omega) (fun _ _ h => h)).ext e2 (by have := e1.size; omega) (fun _ _ h => h)
    rcases hC2.2 with h0 | ⟨b', o', rfl, hb', hc⟩
    · omega
    obtain ⟨n, hn1, hn2, hn3⟩ := hc p g'
    refine ⟨_, l, c, hB2.cell 0, p, hB2.cell 1, b', o', ⟨rfl, by omega, by omega⟩, n, ?_, p, hB2.cell 1, ?_⟩
    · rw [show (Int.toNat (p : Int)) * 1 = p from by omega]; exact hn3
    refine stW_in hB2 (by show 0 + 1 + 1 ≤ 3; decide) fun w3 s3 k3 e3 => ?_
    refine ⟨sd, k3.cell 2, ?_⟩
    refine stW_in k3 (by show 0 + 2 + 1 ≤ 3; decide) fun w4 s4 k4 e4 => ?_
    have hE : Ext (fun k => k = b) w w4 := (((Ext.mono e1 fun _ _ h => h.elim).trans (Ext.mono e2 fun _ _ h => h.elim)).trans e3).trans e4
    have hw : IntKind.wrap .i64 ((p : Int) + 1) = ((p + 1 : Nat) : Int) := by rw [w64 (by omega)]; omega
    obtain ⟨sd', hsd', hlt'⟩ : ∃ sd' : Nat, (IntKind.wrap .u64 ((IntKind.wrap .u64 ((IntKind.wrap .u64 ((sd : Int) * 6364136223846793005)) + (IntKind.wrap .u64 n))) + 1442695040888963407)) = (sd' : Int) ∧ sd' < 18446744073709551616 := by
      rw [u64w]
      generalize (IntKind.wrap .u64 ((IntKind.wrap .u64 ((sd : Int) * 6364136223846793005)) + (IntKind.wrap .u64 n))) + 1442695040888963407 = x
      exact ⟨(x % 18446744073709551616).toNat, by omega, by omega⟩
    obtain ⟨m', hm1, hm2, hm3⟩ := bd_code hbd hm hl g' (sd' := sd')
    refine ⟨_, m', rfl, ⟨hm1, hm2, n.toNat, by rw [w64 (by omega), Int.toNat_of_nonneg hn1], by omega, fun h1 h2 => ?_⟩, ⟨⟨p + 1, sd', ?_, hlt', hm3⟩, hC.ext hE (by omega) (fun k hk => by omega), hb, hl⟩, hE⟩
    · have := (bd_good hbd h1 h2 (sd' := lg sd) rfl).1; omega
    · rw [← hw, ← hsd']; exact k4
  · have g' : l ≤ p := by have := of_decide_eq_false g; omega
    refine ⟨sd, hB1.cell 2, ?_⟩
    refine stW_in hB1 (by show 0 + 2 + 1 ≤ 3; decide) fun w3 s3 k3 e3 => ?_
    refine ⟨p, k3.cell 1, ?_⟩
    refine stW_in k3 (by show 0 + 1 + 1 ≤ 3; decide) fun w4 s4 k4 e4 => ?_
    have hE : Ext (fun k => k = b) w w4 := ((Ext.mono e1 fun _ _ h => h.elim).trans e3).trans e4
    have hw : IntKind.wrap .i64 ((p : Int) + 1) = ((p + 1 : Nat) : Int) := by rw [w64 (by omega)]; omega
    have k4' : Blk w4.heap b 76 [.slice a l c, .int .i64 ((p + 1 : Nat) : Int), .int .u64 ((lg sd % 18446744073709551616 : Nat) : Int)] := by rw [← hw, ← lg_u64]; exact k4
    have hlt : lg sd % 18446744073709551616 < 18446744073709551616 := Nat.mod_lt _ (by decide)
    have hcg : lg sd % 18446744073709551616 % 281474976710656 = lg sd % 281474976710656 := by omega
    generalize lg sd % 18446744073709551616 = sd' at *
    refine ⟨_, k4'.cell 2, by decide, _, m - 1, rfl, ⟨by omega, by omega, sd' / 1099511627776 % 256, by rw [top_byte hlt], by omega, fun h1 h2 => (bd_good hbd h1 h2 hcg).2⟩, ⟨⟨p + 1, sd', k4', hlt, bd_seq hbd hm g' hcg⟩, hC.ext hE (by omega) (fun k hk => by omega), hb, hl⟩, hE⟩
/-- A draw of at most 200 things. -/
theorem pick_ok {w : World} {b B : Nat} {a : Option Addr} {l c m : Nat} (h : Cur w b B a l c m) (hm : 0 < m) (n : Nat) (h1 : 2 ≤ n) (h2 : n ≤ 200) :
    Cl Try.prog 82 [.pointer (some ⟨b, 0, none⟩), .int .i64 (n : Int)] w (Drew w b B a l c fun v m' => m' < m ∧ min (m - 1) 5059 ≤ m' ∧ ∃ r : Nat, v = .int .i64 (r : Int) ∧ r < n ∧ (5000 < m → m ≤ 5059 → (n = 12 → r ≠ 4 ∧ r ≠ 5 ∧ r ≠ 6) ∧ (n = 6 → r ≠ 0))) := by
  apply vc82
  unfold V82
  refine ⟨fun g => by have := of_decide_eq_true g; omega, fun _ => ?_⟩
  refine (next_ok h hm).use fun e w1 he => ?_
  obtain ⟨_, m', rfl, ⟨h3, h4, x, rfl, hx, hg⟩, hC1, e1⟩ := he
  refine ⟨x, rfl, fun g1 => by have := of_decide_eq_true g1; omega, fun _ => ?_⟩
  refine ⟨by omega, _, m', rfl, ⟨h3, h4, x % n, ?_, Nat.mod_lt _ (by omega), fun h5 h6 => ?_⟩, hC1, e1⟩
  · rw [Int.tmod_eq_emod_of_nonneg (by omega), Int.natCast_emod]
  · have := hg h5 h6
    unfold good at this
    exact ⟨fun h => by subst h; omega, fun h => by subst h; omega⟩
theorem pick0_ok {w : World} {b B : Nat} {a : Option Addr} {l c m : Nat} (h : Cur w b B a l c m) {n : Int} (hn : n ≤ 1) :
    Cl Try.prog 82 [.pointer (some ⟨b, 0, none⟩), .int .i64 n] w (Drew w b B a l c fun v m' => m' = m ∧ v = .int .i64 0) := by
  apply vc82
  unfold V82
  exact ⟨fun _ => ⟨_, m, rfl, ⟨rfl, rfl⟩, h, Ext.refl _ _⟩, fun g => by have := of_decide_eq_false g; omega⟩
/-- Any draw. -/
theorem pickN_ok {w : World} {b B : Nat} {a : Option Addr} {l c m : Nat} (h : Cur w b B a l c m) (hm : 0 < m) (n : Nat) (h0 : 1 ≤ n) (h2 : n ≤ 200) :
    Cl Try.prog 82 [.pointer (some ⟨b, 0, none⟩), .int .i64 (n : Int)] w (Drew w b B a l c fun v m' => m' ≤ m ∧ min (m - 1) 5059 ≤ m' ∧ ∃ r : Nat, v = .int .i64 (r : Int) ∧ r < n) := by
  by_cases h1 : 2 ≤ n
  · refine (pick_ok h hm n h1 h2).use fun e w' he => ?_
    obtain ⟨v, m', h3, ⟨h4, h5, r, h6, h7, _⟩, h8, h9⟩ := he
    exact ⟨v, m', h3, ⟨by omega, h5, r, h6, h7⟩, h8, h9⟩
  · refine (pick0_ok h (by omega)).use fun e w' he => ?_
    obtain ⟨v, m', h3, ⟨h4, h5⟩, h8, h9⟩ := he
    exact ⟨v, m', h3, ⟨by omega, by omega, 0, h5, by omega⟩, h8, h9⟩
theorem elemU8 : Elem Try.prog 22 5 1 1 := ⟨Try.underlying22, by kernel_rfl, by kernel_rfl, ⟨[.int .u8 0], by kernel_rfl, rfl⟩⟩
theorem u8s_append (l m : Bytes) : u8s (l ++ m) = u8s l ++ u8s m := by simp [u8s]
/-- The bytes become a string. -/
theorem row_str {N : Nat} {w : World} {a : Option Addr} {l c : Nat} {xs : Bytes} (h : Row N w 5 1 a l c (u8s xs)) : (convert 22 9 (.slice a l c)).run Try.prog w = .ok (.string (Go.Vc.B xs)) w := by
  obtain ⟨⟨v1, v2, v3⟩, v4, v5⟩ := h
  have hx : xs.length = l := by have := v1; simp [u8s] at this; omega
  rcases v3 with ⟨rfl, rfl⟩ | ⟨bb, cs, rfl, hB, h4, h5⟩
  · have : l = 0 := by omega
    have : xs = [] := List.length_eq_zero_iff.1 (by omega)
    subst this
    exact conv_nil Try.underlying22 Try.underlying9 Try.underlying5
  · exact conv_run Try.underlying22 Try.underlying9 Try.underlying5 (by omega) (hB.cellsAt (n := l * 1) (by simpa using h5) v1.symm)
theorem bytes_ok {w : World} {b B : Nat} {a : Option Addr} {l c m : Nat} (h : Cur w b B a l c m) (n : Nat) (hn : n ≤ 1000000) (hm : n ≤ m) (ht : m ≤ 5059 ∨ n ≤ 5059) :
    Cl Try.prog 81 [.pointer (some ⟨b, 0, none⟩), .int .i64 (n : Int)] w (Drew w b B a l c fun v m' => m' ≤ m ∧ min m 5059 ≤ m' + n ∧ ∃ s : Bytes, v = .string (Go.Vc.B s) ∧ s.length = n) := by
  apply vc81
  unfold V81
  have hbl := h.lt
  refine ⟨fun k j ax lx cx w' => ∃ (i : Nat) (xs : Bytes) (m' : Nat), j = ((n - i : Nat) : Int) ∧ i ≤ n ∧ k = n - i ∧ i = lx ∧ xs.length = i ∧ m' ≤ m ∧ min m 5059 ≤ m' + i ∧ Row w.heap.size w' 5 1 ax lx cx (u8s xs) ∧ Cur w' b B a l c m' ∧ Ext (fun k => k = b) w w', ⟨_, 0, [], m, rfl, by omega, rfl, rfl, rfl, by omega, by omega, Row.nil _ _ (Nat.le_refl _), h, Ext.refl _ _⟩, ?_⟩
  rintro k d j ax lx cx w1 ⟨i, xs, m1, rfl, hi, rfl, hil, hx, hm1, hm2, hR, hC, hE⟩
  refine ⟨fun g => ?_, fun g => ?_⟩
  · have g' : i < n := by have := of_decide_eq_true g; omega
    refine (next_ok hC (by omega)).use fun e w2 he => ?_
    obtain ⟨_, m2, rfl, ⟨h3, h4, y, rfl, hy, _⟩, hC2, e2⟩ := he
    refine ⟨y, rfl, ?_⟩
    have hy : IntKind.wrap .u8 (y : Int) = ((UInt8.ofNat y).toNat : Int) := by rw [w8, UInt8.toNat_ofNat']; omega
    dsimp only
    rw [hy]
    obtain ⟨a3, c3, w3, r1, r2, r3⟩ := (hR.keep e2 fun k hk h => by omega).app1 elemU8 (ys := u8s [UInt8.ofNat y]) (n := 1) rfl rfl (by omega) (by omega)
    refine ⟨a3, _, c3, w3, r1, n - (i + 1), by omega, i + 1, xs ++ [UInt8.ofNat y], m2, ?_, by omega, rfl, by omega, by simp; omega, by omega, by omega, ?_, ?_, ?_⟩
    · rw [w64 (by omega)]; omega
    · rw [u8s_append]; exact r2
    · exact (hC2.ext r3 fun k hk (h : _ ≤ k) => by omega)
    · exact (hE.trans e2).step r3 fun i hi (h : _ ≤ i) => by omega
  · have : i = n := by have := of_decide_eq_false g; omega
    subst this
    exact ⟨Go.Vc.B xs, row_str hR, _, m1, rfl, ⟨hm1, hm2, xs, rfl, hx⟩, hC, hE⟩
/-- A cursor is made. -/
theorem cur_in {w : World} {a : Option Addr} {l c : Nat} (h : GBytes w w.heap.size a l) (hl : l ≤ 1048576) {K : Nat → World → Prop} (hK : ∀ w1 m, 5059 ≤ m → Cur w1 w.heap.size w.heap.size a l c m → Below w.heap.size w w1 → K w.heap.size w1) :
    newC [.slice a l c, .int .i64 0, .int .u64 0] 76 K w := by
  refine newC_in fun w1 s1 k1 e1 => ?_
  obtain ⟨m, hm, hb⟩ := bd_start (l := l) (sd := 0) hl
  exact hK w1 m hm ⟨⟨0, 0, k1, by decide, hb⟩, h.ext e1 (Nat.le_refl _) (fun _ _ h => h), Nat.le_refl _, hl⟩ (Ext.to (Below.refl _ _) e1 fun _ h => h.elim)
theorem texts_ok {w : World} {a : Option Addr} {l c : Nat} (h : GBytes w w.heap.size a l) (hl : l ≤ 1048576) :
    Cl Try.prog 32 [.slice a l c] w (fun e w' => ∃ s : Bytes, e = .returned (.string (Go.Vc.B s)) ∧ s.length ≤ 27 ∧ Below w.heap.size w w') := by
  apply vc32
  unfold V32
  refine cur_in h hl fun w1 m hm hC B1 => ?_
  refine (pick_ok hC (by omega) 28 (by omega) (by omega)).use fun e w2 he => ?_
  obtain ⟨_, m2, rfl, ⟨h3, h4, r, rfl, hr, _⟩, hC2, e2⟩ := he
  refine ⟨r, rfl, ?_⟩
  refine (bytes_ok hC2 r (by omega) (by omega) (by omega)).use fun e w3 he => ?_
  obtain ⟨_, m3, rfl, ⟨_, _, s, rfl, hs⟩, hC3, e3⟩ := he
  exact ⟨_, rfl, s, rfl, by omega, Ext.to (Ext.to B1 e2 fun i h => by omega) e3 fun i h => by omega⟩
end Go.Proofs.Ytngbiaeliphdjaa.V
/- How the pure reader reads a text that is put together of parts. No statement of the seat is proved here. -/
namespace Go.Vc
set_option linter.unusedVariables false
set_option linter.unusedSimpArgs false
/-- The text stands at this place. -/
def Fit (l : Bytes) (i : Nat) (s : Bytes) : Prop := i + s.length ≤ l.length ∧ ∀ k, k < s.length → at_ l (i + k) = at_ s k
theorem at_app_l {s t : Bytes} {k : Nat} (h : k < s.length) : at_ (s ++ t) k = at_ s k := by
  unfold at_; rw [List.getD_eq_getElem?_getD, List.getD_eq_getElem?_getD, List.getElem?_append_left h]
theorem at_app_r {s t : Bytes} {k : Nat} : at_ (s ++ t) (s.length + k) = at_ t k := by
  unfold at_; rw [List.getD_eq_getElem?_getD, List.getD_eq_getElem?_getD, List.getElem?_append_right (by omega), show s.length + k - s.length = k from by omega]
theorem Fit.app {l : Bytes} {i : Nat} {s t : Bytes} (h : Fit l i (s ++ t)) : Fit l i s ∧ Fit l (i + s.length) t := by
  obtain ⟨h1, h2⟩ := h
  rw [List.length_append] at h1 h2
  refine ⟨⟨by omega, fun k hk => ?_⟩, by omega, fun k hk => ?_⟩
  · rw [h2 k (by omega), at_app_l hk]
  · rw [show i + s.length + k = i + (s.length + k) from by omega, h2 _ (by omega), at_app_r]
theorem Fit.self (s : Bytes) : Fit s 0 s := ⟨by omega, fun k _ => by rw [Nat.zero_add]⟩
theorem Fit.at0 {l : Bytes} {i : Nat} {c : UInt8} {r : Bytes} (h : Fit l i (c :: r)) : i < l.length ∧ at_ l i = c.toNat := by
  obtain ⟨h1, h2⟩ := h
  simp only [List.length_cons] at h1 h2
  exact ⟨by omega, h2 0 (by omega)⟩
theorem Fit.tail {l : Bytes} {i : Nat} {c : UInt8} {r : Bytes} (h : Fit l i (c :: r)) : Fit l (i + 1) r := (Fit.app (s := [c]) (t := r) h).2
theorem Fit.le {l : Bytes} {i : Nat} {s : Bytes} (h : Fit l i s) : i + s.length ≤ l.length := h.1
def cntC (n : Nat) : Prop := n = 42 ∨ n = 43 ∨ n = 63 ∨ n = 123
/-- No count stands at this place. -/
def NC (l : Bytes) (j : Nat) : Prop := ¬ (j < l.length ∧ cntC (at_ l j))
def NQ (l : Bytes) (j : Nat) : Prop := ¬ (j < l.length ∧ at_ l j = 63)
theorem NC.q {l : Bytes} {j : Nat} (h : NC l j) : NQ l j := fun ⟨h1, h2⟩ => h ⟨h1, .inr (.inr (.inl h2))⟩
/-- The end, or the end of a group. -/
def EN (l : Bytes) (j : Nat) : Prop := j = l.length ∨ at_ l j = 41
theorem EN.nc {l : Bytes} {j : Nat} (h : EN l j) : NC l j := fun ⟨h1, h2⟩ => by
  unfold cntC at h2
  rcases h with h | h <;> omega
def HD (s : Bytes) : Prop := s = [] ∨ ¬ cntC (at_ s 0)
def subOf (l : Bytes) : Nat → St → Pr (St × Int)
  | 0 => fun _ => .bad 0
  | d + 1 => patP l d
def deepOf : Nat → Bool
  | 0 => true
  | _ + 1 => false
theorem subOf_ok (l : Bytes) (d : Nat) : SubOk l (subOf l d) := by
  cases d with
  | zero => intro i g out j g' out' k _ h; cases h
  | succ d => exact patP_len l d
/-- A sequence, and alternatives behind it. -/
def saL (l : Bytes) (d i g : Nat) (out : List Pc) (kids : List Int) : Pr (St × Int) := match seqL (subOf l d) (deepOf d) l i g out [] with
  | .bad e => .bad e
  | .ok ((j, g', out'), x) => altL (subOf l d) (deepOf d) l j g' out' (kids ++ [x])
theorem patP_sa (l : Bytes) (d i g : Nat) (out : List Pc) : patP l d (i, g, out) = saL l d i g out [] := by
  cases d <;> rfl
theorem altL_sa {l : Bytes} {d i g : Nat} {out : List Pc} {kids : List Int} (h : i < l.length) (hb : at_ l i = 124) : altL (subOf l d) (deepOf d) l i g out kids = saL l d (i + 1) g out kids := by
  unfold saL
  cases hs : seqL (subOf l d) (deepOf d) l (i + 1) g out [] with
  | bad e => exact altL_bad ⟨h, hb⟩ hs
  | ok r =>
    obtain ⟨⟨j, g', out'⟩, x⟩ := r
    have := seqL_len (subOf_ok l d) _ rfl (by omega) hs
    exact altL_go ⟨h, hb⟩ hs (by omega)
def altO (out : List Pc) : List Int → List Pc × Int
  | [k] => (out, k)
  | kids => (out ++ [pAlt kids], out.length)
theorem altE_O (i g : Nat) (out : List Pc) (kids : List Int) : altE i g out kids = .ok ((i, g, (altO out kids).1), (altO out kids).2) := by
  match kids with
  | [] => rfl
  | [k] => rfl
  | a :: b :: r => rfl
abbrev FF := List Pc → List Int → List Pc × List Int
/-- A part of a sequence. -/
def SqX (d g : Nat) (s : Bytes) (g' : Nat) (F : FF) : Prop := HD s ∧ ∀ (l : Bytes) (i : Nat) (out : List Pc) (kids : List Int), Fit l i s → NC l (i + s.length) →
  seqL (subOf l d) (deepOf d) l i g out kids = seqL (subOf l d) (deepOf d) l (i + s.length) g' (F out kids).1 (F out kids).2
/-- A pattern. -/
def PtX (d g : Nat) (s : Bytes) (g' : Nat) (F : FF) : Prop := ∀ (l : Bytes) (i : Nat) (out : List Pc) (kids : List Int), Fit l i s → EN l (i + s.length) →
  saL l d i g out kids = altE (i + s.length) g' (F out kids).1 (F out kids).2
/-- An atom. -/
def AtX (d g : Nat) (s : Bytes) (g' : Nat) (A : List Pc → List Pc × Int) : Prop := s ≠ [] ∧ ¬ cntC (at_ s 0) ∧ at_ s 0 ≠ 124 ∧ at_ s 0 ≠ 41 ∧ ∀ (l : Bytes) (i : Nat) (out : List Pc), Fit l i s →
  atomP (subOf l d) (deepOf d) l i g out = .ok ((i + s.length, g', (A out).1), (A out).2)
/-- A count. -/
def CnX (s : Bytes) (a b : Int) (z : Bool) : Prop := ∀ (l : Bytes) (i : Nat), Fit l i s → NQ l (i + s.length) → cntP l i = .ok (i + s.length, some (a, b, z))
theorem SqX.nil (d g : Nat) : SqX d g [] g fun out kids => (out, kids) := ⟨.inl rfl, fun l i out kids _ _ => rfl⟩
theorem SqX.app {d g g1 g2 : Nat} {s t : Bytes} {F G : FF} (h : SqX d g s g1 F) (k : SqX d g1 t g2 G) : SqX d g (s ++ t) g2 fun out kids => G (F out kids).1 (F out kids).2 := by
  refine ⟨?_, fun l i out kids hf hn => ?_⟩
  · rcases h.1 with rfl | h1
    · exact k.1
    · by_cases hs : s = []
      · subst hs; exact k.1
      · right; rw [at_app_l (List.length_pos_iff.2 hs)]; exact h1
  · have f := hf.app
    rw [List.length_append, ← Nat.add_assoc] at hn ⊢
    rw [h.2 l i out kids f.1 ?_, k.2 l _ _ _ f.2 hn]
    rcases k.1 with rfl | h2
    · simpa using hn
    · rintro ⟨h3, h4⟩
      by_cases ht : t = []
      · subst ht; exact hn (by simpa using ⟨h3, h4⟩)
      · have := f.2.2 0 (List.length_pos_iff.2 ht)
        rw [Nat.add_zero] at this
        rw [this] at h4; exact h2 h4
theorem SqX.pat {d g g' : Nat} {s : Bytes} {F : FF} (h : SqX d g s g' F) : PtX d g s g' fun out kids => ((F out []).1 ++ [pSeq (F out []).2], kids ++ [((F out []).1.length : Int)]) := by
  intro l i out kids hf he
  unfold saL
  rw [h.2 l i out [] hf he.nc]
  have hle := hf.le
  rw [seqL_out (by rintro ⟨h1, h2, h3⟩; rcases he with he | he; omega; exact h3 he)]
  simp only []
  rw [altL_out (by rintro ⟨h1, h2⟩; rcases he with he | he <;> omega)]
theorem PtX.alt {d g g1 g2 : Nat} {s y : Bytes} {F G : FF} (h : SqX d g s g1 F) (k : PtX d g1 y g2 G) : PtX d g (s ++ 124 :: y) g2 fun out kids => G ((F out []).1 ++ [pSeq (F out []).2]) (kids ++ [((F out []).1.length : Int)]) := by
  intro l i out kids hf he
  have f := hf.app
  have f0 := f.2.at0
  have e0 : at_ l (i + s.length) = 124 := f0.2
  have hnc : NC l (i + s.length) := by rintro ⟨_, h2⟩; unfold cntC at h2; omega
  have hl : i + (s ++ 124 :: y).length = i + s.length + 1 + y.length := by simp; omega
  rw [hl] at he ⊢
  unfold saL
  rw [h.2 l i out [] f.1 hnc]
  rw [seqL_out (by rintro ⟨h1, h2, h3⟩; exact h2 e0)]
  show altL (subOf l d) (deepOf d) l (i + s.length) g1 ((F out []).1 ++ [pSeq (F out []).2]) (kids ++ [((F out []).1.length : Int)]) = _
  rw [altL_sa f0.1 e0]
  exact k l _ _ _ f.2.tail he
theorem PtX.grp {d g g' : Nat} {y : Bytes} {F : FF} (h : PtX d (g + 1) y g' F) (hg : g < 9) : AtX (d + 1) g (40 :: (y ++ [41])) g' fun out => ((altO (F out []).1 (F out []).2).1 ++ [pGrp (g + 1 : Nat) (altO (F out []).1 (F out []).2).2], (altO (F out []).1 (F out []).2).1.length) := by
  refine ⟨by simp, by show ¬ cntC 40; unfold cntC; omega, by show (40 : Nat) ≠ 124; decide, by show (40 : Nat) ≠ 41; decide, fun l i out hf => ?_⟩
  have f0 := hf.at0
  have f1 := hf.tail.app
  have f2 := f1.2.at0
  have e0 : at_ l i = 40 := f0.2
  have e2 : at_ l (i + 1 + y.length) = 41 := f2.2
  have hl : i + (40 :: (y ++ [41])).length = i + 1 + y.length + 1 := by simp; omega
  rw [hl]
  unfold atomP
  rw [if_pos e0, if_neg (by simp [deepOf]; omega)]
  have hp : subOf l (d + 1) (i + 1, g + 1, out) = .ok ((i + 1 + y.length, g', (altO (F out []).1 (F out []).2).1), (altO (F out []).1 (F out []).2).2) := by
    show patP l d (i + 1, g + 1, out) = _
    rw [patP_sa, h l (i + 1) out [] f1.1 (.inr e2), altE_O]
  rw [hp]
  simp only []
  rw [if_neg (by omega), if_pos e2]
theorem pieceP_at {l : Bytes} {d i g g' : Nat} {s : Bytes} {A : List Pc → List Pc × Int} {out : List Pc} (h : AtX d g s g' A) (hf : Fit l i s) : pieceP (subOf l d) (deepOf d) l i g out = cntR l (i + s.length) g' (A out).1 (A out).2 := pieceP_ok (h.2.2.2.2 l i out hf)
theorem cntP_none {l : Bytes} {j : Nat} (h : NC l j) : cntP l j = .ok (j, none) := by
  unfold cntP
  by_cases hj : l.length ≤ j
  · simp [hj]
  · have hc : ¬ cntC (at_ l j) := fun hc => h ⟨by omega, hc⟩
    unfold cntC at hc
    simp only []
    rw [if_neg hj, if_neg (by omega), if_neg (by omega), if_neg (by omega), if_neg (by omega)]
theorem AtX.go {d g g' : Nat} {s : Bytes} {A : List Pc → List Pc × Int} (h : AtX d g s g' A) {l : Bytes} {i : Nat} (hf : Fit l i s) : i < l.length ∧ at_ l i ≠ 124 ∧ at_ l i ≠ 41 := by
  have hp := List.length_pos_iff.2 h.1
  have h0 := hf.2 0 hp
  rw [Nat.add_zero] at h0
  rw [h0]
  exact ⟨by have := hf.1; omega, h.2.2.1, h.2.2.2.1⟩
/-- An atom alone. -/
theorem AtX.one {d g g' : Nat} {s : Bytes} {A : List Pc → List Pc × Int} (h : AtX d g s g' A) : SqX d g s g' fun out kids => ((A out).1, kids ++ [(A out).2]) := by
  refine ⟨.inr h.2.1, fun l i out kids hf hn => ?_⟩
  have hp : pieceP (subOf l d) (deepOf d) l i g out = .ok ((i + s.length, g', (A out).1), (A out).2) := by
    rw [pieceP_at h hf]; unfold cntR; rw [cntP_none hn]
  exact seqL_go (h.go hf) hp (by have := List.length_pos_iff.2 h.1; omega)
/-- An atom with a count. -/
theorem AtX.cnt {d g g' : Nat} {s c : Bytes} {A : List Pc → List Pc × Int} {a b : Int} {z : Bool} (h : AtX d g s g' A) (k : CnX c a b z) : SqX d g (s ++ c) g' fun out kids => ((A out).1 ++ [pRep a b z (A out).2], kids ++ [((A out).1.length : Int)]) := by
  refine ⟨.inr (by rw [at_app_l (List.length_pos_iff.2 h.1)]; exact h.2.1), fun l i out kids hf hn => ?_⟩
  have f := hf.app
  rw [List.length_append, ← Nat.add_assoc] at hn ⊢
  have hp : pieceP (subOf l d) (deepOf d) l i g out = .ok ((i + s.length + c.length, g', (A out).1 ++ [pRep a b z (A out).2]), (A out).1.length) := by
    rw [pieceP_at h f.1]; unfold cntR; rw [k l _ f.2 hn.q]
  exact seqL_go (h.go f.1) hp (by have := List.length_pos_iff.2 h.1; omega)
/-- A text that is a pattern is read. -/
theorem PtX.read {s : Bytes} {g' : Nat} {F : FF} (h : PtX 6 0 s g' F) (hl : s.length ≤ 120) : readP s = ⟨true, 0, g', (altO (F [] []).1 (F [] []).2).1⟩ := by
  unfold readP
  rw [if_neg (by omega), patP_sa, h s 0 [] [] (Fit.self s) (.inl (by omega)), altE_O]
  simp only []
  rw [if_neg (by omega)]
/-! ### Counts -/
theorem digP_no {l : Bytes} {i n : Nat} (h : ¬ (i < l.length ∧ 48 ≤ at_ l i ∧ at_ l i ≤ 57)) : digP l i n = (i, n) := by rw [digP, dif_neg h]
theorem digP_go {l : Bytes} {i n : Nat} (h : i < l.length ∧ 48 ≤ at_ l i ∧ at_ l i ≤ 57) : digP l i n = digP l (i + 1) (Nat.min 1000 (10 * n + (at_ l i - 48))) := by rw [digP, dif_pos h]
/-- A number of one or two digits. -/
def decN (n : Nat) : Bytes := if n < 10 then [UInt8.ofNat (48 + n)] else [UInt8.ofNat (48 + n / 10), UInt8.ofNat (48 + n % 10)]
theorem u8N {n : Nat} (h : n < 256) : (UInt8.ofNat n).toNat = n := by simp; omega
theorem decN_pos (n : Nat) : 0 < (decN n).length := by unfold decN; split <;> simp
theorem numP_dec {l : Bytes} {i n : Nat} (hf : Fit l i (decN n)) (hn : n ≤ 50) (he : i + (decN n).length < l.length ∧ (at_ l (i + (decN n).length) < 48 ∨ 57 < at_ l (i + (decN n).length))) : numP l i = .ok (i + (decN n).length, n) := by
  unfold numP
  unfold decN at hf he ⊢
  by_cases h : n < 10
  · rw [if_pos h] at hf he ⊢
    have f := hf.at0
    rw [u8N (by omega)] at f
    simp only [List.length_cons, List.length_nil, Nat.zero_add] at he ⊢
    have hd : digP l i 0 = (i + 1, n) := by
      rw [digP_go (by omega), digP_no (by omega), f.2]
      congr 1
      show min 1000 (10 * 0 + (48 + n - 48)) = n
      omega
    rw [if_neg (by omega), if_neg (by omega), hd, if_neg (by simp; omega)]
  · rw [if_neg h] at hf he ⊢
    have f := hf.at0
    have f2 := hf.tail.at0
    rw [u8N (by omega)] at f f2
    have hl2 : ([UInt8.ofNat (48 + n / 10), UInt8.ofNat (48 + n % 10)] : Bytes).length = 2 := rfl
    rw [hl2] at he ⊢
    have hd : digP l i 0 = (i + 2, n) := by
      rw [digP_go (by omega), digP_go (by omega), show i + 1 + 1 = i + 2 from rfl, digP_no (by omega), f.2, f2.2]
      congr 1
      show min 1000 (10 * min 1000 (10 * 0 + (48 + n / 10 - 48)) + (48 + n % 10 - 48)) = n
      omega
    rw [if_neg (by omega), if_neg (by omega), hd, if_neg (by simp; omega)]
theorem cntP_q {l : Bytes} {j : Nat} {a b : Int} {z : Bool} {e : Nat} (hz : if z = true then j < l.length ∧ at_ l j = 63 ∧ e = j + 1 else NQ l j ∧ e = j) : (if j < l.length ∧ at_ l j = 63 then Pr.ok (j + 1, some (a, b, true)) else Pr.ok (j, some (a, b, false))) = Pr.ok (e, some (a, b, z)) := by
  cases z with
  | true => rw [if_pos rfl] at hz; rw [if_pos ⟨hz.1, hz.2.1⟩, hz.2.2]
  | false => rw [if_neg (by decide)] at hz; rw [if_neg hz.1, hz.2]
def lzT (z : Bool) : Bytes := if z then [63] else []
theorem lz_fit {l : Bytes} {j : Nat} {z : Bool} (h : Fit l j (lzT z)) (hn : NQ l (j + (lzT z).length)) : if z = true then j < l.length ∧ at_ l j = 63 ∧ j + (lzT z).length = j + 1 else NQ l j ∧ j + (lzT z).length = j := by
  cases z with
  | true => have := h.at0; rw [if_pos rfl]; exact ⟨this.1, this.2, rfl⟩
  | false => rw [if_neg (by decide)]; exact ⟨hn, rfl⟩
theorem cn_star (z : Bool) : CnX (42 :: lzT z) 0 (-1) z := by
  intro l i hf hn
  have f := hf.at0
  have e0 : at_ l i = 42 := f.2
  have hl : i + (42 :: lzT z).length = i + 1 + (lzT z).length := by simp; omega
  rw [hl] at hn ⊢
  unfold cntP
  simp only []
  rw [if_neg (by omega), if_pos e0]
  exact cntP_q (lz_fit hf.tail hn)
theorem cn_plus (z : Bool) : CnX (43 :: lzT z) 1 (-1) z := by
  intro l i hf hn
  have f := hf.at0
  have e0 : at_ l i = 43 := f.2
  have hl : i + (43 :: lzT z).length = i + 1 + (lzT z).length := by simp; omega
  rw [hl] at hn ⊢
  unfold cntP
  simp only []
  rw [if_neg (by omega), if_neg (by omega), if_pos e0]
  exact cntP_q (lz_fit hf.tail hn)
theorem cn_opt (z : Bool) : CnX (63 :: lzT z) 0 1 z := by
  intro l i hf hn
  have f := hf.at0
  have e0 : at_ l i = 63 := f.2
  have hl : i + (63 :: lzT z).length = i + 1 + (lzT z).length := by simp; omega
  rw [hl] at hn ⊢
  unfold cntP
  simp only []
  rw [if_neg (by omega), if_neg (by omega), if_neg (by omega), if_pos e0]
  exact cntP_q (lz_fit hf.tail hn)
theorem cn_bra {s : Bytes} {a b : Int} (h : ∀ (l : Bytes) (i : Nat), Fit l i s → braP l i = .ok (i + s.length, a, b)) (z : Bool) : CnX (123 :: (s ++ lzT z)) a b z := by
  intro l i hf hn
  have f := hf.at0
  have e0 : at_ l i = 123 := f.2
  have hl : i + (123 :: (s ++ lzT z)).length = i + 1 + s.length + (lzT z).length := by simp; omega
  rw [hl] at hn ⊢
  have f1 := hf.tail.app
  unfold cntP
  simp only []
  rw [if_neg (by omega), if_neg (by omega), if_neg (by omega), if_neg (by omega), if_pos e0, h l (i + 1) f1.1]
  exact cntP_q (lz_fit f1.2 hn)
theorem bra_two {m n : Nat} (hm : m ≤ 50) (hn : n ≤ 50) (hmn : m ≤ n) : ∀ (l : Bytes) (i : Nat), Fit l i (decN m ++ 44 :: (decN n ++ [125])) → braP l i = .ok (i + (decN m ++ 44 :: (decN n ++ [125])).length, (m : Int), (n : Int)) := by
  intro l i hf
  have f := hf.app
  have f1 := f.2.at0
  have f2 := f.2.tail.app
  have f3 := f2.2.at0
  have e1 : at_ l (i + (decN m).length) = 44 := f1.2
  have e3 : at_ l (i + (decN m).length + 1 + (decN n).length) = 125 := f3.2
  have hl : i + (decN m ++ 44 :: (decN n ++ [125])).length = i + (decN m).length + 1 + (decN n).length + 1 := by simp; omega
  rw [hl]
  unfold braP
  rw [numP_dec f.1 hm ⟨f1.1, by omega⟩]
  simp only []
  have hd : at_ l (i + (decN m).length + 1) ≠ 125 := by
    have hp := decN_pos n
    have h0 := f2.1.2 0 hp
    rw [Nat.add_zero] at h0
    rw [h0]
    unfold decN at hp ⊢
    split
    · show (UInt8.ofNat (48 + n)).toNat ≠ 125; rw [u8N (by omega)]; omega
    · show (UInt8.ofNat (48 + n / 10)).toNat ≠ 125; rw [u8N (by omega)]; omega
  rw [if_neg (by omega), if_pos e1, if_neg (by omega), if_neg hd, numP_dec f2.1 hn ⟨f3.1, by omega⟩]
  simp only []
  rw [if_neg (by omega), if_neg (by omega), if_pos e3]
theorem bra_one {m : Nat} (hm : m ≤ 50) : ∀ (l : Bytes) (i : Nat), Fit l i (decN m ++ [125]) → braP l i = .ok (i + (decN m ++ [125]).length, (m : Int), (m : Int)) := by
  intro l i hf
  have f := hf.app
  have f1 := f.2.at0
  have e1 : at_ l (i + (decN m).length) = 125 := f1.2
  have hl : i + (decN m ++ [125]).length = i + (decN m).length + 1 := by simp; omega
  rw [hl]
  unfold braP
  rw [numP_dec f.1 hm ⟨f1.1, by omega⟩]
  simp only []
  rw [if_neg (by omega), if_neg (by omega), if_pos e1]
theorem bra_from {m : Nat} (hm : m ≤ 50) : ∀ (l : Bytes) (i : Nat), Fit l i (decN m ++ [44, 125]) → braP l i = .ok (i + (decN m ++ [44, 125]).length, (m : Int), -1) := by
  intro l i hf
  have f := hf.app
  have f1 := f.2.at0
  have f2 := f.2.tail.at0
  have e1 : at_ l (i + (decN m).length) = 44 := f1.2
  have e2 : at_ l (i + (decN m).length + 1) = 125 := f2.2
  have hl : i + (decN m ++ [44, 125]).length = i + (decN m).length + 2 := by simp; omega
  rw [hl]
  unfold braP
  rw [numP_dec f.1 hm ⟨f1.1, by omega⟩]
  simp only []
  rw [if_neg (by omega), if_pos e1, if_neg (by omega), if_pos e2]
/-! ### Atoms -/
theorem at_set1 (d g : Nat) {c : UInt8} (h : c.toNat ≠ 40 ∧ c.toNat ≠ 91 ∧ c.toNat ≠ 46 ∧ c.toNat ≠ 94 ∧ c.toNat ≠ 36 ∧ c.toNat ≠ 92 ∧ c.toNat ≠ 41 ∧ c.toNat ≠ 93 ∧ c.toNat ≠ 123 ∧ c.toNat ≠ 125 ∧ c.toNat ≠ 42 ∧ c.toNat ≠ 43 ∧ c.toNat ≠ 63 ∧ c.toNat ≠ 124) :
    AtX d g [c] g fun out => (out ++ [pSet [((c.toNat : Int), (c.toNat : Int))]], out.length) := by
  have h0 : at_ [c] 0 = c.toNat := rfl
  refine ⟨by simp, by rw [h0]; unfold cntC; omega, by omega, by omega, fun l i out hf => ?_⟩
  have f := hf.at0
  unfold atomP
  rw [if_neg (by omega), if_neg (by omega), if_neg (by omega), if_neg (by omega), if_neg (by omega), if_neg (by omega), if_neg (by omega), f.2]
  rfl
theorem at_esc (d g : Nat) {s : Bytes} {r : Rs} {o : Option Nat} (h : ∀ (l : Bytes) (i : Nat), Fit l i s → escP l i = .ok (i + s.length, r, o)) : AtX d g (92 :: s) g fun out => (out ++ [pSet (runs (inR r))], out.length) := by
  refine ⟨by simp, by show ¬ cntC 92; unfold cntC; omega, by show (92 : Nat) ≠ 124; decide, by show (92 : Nat) ≠ 41; decide, fun l i out hf => ?_⟩
  have f := hf.at0
  have e0 : at_ l i = 92 := f.2
  unfold atomP
  rw [if_neg (by omega), if_neg (by omega), if_neg (by omega), if_neg (by omega), if_neg (by omega), if_pos e0, h l (i + 1) hf.tail]
  show Pr.ok ((i + 1 + s.length, g, out ++ [pSet (runs (inR r))]), (out.length : Int)) = _
  rw [show i + (92 :: s).length = i + 1 + s.length from by simp; omega]
theorem esc_one {c : UInt8} {r : Rs} {o : Option Nat} (h : escC c.toNat = some (r, o)) (hx : c.toNat ≠ 120) : ∀ (l : Bytes) (i : Nat), Fit l i [c] → escP l i = .ok (i + [c].length, r, o) := by
  intro l i hf
  have f := hf.at0
  unfold escP
  rw [if_neg (by omega), f.2, if_neg hx, h]
  rfl
theorem esc_hex {a b : UInt8} {x y : Nat} (ha : hexv a.toNat = some x) (hb : hexv b.toNat = some y) : ∀ (l : Bytes) (i : Nat), Fit l i [120, a, b] → escP l i = .ok (i + [120, a, b].length, [(16 * x + y, 16 * x + y)], some (16 * x + y)) := by
  intro l i hf
  have f := hf.at0
  have f1 := hf.tail.at0
  have f2 := hf.tail.tail.at0
  have e0 : at_ l i = 120 := f.2
  unfold escP
  rw [if_neg (by omega), if_pos e0]
  unfold escX
  rw [if_neg (by omega), f1.2, ha]
  simp only []
  rw [if_neg (by omega), f2.2, hb]
  rfl
theorem at_dot (d g : Nat) : AtX d g [46] g fun out => (out ++ [pSet (runs (inR [(0, 9), (11, 255)]))], out.length) := by
  refine ⟨by simp, by show ¬ cntC 46; unfold cntC; omega, by show (46 : Nat) ≠ 124; decide, by show (46 : Nat) ≠ 41; decide, fun l i out hf => ?_⟩
  have f := hf.at0
  have e0 : at_ l i = 46 := f.2
  unfold atomP
  rw [if_neg (by omega), if_neg (by omega), if_pos e0]
  rfl
theorem at_sta (d g : Nat) : AtX d g [94] g fun out => (out ++ [pSta], out.length) := by
  refine ⟨by simp, by show ¬ cntC 94; unfold cntC; omega, by show (94 : Nat) ≠ 124; decide, by show (94 : Nat) ≠ 41; decide, fun l i out hf => ?_⟩
  have f := hf.at0
  have e0 : at_ l i = 94 := f.2
  unfold atomP
  rw [if_neg (by omega), if_neg (by omega), if_neg (by omega), if_pos e0]
  rfl
theorem at_end (d g : Nat) : AtX d g [36] g fun out => (out ++ [pEnd], out.length) := by
  refine ⟨by simp, by show ¬ cntC 36; unfold cntC; omega, by show (36 : Nat) ≠ 124; decide, by show (36 : Nat) ≠ 41; decide, fun l i out hf => ?_⟩
  have f := hf.at0
  have e0 : at_ l i = 36 := f.2
  unfold atomP
  rw [if_neg (by omega), if_neg (by omega), if_neg (by omega), if_neg (by omega), if_pos e0]
  rfl
theorem at_cls (d g : Nat) {s : Bytes} {rs : List (Int × Int)} (h : ∀ (l : Bytes) (i : Nat), Fit l i (91 :: s) → setP l i = .ok (i + (91 :: s).length, rs)) : AtX d g (91 :: s) g fun out => (out ++ [pSet rs], out.length) := by
  refine ⟨by simp, by show ¬ cntC 91; unfold cntC; omega, by show (91 : Nat) ≠ 124; decide, by show (91 : Nat) ≠ 41; decide, fun l i out hf => ?_⟩
  have f := hf.at0
  have e0 : at_ l i = 91 := f.2
  unfold atomP
  rw [if_neg (by omega), if_pos e0, h l i hf]
end Go.Vc

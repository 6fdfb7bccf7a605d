/- Parts of a proof, put together: definitions, formulas of Go functions and lemmas. No statement of the seat is proved here. -/
import Derived.Test.YtngbiaeliphdjaaProg
import Derived.Laws.MakeOwn
import Derived.Test.YtngbiaeliphdjaaRpB
/- What a pattern's memory holds is marked and looked for: pieces. No statement of the seat is proved here. -/
namespace Go.Vc
open Go.RowKit
set_option linter.unusedVariables false
set_option linter.unusedSimpArgs false
theorem Pcs.cell {N : Nat} {w : World} {a : Option Addr} {l c : Nat} {A B : List Raw} {r : Raw} {ps : List Pc} (h : Pcs N w a l c (A ++ r :: B) ps) : ∃ b, a = some ⟨b, 0, none⟩ ∧ ∀ o, o < 7 → cellH w.heap b (A.length * 7 + o) = r.cells[o]? := by
  have hl := h.len
  rw [List.length_append, List.length_cons] at hl
  obtain ⟨b, rfl, hc⟩ := h.row.open (by omega)
  refine ⟨b, rfl, fun o ho => ?_⟩
  rw [hc _ (by omega), rawC_at _ A.length (by simp) o ho]
  simp
/-- The ranges of a piece are changed. -/
theorem Pcs.setSet {N : Nat} {w w' : World} {a : Option Addr} {l c : Nat} {A B : List Raw} {C D : List Pc} {r : Raw} {p : Pc} (h : Pcs N w a l c (A ++ r :: B) (C ++ p :: D)) (hAC : A.length = C.length) {s : List (Int × Int)}
    (hv : Vec w'.heap 134 2 r.sa r.sl r.sc (rngC s)) (E : Ext (fun x => blkOf r.sa = some x) w w') : Pcs N w' a l c (A ++ r :: B) (C ++ { p with set := s } :: D) := by
  have hm := h.mid hAC
  have hsb : ∀ k, blkOf r.sa = some k → k ∈ r.blocks := fun k hk => List.mem_append_left _ (mem_ob.2 hk)
  refine h.upd hAC (h.row.keep E fun k hk hk' => (hm.2.2.1 k (hsb k hk')).1 (mem_ob.2 hk)) ⟨hm.1.kind, hm.1.min, hm.1.max, hm.1.lazy, hm.1.num, hv, hm.1.kids.keep E fun k hk hk' => ?_⟩ rfl E fun k hk => .inr (hsb k hk)
  exact (List.nodup_append.1 hm.2.2.2).2.2 k (mem_ob.2 hk') k (mem_ob.2 hk) rfl
/-- The kids of a piece are changed. -/
theorem Pcs.setKids {N : Nat} {w w' : World} {a : Option Addr} {l c : Nat} {A B : List Raw} {C D : List Pc} {r : Raw} {p : Pc} (h : Pcs N w a l c (A ++ r :: B) (C ++ p :: D)) (hAC : A.length = C.length) {s : List Int}
    (hv : Vec w'.heap 3 1 r.ka r.kl r.kc (intC s)) (E : Ext (fun x => blkOf r.ka = some x) w w') : Pcs N w' a l c (A ++ r :: B) (C ++ { p with kids := s } :: D) := by
  have hm := h.mid hAC
  have hsb : ∀ k, blkOf r.ka = some k → k ∈ r.blocks := fun k hk => List.mem_append_right _ (mem_ob.2 hk)
  refine h.upd hAC (h.row.keep E fun k hk hk' => (hm.2.2.1 k (hsb k hk')).1 (mem_ob.2 hk)) ⟨hm.1.kind, hm.1.min, hm.1.max, hm.1.lazy, hm.1.num, hm.1.set.keep E fun k hk hk' => ?_, hv⟩ rfl E fun k hk => .inr (hsb k hk)
  exact (List.nodup_append.1 hm.2.2.2).2.2 k (mem_ob.2 hk) k (mem_ob.2 hk') rfl
theorem blks_eq {a : Option Addr} {A B : List Raw} {r r' : Raw} (hb : r'.blocks = r.blocks) : blks a (A ++ r' :: B) = blks a (A ++ r :: B) := by unfold blks; rw [List.flatMap_append, List.flatMap_append, List.flatMap_cons, List.flatMap_cons, hb]
theorem mem_blks {a : Option Addr} {A B : List Raw} {r : Raw} {k : Nat} (h : k ∈ r.blocks) : k ∈ blks a (A ++ r :: B) := by unfold blks; simp [h]
end Go.Vc
namespace Go.Proofs.Ytngbiaeliphdjaa.V
open Go.Vc Go.Proofs Go.RowKit
set_option linter.unusedVariables false
set_option linter.unusedSimpArgs false
theorem markPieceS_ok {w : World} {N : Nat} {a : Option Addr} {l c : Nat} {rs : List Raw} {ps : List Pc} (h : Pcs N w a l c rs ps) (hs : AllS ps) (hl : ps.length ≤ 500) (k : Nat) (hk : k ≤ 1000) :
    Cl Try.prog 86 [.slice a l c, .int .i64 k] w (fun e w' => e = .returned (.int .i64 ((k + szPs ps : Nat) : Int)) ∧ (∃ rs', Pcs N w' a l c rs' (mkPs k ps) ∧ blks a rs' = blks a rs) ∧ Ext (fun x => x ∈ blks a rs) w w') := by
  apply vc86
  unfold V86
  have hlen := h.len'
  refine ⟨fun m n j w' => ∃ (A B : List Raw) (C D : List Pc), ps = C ++ D ∧ A.length = C.length ∧ n = ((k + szPs C : Nat) : Int) ∧ j = C.length ∧ m = D.length ∧ Pcs N w' a l c (A ++ B) (mkPs k C ++ D) ∧ blks a (A ++ B) = blks a rs ∧ Ext (fun x => x ∈ blks a rs) w w', ⟨_, [], rs, [], ps, rfl, rfl, by simp [szPs], rfl, rfl, h, rfl, Ext.refl _ _⟩, ?_⟩
  rintro m d n j w1 ⟨A, B, C, D, hps, hAC, rfl, rfl, rfl, h1, hbl, hE⟩
  have hpl : ps.length = C.length + D.length := by rw [hps]; simp
  have hAC' : A.length = (mkPs k C).length := by rw [mkPs_length, hAC]
  have hC : AllS C := fun p hp => hs p (by rw [hps]; exact List.mem_append_left _ hp)
  have hsz := szPs_le hC
  refine ⟨fun g => ?_, fun g => ?_⟩
  · have g' : C.length < l := by have := of_decide_eq_true g; omega
    obtain ⟨p, D', rfl⟩ : ∃ x B', D = x :: B' := by
      cases D with
      | nil => simp at hpl; omega
      | cons x B' => exact ⟨x, B', rfl⟩
    obtain ⟨r, B', rfl⟩ : ∃ x B', B = x :: B' := by
      cases B with
      | nil => have h2 := h1.len; simp at h2; omega
      | cons x B' => exact ⟨x, B', rfl⟩
    have hp : Small p := hs p (by rw [hps]; simp)
    have hp1 := hp.set
    have hp2 := hp.kids
    have e0 : Int.toNat (C.length : Int) = C.length := by omega
    have e1 : IntKind.wrap .i64 ((C.length : Int) + 1) = ((C.length + 1 : Nat) : Int) := by rw [w64 (by omega)]; omega
    rw [e0, e1]
    generalize hkk : k + szPs C = kk
    have hkk1 : kk ≤ 400000 := by omega
    have e2 : IntKind.wrap .i64 ((kk : Int) + 1) = ((kk + 1 : Nat) : Int) := by rw [w64 (by omega)]; omega
    rw [e2]
    obtain ⟨b, rfl, hc1⟩ := h1.cell
    have hbE : ∀ {w' w'' : World}, Ext (fun x => x ∈ blks (some ⟨b, 0, none⟩) rs) w w' → Ext (fun x => x = b) w' w'' → Ext (fun x => x ∈ blks (some ⟨b, 0, none⟩) rs) w w'' := fun h1 h2 => h1.trans (Ext.mono h2 fun x _ hx => by subst hx; simp [blks, ob, blkOf])
    have hrE : ∀ {w' w'' : World} {ad : Option Addr}, (∀ k, blkOf ad = some k → k ∈ r.blocks) → Ext (fun x => x ∈ blks (some ⟨b, 0, none⟩) rs) w w' → Ext (fun x => blkOf ad = some x) w' w'' → Ext (fun x => x ∈ blks (some ⟨b, 0, none⟩) rs) w w'' := fun h0 h1 h2 => h1.trans (Ext.mono h2 fun x _ hx => by rw [← hbl]; exact mem_blks (h0 x hx))
    refine ⟨b, 0, ⟨rfl, by omega, by omega⟩, ?_⟩
    refine h1.st (r' := { r with kind := (kk : Int) }) (p' := { p with kind := (kk : Int) }) hAC' (o := 0) (by decide) (by omega) rfl rfl (fun w h => ⟨rfl, h.min, h.max, h.lazy, h.num, h.set, h.kids⟩) fun w2 h2 E2 => ?_
    have hE2 := hbE hE E2
    obtain ⟨b', hb', hc2⟩ := h2.cell
    obtain rfl : b = b' := by injection hb' with hb'; injection hb'
    refine ⟨b, 0, ⟨rfl, by omega, by omega⟩, r.sa, r.sl, r.sc, by rw [show 0 + C.length * 7 + 1 = A.length * 7 + 1 from by omega]; exact hc2 1 (by decide), ?_⟩
    refine (markRangeS_ok (h2.mid hAC').1.set (by show p.set.length ≤ 1000; omega) (kk + 1) (by omega) rfl).use fun e w3 he => ?_
    obtain ⟨rfl, hv3, E3⟩ := he
    have h3 := h2.setSet hAC' hv3 E3
    have hE3 := hrE (fun k hk => List.mem_append_left _ (mem_ob.2 hk)) hE2 E3
    simp only [] at h3
    generalize hk1 : kk + 1 + 2 * p.set.length = k1 at *
    have e3 : IntKind.wrap .i64 ((k1 : Int) + 1) = ((k1 + 1 : Nat) : Int) := by rw [w64 (by omega)]; omega
    have e4 : IntKind.wrap .i64 (((k1 + 1 : Nat) : Int) + 1) = ((k1 + 2 : Nat) : Int) := by rw [w64 (by omega)]; omega
    have e5 : IntKind.wrap .i64 (((k1 + 2 : Nat) : Int) + 1) = ((k1 + 3 : Nat) : Int) := by rw [w64 (by omega)]; omega
    have e6 : IntKind.wrap .i64 (((k1 + 3 : Nat) : Int) + 1) = ((k1 + 4 : Nat) : Int) := by rw [w64 (by omega)]; omega
    refine ⟨(k1 : Int), rfl, ?_⟩
    rw [e3, e4, e5, e6]
    refine ⟨b, 0, ⟨rfl, by omega, by omega⟩, ?_⟩
    refine h3.st (r' := { r with kind := (kk : Int), min := (k1 : Int) }) (p' := { p with kind := (kk : Int), set := mkRng (kk + 1) p.set, min := (k1 : Int) }) hAC' (o := 2) (by decide) (by omega) rfl rfl (fun w h => ⟨h.kind, rfl, h.max, h.lazy, h.num, h.set, h.kids⟩) fun w4 h4 E4 => ?_
    have hE4 := hbE hE3 E4
    refine ⟨b, 0, ⟨rfl, by omega, by omega⟩, ?_⟩
    refine h4.st (r' := { r with kind := (kk : Int), min := (k1 : Int), max := ((k1 + 1 : Nat) : Int) }) (p' := { p with kind := (kk : Int), set := mkRng (kk + 1) p.set, min := (k1 : Int), max := ((k1 + 1 : Nat) : Int) }) hAC' (o := 3) (by decide) (by omega) rfl rfl (fun w h => ⟨h.kind, h.min, rfl, h.lazy, h.num, h.set, h.kids⟩) fun w5 h5 E5 => ?_
    have hE5 := hbE hE4 E5
    refine ⟨by decide, b, 0, ⟨rfl, by omega, by omega⟩, ?_⟩
    refine h5.st (r' := { r with kind := (kk : Int), min := (k1 : Int), max := ((k1 + 1 : Nat) : Int), lazy := Int.tmod ((k1 + 2 : Nat) : Int) 3 == 0 }) (p' := { p with kind := (kk : Int), set := mkRng (kk + 1) p.set, min := (k1 : Int), max := ((k1 + 1 : Nat) : Int), lazy := Int.tmod ((k1 + 2 : Nat) : Int) 3 == 0 }) hAC' (o := 4) (by decide) (by omega) rfl rfl (fun w h => ⟨h.kind, h.min, h.max, rfl, h.num, h.set, h.kids⟩) fun w6 h6 E6 => ?_
    have hE6 := hbE hE5 E6
    refine ⟨b, 0, ⟨rfl, by omega, by omega⟩, ?_⟩
    refine h6.st (r' := { r with kind := (kk : Int), min := (k1 : Int), max := ((k1 + 1 : Nat) : Int), lazy := Int.tmod ((k1 + 2 : Nat) : Int) 3 == 0, num := ((k1 + 3 : Nat) : Int) }) (p' := { p with kind := (kk : Int), set := mkRng (kk + 1) p.set, min := (k1 : Int), max := ((k1 + 1 : Nat) : Int), lazy := Int.tmod ((k1 + 2 : Nat) : Int) 3 == 0, num := ((k1 + 3 : Nat) : Int) }) hAC' (o := 5) (by decide) (by omega) rfl rfl (fun w h => ⟨h.kind, h.min, h.max, h.lazy, rfl, h.set, h.kids⟩) fun w7 h7 E7 => ?_
    have hE7 := hbE hE6 E7
    obtain ⟨b', hb', hc7⟩ := h7.cell
    obtain rfl : b = b' := by injection hb' with hb'; injection hb'
    refine ⟨b, 0, ⟨rfl, by omega, by omega⟩, r.ka, r.kl, r.kc, by rw [show 0 + C.length * 7 + 6 = A.length * 7 + 6 from by omega]; exact hc7 6 (by decide), ?_⟩
    refine (markIntS_ok (h7.mid hAC').1.kids (by show p.kids.length ≤ 1000; omega) (k1 + 4) (by omega) rfl).use fun e w8 he => ?_
    obtain ⟨rfl, hv8, E8⟩ := he
    have h8 := h7.setKids hAC' hv8 E8
    have hE8 := hrE (fun k hk => List.mem_append_right _ (mem_ob.2 hk)) hE7 E8
    simp only [] at h8
    have hmk : mkPs k (C ++ [p]) = mkPs k C ++ [mkPc kk p] := by rw [mkPs_append, hkk]; rfl
    refine ⟨_, rfl, D'.length, by simp, A ++ [{ r with kind := (kk : Int), min := (k1 : Int), max := ((k1 + 1 : Nat) : Int), lazy := Int.tmod ((k1 + 2 : Nat) : Int) 3 == 0, num := ((k1 + 3 : Nat) : Int) }], B', C ++ [p], D', by rw [hps]; simp, by simp [hAC], ?_, by simp, rfl, ?_, ?_, hE8⟩
    · rw [szPs_append, szPs_one]
      unfold szP
      show ((k1 + 4 + p.kids.length : Nat) : Int) = _
      omega
    · rw [hmk, List.append_assoc, List.append_assoc]
      unfold mkPc
      rw [hk1]
      exact h8
    · rw [List.append_assoc]
      rw [← hbl]
      exact blks_eq (B := B') rfl
  · have g' : ¬ C.length < l := by have := of_decide_eq_false g; omega
    have : D = [] := by
      cases D with
      | nil => rfl
      | cons x r => simp at hpl; omega
    subst this
    rw [List.append_nil] at hps h1
    subst hps
    exact ⟨rfl, ⟨_, h1, hbl⟩, hE⟩
theorem heldPieceS_ok {w : World} {N : Nat} {a : Option Addr} {l c : Nat} {rs : List Raw} {ps : List Pc} (k : Nat) (h : Pcs N w a l c rs (mkPs k ps)) (hs : AllS ps) (hl : ps.length ≤ 500) (hk : k ≤ 1000) :
    Cl Try.prog 87 [.slice a l c, .int .i64 k] w (RetB (.int .i64 ((k + szPs ps : Nat) : Int)) w) := by
  apply vc87
  unfold V87
  have hlen := h.len'
  rw [mkPs_length] at hlen
  refine ⟨fun m n j w' => ∃ (A B : List Raw) (C D : List Pc), ps = C ++ D ∧ rs = A ++ B ∧ A.length = C.length ∧ n = ((k + szPs C : Nat) : Int) ∧ j = C.length ∧ m = D.length ∧ Below w.heap.size w w', ⟨_, [], rs, [], ps, rfl, rfl, rfl, by simp [szPs], rfl, rfl, Below.refl _ _⟩, ?_⟩
  rintro m d n j w1 ⟨A, B, C, D, hps, hrs, hAC, rfl, rfl, rfl, hb⟩
  have hpl : ps.length = C.length + D.length := by rw [hps]; simp
  have hAC' : A.length = (mkPs k C).length := by rw [mkPs_length, hAC]
  have hC : AllS C := fun p hp => hs p (by rw [hps]; exact List.mem_append_left _ hp)
  have hsz := szPs_le hC
  have h1 := h.below hb
  rw [hps, hrs, mkPs_append] at h1
  refine ⟨fun g => ?_, fun g => ?_⟩
  · have g' : C.length < l := by have := of_decide_eq_true g; omega
    obtain ⟨p, D', rfl⟩ : ∃ x B', D = x :: B' := by
      cases D with
      | nil => simp at hpl; omega
      | cons x B' => exact ⟨x, B', rfl⟩
    obtain ⟨r, B', rfl⟩ : ∃ x B', B = x :: B' := by
      cases B with
      | nil => have h2 := h1.len; simp at h2; omega
      | cons x B' => exact ⟨x, B', rfl⟩
    have hp : Small p := hs p (by rw [hps]; simp)
    have hp1 := hp.set
    have hp2 := hp.kids
    have e0 : Int.toNat (C.length : Int) = C.length := by omega
    have e1 : IntKind.wrap .i64 ((C.length : Int) + 1) = ((C.length + 1 : Nat) : Int) := by rw [w64 (by omega)]; omega
    rw [e0, e1]
    generalize hkk : k + szPs C = kk at *
    have hkk1 : kk ≤ 400000 := by omega
    have e2 : IntKind.wrap .i64 ((kk : Int) + 1) = ((kk + 1 : Nat) : Int) := by rw [w64 (by omega)]; omega
    rw [e2]
    have h1' : Pcs N w1 a l c (A ++ r :: B') (mkPs k C ++ mkPc kk p :: mkPs (kk + szP p) D') := h1
    obtain ⟨b, rfl, hc1⟩ := h1'.cell
    have hr := (h1'.mid hAC').1
    have hcell : ∀ {w' : World} o, o < 7 → Below w1.heap.size w1 w' → cellH w'.heap b (0 + C.length * 7 + o) = r.cells[o]? := fun {w'} o ho hb' => by
      obtain ⟨b', hb'', hc'⟩ := (h1'.below hb').cell
      obtain rfl : b = b' := by injection hb'' with hb''; injection hb''
      rw [show 0 + C.length * 7 + o = A.length * 7 + o from by omega]
      exact hc' o ho
    have ne : ∀ {x y : Int}, x = y → ¬ ((x != y) = true) := fun h => by subst h; simp
    refine ⟨b, 0, ⟨rfl, by omega, by omega⟩, r.kind, hcell 0 (by decide) (Below.refl _ _), fun q => absurd q (ne hr.kind), fun _ => ?_⟩
    refine ⟨b, 0, ⟨rfl, by omega, by omega⟩, _, _, _, hcell 1 (by decide) (Below.refl _ _), ?_⟩
    refine (heldRangeS_ok (kk + 1) hr.set (by omega) (by omega) rfl).ret fun w2 b2 => ?_
    generalize hk1 : kk + 1 + 2 * p.set.length = k1 at *
    have hr' : RawOk w1 r ⟨(kk : Int), mkRng (kk + 1) p.set, (k1 : Int), ((k1 + 1 : Nat) : Int), Int.tmod ((k1 + 2 : Nat) : Int) 3 == 0, ((k1 + 3 : Nat) : Int), mkInt (k1 + 4) p.kids⟩ := by
      have := hr; unfold mkPc at this; rw [hk1] at this; exact this
    have e3 : IntKind.wrap .i64 ((k1 : Int) + 1) = ((k1 + 1 : Nat) : Int) := by rw [w64 (by omega)]; omega
    have e4 : IntKind.wrap .i64 (((k1 + 1 : Nat) : Int) + 1) = ((k1 + 2 : Nat) : Int) := by rw [w64 (by omega)]; omega
    have e5 : IntKind.wrap .i64 (((k1 + 2 : Nat) : Int) + 1) = ((k1 + 3 : Nat) : Int) := by rw [w64 (by omega)]; omega
    have e6 : IntKind.wrap .i64 (((k1 + 3 : Nat) : Int) + 1) = ((k1 + 4 : Nat) : Int) := by rw [w64 (by omega)]; omega
    refine ⟨(k1 : Int), rfl, fun q => (by have := of_decide_eq_true q; omega), fun _ => ?_⟩
    rw [e3, e4, e5, e6]
    refine ⟨b, 0, ⟨rfl, by omega, by omega⟩, r.min, hcell 2 (by decide) b2, fun q => absurd q (ne hr'.min), fun _ => ?_⟩
    refine ⟨b, 0, ⟨rfl, by omega, by omega⟩, r.max, hcell 3 (by decide) b2, fun q => absurd q (ne hr'.max), fun _ => ?_⟩
    refine ⟨b, 0, ⟨rfl, by omega, by omega⟩, r.lazy, hcell 4 (by decide) b2, by decide, fun q => ?_, fun _ => ?_⟩
    · have := hr'.lazy
      simp only [] at this
      rw [this] at q
      simp at q
    refine ⟨b, 0, ⟨rfl, by omega, by omega⟩, r.num, hcell 5 (by decide) b2, fun q => absurd q (ne hr'.num), fun _ => ?_⟩
    refine ⟨b, 0, ⟨rfl, by omega, by omega⟩, _, _, _, hcell 6 (by decide) b2, ?_⟩
    refine (heldIntS_ok (k1 + 4) (hr'.kids.keep (S := fun _ => False) (Ext.of_below b2) fun _ _ h => h) (by omega) (by omega) rfl).ret fun w3 b3 => ?_
    refine ⟨_, rfl, fun q => (by have := of_decide_eq_true q; omega), fun _ => ⟨D'.length, by simp, A ++ [r], B', C ++ [p], D', by rw [hps]; simp, by rw [hrs]; simp, by simp [hAC], ?_, by simp, rfl, (hb.vstep b2).vstep b3⟩⟩
    rw [szPs_append, szPs_one]
    unfold szP
    omega
  · have g' : ¬ C.length < l := by have := of_decide_eq_false g; omega
    have : D = [] := by
      cases D with
      | nil => rfl
      | cons x r => simp at hpl; omega
    subst this
    rw [List.append_nil] at hps
    subst hps
    exact ⟨rfl, hb⟩
theorem markPattern_ok {w : World} {N : Nat} {a : Option Addr} {l c : Nat} {rs : List Raw} {ps : List Pc} {t : Bool} {n m : Int} (h : Pcs N w a l c rs ps) (hs : AllS ps) (hl : ps.length ≤ 500) :
    Cl Try.prog 37 [.agg #[.bool t, .int .i64 n, .int .i64 m, .slice a l c], .int .i64 1] w (fun e w' => e = .returned (.int .i64 ((1 + szPs ps : Nat) : Int)) ∧ (∃ rs', Pcs N w' a l c rs' (mkPs 1 ps) ∧ blks a rs' = blks a rs) ∧ Ext (fun x => x ∈ blks a rs) w w') := by
  apply vc37
  unfold V37
  refine newC_in fun w1 s1 k1 e1 => ?_
  refine ⟨a, l, c, k1.cell 3, ?_⟩
  refine (markPieceS_ok (h.keep e1 fun _ _ h => h) hs hl 1 (by decide)).use fun e w2 he => ?_
  obtain ⟨rfl, hR, hE⟩ := he
  exact ⟨_, rfl, rfl, hR, (Ext.mono e1 fun _ _ h => h.elim).trans hE⟩
theorem heldPattern_ok {w : World} {N : Nat} {a : Option Addr} {l c : Nat} {rs : List Raw} {ps : List Pc} {t : Bool} {n m : Int} (h : Pcs N w a l c rs (mkPs 1 ps)) (hs : AllS ps) (hl : ps.length ≤ 500) :
    Cl Try.prog 38 [.agg #[.bool t, .int .i64 n, .int .i64 m, .slice a l c], .int .i64 1] w (RetB (.int .i64 ((1 + szPs ps : Nat) : Int)) w) := by
  apply vc38
  unfold V38
  refine newC_in fun w1 s1 k1 e1 => ?_
  refine ⟨a, l, c, k1.cell 3, ?_⟩
  have hb : Below w.heap.size w w1 := Ext.to (Below.refl _ _) e1 fun _ h => h.elim
  exact (heldPieceS_ok 1 (h.below hb) hs hl (by decide)).ret fun w2 hb2 => ⟨_, rfl, fun g => (by have := of_decide_eq_true g; omega), fun _ => ⟨rfl, hb.vstep hb2⟩⟩
end Go.Proofs.Ytngbiaeliphdjaa.V
/- The reference's sets, byte by byte: plain lists, no program in sight. No statement of the seat is proved here. -/
namespace Go.Vc
set_option linter.unusedVariables false
set_option linter.unusedSimpArgs false
theorem runsF_no {f : Nat → Bool} {b : Nat} (hb : b < 256) (h : f b = false) : runsF f b = runsF f (b + 1) := by
  conv => lhs; rw [runsF]
  rw [dif_pos hb, h]; simp
theorem runsF_yes {f : Nat → Bool} {b : Nat} (hb : b < 256) (h : f b = true) : runsF f b = ((b : Int), (runEnd f b : Int)) :: runsF f (runEnd f b + 1) := by
  conv => lhs; rw [runsF]
  rw [dif_pos hb, h]; simp
theorem runsF_out {f : Nat → Bool} {b : Nat} (hb : ¬ b < 256) : runsF f b = [] := by rw [runsF, dif_neg hb]
theorem runEnd_no {f : Nat → Bool} {j : Nat} (h : f (j + 1) = false) : runEnd f j = j := by
  rw [runEnd]; split
  · rw [h]; simp
  · rfl
theorem runEnd_yes {f : Nat → Bool} {j : Nat} (hj : j < 255) (h : f (j + 1) = true) : runEnd f j = runEnd f (j + 1) := by
  conv => lhs; rw [runEnd]
  rw [dif_pos hj, h]; simp
theorem runEnd_255 (f : Nat → Bool) : runEnd f 255 = 255 := by rw [runEnd]; simp
/-- What was gathered of the bytes below b: the last row is done with, or goes on. -/
def SetInv (f : Nat → Bool) (b : Nat) (xs : List (Int × Int)) : Prop :=
  (xs ++ runsF f b = runs f ∧ ∀ ys lo hi, xs = ys ++ [(lo, hi)] → hi + 1 < (b : Int)) ∨
  (∃ c, b = c + 1 ∧ ∃ ys lo, xs = ys ++ [(lo, (c : Int))] ∧ ys ++ (lo, (runEnd f c : Int)) :: runsF f (runEnd f c + 1) = runs f)
theorem SetInv.init (f : Nat → Bool) : SetInv f 0 [] := .inl ⟨rfl, by intro ys lo hi h; simp at h⟩
theorem SetInv.no {f : Nat → Bool} {b : Nat} {xs : List (Int × Int)} (h : SetInv f b xs) (hb : b < 256) (hf : f b = false) : SetInv f (b + 1) xs := by
  rcases h with ⟨h1, h2⟩ | ⟨c, rfl, ys, lo, rfl, h⟩
  · exact .inl ⟨by rw [← runsF_no hb hf]; exact h1, fun ys lo hi e => by have := h2 ys lo hi e; omega⟩
  · rw [runEnd_no hf, runsF_no hb hf] at h
    refine .inl ⟨by rw [← h]; simp, fun ys' lo' hi' e => ?_⟩
    have := List.append_inj_right' e rfl
    simp only [List.cons.injEq, Prod.mk.injEq, and_true] at this
    omega
theorem SetInv.on {f : Nat → Bool} {b : Nat} {ys : List (Int × Int)} {lo hi : Int} (h : SetInv f b (ys ++ [(lo, hi)])) (hb : b < 256) (hf : f b = true) (hh : hi = (b : Int) - 1) : SetInv f (b + 1) (ys ++ [(lo, (b : Int))]) := by
  rcases h with ⟨h1, h2⟩ | ⟨c, rfl, ys', lo', e, h⟩
  · have := h2 ys lo hi rfl; omega
  · have e2 := List.append_inj_right' e rfl
    have e1 := List.append_inj_left' e rfl
    simp only [List.cons.injEq, Prod.mk.injEq, and_true] at e2
    obtain ⟨rfl, _⟩ := e2
    subst e1
    rw [runEnd_yes (by omega) hf] at h
    exact .inr ⟨c + 1, rfl, ys, lo, rfl, h⟩
theorem SetInv.new {f : Nat → Bool} {b : Nat} {xs : List (Int × Int)} (h : SetInv f b xs) (hb : b < 256) (hf : f b = true) (hn : ∀ ys lo hi, xs = ys ++ [(lo, hi)] → hi ≠ (b : Int) - 1) : SetInv f (b + 1) (xs ++ [((b : Int), (b : Int))]) := by
  rcases h with ⟨h1, h2⟩ | ⟨c, rfl, ys', lo', rfl, h⟩
  · rw [runsF_yes hb hf] at h1
    exact .inr ⟨b, rfl, xs, b, rfl, h1⟩
  · exact absurd (by omega) (hn _ _ _ rfl)
theorem SetInv.done {f : Nat → Bool} {xs : List (Int × Int)} (h : SetInv f 256 xs) : xs = runs f := by
  rcases h with ⟨h1, h2⟩ | ⟨c, hc, ys', lo', rfl, h⟩
  · rw [runsF_out (by omega)] at h1; simpa using h1
  · obtain rfl : c = 255 := by omega
    rw [runEnd_255, runsF_out (by omega)] at h; exact h
end Go.Vc
/- Printed by vcgen.py, a program of this session: formulas of Go functions, each with the proof that it gives the function's contract. No statement of the seat is proved here. -/
namespace Go.Proofs.Ytngbiaeliphdjaa.V
open Go.Vc Go.Proofs
set_option linter.unusedVariables false
set_option maxRecDepth 100000
/-- (*spec.l1R).more -/
def V78 (b1 : Nat) (o2 : Nat) (R : Ending → World → Prop) : World → Prop := fun w =>
  drw (fun (w3 : World) => ∃ (n4 : Int), cellH w3.heap b1 (o2 + 2) = some (.int .i64 n4) ∧ (((decide ((n4 : Int) < 0)) = true → ∃ (n5 : Int), cellH w3.heap b1 (o2 + 1) = some (.int .i64 n5) ∧ ∃ (s6 : ByteArray), cellH w3.heap b1 o2 = some (.string s6) ∧ R (.returned (.bool (decide ((n5 : Int) < ((ByteArray.size s6 : Nat) : Int))))) w3) ∧ ((decide ((n4 : Int) < 0)) = false → R (.returned (.bool false)) w3))) w
def scr78 : Scr := (.run [0] (.close (.run [0, 1, 2, 3, 4, 5] (.split 8 (.run [6, 7, 8, 9, 10, 11, 12, 13, 14, 15, 16, 17] (.close .nil)) (.run [6, 7, 8, 9, 10, 11, 12, 13, 14, 15, 16, 17] (.close .nil))))))
theorem vc78 {b1 : Nat} {o2 : Nat} {R : Ending → World → Prop} {w : World} (h : V78 b1 o2 R w) : Cl Try.prog 78 [.pointer (some ⟨b1, o2, none⟩)] w R :=
  cl_of scr78 Try.func78 (by kernel_rfl) [.pointer (some ⟨b1, o2, none⟩)] (V78 b1 o2 R) (by kernel_rfl) h
/-- (*spec.l1R).fail -/
def V79 (b1 : Nat) (o2 : Nat) (R : Ending → World → Prop) : World → Prop := fun w =>
  ∃ (n3 : Int), cellH w.heap b1 (o2 + 2) = some (.int .i64 n3) ∧ (((decide ((n3 : Int) < 0)) = true → ∃ (n4 : Int), cellH w.heap b1 (o2 + 1) = some (.int .i64 n4) ∧ stW b1 (o2 + 2) [.int .i64 n4] (fun (w5 : World) => R (.returned (.tuple #[])) w5) w) ∧ ((decide ((n3 : Int) < 0)) = false → R (.returned (.tuple #[])) w))
def scr79 : Scr := (.run [0, 1, 2, 3, 4] (.close (.cond (.run [0, 1, 2, 3, 4, 5, 6, 7] (.close .nil)) .nil)))
theorem vc79 {b1 : Nat} {o2 : Nat} {R : Ending → World → Prop} {w : World} (h : V79 b1 o2 R w) : Cl Try.prog 79 [.pointer (some ⟨b1, o2, none⟩)] w R :=
  cl_of scr79 Try.func79 (by kernel_rfl) [.pointer (some ⟨b1, o2, none⟩)] (V79 b1 o2 R) (by kernel_rfl) h
/-- (*spec.l1R).is -/
def V112 (b1 : Nat) (o2 : Nat) (n3 : Int) (R : Ending → World → Prop) : World → Prop := fun w =>
  drw (fun (w4 : World) => Cl Try.prog 78 ([.pointer (some ⟨b1, o2, none⟩)]) w4 (retG (fun (r7 : Value) (w6 : World) => ∃ (t5 : Bool), r7 = .bool t5 ∧ ((t5 = true → ∃ (s8 : ByteArray), cellH w6.heap b1 o2 = some (.string s8) ∧ ∃ (n9 : Int), cellH w6.heap b1 (o2 + 1) = some (.int .i64 n9) ∧ (0 ≤ (n9 : Int) ∧ (n9 : Int) < ((ByteArray.size s8 : Nat) : Int)) ∧ ((((byteAt s8 (Int.toNat n9) : Int) == n3) = true → ∃ (n10 : Int), cellH w6.heap b1 (o2 + 1) = some (.int .i64 n10) ∧ stW b1 (o2 + 1) [.int .i64 (IntKind.wrap .i64 (n10 + 1))] (fun (w11 : World) => R (.returned (.bool true)) w11) w6) ∧ (((byteAt s8 (Int.toNat n9) : Int) == n3) = false → R (.returned (.bool false)) w6))) ∧ (t5 = false → R (.returned (.bool false)) w6))) (fun c w => R (.panicked c) w))) w
def scr112 : Scr := (.run [0] (.close (.run [0, 1, 2] (.split 7 (.run [3, 4, 5, 6, 7, 8, 9, 10, 11, 12, 13, 14] (.close (.cond (.run [0, 1, 2, 3, 4, 5, 6, 7] (.close (.run [0] (.close .nil)))) (.run [0] (.close .nil))))) (.run [3, 4, 5, 6, 7, 8, 9, 10, 11, 12, 13, 14] (.close (.lit (.run [0] (.close .nil)))))))))
theorem vc112 {b1 : Nat} {o2 : Nat} {n3 : Int} {R : Ending → World → Prop} {w : World} (h : V112 b1 o2 n3 R w) : Cl Try.prog 112 [.pointer (some ⟨b1, o2, none⟩), .int .u8 n3] w R :=
  cl_of scr112 Try.func112 (by kernel_rfl) [.pointer (some ⟨b1, o2, none⟩), .int .u8 n3] (V112 b1 o2 n3 R) (by kernel_rfl) h
/-- (*spec.l1R).add -/
def V113 (b1 : Nat) (o2 : Nat) (n3 : Int) (a4 : Option Addr) (l4 : Nat) (c4 : Nat) (n5 : Int) (n6 : Int) (t7 : Bool) (n8 : Int) (a9 : Option Addr) (l9 : Nat) (c9 : Nat) (R : Ending → World → Prop) : World → Prop := fun w =>
  newC [.int .i64 n3, .slice a4 l4 c4, .int .i64 n5, .int .i64 n6, .bool t7, .int .i64 n8, .slice a9 l9 c9] 111 (fun (b10 : Nat) (w11 : World) => drw (fun (w12 : World) => ∃ (a13 : Option Addr), ∃ (l13 : Nat), ∃ (c13 : Nat), cellH w12.heap b1 (o2 + 4) = some (.slice a13 l13 c13) ∧ ∃ (n14 : Int), cellH w12.heap b10 0 = some (.int .i64 n14) ∧ ∃ (a15 : Option Addr), ∃ (l15 : Nat), ∃ (c15 : Nat), cellH w12.heap b10 1 = some (.slice a15 l15 c15) ∧ ∃ (n16 : Int), cellH w12.heap b10 2 = some (.int .i64 n16) ∧ ∃ (n17 : Int), cellH w12.heap b10 3 = some (.int .i64 n17) ∧ ∃ (t18 : Bool), cellH w12.heap b10 4 = some (.bool t18) ∧ ∃ (n19 : Int), cellH w12.heap b10 5 = some (.int .i64 n19) ∧ ∃ (a20 : Option Addr), ∃ (l20 : Nat), ∃ (c20 : Nat), cellH w12.heap b10 6 = some (.slice a20 l20 c20) ∧ newC [.int .i64 n14, .slice a15 l15 c15, .int .i64 n16, .int .i64 n17, .bool t18, .int .i64 n19, .slice a20 l20 c20] 111 (fun (b21 : Nat) (w22 : World) => cellH w22.heap b1 (o2 + 4) = some (.slice a13 l13 c13) ∧ ∃ (a23 : Option Addr), ∃ (l23 : Nat), ∃ (c23 : Nat), ∃ (w24 : World), (Builtin.append_ #[35, 35] 35 #[.slice a13 l13 c13, .slice (some ⟨b21, 0, none⟩) 1 1]).run Try.prog w22 = .ok (.slice a23 l23 c23) w24 ∧ stW b1 (o2 + 4) [.slice a23 l23 c23] (fun (w25 : World) => ∃ (a26 : Option Addr), ∃ (l26 : Nat), ∃ (c26 : Nat), cellH w25.heap b1 (o2 + 4) = some (.slice a26 l26 c26) ∧ R (.returned (.int .i64 (IntKind.wrap .i64 (((l26 : Nat) : Int) - 1)))) w25) w24) w12) w11) w
def scr113 : Scr := (.run [0, 1] (.close (.run [0, 1, 2, 3, 4, 5, 6, 7, 8, 9, 10] (.close (.run [0, 1, 2, 3, 4, 5, 6] (.close .nil))))))
theorem vc113 {b1 : Nat} {o2 : Nat} {n3 : Int} {a4 : Option Addr} {l4 : Nat} {c4 : Nat} {n5 : Int} {n6 : Int} {t7 : Bool} {n8 : Int} {a9 : Option Addr} {l9 : Nat} {c9 : Nat} {R : Ending → World → Prop} {w : World} (h : V113 b1 o2 n3 a4 l4 c4 n5 n6 t7 n8 a9 l9 c9 R w) : Cl Try.prog 113 [.pointer (some ⟨b1, o2, none⟩), .agg #[.int .i64 n3, .slice a4 l4 c4, .int .i64 n5, .int .i64 n6, .bool t7, .int .i64 n8, .slice a9 l9 c9]] w R :=
  cl_of scr113 Try.func113 (by kernel_rfl) [.pointer (some ⟨b1, o2, none⟩), .agg #[.int .i64 n3, .slice a4 l4 c4, .int .i64 n5, .int .i64 n6, .bool t7, .int .i64 n8, .slice a9 l9 c9]] (V113 b1 o2 n3 a4 l4 c4 n5 n6 t7 n8 a9 l9 c9 R) (by kernel_rfl) h
/-- spec.l1hex -/
def V169 (n1 : Int) (R : Ending → World → Prop) : World → Prop := fun w =>
  (((decide ((n1 : Int) ≥ 48)) = true → (((decide ((n1 : Int) ≤ 57)) = true → R (.returned (.int .i64 (IntKind.wrap .i64 (IntKind.wrap .u8 (n1 - 48))))) w) ∧ ((decide ((n1 : Int) ≤ 57)) = false → (((decide ((n1 : Int) ≥ 97)) = true → (((decide ((n1 : Int) ≤ 102)) = true → R (.returned (.int .i64 (IntKind.wrap .i64 ((IntKind.wrap .i64 (IntKind.wrap .u8 (n1 - 97))) + 10)))) w) ∧ ((decide ((n1 : Int) ≤ 102)) = false → R (.returned (.int .i64 (-1))) w))) ∧ ((decide ((n1 : Int) ≥ 97)) = false → R (.returned (.int .i64 (-1))) w))))) ∧ ((decide ((n1 : Int) ≥ 48)) = false → (((decide ((n1 : Int) ≥ 97)) = true → (((decide ((n1 : Int) ≤ 102)) = true → R (.returned (.int .i64 (IntKind.wrap .i64 ((IntKind.wrap .i64 (IntKind.wrap .u8 (n1 - 97))) + 10)))) w) ∧ ((decide ((n1 : Int) ≤ 102)) = false → R (.returned (.int .i64 (-1))) w))) ∧ ((decide ((n1 : Int) ≥ 97)) = false → R (.returned (.int .i64 (-1))) w))))
def scr169 : Scr := (.run [0] (.close (.run [0, 1, 2] (.split 5 (.run [3, 4, 5] (.close (.cond (.run [0, 1, 2, 3] (.close .nil)) (.run [0, 1, 2] (.split 14 (.run [3, 4, 5] (.close (.cond (.run [0, 1, 2, 3, 4] (.close .nil)) (.run [0] (.close .nil))))) (.run [3, 4, 5] (.close (.lit (.run [0] (.close .nil)))))))))) (.run [3, 4, 5] (.close (.lit (.run [0, 1, 2] (.split 14 (.run [3, 4, 5] (.close (.cond (.run [0, 1, 2, 3, 4] (.close .nil)) (.run [0] (.close .nil))))) (.run [3, 4, 5] (.close (.lit (.run [0] (.close .nil))))))))))))))
theorem vc169 {n1 : Int} {R : Ending → World → Prop} {w : World} (h : V169 n1 R w) : Cl Try.prog 169 [.int .u8 n1] w R :=
  cl_of scr169 Try.func169 (by kernel_rfl) [.int .u8 n1] (V169 n1 R) (by kernel_rfl) h
/-- spec.l1range -/
def V165 (a1 : Option Addr) (l1 : Nat) (c1 : Nat) (n2 : Int) (n3 : Int) (R : Ending → World → Prop) : World → Prop := fun w =>
  ∃ (I4 : Nat → Int → World → Prop), (∃ (k6 : Nat), I4 k6 n2 w) ∧ ∀ (k5 : Nat) (d8 : Nat → Value) (n9 : Int) (w7 : World), I4 k5 n9 w7 → (((decide ((n9 : Int) ≤ n3)) = true → ∃ (b10 : Nat) (o11 : Nat), ((a1 : Option Addr) = some ⟨b10, o11, none⟩ ∧ 0 ≤ (n9 : Int) ∧ (n9 : Int) < ((l1 : Nat) : Int)) ∧ stW b10 (o11 + (Int.toNat n9) * 1) [.bool true] (fun (w12 : World) => (∃ (m13 : Nat), m13 < k5 ∧ I4 m13 (IntKind.wrap .i64 (n9 + 1)) w12)) w7) ∧ ((decide ((n9 : Int) ≤ n3)) = false → R (.returned (.tuple #[])) w7))
def scr165 : Scr := (.run [0, 1] (.close (.loop [(6, some (.int .i64)), (8, none), (9, none), (10, none), (11, none), (12, none), (13, none), (14, none), (15, none)] (.run [0, 1, 2] (.close (.cond (.run [0, 1, 2, 3] (.close (.run [0, 1, 2] (.close .nil)))) .nil))))))
theorem vc165 {a1 : Option Addr} {l1 : Nat} {c1 : Nat} {n2 : Int} {n3 : Int} {R : Ending → World → Prop} {w : World} (h : V165 a1 l1 c1 n2 n3 R w) : Cl Try.prog 165 [.slice a1 l1 c1, .int .i64 n2, .int .i64 n3] w R :=
  cl_of scr165 Try.func165 (by kernel_rfl) [.slice a1 l1 c1, .int .i64 n2, .int .i64 n3] (V165 a1 l1 c1 n2 n3 R) (by kernel_rfl) h
/-- spec.l1set -/
def V167 (a1 : Option Addr) (l1 : Nat) (c1 : Nat) (R : Ending → World → Prop) : World → Prop := fun w =>
  ∃ (I2 : Nat → Option Addr → Nat → Nat → Int → World → Prop), (∃ (k4 : Nat), I2 k4 none 0 0 0 w) ∧ ∀ (k3 : Nat) (d6 : Nat → Value) (a7 : Option Addr) (l7 : Nat) (c7 : Nat) (n8 : Int) (w5 : World), I2 k3 a7 l7 c7 n8 w5 → (((decide ((n8 : Int) < 256)) = true → ∃ (b9 : Nat) (o10 : Nat), ((a1 : Option Addr) = some ⟨b9, o10, none⟩ ∧ 0 ≤ (n8 : Int) ∧ (n8 : Int) < ((l1 : Nat) : Int)) ∧ ∃ (t11 : Bool), cellH w5.heap b9 (o10 + (Int.toNat n8) * 1) = some (.bool t11) ∧ (((!t11) = true → (∃ (m12 : Nat), m12 < k3 ∧ I2 m12 a7 l7 c7 (IntKind.wrap .i64 (n8 + 1)) w5)) ∧ ((!t11) = false → (((decide ((((l7 : Nat) : Int) : Int) > 0)) = true → ∃ (b13 : Nat) (o14 : Nat), ((a7 : Option Addr) = some ⟨b13, o14, none⟩ ∧ 0 ≤ (IntKind.wrap .i64 (((l7 : Nat) : Int) - 1) : Int) ∧ (IntKind.wrap .i64 (((l7 : Nat) : Int) - 1) : Int) < ((l7 : Nat) : Int)) ∧ ∃ (n15 : Int), cellH w5.heap b13 (o14 + (Int.toNat (IntKind.wrap .i64 (((l7 : Nat) : Int) - 1))) * 2 + 1) = some (.int .i64 n15) ∧ ((((n15 : Int) == (IntKind.wrap .i64 (n8 - 1))) = true → ∃ (b16 : Nat) (o17 : Nat), ((a7 : Option Addr) = some ⟨b16, o17, none⟩ ∧ 0 ≤ (IntKind.wrap .i64 (((l7 : Nat) : Int) - 1) : Int) ∧ (IntKind.wrap .i64 (((l7 : Nat) : Int) - 1) : Int) < ((l7 : Nat) : Int)) ∧ stW b16 (o17 + (Int.toNat (IntKind.wrap .i64 (((l7 : Nat) : Int) - 1))) * 2 + 1) [.int .i64 n8] (fun (w18 : World) => (∃ (m19 : Nat), m19 < k3 ∧ I2 m19 a7 l7 c7 (IntKind.wrap .i64 (n8 + 1)) w18)) w5) ∧ (((n15 : Int) == (IntKind.wrap .i64 (n8 - 1))) = false → newC [.int .i64 n8, .int .i64 n8] 134 (fun (b20 : Nat) (w21 : World) => ∃ (a22 : Option Addr), ∃ (l22 : Nat), ∃ (c22 : Nat), ∃ (w23 : World), (Builtin.append_ #[108, 108] 108 #[.slice a7 l7 c7, .slice (some ⟨b20, 0, none⟩) 1 1]).run Try.prog w21 = .ok (.slice a22 l22 c22) w23 ∧ (∃ (m24 : Nat), m24 < k3 ∧ I2 m24 a22 l22 c22 (IntKind.wrap .i64 (n8 + 1)) w23)) w5))) ∧ ((decide ((((l7 : Nat) : Int) : Int) > 0)) = false → newC [.int .i64 n8, .int .i64 n8] 134 (fun (b25 : Nat) (w26 : World) => ∃ (a27 : Option Addr), ∃ (l27 : Nat), ∃ (c27 : Nat), ∃ (w28 : World), (Builtin.append_ #[108, 108] 108 #[.slice a7 l7 c7, .slice (some ⟨b25, 0, none⟩) 1 1]).run Try.prog w26 = .ok (.slice a27 l27 c27) w28 ∧ (∃ (m29 : Nat), m29 < k3 ∧ I2 m29 a27 l27 c27 (IntKind.wrap .i64 (n8 + 1)) w28)) w5))))) ∧ ((decide ((n8 : Int) < 256)) = false → R (.returned (.slice a7 l7 c7)) w5))
def scr167 : Scr := (.run [0] (.close (.run [0] (.close (.run [0] (.close (.loop [(3, some .slice), (4, some (.int .i64)), (5, none), (6, none), (7, none), (8, none), (9, none), (10, none), (11, none), (12, none), (13, none), (14, none), (15, none), (16, none), (17, none), (18, none), (19, none), (20, none), (21, none), (22, none), (23, none), (24, none), (25, none), (26, none), (27, none), (28, none), (29, none), (30, none), (31, none), (32, none), (33, none), (34, none), (35, none), (36, none), (37, none), (38, none), (39, none), (40, none), (41, none)] (.run [0, 1] (.close (.cond (.run [0, 1, 2, 3, 4] (.close (.cond (.run [0, 1, 2] (.close .nil)) (.run [0, 1, 2] (.close (.run [0, 1, 2] (.split 19 (.run [3, 4, 5, 6, 7, 8, 9, 10, 11, 12] (.close (.cond (.run [0, 1, 2, 3, 4, 5, 6] (.close (.run [0, 1, 2] (.close .nil)))) (.run [0, 1, 2, 3, 4, 5, 6] (.close (.run [0, 1, 2] (.close .nil))))))) (.run [3, 4, 5, 6, 7, 8, 9, 10, 11, 12] (.close (.lit (.run [0, 1, 2, 3, 4, 5, 6] (.close (.run [0, 1, 2] (.close .nil)))))))))))))) (.run [0, 1] (.close .nil))))))))))))
theorem vc167 {a1 : Option Addr} {l1 : Nat} {c1 : Nat} {R : Ending → World → Prop} {w : World} (h : V167 a1 l1 c1 R w) : Cl Try.prog 167 [.slice a1 l1 c1] w R :=
  cl_of scr167 Try.func167 (by kernel_rfl) [.slice a1 l1 c1] (V167 a1 l1 c1 R) (by kernel_rfl) h
/-- (*spec.l1R).number -/
def V168 (b1 : Nat) (o2 : Nat) (R : Ending → World → Prop) : World → Prop := fun w =>
  ∃ (n3 : Int), cellH w.heap b1 (o2 + 1) = some (.int .i64 n3) ∧ ∃ (I4 : Nat → Int → World → Prop), (∃ (k6 : Nat), I4 k6 0 w) ∧ ∀ (k5 : Nat) (d8 : Nat → Value) (n9 : Int) (w7 : World), I4 k5 n9 w7 → drw (fun (w10 : World) => Cl Try.prog 78 ([.pointer (some ⟨b1, o2, none⟩)]) w10 (retG (fun (r13 : Value) (w12 : World) => ∃ (t11 : Bool), r13 = .bool t11 ∧ ((t11 = true → ∃ (s14 : ByteArray), cellH w12.heap b1 o2 = some (.string s14) ∧ ∃ (n15 : Int), cellH w12.heap b1 (o2 + 1) = some (.int .i64 n15) ∧ (0 ≤ (n15 : Int) ∧ (n15 : Int) < ((ByteArray.size s14 : Nat) : Int)) ∧ (((decide ((byteAt s14 (Int.toNat n15) : Int) ≥ 48)) = true → ∃ (s16 : ByteArray), cellH w12.heap b1 o2 = some (.string s16) ∧ ∃ (n17 : Int), cellH w12.heap b1 (o2 + 1) = some (.int .i64 n17) ∧ (0 ≤ (n17 : Int) ∧ (n17 : Int) < ((ByteArray.size s16 : Nat) : Int)) ∧ (((decide ((byteAt s16 (Int.toNat n17) : Int) ≤ 57)) = true → drw (fun (w18 : World) => ∃ (s19 : ByteArray), cellH w18.heap b1 o2 = some (.string s19) ∧ ∃ (n20 : Int), cellH w18.heap b1 (o2 + 1) = some (.int .i64 n20) ∧ (0 ≤ (n20 : Int) ∧ (n20 : Int) < ((ByteArray.size s19 : Nat) : Int)) ∧ (((decide ((IntKind.wrap .i64 ((IntKind.wrap .i64 (n9 * 10)) + (IntKind.wrap .i64 (IntKind.wrap .u8 ((byteAt s19 (Int.toNat n20)) - 48)))) : Int) > 50)) = true → stW b1 (o2 + 1) [.int .i64 n3] (fun (w21 : World) => Cl Try.prog 79 ([.pointer (some ⟨b1, o2, none⟩)]) w21 (retG (fun (r23 : Value) (w22 : World) => r23 = .tuple #[] ∧ R (.returned (.int .i64 0)) w22) (fun c w => R (.panicked c) w))) w18) ∧ ((decide ((IntKind.wrap .i64 ((IntKind.wrap .i64 (n9 * 10)) + (IntKind.wrap .i64 (IntKind.wrap .u8 ((byteAt s19 (Int.toNat n20)) - 48)))) : Int) > 50)) = false → ∃ (n24 : Int), cellH w18.heap b1 (o2 + 1) = some (.int .i64 n24) ∧ stW b1 (o2 + 1) [.int .i64 (IntKind.wrap .i64 (n24 + 1))] (fun (w25 : World) => (∃ (m26 : Nat), m26 < k5 ∧ I4 m26 (IntKind.wrap .i64 ((IntKind.wrap .i64 (n9 * 10)) + (IntKind.wrap .i64 (IntKind.wrap .u8 ((byteAt s19 (Int.toNat n20)) - 48))))) w25)) w18))) w12) ∧ ((decide ((byteAt s16 (Int.toNat n17) : Int) ≤ 57)) = false → ∃ (n27 : Int), cellH w12.heap b1 (o2 + 1) = some (.int .i64 n27) ∧ ((((n27 : Int) == n3) = true → R (.returned (.int .i64 (-1))) w12) ∧ (((n27 : Int) == n3) = false → R (.returned (.int .i64 n9)) w12))))) ∧ ((decide ((byteAt s14 (Int.toNat n15) : Int) ≥ 48)) = false → ∃ (n28 : Int), cellH w12.heap b1 (o2 + 1) = some (.int .i64 n28) ∧ ((((n28 : Int) == n3) = true → R (.returned (.int .i64 (-1))) w12) ∧ (((n28 : Int) == n3) = false → R (.returned (.int .i64 n9)) w12))))) ∧ (t11 = false → ∃ (n29 : Int), cellH w12.heap b1 (o2 + 1) = some (.int .i64 n29) ∧ ((((n29 : Int) == n3) = true → R (.returned (.int .i64 (-1))) w12) ∧ (((n29 : Int) == n3) = false → R (.returned (.int .i64 n9)) w12))))) (fun c w => R (.panicked c) w))) w7
def scr168 : Scr := (.run [0] (.close (.run [0] (.close (.run [0, 1, 2, 3, 4] (.close (.loop [(3, some (.int .i64)), (2, none), (9, none), (10, none), (11, none), (12, none), (13, none), (14, none), (15, none), (16, none), (17, none), (18, none), (19, none), (20, none), (21, none), (22, none), (23, none), (24, none), (25, none), (26, none), (27, none), (28, none), (29, none), (30, none), (31, none), (32, none), (33, none), (34, none), (35, none), (36, none), (37, none), (38, none), (39, none), (40, none), (41, none), (42, none), (43, none), (44, none), (45, none), (46, none), (47, none), (48, none), (49, none), (50, none), (51, none), (52, none), (53, none), (54, none), (55, none), (56, none), (57, none), (58, none), (59, none), (60, none), (61, none), (62, none), (63, none)] (.run [0, 1, 2] (.split 11 (.run [3, 4, 5, 6, 7, 8, 9, 10, 11, 12, 13, 14] (.split 23 (.run [15, 16, 17, 18, 19, 20, 21, 22, 23, 24, 25] (.close (.cond (.run [0, 1, 2, 3, 4, 5, 6, 7, 8, 9, 10, 11, 12, 13, 14] (.close (.run [0, 1] (.close (.cond (.run [0, 1, 2, 3, 4] (.close (.run [0, 1] (.close (.run [0] (.close .nil)))))) (.run [0, 1, 2, 3, 4, 5, 6, 7] (.close .nil))))))) (.run [0, 1, 2, 3, 4, 5] (.close (.cond (.run [0] (.close .nil)) (.run [0, 1] (.close .nil)))))))) (.run [15, 16, 17, 18, 19, 20, 21, 22, 23, 24, 25] (.close (.lit (.run [0, 1, 2, 3, 4, 5] (.close (.cond (.run [0] (.close .nil)) (.run [0, 1] (.close .nil)))))))))) (.run [3, 4, 5, 6, 7, 8, 9, 10, 11, 12, 13, 14, 15, 16, 17, 18, 19, 20, 21, 22, 23, 24, 25] (.close (.lit (.run [0, 1, 2, 3, 4, 5] (.close (.cond (.run [0] (.close .nil)) (.run [0, 1] (.close .nil)))))))))))))))))
theorem vc168 {b1 : Nat} {o2 : Nat} {R : Ending → World → Prop} {w : World} (h : V168 b1 o2 R w) : Cl Try.prog 168 [.pointer (some ⟨b1, o2, none⟩)] w R :=
  cl_of scr168 Try.func168 (by kernel_rfl) [.pointer (some ⟨b1, o2, none⟩)] (V168 b1 o2 R) (by kernel_rfl) h
/-- (*spec.l1R).counts -/
def V150 (b1 : Nat) (o2 : Nat) (R : Ending → World → Prop) : World → Prop := fun w =>
  Cl Try.prog 168 ([.pointer (some ⟨b1, o2, none⟩)]) w (retG (fun (r5 : Value) (w4 : World) => ∃ (n3 : Int), r5 = .int .i64 n3 ∧ (((decide ((n3 : Int) < 0)) = true → Cl Try.prog 79 ([.pointer (some ⟨b1, o2, none⟩)]) w4 (retG (fun (r7 : Value) (w6 : World) => r7 = .tuple #[] ∧ R (.returned (.tuple #[.int .i64 0, .int .i64 0])) w6) (fun c w => R (.panicked c) w))) ∧ ((decide ((n3 : Int) < 0)) = false → Cl Try.prog 112 ([.pointer (some ⟨b1, o2, none⟩), .int .u8 44]) w4 (retG (fun (r10 : Value) (w9 : World) => ∃ (t8 : Bool), r10 = .bool t8 ∧ ∃ (J11 : Int → World → Prop), (((t8 = true → ∃ (n12 : Int), cellH w9.heap b1 (o2 + 1) = some (.int .i64 n12) ∧ Cl Try.prog 168 ([.pointer (some ⟨b1, o2, none⟩)]) w9 (retG (fun (r15 : Value) (w14 : World) => ∃ (n13 : Int), r15 = .int .i64 n13 ∧ ∃ (n16 : Int), cellH w14.heap b1 (o2 + 2) = some (.int .i64 n16) ∧ (((decide ((n16 : Int) < 0)) = true → (((decide ((n13 : Int) ≥ 0)) = true → (((decide ((n13 : Int) < n3)) = true → stW b1 (o2 + 1) [.int .i64 n12] (fun (w17 : World) => Cl Try.prog 79 ([.pointer (some ⟨b1, o2, none⟩)]) w17 (retG (fun (r19 : Value) (w18 : World) => r19 = .tuple #[] ∧ J11 n13 w18) (fun c w => R (.panicked c) w))) w14) ∧ ((decide ((n13 : Int) < n3)) = false → J11 n13 w14))) ∧ ((decide ((n13 : Int) ≥ 0)) = false → J11 n13 w14))) ∧ ((decide ((n16 : Int) < 0)) = false → J11 n13 w14))) (fun c w => R (.panicked c) w))) ∧ (t8 = false → J11 n3 w9))) ∧ ∀ (d20 : Nat → Value) (n21 : Int) (w22 : World), J11 n21 w22 → Cl Try.prog 112 ([.pointer (some ⟨b1, o2, none⟩), .int .u8 125]) w22 (retG (fun (r25 : Value) (w24 : World) => ∃ (t23 : Bool), r25 = .bool t23 ∧ (((!t23) = true → Cl Try.prog 79 ([.pointer (some ⟨b1, o2, none⟩)]) w24 (retG (fun (r27 : Value) (w26 : World) => r27 = .tuple #[] ∧ R (.returned (.tuple #[.int .i64 n3, .int .i64 n21])) w26) (fun c w => R (.panicked c) w))) ∧ ((!t23) = false → R (.returned (.tuple #[.int .i64 n3, .int .i64 n21])) w24))) (fun c w => R (.panicked c) w))) (fun c w => R (.panicked c) w))))) (fun c w => R (.panicked c) w))
def scr150 : Scr := (.run [0, 1] (.close (.run [0, 1, 2] (.close (.run [0, 1] (.close (.cond (.run [0, 1] (.close (.run [0, 1] (.close .nil)))) (.run [0, 1] (.close (.run [0, 1] (.close (.cut [(5, some (.int .i64)), (6, none), (16, none), (17, none), (18, none), (19, none), (20, none), (21, none), (22, none), (23, none), (24, none), (25, none), (26, none), (27, none), (28, none), (29, none), (30, none), (31, none), (32, none), (33, none), (34, none), (35, none), (36, none), (37, none), (38, none), (39, none), (40, none), (41, none)] (.cond (.run [0, 1, 2, 3, 4] (.close (.run [0, 1, 2] (.close (.run [0, 1, 2, 3, 4, 5] (.split 27 (.run [6, 7, 8, 9] (.split 31 (.run [10, 11, 12, 13] (.close (.cond (.run [0, 1, 2, 3, 4] (.close (.run [0, 1] (.close .nil)))) .nil))) (.run [10, 11, 12, 13] (.close (.lit .nil))))) (.run [6, 7, 8, 9, 10, 11, 12, 13] (.close (.lit .nil))))))))) .nil) (.run [0, 1, 2] (.close (.cond (.run [0, 1] (.close (.run [0, 1, 2, 3] (.close .nil)))) (.run [0, 1, 2, 3] (.close .nil)))))))))))))))))
theorem vc150 {b1 : Nat} {o2 : Nat} {R : Ending → World → Prop} {w : World} (h : V150 b1 o2 R w) : Cl Try.prog 150 [.pointer (some ⟨b1, o2, none⟩)] w R :=
  cl_of scr150 Try.func150 (by kernel_rfl) [.pointer (some ⟨b1, o2, none⟩)] (V150 b1 o2 R) (by kernel_rfl) h
/-- (*spec.l1R).escape -/
def V166 (b1 : Nat) (o2 : Nat) (a3 : Option Addr) (l3 : Nat) (c3 : Nat) (R : Ending → World → Prop) : World → Prop := fun w =>
  Cl Try.prog 78 ([.pointer (some ⟨b1, o2, none⟩)]) w (retG (fun (r6 : Value) (w5 : World) => ∃ (t4 : Bool), r6 = .bool t4 ∧ (((!t4) = true → Cl Try.prog 79 ([.pointer (some ⟨b1, o2, none⟩)]) w5 (retG (fun (r8 : Value) (w7 : World) => r8 = .tuple #[] ∧ R (.returned (.tuple #[.int .i64 0, .bool false])) w7) (fun c w => R (.panicked c) w))) ∧ ((!t4) = false → drw (fun (w9 : World) => ∃ (s10 : ByteArray), cellH w9.heap b1 o2 = some (.string s10) ∧ ∃ (n11 : Int), cellH w9.heap b1 (o2 + 1) = some (.int .i64 n11) ∧ (0 ≤ (n11 : Int) ∧ (n11 : Int) < ((ByteArray.size s10 : Nat) : Int)) ∧ ((((byteAt s10 (Int.toNat n11) : Int) == 100) = true → Cl Try.prog 165 ([.slice a3 l3 c3, .int .i64 48, .int .i64 57]) w9 (retG (fun (r13 : Value) (w12 : World) => r13 = .tuple #[] ∧ ∃ (n14 : Int), cellH w12.heap b1 (o2 + 1) = some (.int .i64 n14) ∧ stW b1 (o2 + 1) [.int .i64 (IntKind.wrap .i64 (n14 + 1))] (fun (w15 : World) => R (.returned (.tuple #[.int .i64 0, .bool false])) w15) w12) (fun c w => R (.panicked c) w))) ∧ (((byteAt s10 (Int.toNat n11) : Int) == 100) = false → ((((byteAt s10 (Int.toNat n11) : Int) == 119) = true → Cl Try.prog 165 ([.slice a3 l3 c3, .int .i64 48, .int .i64 57]) w9 (retG (fun (r17 : Value) (w16 : World) => r17 = .tuple #[] ∧ Cl Try.prog 165 ([.slice a3 l3 c3, .int .i64 65, .int .i64 90]) w16 (retG (fun (r19 : Value) (w18 : World) => r19 = .tuple #[] ∧ Cl Try.prog 165 ([.slice a3 l3 c3, .int .i64 97, .int .i64 122]) w18 (retG (fun (r21 : Value) (w20 : World) => r21 = .tuple #[] ∧ Cl Try.prog 165 ([.slice a3 l3 c3, .int .i64 95, .int .i64 95]) w20 (retG (fun (r23 : Value) (w22 : World) => r23 = .tuple #[] ∧ ∃ (n24 : Int), cellH w22.heap b1 (o2 + 1) = some (.int .i64 n24) ∧ stW b1 (o2 + 1) [.int .i64 (IntKind.wrap .i64 (n24 + 1))] (fun (w25 : World) => R (.returned (.tuple #[.int .i64 0, .bool false])) w25) w22) (fun c w => R (.panicked c) w))) (fun c w => R (.panicked c) w))) (fun c w => R (.panicked c) w))) (fun c w => R (.panicked c) w))) ∧ (((byteAt s10 (Int.toNat n11) : Int) == 119) = false → ((((byteAt s10 (Int.toNat n11) : Int) == 115) = true → Cl Try.prog 165 ([.slice a3 l3 c3, .int .i64 9, .int .i64 10]) w9 (retG (fun (r27 : Value) (w26 : World) => r27 = .tuple #[] ∧ Cl Try.prog 165 ([.slice a3 l3 c3, .int .i64 13, .int .i64 13]) w26 (retG (fun (r29 : Value) (w28 : World) => r29 = .tuple #[] ∧ Cl Try.prog 165 ([.slice a3 l3 c3, .int .i64 32, .int .i64 32]) w28 (retG (fun (r31 : Value) (w30 : World) => r31 = .tuple #[] ∧ ∃ (n32 : Int), cellH w30.heap b1 (o2 + 1) = some (.int .i64 n32) ∧ stW b1 (o2 + 1) [.int .i64 (IntKind.wrap .i64 (n32 + 1))] (fun (w33 : World) => R (.returned (.tuple #[.int .i64 0, .bool false])) w33) w30) (fun c w => R (.panicked c) w))) (fun c w => R (.panicked c) w))) (fun c w => R (.panicked c) w))) ∧ (((byteAt s10 (Int.toNat n11) : Int) == 115) = false → ((((byteAt s10 (Int.toNat n11) : Int) == 110) = true → ((((byteAt s10 (Int.toNat n11) : Int) == 116) = true → ∃ (n34 : Int), cellH w9.heap b1 (o2 + 1) = some (.int .i64 n34) ∧ stW b1 (o2 + 1) [.int .i64 (IntKind.wrap .i64 (n34 + 1))] (fun (w35 : World) => ∃ (b36 : Nat) (o37 : Nat), ((a3 : Option Addr) = some ⟨b36, o37, none⟩ ∧ 0 ≤ (9 : Int) ∧ (9 : Int) < ((l3 : Nat) : Int)) ∧ stW b36 (o37 + 9) [.bool true] (fun (w38 : World) => R (.returned (.tuple #[.int .i64 9, .bool true])) w38) w35) w9) ∧ (((byteAt s10 (Int.toNat n11) : Int) == 116) = false → ((((byteAt s10 (Int.toNat n11) : Int) == 114) = true → ∃ (n39 : Int), cellH w9.heap b1 (o2 + 1) = some (.int .i64 n39) ∧ stW b1 (o2 + 1) [.int .i64 (IntKind.wrap .i64 (n39 + 1))] (fun (w40 : World) => ∃ (b41 : Nat) (o42 : Nat), ((a3 : Option Addr) = some ⟨b41, o42, none⟩ ∧ 0 ≤ (13 : Int) ∧ (13 : Int) < ((l3 : Nat) : Int)) ∧ stW b41 (o42 + 13) [.bool true] (fun (w43 : World) => R (.returned (.tuple #[.int .i64 13, .bool true])) w43) w40) w9) ∧ (((byteAt s10 (Int.toNat n11) : Int) == 114) = false → ∃ (n44 : Int), cellH w9.heap b1 (o2 + 1) = some (.int .i64 n44) ∧ stW b1 (o2 + 1) [.int .i64 (IntKind.wrap .i64 (n44 + 1))] (fun (w45 : World) => ∃ (b46 : Nat) (o47 : Nat), ((a3 : Option Addr) = some ⟨b46, o47, none⟩ ∧ 0 ≤ (10 : Int) ∧ (10 : Int) < ((l3 : Nat) : Int)) ∧ stW b46 (o47 + 10) [.bool true] (fun (w48 : World) => R (.returned (.tuple #[.int .i64 10, .bool true])) w48) w45) w9))))) ∧ (((byteAt s10 (Int.toNat n11) : Int) == 110) = false → ((((byteAt s10 (Int.toNat n11) : Int) == 116) = true → ((((byteAt s10 (Int.toNat n11) : Int) == 116) = true → ∃ (n49 : Int), cellH w9.heap b1 (o2 + 1) = some (.int .i64 n49) ∧ stW b1 (o2 + 1) [.int .i64 (IntKind.wrap .i64 (n49 + 1))] (fun (w50 : World) => ∃ (b51 : Nat) (o52 : Nat), ((a3 : Option Addr) = some ⟨b51, o52, none⟩ ∧ 0 ≤ (9 : Int) ∧ (9 : Int) < ((l3 : Nat) : Int)) ∧ stW b51 (o52 + 9) [.bool true] (fun (w53 : World) => R (.returned (.tuple #[.int .i64 9, .bool true])) w53) w50) w9) ∧ (((byteAt s10 (Int.toNat n11) : Int) == 116) = false → ((((byteAt s10 (Int.toNat n11) : Int) == 114) = true → ∃ (n54 : Int), cellH w9.heap b1 (o2 + 1) = some (.int .i64 n54) ∧ stW b1 (o2 + 1) [.int .i64 (IntKind.wrap .i64 (n54 + 1))] (fun (w55 : World) => ∃ (b56 : Nat) (o57 : Nat), ((a3 : Option Addr) = some ⟨b56, o57, none⟩ ∧ 0 ≤ (13 : Int) ∧ (13 : Int) < ((l3 : Nat) : Int)) ∧ stW b56 (o57 + 13) [.bool true] (fun (w58 : World) => R (.returned (.tuple #[.int .i64 13, .bool true])) w58) w55) w9) ∧ (((byteAt s10 (Int.toNat n11) : Int) == 114) = false → ∃ (n59 : Int), cellH w9.heap b1 (o2 + 1) = some (.int .i64 n59) ∧ stW b1 (o2 + 1) [.int .i64 (IntKind.wrap .i64 (n59 + 1))] (fun (w60 : World) => ∃ (b61 : Nat) (o62 : Nat), ((a3 : Option Addr) = some ⟨b61, o62, none⟩ ∧ 0 ≤ (10 : Int) ∧ (10 : Int) < ((l3 : Nat) : Int)) ∧ stW b61 (o62 + 10) [.bool true] (fun (w63 : World) => R (.returned (.tuple #[.int .i64 10, .bool true])) w63) w60) w9))))) ∧ (((byteAt s10 (Int.toNat n11) : Int) == 116) = false → ((((byteAt s10 (Int.toNat n11) : Int) == 114) = true → ((((byteAt s10 (Int.toNat n11) : Int) == 116) = true → ∃ (n64 : Int), cellH w9.heap b1 (o2 + 1) = some (.int .i64 n64) ∧ stW b1 (o2 + 1) [.int .i64 (IntKind.wrap .i64 (n64 + 1))] (fun (w65 : World) => ∃ (b66 : Nat) (o67 : Nat), ((a3 : Option Addr) = some ⟨b66, o67, none⟩ ∧ 0 ≤ (9 : Int) ∧ (9 : Int) < ((l3 : Nat) : Int)) ∧ stW b66 (o67 + 9) [.bool true] (fun (w68 : World) => R (.returned (.tuple #[.int .i64 9, .bool true])) w68) w65) w9) ∧ (((byteAt s10 (Int.toNat n11) : Int) == 116) = false → ((((byteAt s10 (Int.toNat n11) : Int) == 114) = true → ∃ (n69 : Int), cellH w9.heap b1 (o2 + 1) = some (.int .i64 n69) ∧ stW b1 (o2 + 1) [.int .i64 (IntKind.wrap .i64 (n69 + 1))] (fun (w70 : World) => ∃ (b71 : Nat) (o72 : Nat), ((a3 : Option Addr) = some ⟨b71, o72, none⟩ ∧ 0 ≤ (13 : Int) ∧ (13 : Int) < ((l3 : Nat) : Int)) ∧ stW b71 (o72 + 13) [.bool true] (fun (w73 : World) => R (.returned (.tuple #[.int .i64 13, .bool true])) w73) w70) w9) ∧ (((byteAt s10 (Int.toNat n11) : Int) == 114) = false → ∃ (n74 : Int), cellH w9.heap b1 (o2 + 1) = some (.int .i64 n74) ∧ stW b1 (o2 + 1) [.int .i64 (IntKind.wrap .i64 (n74 + 1))] (fun (w75 : World) => ∃ (b76 : Nat) (o77 : Nat), ((a3 : Option Addr) = some ⟨b76, o77, none⟩ ∧ 0 ≤ (10 : Int) ∧ (10 : Int) < ((l3 : Nat) : Int)) ∧ stW b76 (o77 + 10) [.bool true] (fun (w78 : World) => R (.returned (.tuple #[.int .i64 10, .bool true])) w78) w75) w9))))) ∧ (((byteAt s10 (Int.toNat n11) : Int) == 114) = false → ((((byteAt s10 (Int.toNat n11) : Int) == 120) = true → ∃ (n79 : Int), cellH w9.heap b1 (o2 + 1) = some (.int .i64 n79) ∧ stW b1 (o2 + 1) [.int .i64 (IntKind.wrap .i64 (n79 + 1))] (fun (w80 : World) => ∃ (I81 : Nat → Int → Int → World → Prop), (∃ (k83 : Nat), I81 k83 0 0 w80) ∧ ∀ (k82 : Nat) (d85 : Nat → Value) (n86 : Int) (n87 : Int) (w84 : World), I81 k82 n86 n87 w84 → (((decide ((n87 : Int) < 2)) = true → drw (fun (w88 : World) => Cl Try.prog 78 ([.pointer (some ⟨b1, o2, none⟩)]) w88 (retG (fun (r91 : Value) (w90 : World) => ∃ (t89 : Bool), r91 = .bool t89 ∧ (((!t89) = true → Cl Try.prog 79 ([.pointer (some ⟨b1, o2, none⟩)]) w90 (retG (fun (r93 : Value) (w92 : World) => r93 = .tuple #[] ∧ R (.returned (.tuple #[.int .i64 0, .bool false])) w92) (fun c w => R (.panicked c) w))) ∧ ((!t89) = false → ∃ (s94 : ByteArray), cellH w90.heap b1 o2 = some (.string s94) ∧ ∃ (n95 : Int), cellH w90.heap b1 (o2 + 1) = some (.int .i64 n95) ∧ (0 ≤ (n95 : Int) ∧ (n95 : Int) < ((ByteArray.size s94 : Nat) : Int)) ∧ Cl Try.prog 169 ([.int .u8 (byteAt s94 (Int.toNat n95))]) w90 (retG (fun (r98 : Value) (w97 : World) => ∃ (n96 : Int), r98 = .int .i64 n96 ∧ (((decide ((n96 : Int) < 0)) = true → Cl Try.prog 79 ([.pointer (some ⟨b1, o2, none⟩)]) w97 (retG (fun (r100 : Value) (w99 : World) => r100 = .tuple #[] ∧ R (.returned (.tuple #[.int .i64 0, .bool false])) w99) (fun c w => R (.panicked c) w))) ∧ ((decide ((n96 : Int) < 0)) = false → drw (fun (w101 : World) => ∃ (s102 : ByteArray), cellH w101.heap b1 o2 = some (.string s102) ∧ ∃ (n103 : Int), cellH w101.heap b1 (o2 + 1) = some (.int .i64 n103) ∧ (0 ≤ (n103 : Int) ∧ (n103 : Int) < ((ByteArray.size s102 : Nat) : Int)) ∧ Cl Try.prog 169 ([.int .u8 (byteAt s102 (Int.toNat n103))]) w101 (retG (fun (r106 : Value) (w105 : World) => ∃ (n104 : Int), r106 = .int .i64 n104 ∧ ∃ (n107 : Int), cellH w105.heap b1 (o2 + 1) = some (.int .i64 n107) ∧ stW b1 (o2 + 1) [.int .i64 (IntKind.wrap .i64 (n107 + 1))] (fun (w108 : World) => (∃ (m109 : Nat), m109 < k82 ∧ I81 m109 (IntKind.wrap .i64 ((IntKind.wrap .i64 (n86 * 16)) + n104)) (IntKind.wrap .i64 (n87 + 1)) w108)) w105) (fun c w => R (.panicked c) w))) w97))) (fun c w => R (.panicked c) w))))) (fun c w => R (.panicked c) w))) w84) ∧ ((decide ((n87 : Int) < 2)) = false → ∃ (b110 : Nat) (o111 : Nat), ((a3 : Option Addr) = some ⟨b110, o111, none⟩ ∧ 0 ≤ (n86 : Int) ∧ (n86 : Int) < ((l3 : Nat) : Int)) ∧ stW b110 (o111 + (Int.toNat n86) * 1) [.bool true] (fun (w112 : World) => R (.returned (.tuple #[.int .i64 n86, .bool true])) w112) w84))) w9) ∧ (((byteAt s10 (Int.toNat n11) : Int) == 120) = false → ∃ (J113 : Bool → World → Prop), ((((decide ((byteAt s10 (Int.toNat n11) : Int) ≥ 97)) = true → (((decide ((byteAt s10 (Int.toNat n11) : Int) ≤ 122)) = true → J113 true w9) ∧ ((decide ((byteAt s10 (Int.toNat n11) : Int) ≤ 122)) = false → (((decide ((byteAt s10 (Int.toNat n11) : Int) ≥ 65)) = true → (((decide ((byteAt s10 (Int.toNat n11) : Int) ≤ 90)) = true → J113 true w9) ∧ ((decide ((byteAt s10 (Int.toNat n11) : Int) ≤ 90)) = false → (((decide ((byteAt s10 (Int.toNat n11) : Int) ≥ 48)) = true → J113 (decide ((byteAt s10 (Int.toNat n11) : Int) ≤ 57)) w9) ∧ ((decide ((byteAt s10 (Int.toNat n11) : Int) ≥ 48)) = false → J113 false w9))))) ∧ ((decide ((byteAt s10 (Int.toNat n11) : Int) ≥ 65)) = false → (((decide ((byteAt s10 (Int.toNat n11) : Int) ≥ 48)) = true → J113 (decide ((byteAt s10 (Int.toNat n11) : Int) ≤ 57)) w9) ∧ ((decide ((byteAt s10 (Int.toNat n11) : Int) ≥ 48)) = false → J113 false w9))))))) ∧ ((decide ((byteAt s10 (Int.toNat n11) : Int) ≥ 97)) = false → (((decide ((byteAt s10 (Int.toNat n11) : Int) ≥ 65)) = true → (((decide ((byteAt s10 (Int.toNat n11) : Int) ≤ 90)) = true → J113 true w9) ∧ ((decide ((byteAt s10 (Int.toNat n11) : Int) ≤ 90)) = false → (((decide ((byteAt s10 (Int.toNat n11) : Int) ≥ 48)) = true → J113 (decide ((byteAt s10 (Int.toNat n11) : Int) ≤ 57)) w9) ∧ ((decide ((byteAt s10 (Int.toNat n11) : Int) ≥ 48)) = false → J113 false w9))))) ∧ ((decide ((byteAt s10 (Int.toNat n11) : Int) ≥ 65)) = false → (((decide ((byteAt s10 (Int.toNat n11) : Int) ≥ 48)) = true → J113 (decide ((byteAt s10 (Int.toNat n11) : Int) ≤ 57)) w9) ∧ ((decide ((byteAt s10 (Int.toNat n11) : Int) ≥ 48)) = false → J113 false w9))))))) ∧ ∀ (d114 : Nat → Value) (t115 : Bool) (w116 : World), J113 t115 w116 → ((t115 = true → Cl Try.prog 79 ([.pointer (some ⟨b1, o2, none⟩)]) w116 (retG (fun (r118 : Value) (w117 : World) => r118 = .tuple #[] ∧ R (.returned (.tuple #[.int .i64 0, .bool false])) w117) (fun c w => R (.panicked c) w))) ∧ (t115 = false → (((decide ((byteAt s10 (Int.toNat n11) : Int) < 33)) = true → Cl Try.prog 79 ([.pointer (some ⟨b1, o2, none⟩)]) w116 (retG (fun (r120 : Value) (w119 : World) => r120 = .tuple #[] ∧ R (.returned (.tuple #[.int .i64 0, .bool false])) w119) (fun c w => R (.panicked c) w))) ∧ ((decide ((byteAt s10 (Int.toNat n11) : Int) < 33)) = false → (((decide ((byteAt s10 (Int.toNat n11) : Int) > 126)) = true → Cl Try.prog 79 ([.pointer (some ⟨b1, o2, none⟩)]) w116 (retG (fun (r122 : Value) (w121 : World) => r122 = .tuple #[] ∧ R (.returned (.tuple #[.int .i64 0, .bool false])) w121) (fun c w => R (.panicked c) w))) ∧ ((decide ((byteAt s10 (Int.toNat n11) : Int) > 126)) = false → ∃ (n123 : Int), cellH w116.heap b1 (o2 + 1) = some (.int .i64 n123) ∧ stW b1 (o2 + 1) [.int .i64 (IntKind.wrap .i64 (n123 + 1))] (fun (w124 : World) => ∃ (b125 : Nat) (o126 : Nat), ((a3 : Option Addr) = some ⟨b125, o126, none⟩ ∧ 0 ≤ (IntKind.wrap .i64 (byteAt s10 (Int.toNat n11)) : Int) ∧ (IntKind.wrap .i64 (byteAt s10 (Int.toNat n11)) : Int) < ((l3 : Nat) : Int)) ∧ stW b125 (o126 + (Int.toNat (IntKind.wrap .i64 (byteAt s10 (Int.toNat n11)))) * 1) [.bool true] (fun (w127 : World) => R (.returned (.tuple #[.int .i64 (IntKind.wrap .i64 (byteAt s10 (Int.toNat n11))), .bool true])) w127) w124) w116))))))))))))))))))))) w5))) (fun c w => R (.panicked c) w))
def scr166 : Scr := (.run [0, 1] (.close (.run [0, 1, 2] (.close (.cond (.run [0, 1] (.close (.run [0, 1] (.close .nil)))) (.run [0, 1, 2, 3, 4, 5, 6, 7, 8, 9] (.close (.run [0] (.close (.run [0, 1] (.close (.cond (.run [0, 1] (.close (.run [0, 1, 2, 3, 4, 5, 6, 7] (.close (.run [0, 1] (.close .nil)))))) (.run [0, 1] (.close (.cond (.run [0, 1] (.close (.run [0, 1] (.close (.run [0, 1] (.close (.run [0, 1] (.close (.run [0, 1, 2, 3, 4, 5, 6, 7] (.close (.run [0, 1] (.close .nil)))))))))))) (.run [0, 1] (.close (.cond (.run [0, 1] (.close (.run [0, 1] (.close (.run [0, 1] (.close (.run [0, 1, 2, 3, 4, 5, 6, 7] (.close (.run [0, 1] (.close .nil)))))))))) (.run [0, 1] (.close (.cond (.lit (.run [0] (.close (.run [0, 1] (.close (.cond (.run [0] (.close (.run [0, 1, 2, 3, 4, 5, 6, 7] (.close (.run [0, 1, 2, 3] (.close (.run [0, 1, 2] (.close .nil)))))))) (.run [0, 1] (.close (.cond (.run [0] (.close (.run [0, 1, 2, 3, 4, 5, 6, 7] (.close (.run [0, 1, 2, 3] (.close (.run [0, 1, 2] (.close .nil)))))))) (.run [0, 1, 2, 3, 4, 5, 6, 7] (.close (.run [0, 1, 2, 3] (.close (.run [0, 1, 2] (.close .nil))))))))))))))) (.run [0, 1] (.close (.cond (.lit (.run [0] (.close (.run [0, 1] (.close (.cond (.run [0] (.close (.run [0, 1, 2, 3, 4, 5, 6, 7] (.close (.run [0, 1, 2, 3] (.close (.run [0, 1, 2] (.close .nil)))))))) (.run [0, 1] (.close (.cond (.run [0] (.close (.run [0, 1, 2, 3, 4, 5, 6, 7] (.close (.run [0, 1, 2, 3] (.close (.run [0, 1, 2] (.close .nil)))))))) (.run [0, 1, 2, 3, 4, 5, 6, 7] (.close (.run [0, 1, 2, 3] (.close (.run [0, 1, 2] (.close .nil))))))))))))))) (.run [0, 1] (.close (.cond (.run [0] (.close (.run [0, 1] (.close (.cond (.run [0] (.close (.run [0, 1, 2, 3, 4, 5, 6, 7] (.close (.run [0, 1, 2, 3] (.close (.run [0, 1, 2] (.close .nil)))))))) (.run [0, 1] (.close (.cond (.run [0] (.close (.run [0, 1, 2, 3, 4, 5, 6, 7] (.close (.run [0, 1, 2, 3] (.close (.run [0, 1, 2] (.close .nil)))))))) (.run [0, 1, 2, 3, 4, 5, 6, 7] (.close (.run [0, 1, 2, 3] (.close (.run [0, 1, 2] (.close .nil)))))))))))))) (.run [0, 1] (.close (.cond (.run [0, 1, 2, 3, 4, 5, 6, 7] (.close (.run [0] (.close (.run [0] (.close (.loop [(8, some (.int .i64)), (9, some (.int .i64)), (4, none), (5, none), (122, none), (123, none), (124, none), (125, none), (126, none), (127, none), (128, none), (129, none), (130, none), (131, none), (132, none), (133, none), (134, none), (135, none), (136, none), (137, none), (138, none), (139, none), (140, none), (141, none), (142, none), (143, none), (144, none), (145, none), (146, none), (147, none), (148, none), (149, none), (150, none), (151, none), (152, none), (153, none), (154, none), (155, none), (156, none), (157, none), (158, none), (159, none), (160, none), (161, none), (162, none), (163, none)] (.run [0, 1] (.close (.cond (.run [0, 1, 2, 3] (.split 129 (.run [4, 5, 6, 7, 8, 9, 10, 11, 12, 13, 14, 15] (.close (.lit (.run [0, 1] (.close (.run [0, 1] (.close .nil))))))) (.run [4, 5, 6, 7, 8, 9, 10, 11, 12, 13, 14, 15] (.close (.cond (.run [0, 1] (.close (.run [0, 1] (.close .nil)))) (.run [0, 1, 2, 3, 4, 5, 6, 7, 8, 9, 10, 11, 12, 13] (.close (.run [0, 1, 2, 3, 4, 5, 6, 7] (.close (.run [0, 1, 2] (.close .nil))))))))))) (.run [0, 1, 2, 3] (.close (.run [0, 1, 2] (.close .nil)))))))))))))) (.cutS [(10, some .bool), (26, none), (27, none), (28, none), (29, none), (30, none), (31, none), (32, none), (33, none), (34, none), (35, none), (36, none), (37, none), (38, none), (39, none), (40, none), (41, none), (42, none), (43, none), (44, none), (45, none), (46, none), (47, none)] (.run [0, 1, 2] (.split 28 (.run [3, 4, 5, 6] (.split 32 (.run [7, 8, 9, 10, 11, 12, 13, 14, 15, 16, 17, 18, 19, 20, 21, 22] (.close .nil)) (.run [7, 8, 9] (.split 35 (.run [10, 11, 12, 13, 14] (.split 40 (.run [15, 16, 17, 18, 19, 20, 21, 22] (.close .nil)) (.run [15, 16, 17] (.split 43 (.run [18, 19, 20, 21, 22] (.close .nil)) (.run [18, 19, 20, 21, 22] (.close .nil)))))) (.run [10, 11, 12, 13, 14, 15, 16, 17] (.split 43 (.run [18, 19, 20, 21, 22] (.close .nil)) (.run [18, 19, 20, 21, 22] (.close .nil)))))))) (.run [3, 4, 5, 6, 7, 8, 9] (.split 35 (.run [10, 11, 12, 13, 14] (.split 40 (.run [15, 16, 17, 18, 19, 20, 21, 22] (.close .nil)) (.run [15, 16, 17] (.split 43 (.run [18, 19, 20, 21, 22] (.close .nil)) (.run [18, 19, 20, 21, 22] (.close .nil)))))) (.run [10, 11, 12, 13, 14, 15, 16, 17] (.split 43 (.run [18, 19, 20, 21, 22] (.close .nil)) (.run [18, 19, 20, 21, 22] (.close .nil)))))))) (.run [0, 1] (.split 49 (.run [2, 3, 4, 5, 6, 7, 8] (.close (.lit (.run [0, 1] (.close (.run [0, 1] (.close .nil))))))) (.run [2, 3, 4, 5] (.split 53 (.run [6, 7, 8] (.close (.lit (.run [0, 1] (.close (.run [0, 1] (.close .nil))))))) (.run [6, 7, 8] (.close (.cond (.run [0, 1] (.close (.run [0, 1] (.close .nil)))) (.run [0, 1, 2, 3, 4, 5, 6, 7] (.close (.run [0, 1, 2, 3, 4] (.close (.run [0, 1, 2, 3] (.close .nil))))))))))))))))))))))))))))))))))))))))))))
theorem vc166 {b1 : Nat} {o2 : Nat} {a3 : Option Addr} {l3 : Nat} {c3 : Nat} {R : Ending → World → Prop} {w : World} (h : V166 b1 o2 a3 l3 c3 R w) : Cl Try.prog 166 [.pointer (some ⟨b1, o2, none⟩), .slice a3 l3 c3] w R :=
  cl_of scr166 Try.func166 (by kernel_rfl) [.pointer (some ⟨b1, o2, none⟩), .slice a3 l3 c3] (V166 b1 o2 a3 l3 c3 R) (by kernel_rfl) h
end Go.Proofs.Ytngbiaeliphdjaa.V
/- The reference's reader: its small functions. No statement of the seat is proved here. -/
namespace Go.Vc
open Go.RowKit
set_option linter.unusedVariables false
set_option linter.unusedSimpArgs false
theorem madeCells_one (z : Value) (n : Nat) : madeCells #[z] n = ⟨List.replicate n z⟩ := by
  apply Array.ext
  · simp [madeCells]
  · intro i h1 h2
    simp [madeCells, Nat.mod_one]
/-- A slice that is made: its cells are one value, again and again. -/
theorem make_in {P : Program} {t e : TypeId} {i : TypeInfo} {z : Value} (ht : P.underlying t = some (.slice e)) (hi : P.info? e = some i) (hz : i.zero = some z) {z1 : Value} (hz1 : z.cells = #[z1]) (hs : i.size = 1) {by_ : Nat} (hby : i.bytes = by_) (hb8 : by_ ≤ 100) (n : Nat) (hn : n ≤ 1000000000) (w : World) :
    ∃ w', (Instr.makeSlice t (.int .i64 n) (.int .i64 n)).run P w = .ok (.slice (some ⟨w.heap.size, 0, none⟩) n n) w' ∧ w'.heap.size = w.heap.size + 1 ∧ Blk w'.heap w.heap.size e (List.replicate n z1) ∧ Ext (fun _ => False) w w' := by
  have hbb : (i.bytes : Int) * (n : Int) ≤ 281474976710656 := by
    have h : i.bytes * n ≤ 281474976710656 := by
      have := Nat.mul_le_mul (show i.bytes ≤ 100 by omega) hn
      omega
    have h2 : ((i.bytes * n : Nat) : Int) ≤ 281474976710656 := by omega
    rwa [Int.natCast_mul] at h2
  have hr := run_make (P := P) w t e i z ht hi hz .i64 .i64 n n (by omega) (Int.le_refl _) hbb (by omega)
  refine ⟨_, hr, ?_, ?_, ?_⟩
  · exact size_newW w _
  · rw [hz1, hs, madeCells_one, Int.toNat_natCast, Nat.mul_one]
    exact Blk.new w e _
  · exact (Ext.refl _ w).vnew _
end Go.Vc
namespace Go.Proofs.Ytngbiaeliphdjaa.V
open Go.Vc Go.Proofs Go.RowKit
set_option linter.unusedVariables false
set_option linter.unusedSimpArgs false

theorem make256 (w : World) : ∃ w', (Instr.makeSlice 59 (.int .i64 256) (.int .i64 256)).run Try.prog w = .ok (.slice (some ⟨w.heap.size, 0, none⟩) 256 256) w' ∧ w'.heap.size = w.heap.size + 1 ∧ Blk w'.heap w.heap.size 4 (b256 fun _ => false) ∧ Ext (fun _ => False) w w' := by
  rw [b256_false]
  exact make_in (P := Try.prog) (t := 59) (e := 4) (i := Try.t4) (z := .bool false) (by kernel_rfl) (by kernel_rfl) (by kernel_rfl) (z1 := .bool false) rfl (by kernel_rfl) (by_ := 1) (by kernel_rfl) (by decide) 256 (by decide) w

/-- The reference's reader. -/
def Sd (w : World) (b : Nat) (s : ByteArray) (i : Nat) (bd : Int) (g : Nat) (a : Option Addr) (ln c : Nat) : Prop := Blk w.heap b 97 [.string s, .int .i64 i, .int .i64 bd, .int .i64 g, .slice a ln c]
theorem Sd.below {w w' : World} {b : Nat} {s : ByteArray} {i g : Nat} {bd : Int} {a : Option Addr} {ln c : Nat} (h : Sd w b s i bd g a ln c) (k : Below w.heap.size w w') : Sd w' b s i bd g a ln c := Blk.below h k
theorem Sd.mv {w : World} {b : Nat} {s : ByteArray} {i g : Nat} {bd : Int} {a : Option Addr} {ln c : Nat} (h : Sd w b s i bd g a ln c) {n : Int} {j : Nat} (hn : n = j) {K : World → Prop} (hK : ∀ w1, w1.heap.size = w.heap.size → Sd w1 b s j bd g a ln c → Ext (fun k => k = b) w w1 → K w1) :
    stW b (0 + 1) [.int .i64 n] K w := by
  subst hn
  exact stW_in h (by show 0 + 1 + 1 ≤ 5; decide) fun w1 s1 k1 e1 => hK w1 s1 k1 e1
section
variable {w : World} {b : Nat} {s : ByteArray} {i g : Nat} {a : Option Addr} {ln c : Nat}
theorem more_ok (h : Sd w b s i (-1) g a ln c) : Cl Try.prog 78 [.pointer (some ⟨b, 0, none⟩)] w (RetB (.bool (decide (i < s.size))) w) := by
  apply vc78
  unfold V78
  refine drw_in fun w1 q1 e1 => ?_
  have h1 := Blk.keep h e1 fun h => h
  have E := Ext.to (Below.refl _ _) e1 fun _ h => h.elim
  refine ⟨-1, h1.cell 2, fun _ => ⟨i, h1.cell 1, s, h1.cell 0, ?_, E⟩, fun g => ?_⟩
  · simp only [Int.ofNat_lt]
  · exact absurd (of_decide_eq_false g) (by decide)
theorem more_bad {n : Nat} (h : Sd w b s i n g a ln c) : Cl Try.prog 78 [.pointer (some ⟨b, 0, none⟩)] w (RetB (.bool false) w) := by
  apply vc78
  unfold V78
  refine drw_in fun w1 q1 e1 => ?_
  have h1 := Blk.keep h e1 fun h => h
  have E := Ext.to (Below.refl _ _) e1 fun _ h => h.elim
  refine ⟨n, h1.cell 2, fun g => ?_, fun _ => ⟨rfl, E⟩⟩
  have := of_decide_eq_true g; omega
theorem sfail_ok (h : Sd w b s i (-1) g a ln c) : Cl Try.prog 79 [.pointer (some ⟨b, 0, none⟩)] w (fun e w' => e = .returned (.tuple #[]) ∧ Sd w' b s i i g a ln c ∧ Ext (fun k => k = b) w w') := by
  apply vc79
  unfold V79
  refine ⟨-1, h.cell 2, fun _ => ⟨i, h.cell 1, stW_in h (by show 0 + 2 + 1 ≤ 5; decide) fun w1 s1 k1 e1 => ⟨rfl, k1, e1⟩⟩, fun g => ?_⟩
  exact absurd (of_decide_eq_false g) (by decide)
theorem sfail_bad {n : Nat} (h : Sd w b s i n g a ln c) : Cl Try.prog 79 [.pointer (some ⟨b, 0, none⟩)] w (RetB (.tuple #[]) w) := by
  apply vc79
  unfold V79
  refine ⟨n, h.cell 2, fun g => ?_, fun _ => ⟨rfl, Below.refl _ _⟩⟩
  have := of_decide_eq_true g; omega
theorem is_yes (h : Sd w b s i (-1) g a ln c) {ch : Nat} (hi : i < s.size) (hl : s.size ≤ 100000) (hc : at_ (L s) i = ch) {ch' : Int} (hch : ch' = ch) : Cl Try.prog 112 [.pointer (some ⟨b, 0, none⟩), .int .u8 ch'] w (fun e w' => e = .returned (.bool true) ∧ Sd w' b s (i + 1) (-1) g a ln c ∧ Ext (fun k => k = b) w w') := by
  subst hch
  apply vc112
  unfold V112
  refine drw_in fun w1 q1 e1 => ?_
  have h1 : Sd w1 b s i (-1) g a ln c := Blk.keep h e1 fun h => h
  refine (more_ok h1).ret fun w2 b2 => ⟨_, rfl, fun _ => ?_, fun g => ?_⟩
  · have h2 := h1.below b2
    refine ⟨s, h2.cell 0, i, h2.cell 1, ⟨by omega, by omega⟩, ?_⟩
    rw [byteI s (j := i) rfl, hc]
    refine ⟨fun _ => ⟨i, h2.cell 1, h2.mv (j := i + 1) (by rw [w64 (by omega)]; omega) fun w3 s3 h3 e3 => ⟨rfl, h3, ?_⟩⟩, fun g => ?_⟩
    · exact ((Ext.mono e1 fun _ _ h => h.elim).trans (Ext.of_below b2)).trans e3
    · simp at g
  · have := of_decide_eq_false g; omega
theorem is_no (h : Sd w b s i (-1) g a ln c) {ch : Nat} (hc : ¬ (i < s.size ∧ at_ (L s) i = ch)) {ch' : Int} (hch : ch' = ch) : Cl Try.prog 112 [.pointer (some ⟨b, 0, none⟩), .int .u8 ch'] w (RetB (.bool false) w) := by
  subst hch
  apply vc112
  unfold V112
  refine drw_in fun w1 q1 e1 => ?_
  have h1 : Sd w1 b s i (-1) g a ln c := Blk.keep h e1 fun h => h
  have E1 := Ext.to (Below.refl _ _) e1 fun _ h => h.elim
  refine (more_ok h1).ret fun w2 b2 => ⟨_, rfl, fun g => ?_, fun g => ⟨rfl, E1.vstep b2⟩⟩
  have g' := of_decide_eq_true g
  have h2 := h1.below b2
  refine ⟨s, h2.cell 0, i, h2.cell 1, ⟨by omega, by omega⟩, ?_⟩
  rw [byteI s (j := i) rfl]
  refine ⟨fun g => ?_, fun g => ⟨rfl, E1.vstep b2⟩⟩
  simp only [beq_iff_eq] at g
  omega
theorem is_bad {n : Nat} (h : Sd w b s i n g a ln c) (ch' : Int) : Cl Try.prog 112 [.pointer (some ⟨b, 0, none⟩), .int .u8 ch'] w (RetB (.bool false) w) := by
  apply vc112
  unfold V112
  refine drw_in fun w1 q1 e1 => ?_
  have h1 : Sd w1 b s i n g a ln c := Blk.keep h e1 fun h => h
  have E1 := Ext.to (Below.refl _ _) e1 fun _ h => h.elim
  refine (more_bad h1).ret fun w2 b2 => ⟨_, rfl, fun g => (by cases g), fun g => ⟨rfl, E1.vstep b2⟩⟩
end
/-- One digit. -/
theorem shex_ok (n : Nat) (hn : n < 256) {n' : Int} (h : n' = n) (w : World) : Cl Try.prog 169 [.int .u8 n'] w (RetB (.int .i64 (match hexv n with | some v => (v : Int) | none => -1)) w) := by
  subst h
  apply vc169
  unfold V169
  have B := Below.refl w.heap.size w
  have w1 : IntKind.wrap .i64 (IntKind.wrap .u8 ((n : Int) - 48)) = ((n : Int) - 48) % 256 := by rw [w8, w64 (by omega)]
  have w2 : IntKind.wrap .i64 (IntKind.wrap .i64 (IntKind.wrap .u8 ((n : Int) - 97)) + 10) = ((n : Int) - 97) % 256 + 10 := by rw [w8, w64 (n := ((n : Int) - 97) % 256) (by omega), w64 (by omega)]
  have r1 : 48 ≤ n → n ≤ 57 → RetB (.int .i64 (match hexv n with | some v => (v : Int) | none => -1)) w (.returned (.int .i64 (IntKind.wrap .i64 (IntKind.wrap .u8 ((n : Int) - 48))))) w := by
    intro h1 h2
    rw [show hexv n = some (n - 48) from by unfold hexv; rw [if_pos ⟨h1, h2⟩], w1]
    refine ⟨?_, B⟩
    show Ending.returned (.int .i64 _) = .returned (.int .i64 ((n - 48 : Nat) : Int))
    rw [show ((n : Int) - 48) % 256 = ((n - 48 : Nat) : Int) from by omega]
  have r2 : 97 ≤ n → n ≤ 102 → RetB (.int .i64 (match hexv n with | some v => (v : Int) | none => -1)) w (.returned (.int .i64 (IntKind.wrap .i64 (IntKind.wrap .i64 (IntKind.wrap .u8 ((n : Int) - 97)) + 10)))) w := by
    intro h1 h2
    rw [show hexv n = some (n - 87) from by unfold hexv; rw [if_neg (by omega), if_pos ⟨h1, h2⟩], w2]
    refine ⟨?_, B⟩
    show Ending.returned (.int .i64 _) = .returned (.int .i64 ((n - 87 : Nat) : Int))
    rw [show ((n : Int) - 97) % 256 + 10 = ((n - 87 : Nat) : Int) from by omega]
  have r3 : ¬ (48 ≤ n ∧ n ≤ 57) → ¬ (97 ≤ n ∧ n ≤ 102) → RetB (.int .i64 (match hexv n with | some v => (v : Int) | none => -1)) w (.returned (.int .i64 (-1))) w := by
    intro h1 h2
    rw [show hexv n = none from by unfold hexv; rw [if_neg h1, if_neg h2]]
    exact ⟨rfl, B⟩
  refine ⟨fun g1 => ⟨fun g2 => ?_, fun g2 => ⟨fun g3 => ⟨fun g4 => ?_, fun g4 => ?_⟩, fun g3 => ?_⟩⟩, fun g1 => ⟨fun g3 => ⟨fun g4 => ?_, fun g4 => ?_⟩, fun g3 => ?_⟩⟩
  all_goals try simp only [decide_eq_true_eq, decide_eq_false_iff_not] at g1
  all_goals try simp only [decide_eq_true_eq, decide_eq_false_iff_not] at g2
  all_goals try simp only [decide_eq_true_eq, decide_eq_false_iff_not] at g3
  all_goals try simp only [decide_eq_true_eq, decide_eq_false_iff_not] at g4
  · exact r1 (by omega) (by omega)
  · exact r2 (by omega) (by omega)
  all_goals first
    | exact r3 (by omega) (by omega)
    | exact r2 (by omega) (by omega)
/-- A row of bytes is put into a set. -/
theorem srange_ok {w : World} {k : Nat} {f : Nat → Bool} (h : Blk w.heap k 4 (b256 f)) (lo hi : Nat) (hh : hi < 256) {lo' hi' : Int} (e1 : lo' = lo) (e2 : hi' = hi) :
    Cl Try.prog 165 [.slice (some ⟨k, 0, none⟩) 256 256, .int .i64 lo', .int .i64 hi'] w (fun e w' => e = .returned (.tuple #[]) ∧ Blk w'.heap k 4 (b256 fun n => f n || inR [(lo, hi)] n) ∧ Ext (fun x => x = k) w w') := by
  subst e1 e2
  apply vc165
  unfold V165
  refine ⟨fun m j w' => ∃ i : Nat, j = i ∧ lo ≤ i ∧ (i ≤ hi + 1 ∨ i = lo) ∧ m = hi + 1 - i ∧ Blk w'.heap k 4 (b256 fun n => f n || decide (lo ≤ n ∧ n < i)) ∧ Ext (fun x => x = k) w w', ⟨_, lo, rfl, Nat.le_refl _, .inr rfl, rfl, ?_, Ext.refl _ _⟩, ?_⟩
  · rw [b256_ext (g := f) fun n _ => by rw [decide_eq_false (by omega), Bool.or_false]]; exact h
  rintro m d j w1 ⟨i, rfl, hl, hi2, rfl, hB, hE⟩
  refine ⟨fun g => ?_, fun g => ?_⟩
  · have g' : i ≤ hi := by have := of_decide_eq_true g; omega
    refine ⟨k, 0, ⟨rfl, by omega, by show (i : Int) < 256; omega⟩, ?_⟩
    rw [show 0 + Int.toNat (i : Int) * 1 = i from by omega]
    refine stW_in hB (by rw [b256_length]; show i + 1 ≤ 256; omega) fun w2 s2 k2 e2 => ?_
    refine ⟨hi + 1 - (i + 1), by omega, i + 1, by rw [w64 (by omega)]; omega, by omega, .inl (by omega), rfl, ?_, hE.trans e2⟩
    have : segSet (b256 fun n => f n || decide (lo ≤ n ∧ n < i)) i [.bool true] = b256 fun n => f n || decide (lo ≤ n ∧ n < i + 1) := by
      show (b256 _).set i _ = _
      rw [b256_set]
      apply b256_ext
      intro n hn
      by_cases hni : n = i
      · subst hni; simp [hl]
      · rw [if_neg hni]; congr 1; apply decide_eq_decide.2; omega
    rw [this] at k2; exact k2
  · have g' : ¬ i ≤ hi := by have := of_decide_eq_false g; omega
    refine ⟨rfl, ?_, hE⟩
    rw [b256_ext (g := fun n => f n || decide (lo ≤ n ∧ n < i)) fun n _ => ?_]
    · exact hB
    · rw [inR_one]; congr 1; apply decide_eq_decide.2; omega
/-- One byte is put into a set. -/
theorem set_one (f : Nat → Bool) (v : Nat) : segSet (b256 f) v [.bool true] = b256 fun n => f n || inR [(v, v)] n := by
  show (b256 f).set v _ = _
  rw [b256_set]
  apply b256_ext
  intro n hn
  rw [inR_one]
  by_cases hni : n = v
  · subst hni; simp
  · rw [if_neg hni, decide_eq_false (by omega), Bool.or_false]
theorem st_one {w : World} {k v : Nat} {f : Nat → Bool} (h : Blk w.heap k 4 (b256 f)) (hv : v < 256) {o : Nat} (ho : o = v) {K : World → Prop} (hK : ∀ w', w'.heap.size = w.heap.size → Blk w'.heap k 4 (b256 fun n => f n || inR [(v, v)] n) → Ext (fun x => x = k) w w' → K w') : stW k o [.bool true] K w := by
  subst ho
  refine stW_in h (by rw [b256_length]; show o + 1 ≤ 256; omega) fun w2 s2 k2 e2 => hK w2 s2 ?_ e2
  rw [set_one] at k2; exact k2
/-- A set's rows. -/
theorem sset_ok {w : World} {k : Nat} {f : Nat → Bool} (h : Blk w.heap k 4 (b256 f)) :
    Cl Try.prog 167 [.slice (some ⟨k, 0, none⟩) 256 256] w (fun e w' => ∃ a c, e = .returned (.slice a (runs f).length c) ∧ Row w.heap.size w' 134 2 a (runs f).length c (rngC (runs f)) ∧ Below w.heap.size w w') := by
  apply vc167
  unfold V167
  have hbl := h.lt
  refine ⟨fun m a l c n w' => ∃ (i : Nat) (xs : List (Int × Int)), n = i ∧ m = 256 - i ∧ l = xs.length ∧ SetInv f i xs ∧ xs.length ≤ i ∧ i ≤ 256 ∧ Row w.heap.size w' 134 2 a l c (rngC xs) ∧ Below w.heap.size w w',
    ⟨_, 0, [], rfl, rfl, rfl, SetInv.init f, Nat.le_refl _, by omega, Row.nil _ _ (Nat.le_refl _), Below.refl _ _⟩, ?_⟩
  rintro m d a l c n w1 ⟨i, xs, rfl, rfl, rfl, hI, hx, hi, hR, hb⟩
  refine ⟨fun g => ?_, fun g => ?_⟩
  · have g' : i < 256 := by have := of_decide_eq_true g; omega
    have e1 : IntKind.wrap .i64 ((i : Int) + 1) = ((i + 1 : Nat) : Int) := by rw [w64 (by omega)]; omega
    refine ⟨k, 0, ⟨rfl, by omega, by show (i : Int) < 256; omega⟩, f i, ?_, fun g1 => ?_, fun g1 => ?_⟩
    · rw [(h.below hb).cell, show 0 + Int.toNat (i : Int) * 1 = i from by omega]; exact b256_get f i g'
    · have hf : f i = false := by simpa using g1
      exact ⟨256 - (i + 1), by omega, i + 1, xs, e1, rfl, rfl, hI.no g' hf, by omega, by omega, hR, hb⟩
    · have hf : f i = true := by simpa using g1
      have hnew : (∀ ys lo hi, xs = ys ++ [(lo, hi)] → hi ≠ (i : Int) - 1) → newC [.int .i64 (i : Int), .int .i64 (i : Int)] 134 (fun (b20 : Nat) (w21 : World) => ∃ (a22 : Option Addr), ∃ (l22 : Nat), ∃ (c22 : Nat), ∃ (w23 : World), (Builtin.append_ #[108, 108] 108 #[.slice a xs.length c, .slice (some ⟨b20, 0, none⟩) 1 1]).run Try.prog w21 = .ok (.slice a22 l22 c22) w23 ∧ (∃ (m24 : Nat), m24 < 256 - i ∧
          (fun (m : Nat) (a : Option Addr) (l c : Nat) (n : Int) (w' : World) => ∃ (i : Nat) (xs : List (Int × Int)), n = i ∧ m = 256 - i ∧ l = xs.length ∧ SetInv f i xs ∧ xs.length ≤ i ∧ i ≤ 256 ∧ Row w.heap.size w' 134 2 a l c (rngC xs) ∧ Below w.heap.size w w') m24 a22 l22 c22 (IntKind.wrap .i64 ((i : Int) + 1)) w23)) w1 := by
        intro hn
        obtain ⟨a3, c3, w3, r1, r2, r3⟩ := hR.app1 elemRng (ys := [.int .i64 (i : Int), .int .i64 (i : Int)]) (n := 1) rfl rfl (by omega) (by omega)
        refine ⟨a3, _, c3, w3, r1, 256 - (i + 1), by omega, i + 1, xs ++ [((i : Int), (i : Int))], e1, rfl, by simp, hI.new g' hf hn, by simp; omega, by omega, ?_, r3.step hb (Nat.le_refl _)⟩
        rw [rngC_append]; exact r2
      refine ⟨fun g2 => ?_, fun g2 => ?_⟩
      · have g2' : 0 < xs.length := by have := of_decide_eq_true g2; omega
        obtain ⟨ys, p, hxs⟩ : ∃ ys p, xs = ys ++ [p] := ⟨xs.dropLast, xs.getLast (by intro h; subst h; simp at g2'), (List.dropLast_concat_getLast _).symm⟩
        obtain ⟨lo, hi0⟩ := p
        subst hxs
        have hlen : (ys ++ [(lo, hi0)]).length = ys.length + 1 := by simp
        have ew : IntKind.wrap .i64 ((((ys ++ [(lo, hi0)]).length : Nat) : Int) - 1) = (ys.length : Int) := by rw [w64 (by omega)]; omega
        have ew2 : IntKind.wrap .i64 ((i : Int) - 1) = (i : Int) - 1 := w64 (by omega)
        rw [ew, ew2]
        obtain ⟨b9, cs, rfl, hB9, hc9, hN9, hat⟩ := hR.at (by omega)
        have hget : cellH w1.heap b9 (ys.length * 2 + 1) = some (.int .i64 hi0) := by
          rw [hat _ (by omega), rngC_append, List.getElem?_append_right (by rw [rngC_length]; omega), rngC_length]
          rw [show ys.length * 2 + 1 - ys.length * 2 = 1 from by omega]
          rfl
        refine ⟨b9, 0, ⟨rfl, by omega, by omega⟩, hi0, ?_, fun g3 => ?_, fun g3 => ?_⟩
        · rw [show 0 + Int.toNat (ys.length : Int) * 2 + 1 = ys.length * 2 + 1 from by omega]; exact hget
        · have g3' : hi0 = (i : Int) - 1 := by simpa using g3
          refine ⟨b9, 0, ⟨rfl, by omega, by omega⟩, ?_⟩
          rw [show 0 + Int.toNat (ys.length : Int) * 2 + 1 = ys.length * 2 + 1 from by omega]
          refine hR.st (by omega) fun w2 hR2 e2 => ?_
          refine ⟨256 - (i + 1), by omega, i + 1, ys ++ [(lo, (i : Int))], e1, rfl, by simp, hI.on g' hf g3', by simp; omega, by omega, ?_, Ext.to hb e2 fun x hx => by omega⟩
          have hset : (rngC (ys ++ [(lo, hi0)])).set (ys.length * 2 + 1) (.int .i64 (i : Int)) = rngC (ys ++ [(lo, (i : Int))]) := by
            rw [rngC_append, rngC_append, List.set_append_right _ _ (by rw [rngC_length]; omega), rngC_length, show ys.length * 2 + 1 - ys.length * 2 = 1 from by omega]
            rfl
          rw [hset] at hR2; exact hR2
        · have g3' : hi0 ≠ (i : Int) - 1 := by simpa using g3
          refine hnew fun ys' lo' hi' e => ?_
          have e2 := List.append_inj_right' e rfl
          simp only [List.cons.injEq, Prod.mk.injEq, and_true] at e2
          omega
      · have g2' : xs = [] := by
          have := of_decide_eq_false g2
          cases xs with
          | nil => rfl
          | cons x r => simp only [List.length_cons] at this; omega
        subst g2'
        refine hnew fun ys lo hi e => ?_
        simp at e
  · have g' : i = 256 := by have := of_decide_eq_false g; omega
    subst g'
    have := hI.done
    subst this
    exact ⟨a, c, rfl, hR, hb⟩
end Go.Proofs.Ytngbiaeliphdjaa.V
/- The reference's reader: escapes. No statement of the seat is proved here. -/
namespace Go.Vc
theorem escC_sym {c : Nat} (h1 : 33 ≤ c) (h2 : c ≤ 126) (h3 : ¬ (48 ≤ c ∧ c ≤ 57 ∨ 97 ≤ c ∧ c ≤ 122 ∨ 65 ≤ c ∧ c ≤ 90)) : escC c = some ([(c, c)], some c) := by
  unfold escC
  rw [if_neg (by omega), if_neg (by omega), if_neg (by omega), if_neg (by omega), if_neg (by omega), if_neg (by omega), if_pos ⟨h1, h2, h3⟩]
theorem escC_no {c : Nat} (h : ¬ (33 ≤ c ∧ c ≤ 126 ∧ ¬ (48 ≤ c ∧ c ≤ 57 ∨ 97 ≤ c ∧ c ≤ 122 ∨ 65 ≤ c ∧ c ≤ 90))) (h1 : c ≠ 100) (h2 : c ≠ 119) (h3 : c ≠ 115) (h4 : c ≠ 110) (h5 : c ≠ 116) (h6 : c ≠ 114) : escC c = none := by
  unfold escC
  rw [if_neg h1, if_neg h2, if_neg h3, if_neg h4, if_neg h5, if_neg h6, if_neg h]
end Go.Vc
namespace Go.Proofs.Ytngbiaeliphdjaa.V
open Go.Vc Go.Proofs Go.RowKit
set_option linter.unusedVariables false
set_option linter.unusedSimpArgs false
/-- What an escape leaves: its bytes are in the set, its byte is handed back. -/
def EscS (w : World) (b : Nat) (s : ByteArray) (g : Nat) (a : Option Addr) (ln c k : Nat) (f : Nat → Bool) (r : Pr (Nat × Rs × Option Nat)) : Ending → World → Prop := fun e w' => Ext (fun x => x = b ∨ x = k) w w' ∧ match r with
  | .bad n => e = .returned (.tuple #[.int .i64 0, .bool false]) ∧ (∃ i, Sd w' b s i (n : Int) g a ln c) ∧ ∃ f', Blk w'.heap k 4 (b256 f')
  | .ok (j, rs, none) => e = .returned (.tuple #[.int .i64 0, .bool false]) ∧ Sd w' b s j (-1) g a ln c ∧ Blk w'.heap k 4 (b256 fun n => f n || inR rs n)
  | .ok (j, rs, some v) => e = .returned (.tuple #[.int .i64 (v : Int), .bool true]) ∧ Sd w' b s j (-1) g a ln c ∧ Blk w'.heap k 4 (b256 fun n => f n || inR rs n)
theorem sescape_ok {w : World} {b : Nat} {s : ByteArray} {i g : Nat} {a : Option Addr} {ln c k : Nat} {f : Nat → Bool} (h : Sd w b s i (-1) g a ln c) (hs : s.size ≤ 120) (hi : i ≤ s.size) (hk : Blk w.heap k 4 (b256 f)) (hne : k ≠ b) :
    Cl Try.prog 166 [.pointer (some ⟨b, 0, none⟩), .slice (some ⟨k, 0, none⟩) 256 256] w (EscS w b s g a ln c k f (escP (L s) i)) := by
  apply vc166
  unfold V166
  have hsz := size_L s
  generalize hP : escP (L s) i = P
  refine (more_ok h).ret fun w1 b1 => ⟨_, rfl, fun g1 => ?_, fun g1 => ?_⟩
  · have g1' : ¬ i < s.size := by simpa using g1
    refine (sfail_ok (h.below b1)).use fun e w2 he => ?_
    obtain ⟨rfl, h2, e2⟩ := he
    refine ⟨rfl, Ext.trans (Ext.of_below b1) (Ext.mono e2 fun _ _ h => .inl h), ?_⟩
    have : P = .bad i := by rw [← hP]; unfold escP; rw [if_pos (by omega)]; congr 1; omega
    subst this
    exact ⟨rfl, ⟨i, h2⟩, f, (hk.below b1).keep e2 hne⟩
  have g1' : i < s.size := by simpa using g1
  refine drw_in fun w2 q2 e2 => ?_
  have h2 : Sd w2 b s i (-1) g a ln c := Blk.keep (h.below b1) e2 fun h => h
  have k2 : Blk w2.heap k 4 (b256 f) := (hk.below b1).keep e2 fun h => h
  have E2 : Ext (fun x => x = b ∨ x = k) w w2 := Ext.trans (Ext.of_below b1) (Ext.mono e2 fun _ _ h => h.elim)
  refine ⟨s, h2.cell 0, i, h2.cell 1, ⟨by omega, by omega⟩, ?_⟩
  rw [byteI s (j := i) rfl]
  have hc := at_lt (L s) i
  have hP1 : at_ (L s) i ≠ 120 → P = match escC (at_ (L s) i) with | some (r, o) => .ok (i + 1, r, o) | none => .bad i := by
    intro hx; rw [← hP]; unfold escP; rw [if_neg (by omega), if_neg hx]; rfl
  have hP2 : at_ (L s) i = 120 → P = escX (L s) i := by
    intro hx; rw [← hP]; unfold escP; rw [if_neg (by omega), if_pos hx]
  generalize hch : at_ (L s) i = ch at *
  -- what goes wrong at once
  have hbad : ∀ {w' : World}, Sd w' b s i (-1) g a ln c → Blk w'.heap k 4 (b256 f) → Ext (fun x => x = b ∨ x = k) w w' → P = .bad i → Cl Try.prog 79 [.pointer (some ⟨b, 0, none⟩)] w' (retG (fun (r8 : Value) (w7 : World) => r8 = .tuple #[] ∧ EscS w b s g a ln c k f P (.returned (.tuple #[.int .i64 0, .bool false])) w7) (fun c1 w' => EscS w b s g a ln c k f P (.panicked c1) w')) := by
    intro w' h' k' E' hp
    refine (sfail_ok h').use fun e w3 he => ?_
    obtain ⟨rfl, h3, e3⟩ := he
    refine ⟨rfl, E'.trans (Ext.mono e3 fun _ _ h => .inl h), ?_⟩
    subst hp
    exact ⟨rfl, ⟨i, h3⟩, f, k'.keep e3 hne⟩
  -- several bytes, the place moved at the end
  have hmany : ∀ {w' : World} {rs : Rs}, Sd w' b s i (-1) g a ln c → Blk w'.heap k 4 (b256 fun n => f n || inR rs n) → Ext (fun x => x = b ∨ x = k) w w' → P = .ok (i + 1, rs, none) → ∃ (n14 : Int), cellH w'.heap b (0 + 1) = some (.int .i64 n14) ∧ stW b (0 + 1) [.int .i64 (IntKind.wrap .i64 (n14 + 1))] (fun (w15 : World) => EscS w b s g a ln c k f P (.returned (.tuple #[.int .i64 0, .bool false])) w15) w' := by
    intro w' rs h' k' E' hp
    refine ⟨i, h'.cell 1, h'.mv (j := i + 1) (by rw [w64 (by omega)]; omega) fun w3 s3 h3 e3 => ⟨E'.trans (Ext.mono e3 fun _ _ h => .inl h), ?_⟩⟩
    subst hp
    exact ⟨rfl, h3, k'.keep e3 hne⟩
  -- one byte, the place moved first
  have hone : ∀ {w' : World} {v : Nat} {v' : Int} {o : Nat} {o' : Nat → Nat}, Sd w' b s i (-1) g a ln c → Blk w'.heap k 4 (b256 f) → Ext (fun x => x = b ∨ x = k) w w' → P = .ok (i + 1, [(v, v)], some v) → v' = v → v < 256 → (∀ z, o' z = z + v) → ∃ (n34 : Int), cellH w'.heap b (0 + 1) = some (.int .i64 n34) ∧ stW b (0 + 1) [.int .i64 (IntKind.wrap .i64 (n34 + 1))] (fun (w35 : World) => ∃ (b36 : Nat) (o37 : Nat), (((some ⟨k, 0, none⟩) : Option Addr) = some ⟨b36, o37, none⟩ ∧ 0 ≤ v' ∧ v' < ((256 : Nat) : Int)) ∧ stW b36 (o' o37) [.bool true] (fun (w38 : World) => EscS w b s g a ln c k f P (.returned (.tuple #[.int .i64 v', .bool true])) w38) w35) w' := by
    intro w' v v' o o' h' k' E' hp hv hv256 ho
    subst hv
    refine ⟨i, h'.cell 1, h'.mv (j := i + 1) (by rw [w64 (by omega)]; omega) fun w3 s3 h3 e3 => ⟨k, 0, ⟨rfl, by omega, by omega⟩, ?_⟩⟩
    refine st_one (k'.keep e3 hne) hv256 (by rw [ho]; omega) fun w4 s4 k4 e4 => ⟨(E'.trans (Ext.mono e3 fun _ _ h => .inl h)).trans (Ext.mono e4 fun _ _ h => .inr h), ?_⟩
    subst hp
    exact ⟨rfl, Blk.keep h3 e4 (Ne.symm hne), k4⟩
  refine ⟨fun g2 => ?_, fun g2 => ⟨fun g3 => ?_, fun g3 => ⟨fun g4 => ?_, fun g4 => ⟨fun g5 => ?_, fun g5 => ⟨fun g6 => ?_, fun g6 => ⟨fun g7 => ?_, fun g7 => ⟨fun g8 => ?_, fun g8 => ?_⟩⟩⟩⟩⟩⟩⟩
  all_goals try simp only [beq_iff_eq, beq_eq_false_iff_ne, ne_eq] at g2
  all_goals try simp only [beq_iff_eq, beq_eq_false_iff_ne, ne_eq] at g3
  all_goals try simp only [beq_iff_eq, beq_eq_false_iff_ne, ne_eq] at g4
  all_goals try simp only [beq_iff_eq, beq_eq_false_iff_ne, ne_eq] at g5
  all_goals try simp only [beq_iff_eq, beq_eq_false_iff_ne, ne_eq] at g6
  all_goals try simp only [beq_iff_eq, beq_eq_false_iff_ne, ne_eq] at g7
  all_goals try simp only [beq_iff_eq, beq_eq_false_iff_ne, ne_eq] at g8
  · obtain rfl : ch = 100 := by omega
    refine (srange_ok k2 48 57 (by decide) rfl rfl).use fun e w3 he => ?_
    obtain ⟨rfl, k3, e3⟩ := he
    exact ⟨rfl, hmany (Blk.keep h2 e3 (Ne.symm hne)) k3 (E2.trans (Ext.mono e3 fun _ _ h => .inr h)) (hP1 (by decide))⟩
  · obtain rfl : ch = 119 := by omega
    refine (srange_ok k2 48 57 (by decide) rfl rfl).use fun e w3 he => ?_
    obtain ⟨rfl, k3, e3⟩ := he
    refine ⟨rfl, (srange_ok k3 65 90 (by decide) rfl rfl).use fun e w4 he => ?_⟩
    obtain ⟨rfl, k4, e4⟩ := he
    refine ⟨rfl, (srange_ok k4 97 122 (by decide) rfl rfl).use fun e w5 he => ?_⟩
    obtain ⟨rfl, k5, e5⟩ := he
    refine ⟨rfl, (srange_ok k5 95 95 (by decide) rfl rfl).use fun e w6 he => ?_⟩
    obtain ⟨rfl, k6, e6⟩ := he
    have e7 := ((e3.trans e4).trans e5).trans e6
    refine ⟨rfl, hmany (rs := [(48, 57), (65, 90), (97, 122), (95, 95)]) (Blk.keep h2 e7 (Ne.symm hne)) ?_ (E2.trans (Ext.mono e7 fun _ _ h => .inr h)) (hP1 (by decide))⟩
    rw [b256_ext (g := fun n => f n || inR [(48, 57), (65, 90), (97, 122), (95, 95)] n) fun n _ => by simp only [inR, List.any_cons, List.any_nil, Bool.or_false, Bool.or_assoc]] at k6
    exact k6
  · obtain rfl : ch = 115 := by omega
    refine (srange_ok k2 9 10 (by decide) rfl rfl).use fun e w3 he => ?_
    obtain ⟨rfl, k3, e3⟩ := he
    refine ⟨rfl, (srange_ok k3 13 13 (by decide) rfl rfl).use fun e w4 he => ?_⟩
    obtain ⟨rfl, k4, e4⟩ := he
    refine ⟨rfl, (srange_ok k4 32 32 (by decide) rfl rfl).use fun e w5 he => ?_⟩
    obtain ⟨rfl, k5, e5⟩ := he
    have e7 := (e3.trans e4).trans e5
    refine ⟨rfl, hmany (rs := [(9, 10), (13, 13), (32, 32)]) (Blk.keep h2 e7 (Ne.symm hne)) ?_ (E2.trans (Ext.mono e7 fun _ _ h => .inr h)) (hP1 (by decide))⟩
    rw [b256_ext (g := fun n => f n || inR [(9, 10), (13, 13), (32, 32)] n) fun n _ => by simp only [inR, List.any_cons, List.any_nil, Bool.or_false, Bool.or_assoc]] at k5
    exact k5
  · obtain rfl : ch = 110 := by omega
    refine ⟨fun g9 => by simp at g9, fun g9 => ⟨fun g10 => by simp at g10, fun g10 => ?_⟩⟩
    exact hone (v := 10) (o := 0) (o' := fun z => z + 10) h2 k2 E2 (hP1 (by decide)) rfl (by decide) (fun _ => rfl)
  · obtain rfl : ch = 116 := by omega
    refine ⟨fun g9 => ?_, fun g9 => by simp at g9⟩
    exact hone (v := 9) (o := 0) (o' := fun z => z + 9) h2 k2 E2 (hP1 (by decide)) rfl (by decide) (fun _ => rfl)
  · obtain rfl : ch = 114 := by omega
    refine ⟨fun g9 => by simp at g9, fun g9 => ⟨fun g10 => ?_, fun g10 => by simp at g10⟩⟩
    exact hone (v := 13) (o := 0) (o' := fun z => z + 13) h2 k2 E2 (hP1 (by decide)) rfl (by decide) (fun _ => rfl)
  · obtain rfl : ch = 120 := by omega
    have hP3 := hP2 rfl
    clear hbad hmany hone hP1 hP2
    refine ⟨i, h2.cell 1, h2.mv (j := i + 1) (by rw [w64 (by omega)]; omega) fun w3 s3 h3 e3 => ?_⟩
    have k3 := k2.keep e3 hne
    have E3 := E2.trans (Ext.mono e3 fun _ _ h => .inl h)
    refine ⟨fun m n q w' => ∃ j : Nat, q = (j : Int) ∧ m = 2 - j ∧ Sd w' b s (i + 1 + j) (-1) g a ln c ∧ Blk w'.heap k 4 (b256 f) ∧ Ext (fun x => x = b ∨ x = k) w w' ∧
      ((j = 0 ∧ n = 0) ∨ (∃ v, j = 1 ∧ i + 1 < s.size ∧ hexv (at_ (L s) (i + 1)) = some v ∧ n = (v : Int)) ∨ (∃ v u, j = 2 ∧ i + 2 < s.size ∧ hexv (at_ (L s) (i + 1)) = some v ∧ hexv (at_ (L s) (i + 2)) = some u ∧ n = ((16 * v + u : Nat) : Int))), ⟨2, 0, rfl, rfl, h3, k3, E3, .inl ⟨rfl, rfl⟩⟩, ?_⟩
    rintro m d n q w4 ⟨j, rfl, rfl, h4, k4, E4, hj⟩
    refine ⟨fun g9 => ?_, fun g9 => ?_⟩
    · have g9' : j < 2 := by have := of_decide_eq_true g9; omega
      refine drw_in fun w5 q5 e5 => ?_
      have h5 : Sd w5 b s (i + 1 + j) (-1) g a ln c := Blk.keep h4 e5 fun h => h
      have k5 := k4.keep e5 fun h => h
      have E5 := E4.trans (Ext.mono e5 fun _ _ h => h.elim)
      refine (more_ok h5).ret fun w6 b6 => ⟨_, rfl, fun g10 => ?_, fun g10 => ?_⟩
      · have g10' : ¬ i + 1 + j < s.size := by simpa using g10
        refine (sfail_ok (h5.below b6)).use fun e w7 he => ?_
        obtain ⟨rfl, h7, e7⟩ := he
        refine ⟨rfl, (E5.trans (Ext.of_below b6)).trans (Ext.mono e7 fun _ _ h => .inl h), ?_⟩
        have : P = .bad (i + 1 + j) := by
          rw [hP3]; unfold escX
          rcases hj with ⟨rfl, _⟩ | ⟨v, rfl, hv1, hv2, _⟩ | ⟨v, u, rfl, _⟩
          · rw [if_pos (by omega)]; congr 1; omega
          · rw [if_neg (by omega), hv2]; simp only []; rw [if_pos (by omega)]; congr 1; omega
          · omega
        subst this
        exact ⟨rfl, ⟨_, h7⟩, f, (k5.below b6).keep e7 hne⟩
      · have g10' : i + 1 + j < s.size := by simpa using g10
        have h6 := h5.below b6
        have k6 := k5.below b6
        have E6 := E5.trans (Ext.of_below b6)
        refine ⟨s, h6.cell 0, _, h6.cell 1, ⟨by omega, by omega⟩, ?_⟩
        have hat : byteAt s (Int.toNat ((i + 1 + j : Nat) : Int)) = (at_ (L s) (i + 1 + j) : Int) := byteI s rfl
        rw [hat]
        refine (shex_ok (at_ (L s) (i + 1 + j)) (at_lt _ _) rfl w6).ret fun w7 b7 => ⟨_, rfl, fun g11 => ?_, fun g11 => ?_⟩
        · have hx : hexv (at_ (L s) (i + 1 + j)) = none := by
            cases hh : hexv (at_ (L s) (i + 1 + j)) with
            | none => rfl
            | some v => rw [hh] at g11; have := of_decide_eq_true g11; simp only [] at this; omega
          refine (sfail_ok (h6.below b7)).use fun e w8 he => ?_
          obtain ⟨rfl, h8, e8⟩ := he
          refine ⟨rfl, (E6.trans (Ext.of_below b7)).trans (Ext.mono e8 fun _ _ h => .inl h), ?_⟩
          have : P = .bad (i + 1 + j) := by
            rw [hP3]; unfold escX
            rcases hj with ⟨rfl, _⟩ | ⟨v, rfl, hv1, hv2, _⟩ | ⟨v, u, rfl, _⟩
            · rw [if_neg (by omega)]
              rw [show i + 1 + 0 = i + 1 from rfl] at hx
              rw [hx]
            · rw [if_neg (by omega), hv2]; simp only []; rw [if_neg (by omega)]
              rw [show i + 1 + 1 = i + 2 from rfl] at hx
              rw [hx]
            · omega
          subst this
          exact ⟨rfl, ⟨_, h8⟩, f, (k6.below b7).keep e8 hne⟩
        · obtain ⟨v, hx⟩ : ∃ v, hexv (at_ (L s) (i + 1 + j)) = some v := by
            cases hh : hexv (at_ (L s) (i + 1 + j)) with
            | some v => exact ⟨v, rfl⟩
            | none => rw [hh] at g11; exact absurd (of_decide_eq_false g11) (by decide)
          have hv16 := hexv_lt hx
          refine drw_in fun w8 q8 e8 => ?_
          have h8 : Sd w8 b s (i + 1 + j) (-1) g a ln c := Blk.keep (h6.below b7) e8 fun h => h
          have k8 := (k6.below b7).keep e8 fun h => h
          have E8 := (E6.trans (Ext.of_below b7)).trans (Ext.mono e8 fun _ _ h => h.elim)
          refine ⟨s, h8.cell 0, _, h8.cell 1, ⟨by omega, by omega⟩, ?_⟩
          rw [hat]
          refine (shex_ok (at_ (L s) (i + 1 + j)) (at_lt _ _) rfl w8).ret fun w9 b9 => ⟨_, rfl, ?_⟩
          have h9 := h8.below b9
          rw [hx]
          simp only []
          refine ⟨_, h9.cell 1, h9.mv (j := i + 1 + (j + 1)) (by rw [w64 (by omega)]; omega) fun w10 s10 h10 e10 => ?_⟩
          refine ⟨2 - (j + 1), by omega, j + 1, by rw [w64 (by omega)]; omega, rfl, h10, (k8.below b9).keep e10 hne, (E8.trans (Ext.of_below b9)).trans (Ext.mono e10 fun _ _ h => .inl h), ?_⟩
          rcases hj with ⟨rfl, rfl⟩ | ⟨v0, rfl, hv1, hv2, rfl⟩ | ⟨v, u, rfl, _⟩
          · refine .inr (.inl ⟨v, rfl, by omega, hx, ?_⟩)
            rw [w64 (n := 0 * 16) (by omega), w64 (by omega)]; omega
          · refine .inr (.inr ⟨v0, v, rfl, by omega, hv2, hx, ?_⟩)
            have := hexv_lt hv2
            rw [w64 (n := (v0 : Int) * 16) (by omega), w64 (by omega)]; omega
          · omega
    · have g9' : ¬ j < 2 := by have := of_decide_eq_false g9; omega
      rcases hj with ⟨rfl, rfl⟩ | ⟨v0, rfl, hv1, hv2, rfl⟩ | ⟨v, u, rfl, hj1, hj2, hj3, rfl⟩
      · omega
      · omega
      · have := hexv_lt hj2
        have := hexv_lt hj3
        refine ⟨k, 0, ⟨rfl, by omega, by omega⟩, ?_⟩
        refine st_one k4 (v := 16 * v + u) (by omega) (by omega) fun w5 s5 k5 e5 => ⟨E4.trans (Ext.mono e5 fun _ _ h => .inr h), ?_⟩
        have : P = .ok (i + 3, [(16 * v + u, 16 * v + u)], some (16 * v + u)) := by
          rw [hP3]; unfold escX
          rw [if_neg (by omega), hj2]; simp only []; rw [if_neg (by omega), hj3]
        subst this
        exact ⟨rfl, Blk.keep h4 e5 (Ne.symm hne), k5⟩
  · have hP3 := hP1 (by omega)
    refine ⟨fun t w' => w' = w2 ∧ (t = true ↔ (48 ≤ ch ∧ ch ≤ 57 ∨ 97 ≤ ch ∧ ch ≤ 122 ∨ 65 ≤ ch ∧ ch ≤ 90)), ?_, ?_⟩
    · have T : (48 ≤ ch ∧ ch ≤ 57 ∨ 97 ≤ ch ∧ ch ≤ 122 ∨ 65 ≤ ch ∧ ch ≤ 90) → w2 = w2 ∧ (true = true ↔ (48 ≤ ch ∧ ch ≤ 57 ∨ 97 ≤ ch ∧ ch ≤ 122 ∨ 65 ≤ ch ∧ ch ≤ 90)) := fun h => ⟨rfl, by simp [h]⟩
      have F : ¬ (48 ≤ ch ∧ ch ≤ 57 ∨ 97 ≤ ch ∧ ch ≤ 122 ∨ 65 ≤ ch ∧ ch ≤ 90) → w2 = w2 ∧ (false = true ↔ (48 ≤ ch ∧ ch ≤ 57 ∨ 97 ≤ ch ∧ ch ≤ 122 ∨ 65 ≤ ch ∧ ch ≤ 90)) := fun h => ⟨rfl, by simp [h]⟩
      have M : 48 ≤ ch → ¬ (97 ≤ ch ∧ ch ≤ 122) → ¬ (65 ≤ ch ∧ ch ≤ 90) → w2 = w2 ∧ (decide ((ch : Int) ≤ 57) = true ↔ (48 ≤ ch ∧ ch ≤ 57 ∨ 97 ≤ ch ∧ ch ≤ 122 ∨ 65 ≤ ch ∧ ch ≤ 90)) := fun h1 h2 h3 => ⟨rfl, by rw [decide_eq_true_eq]; omega⟩
      repeat' (apply And.intro <;> intro gg)
      all_goals
        simp only [decide_eq_true_eq, decide_eq_false_iff_not] at *
        first
        | exact T (by omega)
        | exact F (by omega)
        | (simpa using M (by omega) (by omega) (by omega))
    · rintro d t w3 ⟨rfl, ht⟩
      refine ⟨fun g9 => hbad h2 k2 E2 (by rw [hP3, escC_no (by have := ht.1 g9; omega) (by omega) (by omega) (by omega) (by omega) (by omega) (by omega)]), fun g9 => ⟨fun g10 => hbad h2 k2 E2 ?_, fun g10 => ⟨fun g11 => hbad h2 k2 E2 ?_, fun g11 => ?_⟩⟩⟩
      · have := of_decide_eq_true g10
        rw [hP3, escC_no (by omega) (by omega) (by omega) (by omega) (by omega) (by omega) (by omega)]
      · have := of_decide_eq_true g11
        rw [hP3, escC_no (by omega) (by omega) (by omega) (by omega) (by omega) (by omega) (by omega)]
      · have h10 := of_decide_eq_false g10
        have h11 := of_decide_eq_false g11
        have hn : ¬ (48 ≤ ch ∧ ch ≤ 57 ∨ 97 ≤ ch ∧ ch ≤ 122 ∨ 65 ≤ ch ∧ ch ≤ 90) := fun h => by rw [ht.2 h] at g9; cases g9
        have hw : IntKind.wrap .i64 (ch : Int) = (ch : Int) := w64 (by omega)
        rw [hw]
        exact hone (v := ch) (o := 0) (o' := fun z => z + Int.toNat (ch : Int) * 1) h2 k2 E2 (by rw [hP3, escC_sym (by omega) (by omega) hn]) rfl hc (fun z => by omega)
end Go.Proofs.Ytngbiaeliphdjaa.V
/- Printed by vcgen.py, a program of this session: formulas of Go functions, each with the proof that it gives the function's contract. No statement of the seat is proved here. -/
namespace Go.Proofs.Ytngbiaeliphdjaa.V
open Go.Vc Go.Proofs
set_option linter.unusedVariables false
set_option maxRecDepth 100000
/-- (*spec.l1R).class -/
def V164 (b1 : Nat) (o2 : Nat) (R : Ending → World → Prop) : World → Prop := fun w =>
  ∃ (a3 : Option Addr), ∃ (l3 : Nat), ∃ (c3 : Nat), ∃ (w4 : World), (Instr.makeSlice 59 (.int .i64 256) (.int .i64 256)).run Try.prog w = .ok (.slice a3 l3 c3) w4 ∧ Cl Try.prog 112 ([.pointer (some ⟨b1, o2, none⟩), .int .u8 94]) w4 (retG (fun (r7 : Value) (w6 : World) => ∃ (t5 : Bool), r7 = .bool t5 ∧ ∃ (I8 : Nat → Int → World → Prop), (∃ (k10 : Nat), I8 k10 0 w6) ∧ ∀ (k9 : Nat) (d12 : Nat → Value) (n13 : Int) (w11 : World), I8 k9 n13 w11 → ∃ (J14 : World → Prop), (drw (fun (w15 : World) => Cl Try.prog 78 ([.pointer (some ⟨b1, o2, none⟩)]) w15 (retG (fun (r18 : Value) (w17 : World) => ∃ (t16 : Bool), r18 = .bool t16 ∧ ((t16 = true → ∃ (s19 : ByteArray), cellH w17.heap b1 o2 = some (.string s19) ∧ ∃ (n20 : Int), cellH w17.heap b1 (o2 + 1) = some (.int .i64 n20) ∧ (0 ≤ (n20 : Int) ∧ (n20 : Int) < ((ByteArray.size s19 : Nat) : Int)) ∧ ((((byteAt s19 (Int.toNat n20) : Int) != 93) = true → J14  w17) ∧ (((byteAt s19 (Int.toNat n20) : Int) != 93) = false → ((((n13 : Int) == 0) = true → J14  w17) ∧ (((n13 : Int) == 0) = false → Cl Try.prog 112 ([.pointer (some ⟨b1, o2, none⟩), .int .u8 93]) w17 (retG (fun (r23 : Value) (w22 : World) => ∃ (t21 : Bool), r23 = .bool t21 ∧ (((!t21) = true → Cl Try.prog 79 ([.pointer (some ⟨b1, o2, none⟩)]) w22 (retG (fun (r25 : Value) (w24 : World) => r25 = .tuple #[] ∧ R (.returned (.slice none 0 0)) w24) (fun c w => R (.panicked c) w))) ∧ ((!t21) = false → ((t5 = true → ∃ (I26 : Nat → Int → World → Prop), (∃ (k28 : Nat), I26 k28 0 w22) ∧ ∀ (k27 : Nat) (d30 : Nat → Value) (n31 : Int) (w29 : World), I26 k27 n31 w29 → (((decide ((n31 : Int) < ((l3 : Nat) : Int))) = true → ∃ (b32 : Nat) (o33 : Nat), ((a3 : Option Addr) = some ⟨b32, o33, none⟩ ∧ 0 ≤ (n31 : Int) ∧ (n31 : Int) < ((l3 : Nat) : Int)) ∧ ∃ (t34 : Bool), cellH w29.heap b32 (o33 + (Int.toNat n31) * 1) = some (.bool t34) ∧ ∃ (b35 : Nat) (o36 : Nat), ((a3 : Option Addr) = some ⟨b35, o36, none⟩ ∧ 0 ≤ (n31 : Int) ∧ (n31 : Int) < ((l3 : Nat) : Int)) ∧ stW b35 (o36 + (Int.toNat n31) * 1) [.bool (!t34)] (fun (w37 : World) => (∃ (m38 : Nat), m38 < k27 ∧ I26 m38 (IntKind.wrap .i64 (n31 + 1)) w37)) w29) ∧ ((decide ((n31 : Int) < ((l3 : Nat) : Int))) = false → Cl Try.prog 167 ([.slice a3 l3 c3]) w29 (retG (fun (r41 : Value) (w40 : World) => ∃ (a39 : Option Addr), ∃ (l39 : Nat), ∃ (c39 : Nat), r41 = .slice a39 l39 c39 ∧ R (.returned (.slice a39 l39 c39)) w40) (fun c w => R (.panicked c) w))))) ∧ (t5 = false → Cl Try.prog 167 ([.slice a3 l3 c3]) w22 (retG (fun (r44 : Value) (w43 : World) => ∃ (a42 : Option Addr), ∃ (l42 : Nat), ∃ (c42 : Nat), r44 = .slice a42 l42 c42 ∧ R (.returned (.slice a42 l42 c42)) w43) (fun c w => R (.panicked c) w))))))) (fun c w => R (.panicked c) w))))))) ∧ (t16 = false → Cl Try.prog 112 ([.pointer (some ⟨b1, o2, none⟩), .int .u8 93]) w17 (retG (fun (r47 : Value) (w46 : World) => ∃ (t45 : Bool), r47 = .bool t45 ∧ (((!t45) = true → Cl Try.prog 79 ([.pointer (some ⟨b1, o2, none⟩)]) w46 (retG (fun (r49 : Value) (w48 : World) => r49 = .tuple #[] ∧ R (.returned (.slice none 0 0)) w48) (fun c w => R (.panicked c) w))) ∧ ((!t45) = false → ((t5 = true → ∃ (I50 : Nat → Int → World → Prop), (∃ (k52 : Nat), I50 k52 0 w46) ∧ ∀ (k51 : Nat) (d54 : Nat → Value) (n55 : Int) (w53 : World), I50 k51 n55 w53 → (((decide ((n55 : Int) < ((l3 : Nat) : Int))) = true → ∃ (b56 : Nat) (o57 : Nat), ((a3 : Option Addr) = some ⟨b56, o57, none⟩ ∧ 0 ≤ (n55 : Int) ∧ (n55 : Int) < ((l3 : Nat) : Int)) ∧ ∃ (t58 : Bool), cellH w53.heap b56 (o57 + (Int.toNat n55) * 1) = some (.bool t58) ∧ ∃ (b59 : Nat) (o60 : Nat), ((a3 : Option Addr) = some ⟨b59, o60, none⟩ ∧ 0 ≤ (n55 : Int) ∧ (n55 : Int) < ((l3 : Nat) : Int)) ∧ stW b59 (o60 + (Int.toNat n55) * 1) [.bool (!t58)] (fun (w61 : World) => (∃ (m62 : Nat), m62 < k51 ∧ I50 m62 (IntKind.wrap .i64 (n55 + 1)) w61)) w53) ∧ ((decide ((n55 : Int) < ((l3 : Nat) : Int))) = false → Cl Try.prog 167 ([.slice a3 l3 c3]) w53 (retG (fun (r65 : Value) (w64 : World) => ∃ (a63 : Option Addr), ∃ (l63 : Nat), ∃ (c63 : Nat), r65 = .slice a63 l63 c63 ∧ R (.returned (.slice a63 l63 c63)) w64) (fun c w => R (.panicked c) w))))) ∧ (t5 = false → Cl Try.prog 167 ([.slice a3 l3 c3]) w46 (retG (fun (r68 : Value) (w67 : World) => ∃ (a66 : Option Addr), ∃ (l66 : Nat), ∃ (c66 : Nat), r68 = .slice a66 l66 c66 ∧ R (.returned (.slice a66 l66 c66)) w67) (fun c w => R (.panicked c) w))))))) (fun c w => R (.panicked c) w))))) (fun c w => R (.panicked c) w))) w11) ∧ ∀ (d69 : Nat → Value) (w70 : World), J14  w70 → Cl Try.prog 112 ([.pointer (some ⟨b1, o2, none⟩), .int .u8 92]) w70 (retG (fun (r73 : Value) (w72 : World) => ∃ (t71 : Bool), r73 = .bool t71 ∧ ∃ (J74 : Int → Bool → World → Prop), (((t71 = true → Cl Try.prog 166 ([.pointer (some ⟨b1, o2, none⟩), .slice a3 l3 c3]) w72 (retG (fun (r78 : Value) (w77 : World) => ∃ (n75 : Int), ∃ (t76 : Bool), r78 = .tuple #[.int .i64 n75, .bool t76] ∧ J74 n75 t76 w77) (fun c w => R (.panicked c) w))) ∧ (t71 = false → drw (fun (w79 : World) => ∃ (s80 : ByteArray), cellH w79.heap b1 o2 = some (.string s80) ∧ ∃ (n81 : Int), cellH w79.heap b1 (o2 + 1) = some (.int .i64 n81) ∧ (0 ≤ (n81 : Int) ∧ (n81 : Int) < ((ByteArray.size s80 : Nat) : Int)) ∧ ∃ (b82 : Nat) (o83 : Nat), ((a3 : Option Addr) = some ⟨b82, o83, none⟩ ∧ 0 ≤ (IntKind.wrap .i64 (byteAt s80 (Int.toNat n81)) : Int) ∧ (IntKind.wrap .i64 (byteAt s80 (Int.toNat n81)) : Int) < ((l3 : Nat) : Int)) ∧ stW b82 (o83 + (Int.toNat (IntKind.wrap .i64 (byteAt s80 (Int.toNat n81)))) * 1) [.bool true] (fun (w84 : World) => ∃ (n85 : Int), cellH w84.heap b1 (o2 + 1) = some (.int .i64 n85) ∧ stW b1 (o2 + 1) [.int .i64 (IntKind.wrap .i64 (n85 + 1))] (fun (w86 : World) => J74 (IntKind.wrap .i64 (byteAt s80 (Int.toNat n81))) true w86) w84) w79) w72))) ∧ ∀ (d87 : Nat → Value) (n88 : Int) (t89 : Bool) (w90 : World), J74 n88 t89 w90 → drw (fun (w91 : World) => (((!t89) = true → (∃ (m92 : Nat), m92 < k9 ∧ I8 m92 (IntKind.wrap .i64 (n13 + 1)) w91)) ∧ ((!t89) = false → ∃ (n93 : Int), cellH w91.heap b1 (o2 + 1) = some (.int .i64 n93) ∧ ∃ (s94 : ByteArray), cellH w91.heap b1 o2 = some (.string s94) ∧ (((decide ((IntKind.wrap .i64 (n93 + 1) : Int) ≥ ((ByteArray.size s94 : Nat) : Int))) = true → (∃ (m95 : Nat), m95 < k9 ∧ I8 m95 (IntKind.wrap .i64 (n13 + 1)) w91)) ∧ ((decide ((IntKind.wrap .i64 (n93 + 1) : Int) ≥ ((ByteArray.size s94 : Nat) : Int))) = false → ∃ (n96 : Int), cellH w91.heap b1 (o2 + 2) = some (.int .i64 n96) ∧ (((decide ((n96 : Int) ≥ 0)) = true → (∃ (m97 : Nat), m97 < k9 ∧ I8 m97 (IntKind.wrap .i64 (n13 + 1)) w91)) ∧ ((decide ((n96 : Int) ≥ 0)) = false → ∃ (s98 : ByteArray), cellH w91.heap b1 o2 = some (.string s98) ∧ ∃ (n99 : Int), cellH w91.heap b1 (o2 + 1) = some (.int .i64 n99) ∧ (0 ≤ (n99 : Int) ∧ (n99 : Int) < ((ByteArray.size s98 : Nat) : Int)) ∧ ((((byteAt s98 (Int.toNat n99) : Int) != 45) = true → (∃ (m100 : Nat), m100 < k9 ∧ I8 m100 (IntKind.wrap .i64 (n13 + 1)) w91)) ∧ (((byteAt s98 (Int.toNat n99) : Int) != 45) = false → ∃ (s101 : ByteArray), cellH w91.heap b1 o2 = some (.string s101) ∧ ∃ (n102 : Int), cellH w91.heap b1 (o2 + 1) = some (.int .i64 n102) ∧ (0 ≤ (IntKind.wrap .i64 (n102 + 1) : Int) ∧ (IntKind.wrap .i64 (n102 + 1) : Int) < ((ByteArray.size s101 : Nat) : Int)) ∧ ((((byteAt s101 (Int.toNat (IntKind.wrap .i64 (n102 + 1))) : Int) == 93) = true → (∃ (m103 : Nat), m103 < k9 ∧ I8 m103 (IntKind.wrap .i64 (n13 + 1)) w91)) ∧ (((byteAt s101 (Int.toNat (IntKind.wrap .i64 (n102 + 1))) : Int) == 93) = false → ∃ (n104 : Int), cellH w91.heap b1 (o2 + 1) = some (.int .i64 n104) ∧ stW b1 (o2 + 1) [.int .i64 (IntKind.wrap .i64 (n104 + 1))] (fun (w105 : World) => ∃ (n106 : Int), cellH w105.heap b1 (o2 + 1) = some (.int .i64 n106) ∧ drw (fun (w107 : World) => ∃ (s108 : ByteArray), cellH w107.heap b1 o2 = some (.string s108) ∧ ∃ (n109 : Int), cellH w107.heap b1 (o2 + 1) = some (.int .i64 n109) ∧ (0 ≤ (n109 : Int) ∧ (n109 : Int) < ((ByteArray.size s108 : Nat) : Int)) ∧ Cl Try.prog 112 ([.pointer (some ⟨b1, o2, none⟩), .int .u8 92]) w107 (retG (fun (r112 : Value) (w111 : World) => ∃ (t110 : Bool), r112 = .bool t110 ∧ ((t110 = true → ∃ (a113 : Option Addr), ∃ (l113 : Nat), ∃ (c113 : Nat), ∃ (w114 : World), (Instr.makeSlice 59 (.int .i64 256) (.int .i64 256)).run Try.prog w111 = .ok (.slice a113 l113 c113) w114 ∧ Cl Try.prog 166 ([.pointer (some ⟨b1, o2, none⟩), .slice a113 l113 c113]) w114 (retG (fun (r118 : Value) (w117 : World) => ∃ (n115 : Int), ∃ (t116 : Bool), r118 = .tuple #[.int .i64 n115, .bool t116] ∧ ∃ (n119 : Int), cellH w117.heap b1 (o2 + 2) = some (.int .i64 n119) ∧ (((decide ((n119 : Int) < 0)) = true → (((!t116) = true → stW b1 (o2 + 1) [.int .i64 n106] (fun (w120 : World) => Cl Try.prog 79 ([.pointer (some ⟨b1, o2, none⟩)]) w120 (retG (fun (r122 : Value) (w121 : World) => r122 = .tuple #[] ∧ R (.returned (.slice none 0 0)) w121) (fun c w => R (.panicked c) w))) w117) ∧ ((!t116) = false → (((decide ((n115 : Int) < n88)) = true → stW b1 (o2 + 1) [.int .i64 n106] (fun (w123 : World) => Cl Try.prog 79 ([.pointer (some ⟨b1, o2, none⟩)]) w123 (retG (fun (r125 : Value) (w124 : World) => r125 = .tuple #[] ∧ R (.returned (.slice none 0 0)) w124) (fun c w => R (.panicked c) w))) w117) ∧ ((decide ((n115 : Int) < n88)) = false → ∃ (n126 : Int), cellH w117.heap b1 (o2 + 2) = some (.int .i64 n126) ∧ (((decide ((n126 : Int) < 0)) = true → Cl Try.prog 165 ([.slice a3 l3 c3, .int .i64 n88, .int .i64 n115]) w117 (retG (fun (r128 : Value) (w127 : World) => r128 = .tuple #[] ∧ (∃ (m129 : Nat), m129 < k9 ∧ I8 m129 (IntKind.wrap .i64 (n13 + 1)) w127)) (fun c w => R (.panicked c) w))) ∧ ((decide ((n126 : Int) < 0)) = false → (∃ (m130 : Nat), m130 < k9 ∧ I8 m130 (IntKind.wrap .i64 (n13 + 1)) w117)))))))) ∧ ((decide ((n119 : Int) < 0)) = false → ∃ (n131 : Int), cellH w117.heap b1 (o2 + 2) = some (.int .i64 n131) ∧ (((decide ((n131 : Int) < 0)) = true → Cl Try.prog 165 ([.slice a3 l3 c3, .int .i64 n88, .int .i64 n115]) w117 (retG (fun (r133 : Value) (w132 : World) => r133 = .tuple #[] ∧ (∃ (m134 : Nat), m134 < k9 ∧ I8 m134 (IntKind.wrap .i64 (n13 + 1)) w132)) (fun c w => R (.panicked c) w))) ∧ ((decide ((n131 : Int) < 0)) = false → (∃ (m135 : Nat), m135 < k9 ∧ I8 m135 (IntKind.wrap .i64 (n13 + 1)) w117)))))) (fun c w => R (.panicked c) w))) ∧ (t110 = false → ∃ (n136 : Int), cellH w111.heap b1 (o2 + 1) = some (.int .i64 n136) ∧ stW b1 (o2 + 1) [.int .i64 (IntKind.wrap .i64 (n136 + 1))] (fun (w137 : World) => ∃ (n138 : Int), cellH w137.heap b1 (o2 + 2) = some (.int .i64 n138) ∧ (((decide ((n138 : Int) < 0)) = true → (((!t89) = true → stW b1 (o2 + 1) [.int .i64 n106] (fun (w139 : World) => Cl Try.prog 79 ([.pointer (some ⟨b1, o2, none⟩)]) w139 (retG (fun (r141 : Value) (w140 : World) => r141 = .tuple #[] ∧ R (.returned (.slice none 0 0)) w140) (fun c w => R (.panicked c) w))) w137) ∧ ((!t89) = false → (((decide ((IntKind.wrap .i64 (byteAt s108 (Int.toNat n109)) : Int) < n88)) = true → stW b1 (o2 + 1) [.int .i64 n106] (fun (w142 : World) => Cl Try.prog 79 ([.pointer (some ⟨b1, o2, none⟩)]) w142 (retG (fun (r144 : Value) (w143 : World) => r144 = .tuple #[] ∧ R (.returned (.slice none 0 0)) w143) (fun c w => R (.panicked c) w))) w137) ∧ ((decide ((IntKind.wrap .i64 (byteAt s108 (Int.toNat n109)) : Int) < n88)) = false → ∃ (n145 : Int), cellH w137.heap b1 (o2 + 2) = some (.int .i64 n145) ∧ (((decide ((n145 : Int) < 0)) = true → Cl Try.prog 165 ([.slice a3 l3 c3, .int .i64 n88, .int .i64 (IntKind.wrap .i64 (byteAt s108 (Int.toNat n109)))]) w137 (retG (fun (r147 : Value) (w146 : World) => r147 = .tuple #[] ∧ (∃ (m148 : Nat), m148 < k9 ∧ I8 m148 (IntKind.wrap .i64 (n13 + 1)) w146)) (fun c w => R (.panicked c) w))) ∧ ((decide ((n145 : Int) < 0)) = false → (∃ (m149 : Nat), m149 < k9 ∧ I8 m149 (IntKind.wrap .i64 (n13 + 1)) w137)))))))) ∧ ((decide ((n138 : Int) < 0)) = false → ∃ (n150 : Int), cellH w137.heap b1 (o2 + 2) = some (.int .i64 n150) ∧ (((decide ((n150 : Int) < 0)) = true → Cl Try.prog 165 ([.slice a3 l3 c3, .int .i64 n88, .int .i64 (IntKind.wrap .i64 (byteAt s108 (Int.toNat n109)))]) w137 (retG (fun (r152 : Value) (w151 : World) => r152 = .tuple #[] ∧ (∃ (m153 : Nat), m153 < k9 ∧ I8 m153 (IntKind.wrap .i64 (n13 + 1)) w151)) (fun c w => R (.panicked c) w))) ∧ ((decide ((n150 : Int) < 0)) = false → (∃ (m154 : Nat), m154 < k9 ∧ I8 m154 (IntKind.wrap .i64 (n13 + 1)) w137)))))) w111))) (fun c w => R (.panicked c) w))) w105) w91))))))))))) w90) (fun c w => R (.panicked c) w))) (fun c w => R (.panicked c) w))
def scr164 : Scr := (.run [0] (.close (.run [0, 1] (.close (.run [0, 1, 2] (.close (.run [0] (.close (.loop [(5, some (.int .i64)), (2, none), (6, none), (7, none), (8, none), (9, none), (14, none), (15, none), (16, none), (17, none), (18, none), (19, none), (20, none), (21, none), (22, none), (23, none), (24, none), (25, none), (26, none), (27, none), (28, none), (29, none), (30, none), (31, none), (32, none), (33, none), (34, none), (35, none), (36, none), (37, none), (38, none), (39, none), (40, none), (41, none), (42, none), (43, none), (44, none), (45, none), (46, none), (47, none), (48, none), (49, none), (50, none), (51, none), (52, none), (53, none), (54, none), (55, none), (56, none), (57, none), (58, none), (59, none), (60, none), (61, none), (62, none), (63, none), (64, none), (65, none), (66, none), (67, none), (68, none), (69, none), (70, none), (71, none), (72, none), (73, none), (74, none), (75, none), (76, none), (77, none), (78, none), (79, none), (80, none), (81, none), (82, none), (83, none), (84, none), (85, none), (86, none), (87, none), (88, none), (89, none), (90, none), (91, none), (92, none), (93, none), (94, none), (95, none), (96, none), (97, none), (98, none), (99, none), (100, none), (101, none), (102, none), (103, none), (104, none), (105, none), (106, none), (107, none), (108, none), (109, none), (110, none), (111, none), (112, none), (113, none), (114, none), (115, none), (116, none), (117, none), (118, none), (119, none), (120, none), (121, none), (122, none), (123, none), (124, none), (125, none), (126, none), (127, none), (128, none), (129, none), (130, none), (131, none), (132, none), (133, none), (134, none), (135, none), (136, none), (137, none), (138, none), (139, none), (140, none), (141, none), (142, none), (143, none), (144, none), (145, none), (146, none), (147, none), (148, none), (149, none), (150, none), (151, none), (152, none), (153, none), (154, none), (155, none), (156, none), (157, none), (158, none), (159, none), (160, none), (161, none), (162, none), (163, none), (164, none), (165, none), (166, none), (167, none), (168, none), (169, none), (170, none), (171, none), (172, none), (173, none)] (.cutS [(14, none), (15, none), (16, none), (17, none), (18, none), (19, none), (20, none), (21, none), (22, none), (23, none), (24, none), (25, none), (26, none), (27, none), (28, none), (29, none), (30, none), (31, none)] (.run [0, 1, 2] (.split 16 (.run [3, 4, 5, 6, 7, 8, 9, 10, 11, 12, 13] (.split 27 (.run [14, 15, 16, 17] (.close (.lit .nil))) (.run [14, 15, 16, 17] (.close (.cond .nil (.run [0, 1, 2] (.close (.cond (.run [0, 1] (.close (.run [0] (.close .nil)))) (.run [0] (.close (.cond (.run [0, 1, 2] (.close (.loop [(182, some (.int .i64)), (10, none), (183, none), (184, none), (185, none), (186, none), (187, none), (188, none), (189, none), (190, none), (191, none), (192, none), (193, none)] (.run [0] (.close (.cond (.run [0, 1] (.close (.run [0, 1, 2, 3, 4, 5, 6, 7, 8] (.close (.run [0, 1] (.close .nil)))))) (.run [0, 1, 2] (.close .nil)))))))) (.run [0, 1, 2] (.close .nil))))))))))))) (.run [3, 4, 5, 6, 7, 8, 9, 10, 11, 12, 13, 14, 15, 16, 17] (.close (.lit (.run [0, 1, 2] (.close (.cond (.run [0, 1] (.close (.run [0] (.close .nil)))) (.run [0] (.close (.cond (.run [0, 1, 2] (.close (.loop [(182, some (.int .i64)), (10, none), (183, none), (184, none), (185, none), (186, none), (187, none), (188, none), (189, none), (190, none), (191, none), (192, none), (193, none)] (.run [0] (.close (.cond (.run [0, 1] (.close (.run [0, 1, 2, 3, 4, 5, 6, 7, 8] (.close (.run [0, 1] (.close .nil)))))) (.run [0, 1, 2] (.close .nil)))))))) (.run [0, 1, 2] (.close .nil))))))))))))) (.run [0, 1, 2] (.close (.run [0] (.close (.run [0] (.close (.run [0, 1] (.close (.cut [(6, some (.int .i64)), (7, some .bool), (36, none), (37, none), (38, none), (39, none), (40, none), (41, none), (42, none), (43, none), (44, none), (45, none), (46, none), (47, none), (48, none), (49, none), (50, none), (51, none), (52, none), (53, none), (54, none), (55, none), (56, none), (57, none), (58, none), (59, none), (60, none), (61, none)] (.cond (.run [0, 1, 2, 3, 4, 5, 6, 7] (.close .nil)) (.run [0, 1, 2, 3, 4, 5, 6, 7, 8, 9, 10] (.close (.run [0, 1, 2, 3] (.close (.run [0, 1, 2, 3, 4, 5, 6, 7] (.close .nil))))))) (.run [0, 1, 2] (.split 64 (.run [3, 4, 5, 6, 7, 8, 9, 10, 11, 12, 13, 14, 15, 16, 17, 18, 19, 20, 21, 22, 23, 24, 25, 26, 27, 28, 29, 30, 31, 32, 33, 34, 35, 36, 37, 38, 39, 40, 41, 42, 43, 44, 45, 46] (.close (.lit .nil))) (.run [3, 4, 5, 6, 7, 8, 9, 10, 11, 12, 13, 14, 15] (.split 77 (.run [16, 17, 18, 19, 20, 21, 22, 23, 24, 25, 26, 27, 28, 29, 30, 31, 32, 33, 34, 35, 36, 37, 38, 39, 40, 41, 42, 43, 44, 45, 46] (.close (.lit .nil))) (.run [16, 17, 18, 19, 20, 21, 22] (.split 84 (.run [23, 24, 25, 26, 27, 28, 29, 30, 31, 32, 33, 34, 35, 36, 37, 38, 39, 40, 41, 42, 43, 44, 45, 46] (.close (.lit .nil))) (.run [23, 24, 25, 26, 27, 28, 29, 30, 31, 32, 33, 34] (.split 96 (.run [35, 36, 37, 38, 39, 40, 41, 42, 43, 44, 45, 46] (.close (.lit .nil))) (.run [35, 36, 37, 38, 39, 40, 41, 42, 43, 44, 45, 46] (.close (.cond .nil (.run [0, 1, 2, 3, 4, 5, 6, 7] (.close (.run [0, 1, 2, 3, 4] (.close (.run [0, 1, 2, 3, 4, 5, 6, 7, 8, 9, 10] (.close (.run [0, 1] (.close (.cond (.run [0, 1, 2, 3, 4, 5, 6, 7] (.close (.run [0, 1, 2, 3, 4, 5] (.split 150 (.run [6, 7, 8] (.split 153 (.run [9, 10, 11, 12, 13] (.close (.lit (.run [0, 1, 2, 3, 4] (.close (.run [0, 1] (.close (.run [0] (.close .nil))))))))) (.run [9, 10, 11, 12, 13] (.close (.cond (.run [0, 1, 2, 3, 4] (.close (.run [0, 1] (.close (.run [0] (.close .nil)))))) (.run [0, 1, 2, 3, 4] (.close (.cond (.run [0, 1, 2, 3] (.close .nil)) .nil)))))))) (.run [6, 7, 8, 9, 10, 11, 12, 13] (.close (.lit (.run [0, 1, 2, 3, 4] (.close (.cond (.run [0, 1, 2, 3] (.close .nil)) .nil)))))))))) (.run [0, 1, 2, 3, 4, 5, 6, 7] (.close (.run [0, 1, 2, 3, 4, 5] (.split 150 (.run [6, 7, 8] (.split 153 (.run [9, 10, 11, 12, 13] (.close (.lit (.run [0, 1, 2, 3, 4] (.close (.run [0, 1] (.close (.run [0] (.close .nil))))))))) (.run [9, 10, 11, 12, 13] (.close (.cond (.run [0, 1, 2, 3, 4] (.close (.run [0, 1] (.close (.run [0] (.close .nil)))))) (.run [0, 1, 2, 3, 4] (.close (.cond (.run [0, 1, 2, 3] (.close .nil)) .nil)))))))) (.run [6, 7, 8, 9, 10, 11, 12, 13] (.close (.lit (.run [0, 1, 2, 3, 4] (.close (.cond (.run [0, 1, 2, 3] (.close .nil)) .nil)))))))))))))))))))))))))))))))))))))))))))))))))
theorem vc164 {b1 : Nat} {o2 : Nat} {R : Ending → World → Prop} {w : World} (h : V164 b1 o2 R w) : Cl Try.prog 164 [.pointer (some ⟨b1, o2, none⟩)] w R :=
  cl_of scr164 Try.func164 (by kernel_rfl) [.pointer (some ⟨b1, o2, none⟩)] (V164 b1 o2 R) (by kernel_rfl) h
/-- (*spec.l1R).piece -/
def V128 (b1 : Nat) (o2 : Nat) (n3 : Int) (R : Ending → World → Prop) : World → Prop := fun w =>
  Cl Try.prog 149 ([.pointer (some ⟨b1, o2, none⟩), .int .i64 n3]) w (retG (fun (r6 : Value) (w5 : World) => ∃ (n4 : Int), r6 = .int .i64 n4 ∧ newC [.int .i64 0, .slice none 0 0, .int .i64 0, .int .i64 0, .bool false, .int .i64 0, .slice none 0 0] 111 (fun (b7 : Nat) (w8 : World) => stW b7 0 [.int .i64 4, .slice none 0 0, .int .i64 0, .int .i64 (-1), .bool false, .int .i64 0, .slice none 0 0] (fun (w9 : World) => Cl Try.prog 112 ([.pointer (some ⟨b1, o2, none⟩), .int .u8 42]) w9 (retG (fun (r12 : Value) (w11 : World) => ∃ (t10 : Bool), r12 = .bool t10 ∧ ∃ (J13 : World → Prop), (((t10 = true → J13  w11) ∧ (t10 = false → Cl Try.prog 112 ([.pointer (some ⟨b1, o2, none⟩), .int .u8 43]) w11 (retG (fun (r16 : Value) (w15 : World) => ∃ (t14 : Bool), r16 = .bool t14 ∧ ((t14 = true → stW b7 2 [.int .i64 1] (fun (w17 : World) => J13  w17) w15) ∧ (t14 = false → Cl Try.prog 112 ([.pointer (some ⟨b1, o2, none⟩), .int .u8 63]) w15 (retG (fun (r20 : Value) (w19 : World) => ∃ (t18 : Bool), r20 = .bool t18 ∧ ((t18 = true → stW b7 3 [.int .i64 1] (fun (w21 : World) => J13  w21) w19) ∧ (t18 = false → Cl Try.prog 112 ([.pointer (some ⟨b1, o2, none⟩), .int .u8 123]) w19 (retG (fun (r24 : Value) (w23 : World) => ∃ (t22 : Bool), r24 = .bool t22 ∧ ((t22 = true → Cl Try.prog 150 ([.pointer (some ⟨b1, o2, none⟩)]) w23 (retG (fun (r28 : Value) (w27 : World) => ∃ (n25 : Int), ∃ (n26 : Int), r28 = .tuple #[.int .i64 n25, .int .i64 n26] ∧ stW b7 2 [.int .i64 n25] (fun (w29 : World) => stW b7 3 [.int .i64 n26] (fun (w30 : World) => J13  w30) w29) w27) (fun c w => R (.panicked c) w))) ∧ (t22 = false → R (.returned (.int .i64 n4)) w23))) (fun c w => R (.panicked c) w))))) (fun c w => R (.panicked c) w))))) (fun c w => R (.panicked c) w))))) ∧ ∀ (d31 : Nat → Value) (w32 : World), J13  w32 → Cl Try.prog 112 ([.pointer (some ⟨b1, o2, none⟩), .int .u8 63]) w32 (retG (fun (r35 : Value) (w34 : World) => ∃ (t33 : Bool), r35 = .bool t33 ∧ stW b7 4 [.bool t33] (fun (w36 : World) => newC [.int .i64 n4] 3 (fun (b37 : Nat) (w38 : World) => stW b7 6 [.slice (some ⟨b37, 0, none⟩) 1 1] (fun (w39 : World) => ∃ (n40 : Int), cellH w39.heap b7 0 = some (.int .i64 n40) ∧ ∃ (a41 : Option Addr), ∃ (l41 : Nat), ∃ (c41 : Nat), cellH w39.heap b7 1 = some (.slice a41 l41 c41) ∧ ∃ (n42 : Int), cellH w39.heap b7 2 = some (.int .i64 n42) ∧ ∃ (n43 : Int), cellH w39.heap b7 3 = some (.int .i64 n43) ∧ ∃ (t44 : Bool), cellH w39.heap b7 4 = some (.bool t44) ∧ ∃ (n45 : Int), cellH w39.heap b7 5 = some (.int .i64 n45) ∧ ∃ (a46 : Option Addr), ∃ (l46 : Nat), ∃ (c46 : Nat), cellH w39.heap b7 6 = some (.slice a46 l46 c46) ∧ Cl Try.prog 113 ([.pointer (some ⟨b1, o2, none⟩), .agg #[.int .i64 n40, .slice a41 l41 c41, .int .i64 n42, .int .i64 n43, .bool t44, .int .i64 n45, .slice a46 l46 c46]]) w39 (retG (fun (r49 : Value) (w48 : World) => ∃ (n47 : Int), r49 = .int .i64 n47 ∧ R (.returned (.int .i64 n47)) w48) (fun c w => R (.panicked c) w))) w38) w36) w34) (fun c w => R (.panicked c) w))) (fun c w => R (.panicked c) w))) w8) w5) (fun c w => R (.panicked c) w))
def scr128 : Scr := (.run [0] (.close (.run [0, 1, 2, 3] (.close (.run [0, 1, 2] (.close (.run [0, 1, 2] (.close (.cut [(4, none), (11, none), (15, none), (16, none), (17, none), (18, none), (19, none), (20, none), (21, none), (22, none), (23, none), (24, none), (25, none), (26, none), (27, none), (28, none), (29, none), (30, none), (31, none), (32, none)] (.cond .nil (.run [0, 1, 2] (.close (.cond (.run [0, 1] (.close .nil)) (.run [0, 1, 2] (.close (.cond (.run [0, 1] (.close .nil)) (.run [0, 1, 2] (.close (.cond (.run [0, 1, 2, 3, 4, 5, 6, 7, 8] (.close .nil)) (.run [0, 1] (.close .nil)))))))))))) (.run [0, 1, 2, 3] (.close (.run [0, 1, 2, 3] (.close (.run [0, 1, 2, 3] (.close .nil)))))))))))))))
theorem vc128 {b1 : Nat} {o2 : Nat} {n3 : Int} {R : Ending → World → Prop} {w : World} (h : V128 b1 o2 n3 R w) : Cl Try.prog 128 [.pointer (some ⟨b1, o2, none⟩), .int .i64 n3] w R :=
  cl_of scr128 Try.func128 (by kernel_rfl) [.pointer (some ⟨b1, o2, none⟩), .int .i64 n3] (V128 b1 o2 n3 R) (by kernel_rfl) h
/-- (*spec.l1R).atom -/
def V149 (b1 : Nat) (o2 : Nat) (n3 : Int) (R : Ending → World → Prop) : World → Prop := fun w =>
  drw (fun (w4 : World) => ∃ (s5 : ByteArray), cellH w4.heap b1 o2 = some (.string s5) ∧ ∃ (n6 : Int), cellH w4.heap b1 (o2 + 1) = some (.int .i64 n6) ∧ (0 ≤ (n6 : Int) ∧ (n6 : Int) < ((ByteArray.size s5 : Nat) : Int)) ∧ ∃ (a7 : Option Addr), ∃ (l7 : Nat), ∃ (c7 : Nat), ∃ (w8 : World), (Instr.makeSlice 59 (.int .i64 256) (.int .i64 256)).run Try.prog w4 = .ok (.slice a7 l7 c7) w8 ∧ ((((byteAt s5 (Int.toNat n6) : Int) == 40) = true → ∃ (n9 : Int), cellH w8.heap b1 (o2 + 3) = some (.int .i64 n9) ∧ ((((n9 : Int) == 9) = true → Cl Try.prog 79 ([.pointer (some ⟨b1, o2, none⟩)]) w8 (retG (fun (r11 : Value) (w10 : World) => r11 = .tuple #[] ∧ R (.returned (.int .i64 0)) w10) (fun c w => R (.panicked c) w))) ∧ (((n9 : Int) == 9) = false → ((((n3 : Int) == 6) = true → Cl Try.prog 79 ([.pointer (some ⟨b1, o2, none⟩)]) w8 (retG (fun (r13 : Value) (w12 : World) => r13 = .tuple #[] ∧ R (.returned (.int .i64 0)) w12) (fun c w => R (.panicked c) w))) ∧ (((n3 : Int) == 6) = false → ∃ (n14 : Int), cellH w8.heap b1 (o2 + 1) = some (.int .i64 n14) ∧ stW b1 (o2 + 1) [.int .i64 (IntKind.wrap .i64 (n14 + 1))] (fun (w15 : World) => ∃ (n16 : Int), cellH w15.heap b1 (o2 + 3) = some (.int .i64 n16) ∧ stW b1 (o2 + 3) [.int .i64 (IntKind.wrap .i64 (n16 + 1))] (fun (w17 : World) => ∃ (n18 : Int), cellH w17.heap b1 (o2 + 3) = some (.int .i64 n18) ∧ Cl Try.prog 77 ([.pointer (some ⟨b1, o2, none⟩), .int .i64 (IntKind.wrap .i64 (n3 + 1))]) w17 (retG (fun (r21 : Value) (w20 : World) => ∃ (n19 : Int), r21 = .int .i64 n19 ∧ Cl Try.prog 112 ([.pointer (some ⟨b1, o2, none⟩), .int .u8 41]) w20 (retG (fun (r24 : Value) (w23 : World) => ∃ (t22 : Bool), r24 = .bool t22 ∧ (((!t22) = true → Cl Try.prog 79 ([.pointer (some ⟨b1, o2, none⟩)]) w23 (retG (fun (r26 : Value) (w25 : World) => r26 = .tuple #[] ∧ newC [.int .i64 n19] 3 (fun (b27 : Nat) (w28 : World) => Cl Try.prog 113 ([.pointer (some ⟨b1, o2, none⟩), .agg #[.int .i64 5, .slice none 0 0, .int .i64 0, .int .i64 0, .bool false, .int .i64 n18, .slice (some ⟨b27, 0, none⟩) 1 1]]) w28 (retG (fun (r31 : Value) (w30 : World) => ∃ (n29 : Int), r31 = .int .i64 n29 ∧ R (.returned (.int .i64 n29)) w30) (fun c w => R (.panicked c) w))) w25) (fun c w => R (.panicked c) w))) ∧ ((!t22) = false → newC [.int .i64 n19] 3 (fun (b32 : Nat) (w33 : World) => Cl Try.prog 113 ([.pointer (some ⟨b1, o2, none⟩), .agg #[.int .i64 5, .slice none 0 0, .int .i64 0, .int .i64 0, .bool false, .int .i64 n18, .slice (some ⟨b32, 0, none⟩) 1 1]]) w33 (retG (fun (r36 : Value) (w35 : World) => ∃ (n34 : Int), r36 = .int .i64 n34 ∧ R (.returned (.int .i64 n34)) w35) (fun c w => R (.panicked c) w))) w23))) (fun c w => R (.panicked c) w))) (fun c w => R (.panicked c) w))) w15) w8))))) ∧ (((byteAt s5 (Int.toNat n6) : Int) == 40) = false → ((((byteAt s5 (Int.toNat n6) : Int) == 91) = true → ∃ (n37 : Int), cellH w8.heap b1 (o2 + 1) = some (.int .i64 n37) ∧ stW b1 (o2 + 1) [.int .i64 (IntKind.wrap .i64 (n37 + 1))] (fun (w38 : World) => Cl Try.prog 164 ([.pointer (some ⟨b1, o2, none⟩)]) w38 (retG (fun (r41 : Value) (w40 : World) => ∃ (a39 : Option Addr), ∃ (l39 : Nat), ∃ (c39 : Nat), r41 = .slice a39 l39 c39 ∧ Cl Try.prog 113 ([.pointer (some ⟨b1, o2, none⟩), .agg #[.int .i64 1, .slice a39 l39 c39, .int .i64 0, .int .i64 0, .bool false, .int .i64 0, .slice none 0 0]]) w40 (retG (fun (r44 : Value) (w43 : World) => ∃ (n42 : Int), r44 = .int .i64 n42 ∧ R (.returned (.int .i64 n42)) w43) (fun c w => R (.panicked c) w))) (fun c w => R (.panicked c) w))) w8) ∧ (((byteAt s5 (Int.toNat n6) : Int) == 91) = false → ((((byteAt s5 (Int.toNat n6) : Int) == 94) = true → ∃ (n45 : Int), cellH w8.heap b1 (o2 + 1) = some (.int .i64 n45) ∧ stW b1 (o2 + 1) [.int .i64 (IntKind.wrap .i64 (n45 + 1))] (fun (w46 : World) => Cl Try.prog 113 ([.pointer (some ⟨b1, o2, none⟩), .agg #[.int .i64 6, .slice none 0 0, .int .i64 0, .int .i64 0, .bool false, .int .i64 0, .slice none 0 0]]) w46 (retG (fun (r49 : Value) (w48 : World) => ∃ (n47 : Int), r49 = .int .i64 n47 ∧ R (.returned (.int .i64 n47)) w48) (fun c w => R (.panicked c) w))) w8) ∧ (((byteAt s5 (Int.toNat n6) : Int) == 94) = false → ((((byteAt s5 (Int.toNat n6) : Int) == 36) = true → ∃ (n50 : Int), cellH w8.heap b1 (o2 + 1) = some (.int .i64 n50) ∧ stW b1 (o2 + 1) [.int .i64 (IntKind.wrap .i64 (n50 + 1))] (fun (w51 : World) => Cl Try.prog 113 ([.pointer (some ⟨b1, o2, none⟩), .agg #[.int .i64 7, .slice none 0 0, .int .i64 0, .int .i64 0, .bool false, .int .i64 0, .slice none 0 0]]) w51 (retG (fun (r54 : Value) (w53 : World) => ∃ (n52 : Int), r54 = .int .i64 n52 ∧ R (.returned (.int .i64 n52)) w53) (fun c w => R (.panicked c) w))) w8) ∧ (((byteAt s5 (Int.toNat n6) : Int) == 36) = false → ((((byteAt s5 (Int.toNat n6) : Int) == 46) = true → Cl Try.prog 165 ([.slice a7 l7 c7, .int .i64 0, .int .i64 255]) w8 (retG (fun (r56 : Value) (w55 : World) => r56 = .tuple #[] ∧ ∃ (b57 : Nat) (o58 : Nat), ((a7 : Option Addr) = some ⟨b57, o58, none⟩ ∧ 0 ≤ (10 : Int) ∧ (10 : Int) < ((l7 : Nat) : Int)) ∧ stW b57 (o58 + 10) [.bool false] (fun (w59 : World) => ∃ (n60 : Int), cellH w59.heap b1 (o2 + 1) = some (.int .i64 n60) ∧ stW b1 (o2 + 1) [.int .i64 (IntKind.wrap .i64 (n60 + 1))] (fun (w61 : World) => Cl Try.prog 167 ([.slice a7 l7 c7]) w61 (retG (fun (r64 : Value) (w63 : World) => ∃ (a62 : Option Addr), ∃ (l62 : Nat), ∃ (c62 : Nat), r64 = .slice a62 l62 c62 ∧ Cl Try.prog 113 ([.pointer (some ⟨b1, o2, none⟩), .agg #[.int .i64 1, .slice a62 l62 c62, .int .i64 0, .int .i64 0, .bool false, .int .i64 0, .slice none 0 0]]) w63 (retG (fun (r67 : Value) (w66 : World) => ∃ (n65 : Int), r67 = .int .i64 n65 ∧ R (.returned (.int .i64 n65)) w66) (fun c w => R (.panicked c) w))) (fun c w => R (.panicked c) w))) w59) w55) (fun c w => R (.panicked c) w))) ∧ (((byteAt s5 (Int.toNat n6) : Int) == 46) = false → ((((byteAt s5 (Int.toNat n6) : Int) == 92) = true → ∃ (n68 : Int), cellH w8.heap b1 (o2 + 1) = some (.int .i64 n68) ∧ stW b1 (o2 + 1) [.int .i64 (IntKind.wrap .i64 (n68 + 1))] (fun (w69 : World) => Cl Try.prog 166 ([.pointer (some ⟨b1, o2, none⟩), .slice a7 l7 c7]) w69 (retG (fun (r73 : Value) (w72 : World) => ∃ (n70 : Int), ∃ (t71 : Bool), r73 = .tuple #[.int .i64 n70, .bool t71] ∧ Cl Try.prog 167 ([.slice a7 l7 c7]) w72 (retG (fun (r76 : Value) (w75 : World) => ∃ (a74 : Option Addr), ∃ (l74 : Nat), ∃ (c74 : Nat), r76 = .slice a74 l74 c74 ∧ Cl Try.prog 113 ([.pointer (some ⟨b1, o2, none⟩), .agg #[.int .i64 1, .slice a74 l74 c74, .int .i64 0, .int .i64 0, .bool false, .int .i64 0, .slice none 0 0]]) w75 (retG (fun (r79 : Value) (w78 : World) => ∃ (n77 : Int), r79 = .int .i64 n77 ∧ R (.returned (.int .i64 n77)) w78) (fun c w => R (.panicked c) w))) (fun c w => R (.panicked c) w))) (fun c w => R (.panicked c) w))) w8) ∧ (((byteAt s5 (Int.toNat n6) : Int) == 92) = false → ((((byteAt s5 (Int.toNat n6) : Int) == 42) = true → Cl Try.prog 79 ([.pointer (some ⟨b1, o2, none⟩)]) w8 (retG (fun (r81 : Value) (w80 : World) => r81 = .tuple #[] ∧ R (.returned (.int .i64 0)) w80) (fun c w => R (.panicked c) w))) ∧ (((byteAt s5 (Int.toNat n6) : Int) == 42) = false → ((((byteAt s5 (Int.toNat n6) : Int) == 43) = true → Cl Try.prog 79 ([.pointer (some ⟨b1, o2, none⟩)]) w8 (retG (fun (r83 : Value) (w82 : World) => r83 = .tuple #[] ∧ R (.returned (.int .i64 0)) w82) (fun c w => R (.panicked c) w))) ∧ (((byteAt s5 (Int.toNat n6) : Int) == 43) = false → ((((byteAt s5 (Int.toNat n6) : Int) == 63) = true → Cl Try.prog 79 ([.pointer (some ⟨b1, o2, none⟩)]) w8 (retG (fun (r85 : Value) (w84 : World) => r85 = .tuple #[] ∧ R (.returned (.int .i64 0)) w84) (fun c w => R (.panicked c) w))) ∧ (((byteAt s5 (Int.toNat n6) : Int) == 63) = false → ((((byteAt s5 (Int.toNat n6) : Int) == 123) = true → Cl Try.prog 79 ([.pointer (some ⟨b1, o2, none⟩)]) w8 (retG (fun (r87 : Value) (w86 : World) => r87 = .tuple #[] ∧ R (.returned (.int .i64 0)) w86) (fun c w => R (.panicked c) w))) ∧ (((byteAt s5 (Int.toNat n6) : Int) == 123) = false → ((((byteAt s5 (Int.toNat n6) : Int) == 125) = true → Cl Try.prog 79 ([.pointer (some ⟨b1, o2, none⟩)]) w8 (retG (fun (r89 : Value) (w88 : World) => r89 = .tuple #[] ∧ R (.returned (.int .i64 0)) w88) (fun c w => R (.panicked c) w))) ∧ (((byteAt s5 (Int.toNat n6) : Int) == 125) = false → ((((byteAt s5 (Int.toNat n6) : Int) == 93) = true → Cl Try.prog 79 ([.pointer (some ⟨b1, o2, none⟩)]) w8 (retG (fun (r91 : Value) (w90 : World) => r91 = .tuple #[] ∧ R (.returned (.int .i64 0)) w90) (fun c w => R (.panicked c) w))) ∧ (((byteAt s5 (Int.toNat n6) : Int) == 93) = false → ∃ (b92 : Nat) (o93 : Nat), ((a7 : Option Addr) = some ⟨b92, o93, none⟩ ∧ 0 ≤ (IntKind.wrap .i64 (byteAt s5 (Int.toNat n6)) : Int) ∧ (IntKind.wrap .i64 (byteAt s5 (Int.toNat n6)) : Int) < ((l7 : Nat) : Int)) ∧ stW b92 (o93 + (Int.toNat (IntKind.wrap .i64 (byteAt s5 (Int.toNat n6)))) * 1) [.bool true] (fun (w94 : World) => ∃ (n95 : Int), cellH w94.heap b1 (o2 + 1) = some (.int .i64 n95) ∧ stW b1 (o2 + 1) [.int .i64 (IntKind.wrap .i64 (n95 + 1))] (fun (w96 : World) => Cl Try.prog 167 ([.slice a7 l7 c7]) w96 (retG (fun (r99 : Value) (w98 : World) => ∃ (a97 : Option Addr), ∃ (l97 : Nat), ∃ (c97 : Nat), r99 = .slice a97 l97 c97 ∧ Cl Try.prog 113 ([.pointer (some ⟨b1, o2, none⟩), .agg #[.int .i64 1, .slice a97 l97 c97, .int .i64 0, .int .i64 0, .bool false, .int .i64 0, .slice none 0 0]]) w98 (retG (fun (r102 : Value) (w101 : World) => ∃ (n100 : Int), r102 = .int .i64 n100 ∧ R (.returned (.int .i64 n100)) w101) (fun c w => R (.panicked c) w))) (fun c w => R (.panicked c) w))) w94) w8))))))))))))))))))))))))) w
def scr149 : Scr := (.run [0] (.close (.run [0, 1, 2, 3, 4, 5, 6, 7, 8, 9] (.close (.run [0, 1] (.close (.run [0] (.close (.run [0, 1] (.close (.cond (.run [0, 1, 2, 3, 4, 5] (.split 32 (.run [6, 7, 8] (.close (.lit (.run [0, 1] (.close (.run [0] (.close .nil))))))) (.run [6, 7, 8] (.close (.cond (.run [0, 1] (.close (.run [0] (.close .nil)))) (.run [0, 1, 2, 3, 4, 5, 6, 7] (.close (.run [0, 1, 2, 3, 4, 5, 6, 7] (.close (.run [0, 1, 2, 3, 4] (.close (.run [0, 1, 2, 3, 4] (.close (.run [0, 1, 2] (.close (.cond (.run [0, 1] (.close (.run [0, 1, 2, 3, 4, 5, 6] (.close .nil)))) (.run [0, 1, 2, 3, 4, 5, 6] (.close .nil)))))))))))))))))) (.run [0, 1] (.close (.cond (.run [0, 1, 2, 3, 4, 5, 6, 7] (.close (.run [0, 1, 2] (.close (.run [0, 1, 2, 3, 4] (.close .nil)))))) (.run [0, 1] (.close (.cond (.run [0, 1, 2, 3, 4, 5, 6, 7] (.close (.run [0, 1, 2, 3] (.close .nil)))) (.run [0, 1] (.close (.cond (.run [0, 1, 2, 3, 4, 5, 6, 7] (.close (.run [0, 1, 2, 3] (.close .nil)))) (.run [0, 1] (.close (.cond (.run [0, 1] (.close (.run [0, 1, 2] (.close (.run [0, 1, 2, 3, 4, 5, 6, 7] (.close (.run [0, 1, 2, 3, 4, 5] (.close .nil)))))))) (.run [0, 1] (.close (.cond (.run [0, 1, 2, 3, 4, 5, 6, 7] (.close (.run [0, 1, 2] (.close (.run [0, 1, 2, 3, 4, 5] (.close .nil)))))) (.run [0, 1] (.close (.cond (.lit (.run [0, 1] (.close (.run [0] (.close .nil))))) (.run [0, 1] (.close (.cond (.lit (.run [0, 1] (.close (.run [0] (.close .nil))))) (.run [0, 1] (.close (.cond (.lit (.run [0, 1] (.close (.run [0] (.close .nil))))) (.run [0, 1] (.close (.cond (.lit (.run [0, 1] (.close (.run [0] (.close .nil))))) (.run [0, 1] (.close (.cond (.lit (.run [0, 1] (.close (.run [0] (.close .nil))))) (.run [0, 1] (.close (.cond (.run [0, 1] (.close (.run [0] (.close .nil)))) (.run [0, 1, 2, 3, 4] (.close (.run [0, 1, 2, 3, 4, 5, 6, 7] (.close (.run [0, 1, 2, 3, 4, 5] (.close .nil))))))))))))))))))))))))))))))))))))))))))))))))))
theorem vc149 {b1 : Nat} {o2 : Nat} {n3 : Int} {R : Ending → World → Prop} {w : World} (h : V149 b1 o2 n3 R w) : Cl Try.prog 149 [.pointer (some ⟨b1, o2, none⟩), .int .i64 n3] w R :=
  cl_of scr149 Try.func149 (by kernel_rfl) [.pointer (some ⟨b1, o2, none⟩), .int .i64 n3] (V149 b1 o2 n3 R) (by kernel_rfl) h
/-- (*spec.l1R).seq -/
def V111 (b1 : Nat) (o2 : Nat) (n3 : Int) (R : Ending → World → Prop) : World → Prop := fun w =>
  newC [.int .i64 0, .slice none 0 0, .int .i64 0, .int .i64 0, .bool false, .int .i64 0, .slice none 0 0] 111 (fun (b4 : Nat) (w5 : World) => stW b4 0 [.int .i64 2, .slice none 0 0, .int .i64 0, .int .i64 0, .bool false, .int .i64 0, .slice none 0 0] (fun (w6 : World) => ∃ (I7 : Nat → World → Prop), (∃ (k9 : Nat), I7 k9  w6) ∧ ∀ (k8 : Nat) (d11 : Nat → Value) (w10 : World), I7 k8  w10 → drw (fun (w12 : World) => Cl Try.prog 78 ([.pointer (some ⟨b1, o2, none⟩)]) w12 (retG (fun (r15 : Value) (w14 : World) => ∃ (t13 : Bool), r15 = .bool t13 ∧ ((t13 = true → ∃ (s16 : ByteArray), cellH w14.heap b1 o2 = some (.string s16) ∧ ∃ (n17 : Int), cellH w14.heap b1 (o2 + 1) = some (.int .i64 n17) ∧ (0 ≤ (n17 : Int) ∧ (n17 : Int) < ((ByteArray.size s16 : Nat) : Int)) ∧ ((((byteAt s16 (Int.toNat n17) : Int) != 124) = true → ∃ (s18 : ByteArray), cellH w14.heap b1 o2 = some (.string s18) ∧ ∃ (n19 : Int), cellH w14.heap b1 (o2 + 1) = some (.int .i64 n19) ∧ (0 ≤ (n19 : Int) ∧ (n19 : Int) < ((ByteArray.size s18 : Nat) : Int)) ∧ ((((byteAt s18 (Int.toNat n19) : Int) != 41) = true → Cl Try.prog 128 ([.pointer (some ⟨b1, o2, none⟩), .int .i64 n3]) w14 (retG (fun (r22 : Value) (w21 : World) => ∃ (n20 : Int), r22 = .int .i64 n20 ∧ ∃ (a23 : Option Addr), ∃ (l23 : Nat), ∃ (c23 : Nat), cellH w21.heap b4 6 = some (.slice a23 l23 c23) ∧ newC [.int .i64 n20] 3 (fun (b24 : Nat) (w25 : World) => ∃ (a26 : Option Addr), ∃ (l26 : Nat), ∃ (c26 : Nat), ∃ (w27 : World), (Builtin.append_ #[109, 109] 109 #[.slice a23 l23 c23, .slice (some ⟨b24, 0, none⟩) 1 1]).run Try.prog w25 = .ok (.slice a26 l26 c26) w27 ∧ stW b4 6 [.slice a26 l26 c26] (fun (w28 : World) => (∃ (m29 : Nat), m29 < k8 ∧ I7 m29  w28)) w27) w21) (fun c w => R (.panicked c) w))) ∧ (((byteAt s18 (Int.toNat n19) : Int) != 41) = false → ∃ (n30 : Int), cellH w14.heap b4 0 = some (.int .i64 n30) ∧ ∃ (a31 : Option Addr), ∃ (l31 : Nat), ∃ (c31 : Nat), cellH w14.heap b4 1 = some (.slice a31 l31 c31) ∧ ∃ (n32 : Int), cellH w14.heap b4 2 = some (.int .i64 n32) ∧ ∃ (n33 : Int), cellH w14.heap b4 3 = some (.int .i64 n33) ∧ ∃ (t34 : Bool), cellH w14.heap b4 4 = some (.bool t34) ∧ ∃ (n35 : Int), cellH w14.heap b4 5 = some (.int .i64 n35) ∧ ∃ (a36 : Option Addr), ∃ (l36 : Nat), ∃ (c36 : Nat), cellH w14.heap b4 6 = some (.slice a36 l36 c36) ∧ Cl Try.prog 113 ([.pointer (some ⟨b1, o2, none⟩), .agg #[.int .i64 n30, .slice a31 l31 c31, .int .i64 n32, .int .i64 n33, .bool t34, .int .i64 n35, .slice a36 l36 c36]]) w14 (retG (fun (r39 : Value) (w38 : World) => ∃ (n37 : Int), r39 = .int .i64 n37 ∧ R (.returned (.int .i64 n37)) w38) (fun c w => R (.panicked c) w))))) ∧ (((byteAt s16 (Int.toNat n17) : Int) != 124) = false → ∃ (n40 : Int), cellH w14.heap b4 0 = some (.int .i64 n40) ∧ ∃ (a41 : Option Addr), ∃ (l41 : Nat), ∃ (c41 : Nat), cellH w14.heap b4 1 = some (.slice a41 l41 c41) ∧ ∃ (n42 : Int), cellH w14.heap b4 2 = some (.int .i64 n42) ∧ ∃ (n43 : Int), cellH w14.heap b4 3 = some (.int .i64 n43) ∧ ∃ (t44 : Bool), cellH w14.heap b4 4 = some (.bool t44) ∧ ∃ (n45 : Int), cellH w14.heap b4 5 = some (.int .i64 n45) ∧ ∃ (a46 : Option Addr), ∃ (l46 : Nat), ∃ (c46 : Nat), cellH w14.heap b4 6 = some (.slice a46 l46 c46) ∧ Cl Try.prog 113 ([.pointer (some ⟨b1, o2, none⟩), .agg #[.int .i64 n40, .slice a41 l41 c41, .int .i64 n42, .int .i64 n43, .bool t44, .int .i64 n45, .slice a46 l46 c46]]) w14 (retG (fun (r49 : Value) (w48 : World) => ∃ (n47 : Int), r49 = .int .i64 n47 ∧ R (.returned (.int .i64 n47)) w48) (fun c w => R (.panicked c) w))))) ∧ (t13 = false → ∃ (n50 : Int), cellH w14.heap b4 0 = some (.int .i64 n50) ∧ ∃ (a51 : Option Addr), ∃ (l51 : Nat), ∃ (c51 : Nat), cellH w14.heap b4 1 = some (.slice a51 l51 c51) ∧ ∃ (n52 : Int), cellH w14.heap b4 2 = some (.int .i64 n52) ∧ ∃ (n53 : Int), cellH w14.heap b4 3 = some (.int .i64 n53) ∧ ∃ (t54 : Bool), cellH w14.heap b4 4 = some (.bool t54) ∧ ∃ (n55 : Int), cellH w14.heap b4 5 = some (.int .i64 n55) ∧ ∃ (a56 : Option Addr), ∃ (l56 : Nat), ∃ (c56 : Nat), cellH w14.heap b4 6 = some (.slice a56 l56 c56) ∧ Cl Try.prog 113 ([.pointer (some ⟨b1, o2, none⟩), .agg #[.int .i64 n50, .slice a51 l51 c51, .int .i64 n52, .int .i64 n53, .bool t54, .int .i64 n55, .slice a56 l56 c56]]) w14 (retG (fun (r59 : Value) (w58 : World) => ∃ (n57 : Int), r59 = .int .i64 n57 ∧ R (.returned (.int .i64 n57)) w58) (fun c w => R (.panicked c) w))))) (fun c w => R (.panicked c) w))) w10) w5) w
def scr111 : Scr := (.run [0] (.close (.run [0, 1, 2] (.close (.loop [(6, none), (8, none), (9, none), (10, none), (11, none), (12, none), (13, none), (14, none), (15, none), (16, none), (17, none), (18, none), (19, none), (20, none), (21, none), (22, none), (23, none), (24, none), (25, none), (26, none), (27, none), (28, none), (29, none), (30, none), (31, none), (32, none), (33, none), (34, none), (35, none), (36, none), (37, none), (38, none), (39, none), (40, none), (41, none), (42, none)] (.run [0, 1, 2] (.split 10 (.run [3, 4, 5, 6, 7, 8, 9, 10, 11, 12, 13, 14] (.split 22 (.run [15, 16, 17, 18, 19, 20, 21, 22, 23, 24, 25] (.close (.cond (.run [0, 1, 2, 3] (.close (.run [0, 1, 2, 3, 4, 5, 6] (.close .nil)))) (.run [0, 1, 2, 3] (.close .nil))))) (.run [15, 16, 17, 18, 19, 20, 21, 22, 23, 24, 25] (.close (.lit (.run [0, 1, 2, 3] (.close .nil))))))) (.run [3, 4, 5, 6, 7, 8, 9, 10, 11, 12, 13, 14, 15, 16, 17, 18, 19, 20, 21, 22, 23, 24, 25] (.close (.lit (.run [0, 1, 2, 3] (.close .nil))))))))))))
theorem vc111 {b1 : Nat} {o2 : Nat} {n3 : Int} {R : Ending → World → Prop} {w : World} (h : V111 b1 o2 n3 R w) : Cl Try.prog 111 [.pointer (some ⟨b1, o2, none⟩), .int .i64 n3] w R :=
  cl_of scr111 Try.func111 (by kernel_rfl) [.pointer (some ⟨b1, o2, none⟩), .int .i64 n3] (V111 b1 o2 n3 R) (by kernel_rfl) h
/-- (*spec.l1R).alt -/
def V77 (b1 : Nat) (o2 : Nat) (n3 : Int) (R : Ending → World → Prop) : World → Prop := fun w =>
  Cl Try.prog 111 ([.pointer (some ⟨b1, o2, none⟩), .int .i64 n3]) w (retG (fun (r6 : Value) (w5 : World) => ∃ (n4 : Int), r6 = .int .i64 n4 ∧ drw (fun (w7 : World) => Cl Try.prog 78 ([.pointer (some ⟨b1, o2, none⟩)]) w7 (retG (fun (r10 : Value) (w9 : World) => ∃ (t8 : Bool), r10 = .bool t8 ∧ (((!t8) = true → R (.returned (.int .i64 n4)) w9) ∧ ((!t8) = false → ∃ (s11 : ByteArray), cellH w9.heap b1 o2 = some (.string s11) ∧ ∃ (n12 : Int), cellH w9.heap b1 (o2 + 1) = some (.int .i64 n12) ∧ (0 ≤ (n12 : Int) ∧ (n12 : Int) < ((ByteArray.size s11 : Nat) : Int)) ∧ ((((byteAt s11 (Int.toNat n12) : Int) != 124) = true → R (.returned (.int .i64 n4)) w9) ∧ (((byteAt s11 (Int.toNat n12) : Int) != 124) = false → newC [.int .i64 n4] 3 (fun (b13 : Nat) (w14 : World) => newC [.int .i64 0, .slice none 0 0, .int .i64 0, .int .i64 0, .bool false, .int .i64 0, .slice none 0 0] 111 (fun (b15 : Nat) (w16 : World) => stW b15 0 [.int .i64 3, .slice none 0 0, .int .i64 0, .int .i64 0, .bool false, .int .i64 0, .slice (some ⟨b13, 0, none⟩) 1 1] (fun (w17 : World) => ∃ (I18 : Nat → World → Prop), (∃ (k20 : Nat), I18 k20  w17) ∧ ∀ (k19 : Nat) (d22 : Nat → Value) (w21 : World), I18 k19  w21 → Cl Try.prog 112 ([.pointer (some ⟨b1, o2, none⟩), .int .u8 124]) w21 (retG (fun (r25 : Value) (w24 : World) => ∃ (t23 : Bool), r25 = .bool t23 ∧ ((t23 = true → Cl Try.prog 111 ([.pointer (some ⟨b1, o2, none⟩), .int .i64 n3]) w24 (retG (fun (r28 : Value) (w27 : World) => ∃ (n26 : Int), r28 = .int .i64 n26 ∧ ∃ (a29 : Option Addr), ∃ (l29 : Nat), ∃ (c29 : Nat), cellH w27.heap b15 6 = some (.slice a29 l29 c29) ∧ newC [.int .i64 n26] 3 (fun (b30 : Nat) (w31 : World) => ∃ (a32 : Option Addr), ∃ (l32 : Nat), ∃ (c32 : Nat), ∃ (w33 : World), (Builtin.append_ #[109, 109] 109 #[.slice a29 l29 c29, .slice (some ⟨b30, 0, none⟩) 1 1]).run Try.prog w31 = .ok (.slice a32 l32 c32) w33 ∧ stW b15 6 [.slice a32 l32 c32] (fun (w34 : World) => (∃ (m35 : Nat), m35 < k19 ∧ I18 m35  w34)) w33) w27) (fun c w => R (.panicked c) w))) ∧ (t23 = false → ∃ (n36 : Int), cellH w24.heap b15 0 = some (.int .i64 n36) ∧ ∃ (a37 : Option Addr), ∃ (l37 : Nat), ∃ (c37 : Nat), cellH w24.heap b15 1 = some (.slice a37 l37 c37) ∧ ∃ (n38 : Int), cellH w24.heap b15 2 = some (.int .i64 n38) ∧ ∃ (n39 : Int), cellH w24.heap b15 3 = some (.int .i64 n39) ∧ ∃ (t40 : Bool), cellH w24.heap b15 4 = some (.bool t40) ∧ ∃ (n41 : Int), cellH w24.heap b15 5 = some (.int .i64 n41) ∧ ∃ (a42 : Option Addr), ∃ (l42 : Nat), ∃ (c42 : Nat), cellH w24.heap b15 6 = some (.slice a42 l42 c42) ∧ Cl Try.prog 113 ([.pointer (some ⟨b1, o2, none⟩), .agg #[.int .i64 n36, .slice a37 l37 c37, .int .i64 n38, .int .i64 n39, .bool t40, .int .i64 n41, .slice a42 l42 c42]]) w24 (retG (fun (r45 : Value) (w44 : World) => ∃ (n43 : Int), r45 = .int .i64 n43 ∧ R (.returned (.int .i64 n43)) w44) (fun c w => R (.panicked c) w))))) (fun c w => R (.panicked c) w))) w16) w14) w9))))) (fun c w => R (.panicked c) w))) w5) (fun c w => R (.panicked c) w))
def scr77 : Scr := (.run [0] (.close (.run [0, 1, 2, 3] (.close (.run [0, 1, 2, 3] (.split 13 (.run [4, 5, 6, 7, 8, 9, 10, 11, 12, 13, 14] (.close (.lit (.run [0, 1] (.close .nil))))) (.run [4, 5, 6, 7, 8, 9, 10, 11, 12, 13, 14] (.close (.cond (.run [0, 1] (.close .nil)) (.run [0, 1, 2, 3, 4] (.close (.loop [(5, none), (29, none), (30, none), (31, none), (32, none), (33, none), (34, none), (35, none), (36, none), (37, none), (38, none), (39, none)] (.run [0, 1] (.close (.cond (.run [0, 1, 2, 3] (.close (.run [0, 1, 2, 3, 4, 5, 6] (.close .nil)))) (.run [0, 1, 2, 3] (.close .nil)))))))))))))))))
theorem vc77 {b1 : Nat} {o2 : Nat} {n3 : Int} {R : Ending → World → Prop} {w : World} (h : V77 b1 o2 n3 R w) : Cl Try.prog 77 [.pointer (some ⟨b1, o2, none⟩), .int .i64 n3] w R :=
  cl_of scr77 Try.func77 (by kernel_rfl) [.pointer (some ⟨b1, o2, none⟩), .int .i64 n3] (V77 b1 o2 n3 R) (by kernel_rfl) h
/-- spec.ReadPattern -/
def V27 (s1 : ByteArray) (R : Ending → World → Prop) : World → Prop := fun w =>
  newC [.bool false, .int .i64 0, .int .i64 0, .slice none 0 0] 37 (fun (b2 : Nat) (w3 : World) => (((decide ((((ByteArray.size s1 : Nat) : Int) : Int) > 120)) = true → stW b2 0 [.bool false, .int .i64 120, .int .i64 0, .slice none 0 0] (fun (w4 : World) => ∃ (t5 : Bool), cellH w4.heap b2 0 = some (.bool t5) ∧ ∃ (n6 : Int), cellH w4.heap b2 1 = some (.int .i64 n6) ∧ ∃ (n7 : Int), cellH w4.heap b2 2 = some (.int .i64 n7) ∧ ∃ (a8 : Option Addr), ∃ (l8 : Nat), ∃ (c8 : Nat), cellH w4.heap b2 3 = some (.slice a8 l8 c8) ∧ R (.returned (.agg #[.bool t5, .int .i64 n6, .int .i64 n7, .slice a8 l8 c8])) w4) w3) ∧ ((decide ((((ByteArray.size s1 : Nat) : Int) : Int) > 120)) = false → newC [.string s1, .int .i64 0, .int .i64 (-1), .int .i64 0, .slice none 0 0] 97 (fun (b9 : Nat) (w10 : World) => Cl Try.prog 77 ([.pointer (some ⟨b9, 0, none⟩), .int .i64 0]) w10 (retG (fun (r13 : Value) (w12 : World) => ∃ (n11 : Int), r13 = .int .i64 n11 ∧ Cl Try.prog 78 ([.pointer (some ⟨b9, 0, none⟩)]) w12 (retG (fun (r16 : Value) (w15 : World) => ∃ (t14 : Bool), r16 = .bool t14 ∧ ∃ (J17 : World → Prop), (((t14 = true → Cl Try.prog 79 ([.pointer (some ⟨b9, 0, none⟩)]) w15 (retG (fun (r19 : Value) (w18 : World) => r19 = .tuple #[] ∧ J17  w18) (fun c w => R (.panicked c) w))) ∧ (t14 = false → J17  w15))) ∧ ∀ (d20 : Nat → Value) (w21 : World), J17  w21 → ∃ (n22 : Int), cellH w21.heap b9 2 = some (.int .i64 n22) ∧ (((decide ((n22 : Int) ≥ 0)) = true → ∃ (n23 : Int), cellH w21.heap b9 2 = some (.int .i64 n23) ∧ stW b2 0 [.bool false, .int .i64 n23, .int .i64 0, .slice none 0 0] (fun (w24 : World) => ∃ (t25 : Bool), cellH w24.heap b2 0 = some (.bool t25) ∧ ∃ (n26 : Int), cellH w24.heap b2 1 = some (.int .i64 n26) ∧ ∃ (n27 : Int), cellH w24.heap b2 2 = some (.int .i64 n27) ∧ ∃ (a28 : Option Addr), ∃ (l28 : Nat), ∃ (c28 : Nat), cellH w24.heap b2 3 = some (.slice a28 l28 c28) ∧ R (.returned (.agg #[.bool t25, .int .i64 n26, .int .i64 n27, .slice a28 l28 c28])) w24) w21) ∧ ((decide ((n22 : Int) ≥ 0)) = false → drw (fun (w29 : World) => ∃ (n30 : Int), cellH w29.heap b9 3 = some (.int .i64 n30) ∧ ∃ (a31 : Option Addr), ∃ (l31 : Nat), ∃ (c31 : Nat), cellH w29.heap b9 4 = some (.slice a31 l31 c31) ∧ stW b2 0 [.bool true, .int .i64 0, .int .i64 n30, .slice a31 l31 c31] (fun (w32 : World) => ∃ (t33 : Bool), cellH w32.heap b2 0 = some (.bool t33) ∧ ∃ (n34 : Int), cellH w32.heap b2 1 = some (.int .i64 n34) ∧ ∃ (n35 : Int), cellH w32.heap b2 2 = some (.int .i64 n35) ∧ ∃ (a36 : Option Addr), ∃ (l36 : Nat), ∃ (c36 : Nat), cellH w32.heap b2 3 = some (.slice a36 l36 c36) ∧ R (.returned (.agg #[.bool t33, .int .i64 n34, .int .i64 n35, .slice a36 l36 c36])) w32) w29) w21))) (fun c w => R (.panicked c) w))) (fun c w => R (.panicked c) w))) w3))) w
def scr27 : Scr := (.run [0] (.close (.run [0, 1, 2] (.close (.cond (.run [0, 1] (.close .nil)) (.run [0, 1, 2, 3] (.close (.run [0, 1] (.close (.run [0, 1] (.close (.cut [(15, none), (16, none)] (.cond (.run [0, 1] (.close .nil)) .nil) (.run [0, 1, 2, 3, 4] (.close (.cond (.run [0, 1, 2, 3, 4, 5] (.close .nil)) (.run [0, 1, 2, 3, 4, 5, 6, 7, 8, 9] (.close .nil)))))))))))))))))
theorem vc27 {s1 : ByteArray} {R : Ending → World → Prop} {w : World} (h : V27 s1 R w) : Cl Try.prog 27 [.string s1] w R :=
  cl_of scr27 Try.func27 (by kernel_rfl) [.string s1] (V27 s1 R) (by kernel_rfl) h
end Go.Proofs.Ytngbiaeliphdjaa.V
/- The reference's reader: sets in brackets. No statement of the seat is proved here. -/
namespace Go.Vc
set_option linter.unusedVariables false
theorem clsP_go {l : Bytes} {i j v : Nat} {first : Bool} {rs r : Rs} (h : i < l.length) (hn : ¬ (first = false ∧ at_ l i = 93)) (hp : partP l i = .ok (j, r, some v)) (hx : l.length ≤ j + 1 ∨ at_ l j ≠ 45 ∨ at_ l (j + 1) = 93) : clsP l i first rs = clsP l j false (rs ++ r) := by
  rw [clsP_one h hn hp]
  split
  · rw [clsP_out (by omega)]
  split
  · rfl
  split
  · rename_i h1 h2 h3
    have h4 : at_ l j = 45 := by omega
    have hq : partP l j = .ok (j + 1, [(45, 45)], some 45) := by unfold partP; rw [if_neg (by omega), h4]
    rw [clsP_one (by omega) (by omega) hq, if_pos (by omega)]
  split
  · rfl
  · omega
theorem setP_eq {l : Bytes} {i : Nat} (hi : i < l.length) : setP l i = clsFin (decide (at_ l (i + 1) = 94)) (clsP l (if at_ l (i + 1) = 94 then i + 2 else i + 1) true []) := by
  unfold setP
  split
  · rename_i h
    have h0 : at_ l (i + 1) = 0 := by unfold at_; rw [List.getD_eq_getElem?_getD, List.getElem?_eq_none (by omega)]; rfl
    rw [h0, if_neg (by decide), clsP_out (by omega)]
    rfl
  · rfl
end Go.Vc
namespace Go.Proofs.Ytngbiaeliphdjaa.V
open Go.Vc Go.Proofs Go.RowKit
set_option linter.unusedVariables false
set_option linter.unusedSimpArgs false
/-- What a set in brackets leaves. -/
def ClsS (w : World) (b : Nat) (s : ByteArray) (g : Nat) (a : Option Addr) (ln c : Nat) (r : Pr (Nat × List (Int × Int))) : Ending → World → Prop := fun e w' => Ext (fun x => x = b) w w' ∧ match r with
  | .bad n => e = .returned (.slice none 0 0) ∧ ∃ i, Sd w' b s i (n : Int) g a ln c
  | .ok (j, rs) => ∃ sa sc, e = .returned (.slice sa rs.length sc) ∧ Row w.heap.size w' 134 2 sa rs.length sc (rngC rs) ∧ Sd w' b s j (-1) g a ln c
/-- The state at the loop's head. -/
def ClsI (w : World) (b : Nat) (s : ByteArray) (g : Nat) (a : Option Addr) (ln c kb : Nat) (C : Pr (Nat × Rs)) (m : Nat) (n : Int) (w' : World) : Prop := Ext (fun x => x = b) w w' ∧
  ((∃ j rs, m = s.size - j + 1 ∧ 0 ≤ n ∧ n ≤ j ∧ j ≤ s.size ∧ Sd w' b s j (-1) g a ln c ∧ Blk w'.heap kb 4 (b256 (inR rs)) ∧ clsP (L s) j (decide (n = 0)) rs = C) ∨
   (∃ i e, m = 0 ∧ Sd w' b s i ((e : Nat) : Int) g a ln c ∧ C = .bad e))
theorem sclass_end {w w' : World} {b : Nat} {s : ByteArray} {g : Nat} {a : Option Addr} {ln c kb : Nat} {C : Pr (Nat × Rs)} {neg : Bool} (hb : b < w.heap.size) (hkb : w.heap.size ≤ kb) (hs : s.size ≤ 120)
    (hE : Ext (fun x => x = b) w w')
    (hst : (∃ j rs, j ≤ s.size ∧ Sd w' b s j (-1) g a ln c ∧ Blk w'.heap kb 4 (b256 (inR rs)) ∧ ((¬ j < s.size ∧ C = .bad j) ∨ (j < s.size ∧ at_ (L s) j = 93 ∧ C = .ok (j + 1, rs)))) ∨ (∃ i e, Sd w' b s i ((e : Nat) : Int) g a ln c ∧ C = .bad e))
    {R : Ending → World → Prop} (hR : R = ClsS w b s g a ln c (clsFin neg C)) :
    Cl Try.prog 112 ([.pointer (some ⟨b, 0, none⟩), .int .u8 93]) w' (retG (fun (r23 : Value) (w22 : World) => ∃ (t21 : Bool), r23 = .bool t21 ∧ (((!t21) = true → Cl Try.prog 79 ([.pointer (some ⟨b, 0, none⟩)]) w22 (retG (fun (r25 : Value) (w24 : World) => r25 = .tuple #[] ∧ R (.returned (.slice none 0 0)) w24) (fun c w => R (.panicked c) w))) ∧ ((!t21) = false → ((neg = true → ∃ (I26 : Nat → Int → World → Prop), (∃ (k28 : Nat), I26 k28 0 w22) ∧ ∀ (k27 : Nat) (d30 : Nat → Value) (n31 : Int) (w29 : World), I26 k27 n31 w29 → (((decide ((n31 : Int) < ((256 : Nat) : Int))) = true → ∃ (b32 : Nat) (o33 : Nat), (((some ⟨kb, 0, none⟩) : Option Addr) = some ⟨b32, o33, none⟩ ∧ 0 ≤ (n31 : Int) ∧ (n31 : Int) < ((256 : Nat) : Int)) ∧ ∃ (t34 : Bool), cellH w29.heap b32 (o33 + (Int.toNat n31) * 1) = some (.bool t34) ∧ ∃ (b35 : Nat) (o36 : Nat), (((some ⟨kb, 0, none⟩) : Option Addr) = some ⟨b35, o36, none⟩ ∧ 0 ≤ (n31 : Int) ∧ (n31 : Int) < ((256 : Nat) : Int)) ∧ stW b35 (o36 + (Int.toNat n31) * 1) [.bool (!t34)] (fun (w37 : World) => (∃ (m38 : Nat), m38 < k27 ∧ I26 m38 (IntKind.wrap .i64 (n31 + 1)) w37)) w29) ∧ ((decide ((n31 : Int) < ((256 : Nat) : Int))) = false → Cl Try.prog 167 ([.slice (some ⟨kb, 0, none⟩) 256 256]) w29 (retG (fun (r41 : Value) (w40 : World) => ∃ (a39 : Option Addr), ∃ (l39 : Nat), ∃ (c39 : Nat), r41 = .slice a39 l39 c39 ∧ R (.returned (.slice a39 l39 c39)) w40) (fun c w => R (.panicked c) w))))) ∧ (neg = false → Cl Try.prog 167 ([.slice (some ⟨kb, 0, none⟩) 256 256]) w22 (retG (fun (r44 : Value) (w43 : World) => ∃ (a42 : Option Addr), ∃ (l42 : Nat), ∃ (c42 : Nat), r44 = .slice a42 l42 c42 ∧ R (.returned (.slice a42 l42 c42)) w43) (fun c w => R (.panicked c) w))))))) (fun c w => R (.panicked c) w)) := by
  rcases hst with ⟨j, rs, hj, h, hk, hst⟩ | ⟨i, e, h, rfl⟩
  · rcases hst with ⟨hj2, rfl⟩ | ⟨hj2, h93, rfl⟩
    · refine (is_no h (ch := 93) (by omega) rfl).ret fun w1 b1 => ⟨_, rfl, fun _ => ?_, fun g => by cases g⟩
      refine (sfail_ok (h.below b1)).use fun e w2 he => ?_
      obtain ⟨rfl, h2, e2⟩ := he
      refine ⟨rfl, ?_⟩
      subst hR
      exact ⟨(hE.trans (Ext.of_below b1)).trans e2, rfl, _, h2⟩
    · refine (is_yes h hj2 (by omega) h93 rfl).use fun e w1 he => ?_
      obtain ⟨rfl, h1, e1⟩ := he
      have k1 := hk.keep e1 (by omega)
      refine ⟨_, rfl, fun g => by simp at g, fun _ => ⟨fun hn => ?_, fun hn => ?_⟩⟩
      · subst hn
        refine ⟨fun m n w2 => ∃ q : Nat, n = (q : Int) ∧ m = 256 - q ∧ q ≤ 256 ∧ Sd w2 b s (j + 1) (-1) g a ln c ∧ Blk w2.heap kb 4 (b256 fun x => if x < q then inR rs x != true else inR rs x) ∧ Ext (fun x => x = b) w w2,
          ⟨256, 0, rfl, rfl, by omega, h1, (by rw [b256_ext (g := inR rs) fun x _ => by rw [if_neg (by omega)]]; exact k1), hE.trans e1⟩, ?_⟩
        rintro m d n w2 ⟨q, rfl, rfl, hq, h2, k2, E2⟩
        refine ⟨fun g2 => ?_, fun g2 => ?_⟩
        · have g2' : q < 256 := by have := of_decide_eq_true g2; omega
          refine ⟨kb, 0, ⟨rfl, by omega, by omega⟩, inR rs q, ?_, kb, 0, ⟨rfl, by omega, by omega⟩, ?_⟩
          · rw [k2.cell, show 0 + Int.toNat (q : Int) * 1 = q from by omega, b256_get _ q g2', if_neg (by omega)]
          · rw [show 0 + Int.toNat (q : Int) * 1 = q from by omega]
            refine stW_in k2 (by rw [b256_length]; show q + 1 ≤ 256; omega) fun w3 s3 k3 e3 => ?_
            refine ⟨256 - (q + 1), by omega, q + 1, by rw [w64 (by omega)]; omega, rfl, by omega, Blk.keep h2 e3 (by omega), ?_, E2.step e3 fun i hi h => by omega⟩
            have : segSet (b256 fun x => if x < q then inR rs x != true else inR rs x) q [.bool (!inR rs q)] = b256 fun x => if x < q + 1 then inR rs x != true else inR rs x := by
              show (b256 _).set q _ = _
              rw [b256_set]
              apply b256_ext
              intro x hx
              by_cases hxq : x = q
              · subst hxq; simp
              · rw [if_neg hxq]
                by_cases hlt : x < q
                · rw [if_pos hlt, if_pos (by omega)]
                · rw [if_neg hlt, if_neg (by omega)]
            rw [this] at k3; exact k3
        · have g2' : q = 256 := by have := of_decide_eq_false g2; omega
          subst g2'
          rw [b256_ext (g := fun x => inR rs x != true) fun x hx => by rw [if_pos hx]] at k2
          refine (sset_ok k2).use fun e w3 he => ?_
          obtain ⟨sa, sc, rfl, hr, b3⟩ := he
          refine ⟨sa, _, sc, rfl, ?_⟩
          subst hR
          exact ⟨E2.trans (Ext.of_below b3), sa, sc, rfl, hr.mono E2.size, h2.below b3⟩
      · subst hn
        rw [b256_ext (g := fun x => inR rs x != false) fun x hx => by simp] at k1
        refine (sset_ok k1).use fun e w3 he => ?_
        obtain ⟨sa, sc, rfl, hr, b3⟩ := he
        refine ⟨sa, _, sc, rfl, ?_⟩
        subst hR
        have E1 := hE.trans e1
        exact ⟨E1.trans (Ext.of_below b3), sa, sc, rfl, hr.mono E1.size, h1.below b3⟩
  · refine (is_bad h 93).ret fun w1 b1 => ⟨_, rfl, fun _ => ?_, fun g => by cases g⟩
    refine (sfail_bad (h.below b1)).ret fun w2 b2 => ⟨rfl, ?_⟩
    subst hR
    exact ⟨(hE.trans (Ext.of_below b1)).trans (Ext.of_below b2), rfl, i, (h.below b1).below b2⟩
end Go.Proofs.Ytngbiaeliphdjaa.V
/- The reference's reader: sets in brackets. No statement of the seat is proved here. -/
namespace Go.Proofs.Ytngbiaeliphdjaa.V
open Go.Vc Go.Proofs Go.RowKit
set_option linter.unusedVariables false
set_option linter.unusedSimpArgs false
theorem sclass_loop {w w6 : World} {b : Nat} {s : ByteArray} {j0 g : Nat} {a : Option Addr} {ln c kb : Nat} {C : Pr (Nat × Rs)} {neg : Bool} (hb : b < w.heap.size) (hkb : w.heap.size ≤ kb) (hs : s.size ≤ 120)
    (hE : Ext (fun x => x = b) w w6) (h6 : Sd w6 b s j0 (-1) g a ln c) (hj0 : j0 ≤ s.size) (hk6 : Blk w6.heap kb 4 (b256 fun _ => false)) (hC : clsP (L s) j0 true [] = C)
    {R : Ending → World → Prop} (hR : R = ClsS w b s g a ln c (clsFin neg C)) :
    ∃ (I8 : Nat → Int → World → Prop), (∃ (k10 : Nat), I8 k10 0 w6) ∧ ∀ (k9 : Nat) (d12 : Nat → Value) (n13 : Int) (w11 : World), I8 k9 n13 w11 → ∃ (J14 : World → Prop), (drw (fun (w15 : World) => Cl Try.prog 78 ([.pointer (some ⟨b, 0, none⟩)]) w15 (retG (fun (r18 : Value) (w17 : World) => ∃ (t16 : Bool), r18 = .bool t16 ∧ ((t16 = true → ∃ (s19 : ByteArray), cellH w17.heap b 0 = some (.string s19) ∧ ∃ (n20 : Int), cellH w17.heap b (0 + 1) = some (.int .i64 n20) ∧ (0 ≤ (n20 : Int) ∧ (n20 : Int) < ((ByteArray.size s19 : Nat) : Int)) ∧ ((((byteAt s19 (Int.toNat n20) : Int) != 93) = true → J14  w17) ∧ (((byteAt s19 (Int.toNat n20) : Int) != 93) = false → ((((n13 : Int) == 0) = true → J14  w17) ∧ (((n13 : Int) == 0) = false → Cl Try.prog 112 ([.pointer (some ⟨b, 0, none⟩), .int .u8 93]) w17 (retG (fun (r23 : Value) (w22 : World) => ∃ (t21 : Bool), r23 = .bool t21 ∧ (((!t21) = true → Cl Try.prog 79 ([.pointer (some ⟨b, 0, none⟩)]) w22 (retG (fun (r25 : Value) (w24 : World) => r25 = .tuple #[] ∧ R (.returned (.slice none 0 0)) w24) (fun c w => R (.panicked c) w))) ∧ ((!t21) = false → ((neg = true → ∃ (I26 : Nat → Int → World → Prop), (∃ (k28 : Nat), I26 k28 0 w22) ∧ ∀ (k27 : Nat) (d30 : Nat → Value) (n31 : Int) (w29 : World), I26 k27 n31 w29 → (((decide ((n31 : Int) < ((256 : Nat) : Int))) = true → ∃ (b32 : Nat) (o33 : Nat), (((some ⟨kb, 0, none⟩) : Option Addr) = some ⟨b32, o33, none⟩ ∧ 0 ≤ (n31 : Int) ∧ (n31 : Int) < ((256 : Nat) : Int)) ∧ ∃ (t34 : Bool), cellH w29.heap b32 (o33 + (Int.toNat n31) * 1) = some (.bool t34) ∧ ∃ (b35 : Nat) (o36 : Nat), (((some ⟨kb, 0, none⟩) : Option Addr) = some ⟨b35, o36, none⟩ ∧ 0 ≤ (n31 : Int) ∧ (n31 : Int) < ((256 : Nat) : Int)) ∧ stW b35 (o36 + (Int.toNat n31) * 1) [.bool (!t34)] (fun (w37 : World) => (∃ (m38 : Nat), m38 < k27 ∧ I26 m38 (IntKind.wrap .i64 (n31 + 1)) w37)) w29) ∧ ((decide ((n31 : Int) < ((256 : Nat) : Int))) = false → Cl Try.prog 167 ([.slice (some ⟨kb, 0, none⟩) 256 256]) w29 (retG (fun (r41 : Value) (w40 : World) => ∃ (a39 : Option Addr), ∃ (l39 : Nat), ∃ (c39 : Nat), r41 = .slice a39 l39 c39 ∧ R (.returned (.slice a39 l39 c39)) w40) (fun c w => R (.panicked c) w))))) ∧ (neg = false → Cl Try.prog 167 ([.slice (some ⟨kb, 0, none⟩) 256 256]) w22 (retG (fun (r44 : Value) (w43 : World) => ∃ (a42 : Option Addr), ∃ (l42 : Nat), ∃ (c42 : Nat), r44 = .slice a42 l42 c42 ∧ R (.returned (.slice a42 l42 c42)) w43) (fun c w => R (.panicked c) w))))))) (fun c w => R (.panicked c) w))))))) ∧ (t16 = false → Cl Try.prog 112 ([.pointer (some ⟨b, 0, none⟩), .int .u8 93]) w17 (retG (fun (r47 : Value) (w46 : World) => ∃ (t45 : Bool), r47 = .bool t45 ∧ (((!t45) = true → Cl Try.prog 79 ([.pointer (some ⟨b, 0, none⟩)]) w46 (retG (fun (r49 : Value) (w48 : World) => r49 = .tuple #[] ∧ R (.returned (.slice none 0 0)) w48) (fun c w => R (.panicked c) w))) ∧ ((!t45) = false → ((neg = true → ∃ (I50 : Nat → Int → World → Prop), (∃ (k52 : Nat), I50 k52 0 w46) ∧ ∀ (k51 : Nat) (d54 : Nat → Value) (n55 : Int) (w53 : World), I50 k51 n55 w53 → (((decide ((n55 : Int) < ((256 : Nat) : Int))) = true → ∃ (b56 : Nat) (o57 : Nat), (((some ⟨kb, 0, none⟩) : Option Addr) = some ⟨b56, o57, none⟩ ∧ 0 ≤ (n55 : Int) ∧ (n55 : Int) < ((256 : Nat) : Int)) ∧ ∃ (t58 : Bool), cellH w53.heap b56 (o57 + (Int.toNat n55) * 1) = some (.bool t58) ∧ ∃ (b59 : Nat) (o60 : Nat), (((some ⟨kb, 0, none⟩) : Option Addr) = some ⟨b59, o60, none⟩ ∧ 0 ≤ (n55 : Int) ∧ (n55 : Int) < ((256 : Nat) : Int)) ∧ stW b59 (o60 + (Int.toNat n55) * 1) [.bool (!t58)] (fun (w61 : World) => (∃ (m62 : Nat), m62 < k51 ∧ I50 m62 (IntKind.wrap .i64 (n55 + 1)) w61)) w53) ∧ ((decide ((n55 : Int) < ((256 : Nat) : Int))) = false → Cl Try.prog 167 ([.slice (some ⟨kb, 0, none⟩) 256 256]) w53 (retG (fun (r65 : Value) (w64 : World) => ∃ (a63 : Option Addr), ∃ (l63 : Nat), ∃ (c63 : Nat), r65 = .slice a63 l63 c63 ∧ R (.returned (.slice a63 l63 c63)) w64) (fun c w => R (.panicked c) w))))) ∧ (neg = false → Cl Try.prog 167 ([.slice (some ⟨kb, 0, none⟩) 256 256]) w46 (retG (fun (r68 : Value) (w67 : World) => ∃ (a66 : Option Addr), ∃ (l66 : Nat), ∃ (c66 : Nat), r68 = .slice a66 l66 c66 ∧ R (.returned (.slice a66 l66 c66)) w67) (fun c w => R (.panicked c) w))))))) (fun c w => R (.panicked c) w))))) (fun c w => R (.panicked c) w))) w11) ∧ ∀ (d69 : Nat → Value) (w70 : World), J14  w70 → Cl Try.prog 112 ([.pointer (some ⟨b, 0, none⟩), .int .u8 92]) w70 (retG (fun (r73 : Value) (w72 : World) => ∃ (t71 : Bool), r73 = .bool t71 ∧ ∃ (J74 : Int → Bool → World → Prop), (((t71 = true → Cl Try.prog 166 ([.pointer (some ⟨b, 0, none⟩), .slice (some ⟨kb, 0, none⟩) 256 256]) w72 (retG (fun (r78 : Value) (w77 : World) => ∃ (n75 : Int), ∃ (t76 : Bool), r78 = .tuple #[.int .i64 n75, .bool t76] ∧ J74 n75 t76 w77) (fun c w => R (.panicked c) w))) ∧ (t71 = false → drw (fun (w79 : World) => ∃ (s80 : ByteArray), cellH w79.heap b 0 = some (.string s80) ∧ ∃ (n81 : Int), cellH w79.heap b (0 + 1) = some (.int .i64 n81) ∧ (0 ≤ (n81 : Int) ∧ (n81 : Int) < ((ByteArray.size s80 : Nat) : Int)) ∧ ∃ (b82 : Nat) (o83 : Nat), (((some ⟨kb, 0, none⟩) : Option Addr) = some ⟨b82, o83, none⟩ ∧ 0 ≤ (IntKind.wrap .i64 (byteAt s80 (Int.toNat n81)) : Int) ∧ (IntKind.wrap .i64 (byteAt s80 (Int.toNat n81)) : Int) < ((256 : Nat) : Int)) ∧ stW b82 (o83 + (Int.toNat (IntKind.wrap .i64 (byteAt s80 (Int.toNat n81)))) * 1) [.bool true] (fun (w84 : World) => ∃ (n85 : Int), cellH w84.heap b (0 + 1) = some (.int .i64 n85) ∧ stW b (0 + 1) [.int .i64 (IntKind.wrap .i64 (n85 + 1))] (fun (w86 : World) => J74 (IntKind.wrap .i64 (byteAt s80 (Int.toNat n81))) true w86) w84) w79) w72))) ∧ ∀ (d87 : Nat → Value) (n88 : Int) (t89 : Bool) (w90 : World), J74 n88 t89 w90 → drw (fun (w91 : World) => (((!t89) = true → (∃ (m92 : Nat), m92 < k9 ∧ I8 m92 (IntKind.wrap .i64 (n13 + 1)) w91)) ∧ ((!t89) = false → ∃ (n93 : Int), cellH w91.heap b (0 + 1) = some (.int .i64 n93) ∧ ∃ (s94 : ByteArray), cellH w91.heap b 0 = some (.string s94) ∧ (((decide ((IntKind.wrap .i64 (n93 + 1) : Int) ≥ ((ByteArray.size s94 : Nat) : Int))) = true → (∃ (m95 : Nat), m95 < k9 ∧ I8 m95 (IntKind.wrap .i64 (n13 + 1)) w91)) ∧ ((decide ((IntKind.wrap .i64 (n93 + 1) : Int) ≥ ((ByteArray.size s94 : Nat) : Int))) = false → ∃ (n96 : Int), cellH w91.heap b (0 + 2) = some (.int .i64 n96) ∧ (((decide ((n96 : Int) ≥ 0)) = true → (∃ (m97 : Nat), m97 < k9 ∧ I8 m97 (IntKind.wrap .i64 (n13 + 1)) w91)) ∧ ((decide ((n96 : Int) ≥ 0)) = false → ∃ (s98 : ByteArray), cellH w91.heap b 0 = some (.string s98) ∧ ∃ (n99 : Int), cellH w91.heap b (0 + 1) = some (.int .i64 n99) ∧ (0 ≤ (n99 : Int) ∧ (n99 : Int) < ((ByteArray.size s98 : Nat) : Int)) ∧ ((((byteAt s98 (Int.toNat n99) : Int) != 45) = true → (∃ (m100 : Nat), m100 < k9 ∧ I8 m100 (IntKind.wrap .i64 (n13 + 1)) w91)) ∧ (((byteAt s98 (Int.toNat n99) : Int) != 45) = false → ∃ (s101 : ByteArray), cellH w91.heap b 0 = some (.string s101) ∧ ∃ (n102 : Int), cellH w91.heap b (0 + 1) = some (.int .i64 n102) ∧ (0 ≤ (IntKind.wrap .i64 (n102 + 1) : Int) ∧ (IntKind.wrap .i64 (n102 + 1) : Int) < ((ByteArray.size s101 : Nat) : Int)) ∧ ((((byteAt s101 (Int.toNat (IntKind.wrap .i64 (n102 + 1))) : Int) == 93) = true → (∃ (m103 : Nat), m103 < k9 ∧ I8 m103 (IntKind.wrap .i64 (n13 + 1)) w91)) ∧ (((byteAt s101 (Int.toNat (IntKind.wrap .i64 (n102 + 1))) : Int) == 93) = false → ∃ (n104 : Int), cellH w91.heap b (0 + 1) = some (.int .i64 n104) ∧ stW b (0 + 1) [.int .i64 (IntKind.wrap .i64 (n104 + 1))] (fun (w105 : World) => ∃ (n106 : Int), cellH w105.heap b (0 + 1) = some (.int .i64 n106) ∧ drw (fun (w107 : World) => ∃ (s108 : ByteArray), cellH w107.heap b 0 = some (.string s108) ∧ ∃ (n109 : Int), cellH w107.heap b (0 + 1) = some (.int .i64 n109) ∧ (0 ≤ (n109 : Int) ∧ (n109 : Int) < ((ByteArray.size s108 : Nat) : Int)) ∧ Cl Try.prog 112 ([.pointer (some ⟨b, 0, none⟩), .int .u8 92]) w107 (retG (fun (r112 : Value) (w111 : World) => ∃ (t110 : Bool), r112 = .bool t110 ∧ ((t110 = true → ∃ (a113 : Option Addr), ∃ (l113 : Nat), ∃ (c113 : Nat), ∃ (w114 : World), (Instr.makeSlice 59 (.int .i64 256) (.int .i64 256)).run Try.prog w111 = .ok (.slice a113 l113 c113) w114 ∧ Cl Try.prog 166 ([.pointer (some ⟨b, 0, none⟩), .slice a113 l113 c113]) w114 (retG (fun (r118 : Value) (w117 : World) => ∃ (n115 : Int), ∃ (t116 : Bool), r118 = .tuple #[.int .i64 n115, .bool t116] ∧ ∃ (n119 : Int), cellH w117.heap b (0 + 2) = some (.int .i64 n119) ∧ (((decide ((n119 : Int) < 0)) = true → (((!t116) = true → stW b (0 + 1) [.int .i64 n106] (fun (w120 : World) => Cl Try.prog 79 ([.pointer (some ⟨b, 0, none⟩)]) w120 (retG (fun (r122 : Value) (w121 : World) => r122 = .tuple #[] ∧ R (.returned (.slice none 0 0)) w121) (fun c w => R (.panicked c) w))) w117) ∧ ((!t116) = false → (((decide ((n115 : Int) < n88)) = true → stW b (0 + 1) [.int .i64 n106] (fun (w123 : World) => Cl Try.prog 79 ([.pointer (some ⟨b, 0, none⟩)]) w123 (retG (fun (r125 : Value) (w124 : World) => r125 = .tuple #[] ∧ R (.returned (.slice none 0 0)) w124) (fun c w => R (.panicked c) w))) w117) ∧ ((decide ((n115 : Int) < n88)) = false → ∃ (n126 : Int), cellH w117.heap b (0 + 2) = some (.int .i64 n126) ∧ (((decide ((n126 : Int) < 0)) = true → Cl Try.prog 165 ([.slice (some ⟨kb, 0, none⟩) 256 256, .int .i64 n88, .int .i64 n115]) w117 (retG (fun (r128 : Value) (w127 : World) => r128 = .tuple #[] ∧ (∃ (m129 : Nat), m129 < k9 ∧ I8 m129 (IntKind.wrap .i64 (n13 + 1)) w127)) (fun c w => R (.panicked c) w))) ∧ ((decide ((n126 : Int) < 0)) = false → (∃ (m130 : Nat), m130 < k9 ∧ I8 m130 (IntKind.wrap .i64 (n13 + 1)) w117)))))))) ∧ ((decide ((n119 : Int) < 0)) = false → ∃ (n131 : Int), cellH w117.heap b (0 + 2) = some (.int .i64 n131) ∧ (((decide ((n131 : Int) < 0)) = true → Cl Try.prog 165 ([.slice (some ⟨kb, 0, none⟩) 256 256, .int .i64 n88, .int .i64 n115]) w117 (retG (fun (r133 : Value) (w132 : World) => r133 = .tuple #[] ∧ (∃ (m134 : Nat), m134 < k9 ∧ I8 m134 (IntKind.wrap .i64 (n13 + 1)) w132)) (fun c w => R (.panicked c) w))) ∧ ((decide ((n131 : Int) < 0)) = false → (∃ (m135 : Nat), m135 < k9 ∧ I8 m135 (IntKind.wrap .i64 (n13 + 1)) w117)))))) (fun c w => R (.panicked c) w))) ∧ (t110 = false → ∃ (n136 : Int), cellH w111.heap b (0 + 1) = some (.int .i64 n136) ∧ stW b (0 + 1) [.int .i64 (IntKind.wrap .i64 (n136 + 1))] (fun (w137 : World) => ∃ (n138 : Int), cellH w137.heap b (0 + 2) = some (.int .i64 n138) ∧ (((decide ((n138 : Int) < 0)) = true → (((!t89) = true → stW b (0 + 1) [.int .i64 n106] (fun (w139 : World) => Cl Try.prog 79 ([.pointer (some ⟨b, 0, none⟩)]) w139 (retG (fun (r141 : Value) (w140 : World) => r141 = .tuple #[] ∧ R (.returned (.slice none 0 0)) w140) (fun c w => R (.panicked c) w))) w137) ∧ ((!t89) = false → (((decide ((IntKind.wrap .i64 (byteAt s108 (Int.toNat n109)) : Int) < n88)) = true → stW b (0 + 1) [.int .i64 n106] (fun (w142 : World) => Cl Try.prog 79 ([.pointer (some ⟨b, 0, none⟩)]) w142 (retG (fun (r144 : Value) (w143 : World) => r144 = .tuple #[] ∧ R (.returned (.slice none 0 0)) w143) (fun c w => R (.panicked c) w))) w137) ∧ ((decide ((IntKind.wrap .i64 (byteAt s108 (Int.toNat n109)) : Int) < n88)) = false → ∃ (n145 : Int), cellH w137.heap b (0 + 2) = some (.int .i64 n145) ∧ (((decide ((n145 : Int) < 0)) = true → Cl Try.prog 165 ([.slice (some ⟨kb, 0, none⟩) 256 256, .int .i64 n88, .int .i64 (IntKind.wrap .i64 (byteAt s108 (Int.toNat n109)))]) w137 (retG (fun (r147 : Value) (w146 : World) => r147 = .tuple #[] ∧ (∃ (m148 : Nat), m148 < k9 ∧ I8 m148 (IntKind.wrap .i64 (n13 + 1)) w146)) (fun c w => R (.panicked c) w))) ∧ ((decide ((n145 : Int) < 0)) = false → (∃ (m149 : Nat), m149 < k9 ∧ I8 m149 (IntKind.wrap .i64 (n13 + 1)) w137)))))))) ∧ ((decide ((n138 : Int) < 0)) = false → ∃ (n150 : Int), cellH w137.heap b (0 + 2) = some (.int .i64 n150) ∧ (((decide ((n150 : Int) < 0)) = true → Cl Try.prog 165 ([.slice (some ⟨kb, 0, none⟩) 256 256, .int .i64 n88, .int .i64 (IntKind.wrap .i64 (byteAt s108 (Int.toNat n109)))]) w137 (retG (fun (r152 : Value) (w151 : World) => r152 = .tuple #[] ∧ (∃ (m153 : Nat), m153 < k9 ∧ I8 m153 (IntKind.wrap .i64 (n13 + 1)) w151)) (fun c w => R (.panicked c) w))) ∧ ((decide ((n150 : Int) < 0)) = false → (∃ (m154 : Nat), m154 < k9 ∧ I8 m154 (IntKind.wrap .i64 (n13 + 1)) w137)))))) w111))) (fun c w => R (.panicked c) w))) w105) w91))))))))))) w90) (fun c w => R (.panicked c) w)) := by
  have hsz := size_L s
  refine ⟨ClsI w b s g a ln c kb C, ⟨_, hE, .inl ⟨j0, [], rfl, by omega, by omega, hj0, h6, by rw [inR_nil]; exact hk6, hC⟩⟩, ?_⟩
  clear hC hk6 hj0 h6 hE
  rintro m d n w1 ⟨hE, hI⟩
  refine ⟨fun w' => Ext (fun x => x = b) w w' ∧ ∃ j rs, m = s.size - j + 1 ∧ 0 ≤ n ∧ n ≤ j ∧ j < s.size ∧ Sd w' b s j (-1) g a ln c ∧ Blk w'.heap kb 4 (b256 (inR rs)) ∧ clsP (L s) j (decide (n = 0)) rs = C ∧ ¬ (decide (n = 0) = false ∧ at_ (L s) j = 93), ?_, ?_⟩
  · refine drw_in fun w2 q2 e2 => ?_
    have E2 := hE.trans (Ext.mono e2 fun _ _ h => h.elim)
    rcases hI with ⟨j, rs, hm, hn0, hnj, hj, h1, hk1, hC⟩ | ⟨i, e, hm, h1, hC⟩
    · have h2 : Sd w2 b s j (-1) g a ln c := Blk.keep h1 e2 fun h => h
      have k2 := hk1.keep e2 fun h => h
      refine (more_ok h2).ret fun w3 b3 => ⟨_, rfl, fun g1 => ?_, fun g1 => ?_⟩
      · have g1' := of_decide_eq_true g1
        have h3 := h2.below b3
        have E3 := E2.trans (Ext.of_below b3)
        refine ⟨s, h3.cell 0, j, h3.cell 1, ⟨by omega, by omega⟩, ?_⟩
        rw [byteI s (j := j) rfl]
        refine ⟨fun g2 => ?_, fun g2 => ⟨fun g3 => ?_, fun g3 => ?_⟩⟩
        · have g2' : ¬ at_ (L s) j = 93 := by simp only [bne_iff_ne, ne_eq] at g2; omega
          exact ⟨E3, j, rs, hm, hn0, hnj, g1', h3, k2.below b3, hC, fun h => g2' h.2⟩
        · have g3' : n = 0 := by simpa using g3
          exact ⟨E3, j, rs, hm, hn0, hnj, g1', h3, k2.below b3, hC, fun h => by simp [g3'] at h⟩
        · have g3' : n ≠ 0 := by simpa using g3
          have g2' : at_ (L s) j = 93 := by
            have : (at_ (L s) j : Int) = 93 := by simpa using g2
            omega
          rw [clsP_end (by omega) (decide_eq_false g3') g2'] at hC
          exact sclass_end hb hkb hs E3 (.inl ⟨j, rs, hj, h3, k2.below b3, .inr ⟨g1', g2', hC.symm⟩⟩) hR
      · have g1' := of_decide_eq_false g1
        rw [clsP_out (by omega)] at hC
        exact sclass_end hb hkb hs (E2.trans (Ext.of_below b3)) (.inl ⟨j, rs, hj, h2.below b3, k2.below b3, .inl ⟨g1', by rw [← hC]; congr 1; omega⟩⟩) hR
    · have h2 : Sd w2 b s i (e : Int) g a ln c := Blk.keep h1 e2 fun h => h
      refine (more_bad h2).ret fun w3 b3 => ⟨_, rfl, fun g1 => (by cases g1), fun g1 => ?_⟩
      exact sclass_end hb hkb hs (E2.trans (Ext.of_below b3)) (.inr ⟨i, e, h2.below b3, hC⟩) hR
  clear hI hE
  rintro d2 w2 ⟨E2, j, rs, rfl, hn0, hnj, hj, h2, k2, hC, hne⟩
  have ew : IntKind.wrap .i64 (n + 1) = n + 1 := w64 (by omega)
  have en : decide (n + 1 = 0) = false := decide_eq_false (by omega)
  rw [ew]
  -- the next round
  have hnext : ∀ {w' : World} {j' : Nat} {rs' : Rs}, j < j' → j' ≤ s.size → Sd w' b s j' (-1) g a ln c → Blk w'.heap kb 4 (b256 (inR rs')) → clsP (L s) j' false rs' = C → Ext (fun x => x = b) w w' → ∃ m, m < s.size - j + 1 ∧ ClsI w b s g a ln c kb C m (n + 1) w' :=
    fun h1 h2 h3 h4 h5 h6 => ⟨s.size - _ + 1, by omega, h6, .inl ⟨_, _, rfl, by omega, by omega, h2, h3, h4, by rw [en]; exact h5⟩⟩
  have hnbad : ∀ {w' : World} {i' e' : Nat}, Sd w' b s i' (e' : Int) g a ln c → C = .bad e' → Ext (fun x => x = b) w w' → ∃ m, m < s.size - j + 1 ∧ ClsI w b s g a ln c kb C m (n + 1) w' :=
    fun h1 h2 h3 => ⟨0, by omega, h3, .inr ⟨_, _, rfl, h1, h2⟩⟩
  have happ : ∀ (h : Array Obj) (rs r : Rs), Blk h kb 4 (b256 fun n => inR rs n || inR r n) → Blk h kb 4 (b256 (inR (rs ++ r))) := by
    intro h rs r hB
    rw [b256_ext (g := fun n => inR rs n || inR r n) fun n _ => inR_app rs r n]; exact hB
  -- what the part leaves
  suffices hJ : ∀ (w3 : World) (hE3 : Ext (fun x => x = b) w w3), (at_ (L s) j = 92 → Sd w3 b s (j + 1) (-1) g a ln c) → (at_ (L s) j ≠ 92 → Sd w3 b s j (-1) g a ln c) → Blk w3.heap kb 4 (b256 (inR rs)) → ∀ t, t = decide (at_ (L s) j = 92) → (∃ (J74 : Int → Bool → World → Prop), (((t = true → Cl Try.prog 166 ([.pointer (some ⟨b, 0, none⟩), .slice (some ⟨kb, 0, none⟩) 256 256]) w3 (retG (fun (r78 : Value) (w77 : World) => ∃ (n75 : Int), ∃ (t76 : Bool), r78 = .tuple #[.int .i64 n75, .bool t76] ∧ J74 n75 t76 w77) (fun c w => R (.panicked c) w))) ∧ (t = false → drw (fun (w79 : World) => ∃ (s80 : ByteArray), cellH w79.heap b 0 = some (.string s80) ∧ ∃ (n81 : Int), cellH w79.heap b (0 + 1) = some (.int .i64 n81) ∧ (0 ≤ (n81 : Int) ∧ (n81 : Int) < ((ByteArray.size s80 : Nat) : Int)) ∧ ∃ (b82 : Nat) (o83 : Nat), (((some ⟨kb, 0, none⟩) : Option Addr) = some ⟨b82, o83, none⟩ ∧ 0 ≤ (IntKind.wrap .i64 (byteAt s80 (Int.toNat n81)) : Int) ∧ (IntKind.wrap .i64 (byteAt s80 (Int.toNat n81)) : Int) < ((256 : Nat) : Int)) ∧ stW b82 (o83 + (Int.toNat (IntKind.wrap .i64 (byteAt s80 (Int.toNat n81)))) * 1) [.bool true] (fun (w84 : World) => ∃ (n85 : Int), cellH w84.heap b (0 + 1) = some (.int .i64 n85) ∧ stW b (0 + 1) [.int .i64 (IntKind.wrap .i64 (n85 + 1))] (fun (w86 : World) => J74 (IntKind.wrap .i64 (byteAt s80 (Int.toNat n81))) true w86) w84) w79) w3))) ∧ ∀ (d87 : Nat → Value) (n88 : Int) (t89 : Bool) (w90 : World), J74 n88 t89 w90 → drw (fun (w91 : World) => (((!t89) = true → (∃ (m92 : Nat), m92 < (s.size - j + 1) ∧ ClsI w b s g a ln c kb C m92 (n + 1) w91)) ∧ ((!t89) = false → ∃ (n93 : Int), cellH w91.heap b (0 + 1) = some (.int .i64 n93) ∧ ∃ (s94 : ByteArray), cellH w91.heap b 0 = some (.string s94) ∧ (((decide ((IntKind.wrap .i64 (n93 + 1) : Int) ≥ ((ByteArray.size s94 : Nat) : Int))) = true → (∃ (m95 : Nat), m95 < (s.size - j + 1) ∧ ClsI w b s g a ln c kb C m95 (n + 1) w91)) ∧ ((decide ((IntKind.wrap .i64 (n93 + 1) : Int) ≥ ((ByteArray.size s94 : Nat) : Int))) = false → ∃ (n96 : Int), cellH w91.heap b (0 + 2) = some (.int .i64 n96) ∧ (((decide ((n96 : Int) ≥ 0)) = true → (∃ (m97 : Nat), m97 < (s.size - j + 1) ∧ ClsI w b s g a ln c kb C m97 (n + 1) w91)) ∧ ((decide ((n96 : Int) ≥ 0)) = false → ∃ (s98 : ByteArray), cellH w91.heap b 0 = some (.string s98) ∧ ∃ (n99 : Int), cellH w91.heap b (0 + 1) = some (.int .i64 n99) ∧ (0 ≤ (n99 : Int) ∧ (n99 : Int) < ((ByteArray.size s98 : Nat) : Int)) ∧ ((((byteAt s98 (Int.toNat n99) : Int) != 45) = true → (∃ (m100 : Nat), m100 < (s.size - j + 1) ∧ ClsI w b s g a ln c kb C m100 (n + 1) w91)) ∧ (((byteAt s98 (Int.toNat n99) : Int) != 45) = false → ∃ (s101 : ByteArray), cellH w91.heap b 0 = some (.string s101) ∧ ∃ (n102 : Int), cellH w91.heap b (0 + 1) = some (.int .i64 n102) ∧ (0 ≤ (IntKind.wrap .i64 (n102 + 1) : Int) ∧ (IntKind.wrap .i64 (n102 + 1) : Int) < ((ByteArray.size s101 : Nat) : Int)) ∧ ((((byteAt s101 (Int.toNat (IntKind.wrap .i64 (n102 + 1))) : Int) == 93) = true → (∃ (m103 : Nat), m103 < (s.size - j + 1) ∧ ClsI w b s g a ln c kb C m103 (n + 1) w91)) ∧ (((byteAt s101 (Int.toNat (IntKind.wrap .i64 (n102 + 1))) : Int) == 93) = false → ∃ (n104 : Int), cellH w91.heap b (0 + 1) = some (.int .i64 n104) ∧ stW b (0 + 1) [.int .i64 (IntKind.wrap .i64 (n104 + 1))] (fun (w105 : World) => ∃ (n106 : Int), cellH w105.heap b (0 + 1) = some (.int .i64 n106) ∧ drw (fun (w107 : World) => ∃ (s108 : ByteArray), cellH w107.heap b 0 = some (.string s108) ∧ ∃ (n109 : Int), cellH w107.heap b (0 + 1) = some (.int .i64 n109) ∧ (0 ≤ (n109 : Int) ∧ (n109 : Int) < ((ByteArray.size s108 : Nat) : Int)) ∧ Cl Try.prog 112 ([.pointer (some ⟨b, 0, none⟩), .int .u8 92]) w107 (retG (fun (r112 : Value) (w111 : World) => ∃ (t110 : Bool), r112 = .bool t110 ∧ ((t110 = true → ∃ (a113 : Option Addr), ∃ (l113 : Nat), ∃ (c113 : Nat), ∃ (w114 : World), (Instr.makeSlice 59 (.int .i64 256) (.int .i64 256)).run Try.prog w111 = .ok (.slice a113 l113 c113) w114 ∧ Cl Try.prog 166 ([.pointer (some ⟨b, 0, none⟩), .slice a113 l113 c113]) w114 (retG (fun (r118 : Value) (w117 : World) => ∃ (n115 : Int), ∃ (t116 : Bool), r118 = .tuple #[.int .i64 n115, .bool t116] ∧ ∃ (n119 : Int), cellH w117.heap b (0 + 2) = some (.int .i64 n119) ∧ (((decide ((n119 : Int) < 0)) = true → (((!t116) = true → stW b (0 + 1) [.int .i64 n106] (fun (w120 : World) => Cl Try.prog 79 ([.pointer (some ⟨b, 0, none⟩)]) w120 (retG (fun (r122 : Value) (w121 : World) => r122 = .tuple #[] ∧ R (.returned (.slice none 0 0)) w121) (fun c w => R (.panicked c) w))) w117) ∧ ((!t116) = false → (((decide ((n115 : Int) < n88)) = true → stW b (0 + 1) [.int .i64 n106] (fun (w123 : World) => Cl Try.prog 79 ([.pointer (some ⟨b, 0, none⟩)]) w123 (retG (fun (r125 : Value) (w124 : World) => r125 = .tuple #[] ∧ R (.returned (.slice none 0 0)) w124) (fun c w => R (.panicked c) w))) w117) ∧ ((decide ((n115 : Int) < n88)) = false → ∃ (n126 : Int), cellH w117.heap b (0 + 2) = some (.int .i64 n126) ∧ (((decide ((n126 : Int) < 0)) = true → Cl Try.prog 165 ([.slice (some ⟨kb, 0, none⟩) 256 256, .int .i64 n88, .int .i64 n115]) w117 (retG (fun (r128 : Value) (w127 : World) => r128 = .tuple #[] ∧ (∃ (m129 : Nat), m129 < (s.size - j + 1) ∧ ClsI w b s g a ln c kb C m129 (n + 1) w127)) (fun c w => R (.panicked c) w))) ∧ ((decide ((n126 : Int) < 0)) = false → (∃ (m130 : Nat), m130 < (s.size - j + 1) ∧ ClsI w b s g a ln c kb C m130 (n + 1) w117)))))))) ∧ ((decide ((n119 : Int) < 0)) = false → ∃ (n131 : Int), cellH w117.heap b (0 + 2) = some (.int .i64 n131) ∧ (((decide ((n131 : Int) < 0)) = true → Cl Try.prog 165 ([.slice (some ⟨kb, 0, none⟩) 256 256, .int .i64 n88, .int .i64 n115]) w117 (retG (fun (r133 : Value) (w132 : World) => r133 = .tuple #[] ∧ (∃ (m134 : Nat), m134 < (s.size - j + 1) ∧ ClsI w b s g a ln c kb C m134 (n + 1) w132)) (fun c w => R (.panicked c) w))) ∧ ((decide ((n131 : Int) < 0)) = false → (∃ (m135 : Nat), m135 < (s.size - j + 1) ∧ ClsI w b s g a ln c kb C m135 (n + 1) w117)))))) (fun c w => R (.panicked c) w))) ∧ (t110 = false → ∃ (n136 : Int), cellH w111.heap b (0 + 1) = some (.int .i64 n136) ∧ stW b (0 + 1) [.int .i64 (IntKind.wrap .i64 (n136 + 1))] (fun (w137 : World) => ∃ (n138 : Int), cellH w137.heap b (0 + 2) = some (.int .i64 n138) ∧ (((decide ((n138 : Int) < 0)) = true → (((!t89) = true → stW b (0 + 1) [.int .i64 n106] (fun (w139 : World) => Cl Try.prog 79 ([.pointer (some ⟨b, 0, none⟩)]) w139 (retG (fun (r141 : Value) (w140 : World) => r141 = .tuple #[] ∧ R (.returned (.slice none 0 0)) w140) (fun c w => R (.panicked c) w))) w137) ∧ ((!t89) = false → (((decide ((IntKind.wrap .i64 (byteAt s108 (Int.toNat n109)) : Int) < n88)) = true → stW b (0 + 1) [.int .i64 n106] (fun (w142 : World) => Cl Try.prog 79 ([.pointer (some ⟨b, 0, none⟩)]) w142 (retG (fun (r144 : Value) (w143 : World) => r144 = .tuple #[] ∧ R (.returned (.slice none 0 0)) w143) (fun c w => R (.panicked c) w))) w137) ∧ ((decide ((IntKind.wrap .i64 (byteAt s108 (Int.toNat n109)) : Int) < n88)) = false → ∃ (n145 : Int), cellH w137.heap b (0 + 2) = some (.int .i64 n145) ∧ (((decide ((n145 : Int) < 0)) = true → Cl Try.prog 165 ([.slice (some ⟨kb, 0, none⟩) 256 256, .int .i64 n88, .int .i64 (IntKind.wrap .i64 (byteAt s108 (Int.toNat n109)))]) w137 (retG (fun (r147 : Value) (w146 : World) => r147 = .tuple #[] ∧ (∃ (m148 : Nat), m148 < (s.size - j + 1) ∧ ClsI w b s g a ln c kb C m148 (n + 1) w146)) (fun c w => R (.panicked c) w))) ∧ ((decide ((n145 : Int) < 0)) = false → (∃ (m149 : Nat), m149 < (s.size - j + 1) ∧ ClsI w b s g a ln c kb C m149 (n + 1) w137)))))))) ∧ ((decide ((n138 : Int) < 0)) = false → ∃ (n150 : Int), cellH w137.heap b (0 + 2) = some (.int .i64 n150) ∧ (((decide ((n150 : Int) < 0)) = true → Cl Try.prog 165 ([.slice (some ⟨kb, 0, none⟩) 256 256, .int .i64 n88, .int .i64 (IntKind.wrap .i64 (byteAt s108 (Int.toNat n109)))]) w137 (retG (fun (r152 : Value) (w151 : World) => r152 = .tuple #[] ∧ (∃ (m153 : Nat), m153 < (s.size - j + 1) ∧ ClsI w b s g a ln c kb C m153 (n + 1) w151)) (fun c w => R (.panicked c) w))) ∧ ((decide ((n150 : Int) < 0)) = false → (∃ (m154 : Nat), m154 < (s.size - j + 1) ∧ ClsI w b s g a ln c kb C m154 (n + 1) w137)))))) w111))) (fun c w => R (.panicked c) w))) w105) w91))))))))))) w90) by
    by_cases h92 : at_ (L s) j = 92
    · refine (is_yes h2 hj (by omega) h92 rfl).use fun e w3 he => ?_
      obtain ⟨rfl, h3, e3⟩ := he
      exact ⟨true, rfl, hJ w3 (E2.trans e3) (fun _ => h3) (fun h => absurd h92 h) (k2.keep e3 (by omega)) true (by simp [h92])⟩
    · refine (is_no h2 (ch := 92) (by omega) rfl).ret fun w3 b3 => ?_
      exact ⟨false, rfl, hJ w3 (E2.trans (Ext.of_below b3)) (fun h => absurd h h92) (fun _ => h2.below b3) (k2.below b3) false (by simp [h92])⟩
  intro w3 E3 h3y h3n k3 t ht
  refine ⟨fun v t w' => Ext (fun x => x = b) w w' ∧ ((∃ i e, t = false ∧ Sd w' b s i ((e : Nat) : Int) g a ln c ∧ C = .bad e) ∨
    (∃ j1 r, t = false ∧ j < j1 ∧ j1 ≤ s.size ∧ Sd w' b s j1 (-1) g a ln c ∧ Blk w'.heap kb 4 (b256 (inR (rs ++ r))) ∧ partP (L s) j = .ok (j1, r, none)) ∨
    (∃ j1 r u, t = true ∧ v = ((u : Nat) : Int) ∧ j < j1 ∧ j1 ≤ s.size ∧ Sd w' b s j1 (-1) g a ln c ∧ Blk w'.heap kb 4 (b256 (inR (rs ++ r))) ∧ partP (L s) j = .ok (j1, r, some u))), ⟨fun g1 => ?_, fun g1 => ?_⟩, ?_⟩
  · have h92 : at_ (L s) j = 92 := by rw [ht] at g1; exact of_decide_eq_true g1
    have hpp : partP (L s) j = escP (L s) (j + 1) := by unfold partP; rw [if_pos h92]
    refine (sescape_ok (h3y h92) hs (by omega) k3 (by omega)).use fun e w4 he => ?_
    obtain ⟨e4, he⟩ := he
    have E4 : Ext (fun x => x = b) w w4 := E3.step e4 fun i hi h => by omega
    cases hp : escP (L s) (j + 1) with
    | bad n4 =>
      rw [hp] at he
      obtain ⟨rfl, ⟨i, h4⟩, _⟩ := he
      exact ⟨_, _, rfl, E4, .inl ⟨i, n4, rfl, h4, by rw [← hC]; exact clsP_bad (by omega) hne (hpp.trans hp)⟩⟩
    | ok y =>
      obtain ⟨j1, r, o⟩ := y
      have hgt := partP_gt (by omega) (hpp.trans hp)
      rw [hp] at he
      cases o with
      | none =>
        obtain ⟨rfl, h4, k4⟩ := he
        exact ⟨_, _, rfl, E4, .inr (.inl ⟨j1, r, rfl, hgt.1, by omega, h4, happ _ _ _ k4, hpp.trans hp⟩)⟩
      | some u =>
        obtain ⟨rfl, h4, k4⟩ := he
        exact ⟨_, _, rfl, E4, .inr (.inr ⟨j1, r, u, rfl, rfl, hgt.1, by omega, h4, happ _ _ _ k4, hpp.trans hp⟩)⟩
  · have h92 : at_ (L s) j ≠ 92 := by rw [ht] at g1; exact of_decide_eq_false g1
    refine drw_in fun w4 q4 e4 => ?_
    have h4 : Sd w4 b s j (-1) g a ln c := Blk.keep (h3n h92) e4 fun h => h
    have k4 := k3.keep e4 fun h => h
    have E4 := E3.trans (Ext.mono e4 fun _ _ h => h.elim)
    refine ⟨s, h4.cell 0, j, h4.cell 1, ⟨by omega, by omega⟩, ?_⟩
    have hc := at_lt (L s) j
    rw [byteI s (j := j) rfl, w64 (n := (at_ (L s) j : Int)) (by omega)]
    refine ⟨kb, 0, ⟨rfl, by omega, by omega⟩, st_one k4 hc (by omega) fun w5 s5 k5 e5 => ?_⟩
    have h5 : Sd w5 b s j (-1) g a ln c := Blk.keep h4 e5 (by omega)
    have E5 : Ext (fun x => x = b) w w5 := E4.step e5 fun i hi h => by omega
    refine ⟨j, h5.cell 1, h5.mv (j := j + 1) (by rw [w64 (by omega)]; omega) fun w6 s6 h6 e6 => ?_⟩
    exact ⟨E5.trans e6, .inr (.inr ⟨j + 1, _, at_ (L s) j, rfl, rfl, by omega, by omega, h6, happ _ _ _ (k5.keep e6 (by omega)), by unfold partP; rw [if_neg h92]⟩)⟩
  clear h3y h3n k3 E3 ht t
  rintro d3 v t w4 ⟨E4, hst⟩
  refine drw_in fun w5 q5 e5 => ?_
  have E5 := E4.trans (Ext.mono e5 fun _ _ h => h.elim)
  have hS5 : ∀ {i : Nat} {bd : Int}, Sd w4 b s i bd g a ln c → Sd w5 b s i bd g a ln c := fun h => Blk.keep h e5 fun h => h
  have hK5 : ∀ {l : List Value}, Blk w4.heap kb 4 l → Blk w5.heap kb 4 l := fun h => h.keep e5 fun h => h
  rcases hst with ⟨i, e, rfl, h4, hb4⟩ | ⟨j1, r, rfl, hj1, hj1', h4, k4, hp⟩ | ⟨j1, r, u, rfl, rfl, hj1, hj1', h4, k4, hp⟩
  · exact ⟨fun _ => hnbad (hS5 h4) hb4 E5, fun g => (by cases g)⟩
  · exact ⟨fun _ => hnext hj1 hj1' (hS5 h4) (hK5 k4) (by rw [← hC]; exact (clsP_many (by omega) hne hp).symm) E5, fun g => (by cases g)⟩
  have h5 := hS5 h4
  have k5 := hK5 k4
  have hu := partP_one hp
  have hone := clsP_one (rs := rs) (by omega : j < (L s).length) hne hp
  rw [hC] at hone
  have hgo : (s.size ≤ j1 + 1 ∨ at_ (L s) j1 ≠ 45 ∨ at_ (L s) (j1 + 1) = 93) → clsP (L s) j1 false (rs ++ r) = C := fun hx => by
    rw [← hC]; exact (clsP_go (by omega) hne hp (by omega)).symm
  refine ⟨fun g => (by cases g), fun _ => ⟨j1, h5.cell 1, s, h5.cell 0, ?_⟩⟩
  rw [w64 (n := (j1 : Int) + 1) (by omega)]
  refine ⟨fun g1 => ?_, fun g1 => ?_⟩
  · exact hnext hj1 hj1' h5 k5 (hgo (.inl (by have := of_decide_eq_true g1; omega))) E5
  have g1' : j1 + 1 < s.size := by have := of_decide_eq_false g1; omega
  refine ⟨-1, h5.cell 2, fun g2 => absurd (of_decide_eq_true g2) (by decide), fun _ => ⟨s, h5.cell 0, j1, h5.cell 1, ⟨by omega, by omega⟩, ?_⟩⟩
  rw [byteI s (j := j1) rfl]
  refine ⟨fun g2 => ?_, fun g2 => ?_⟩
  · have g2' : at_ (L s) j1 ≠ 45 := by simp only [bne_iff_ne, ne_eq] at g2; omega
    exact hnext hj1 hj1' h5 k5 (hgo (.inr (.inl g2'))) E5
  have g2' : at_ (L s) j1 = 45 := by
    have : (at_ (L s) j1 : Int) = 45 := by simpa using g2
    omega
  refine ⟨s, h5.cell 0, j1, h5.cell 1, ⟨by rw [w64 (by omega)]; omega, by rw [w64 (by omega)]; omega⟩, ?_⟩
  rw [w64 (n := (j1 : Int) + 1) (by omega), byteI s (j := j1 + 1) (by omega)]
  refine ⟨fun g3 => ?_, fun g3 => ?_⟩
  · have g3' : at_ (L s) (j1 + 1) = 93 := by
      have : (at_ (L s) (j1 + 1) : Int) = 93 := by simpa using g3
      omega
    exact hnext hj1 hj1' h5 k5 (hgo (.inr (.inr g3'))) E5
  have g3' : at_ (L s) (j1 + 1) ≠ 93 := by
    have : ¬ (at_ (L s) (j1 + 1) : Int) = 93 := by simpa using g3
    omega
  rw [if_neg (by omega), if_neg (by omega), if_neg (by omega), if_neg g3'] at hone
  clear hgo
  refine ⟨j1, h5.cell 1, h5.mv (j := j1 + 1) (by rw [w64 (by omega)]; omega) fun w6 s6 h6 e6 => ⟨_, h6.cell 1, drw_in fun w7 q7 e7 => ?_⟩⟩
  have h7 : Sd w7 b s (j1 + 1) (-1) g a ln c := Blk.keep h6 e7 fun h => h
  have k7 := (k5.keep e6 (by omega)).keep e7 fun h => h
  have E7 := (E5.trans e6).trans (Ext.mono e7 fun _ _ h => h.elim)
  refine ⟨s, h7.cell 0, _, h7.cell 1, ⟨by omega, by omega⟩, ?_⟩
  rw [byteI s (j := j1 + 1) rfl]
  have hc2 := at_lt (L s) (j1 + 1)
  have hw2 : IntKind.wrap .i64 (at_ (L s) (j1 + 1) : Int) = (at_ (L s) (j1 + 1) : Int) := w64 (by omega)
  -- it goes wrong at the range's second part
  have hfail : ∀ {w' : World} {i' : Nat}, Sd w' b s i' (-1) g a ln c → Ext (fun x => x = b) w w' → C = .bad (j1 + 1) → stW b (0 + 1) [.int .i64 ((j1 + 1 : Nat) : Int)] (fun (w120 : World) => Cl Try.prog 79 ([.pointer (some ⟨b, 0, none⟩)]) w120 (retG (fun (r122 : Value) (w121 : World) => r122 = .tuple #[] ∧ R (.returned (.slice none 0 0)) w121) (fun c w => R (.panicked c) w))) w' := by
    intro w' i' h' E' hb'
    refine h'.mv (j := j1 + 1) rfl fun w8 s8 h8 e8 => ?_
    refine (sfail_ok h8).use fun e w9 he => ?_
    obtain ⟨rfl, h9, e9⟩ := he
    refine ⟨rfl, ?_⟩
    subst hR hb'
    exact ⟨(E'.trans e8).trans e9, rfl, _, h9⟩
  -- the range is put in
  have hput : ∀ {w' : World} {j2 hi : Nat}, Sd w' b s j2 (-1) g a ln c → j < j2 → j2 ≤ s.size → Blk w'.heap kb 4 (b256 (inR (rs ++ r))) → Ext (fun x => x = b) w w' → hi < 256 → clsP (L s) j2 false (rs ++ r ++ [(u, hi)]) = C → ∀ {hi' : Int}, hi' = hi → Cl Try.prog 165 ([.slice (some ⟨kb, 0, none⟩) 256 256, .int .i64 ((u : Nat) : Int), .int .i64 hi']) w' (retG (fun (r128 : Value) (w127 : World) => r128 = .tuple #[] ∧ (∃ (m129 : Nat), m129 < s.size - j + 1 ∧ ClsI w b s g a ln c kb C m129 (n + 1) w127)) (fun c w => R (.panicked c) w)) := by
    intro w' j2 hi h' hj2 hj2' k' E' hhi hC2 hi' hhi'
    refine (srange_ok k' u hi hhi rfl hhi').use fun e w8 he => ?_
    obtain ⟨rfl, k8, e8⟩ := he
    exact ⟨rfl, hnext hj2 hj2' (Blk.keep h' e8 (by omega)) (happ _ _ _ k8) hC2 (E'.step e8 fun i hi h => by omega)⟩
  by_cases h92 : at_ (L s) (j1 + 1) = 92
  · have hpp : partP (L s) (j1 + 1) = escP (L s) (j1 + 2) := by unfold partP; rw [if_pos h92]
    refine (is_yes h7 g1' (by omega) h92 rfl).use fun e w8 he => ?_
    obtain ⟨rfl, h8, e8⟩ := he
    refine ⟨true, rfl, fun _ => ?_, fun g => (by cases g)⟩
    obtain ⟨w9, hr9, s9, k9, e9⟩ := make256 w8
    refine ⟨_, _, _, w9, hr9, ?_⟩
    have h9 : Sd w9 b s (j1 + 2) (-1) g a ln c := Blk.keep h8 e9 fun h => h
    have k9' := (k7.keep e8 (by omega)).keep e9 fun h => h
    have E9 := (E7.trans e8).trans (Ext.mono e9 fun _ _ h => h.elim)
    have hz8 := (E7.trans e8).size
    have hkb8 := (k7.keep e8 (by omega)).lt
    refine (sescape_ok h9 hs (by omega) k9 (by omega)).use fun e w10 he => ?_
    obtain ⟨e10, he⟩ := he
    have E10 : Ext (fun x => x = b) w w10 := E9.step e10 fun i hi h => by omega
    have k10 := k9'.keep e10 (by omega)
    cases hp2 : escP (L s) (j1 + 2) with
    | bad n4 =>
      rw [hp2] at he
      rw [hpp, hp2] at hone
      obtain ⟨rfl, ⟨i, h10⟩, _⟩ := he
      refine ⟨_, _, rfl, n4, h10.cell 2, fun g => ?_, fun _ => ⟨n4, h10.cell 2, fun g => ?_, fun _ => hnbad h10 hone E10⟩⟩
      · have := of_decide_eq_true g; omega
      · have := of_decide_eq_true g; omega
    | ok y =>
      obtain ⟨j2, r2, o⟩ := y
      have hgt := partP_gt (by omega) (hpp.trans hp2)
      rw [hp2] at he
      rw [hpp, hp2] at hone
      cases o with
      | none =>
        obtain ⟨rfl, h10, _⟩ := he
        refine ⟨_, _, rfl, -1, h10.cell 2, fun _ => ⟨fun _ => hfail h10 E10 hone, fun g => by simp at g⟩, fun g => absurd (of_decide_eq_false g) (by decide)⟩
      | some hi =>
        have hhi := (partP_one (hpp.trans hp2)).2
        simp only [] at hone
        obtain ⟨rfl, h10, _⟩ := he
        refine ⟨_, _, rfl, -1, h10.cell 2, fun _ => ⟨fun g => by simp at g, fun _ => ⟨fun g4 => ?_, fun g4 => ⟨-1, h10.cell 2, fun _ => ?_, fun g => absurd (of_decide_eq_false g) (by decide)⟩⟩⟩, fun g => absurd (of_decide_eq_false g) (by decide)⟩
        · have := of_decide_eq_true g4
          rw [if_pos (by omega)] at hone
          exact hfail h10 E10 hone
        · have := of_decide_eq_false g4
          rw [if_neg (by omega)] at hone
          exact hput h10 (by omega) (by omega) k10 E10 hhi hone.symm rfl
  · have hpp : partP (L s) (j1 + 1) = .ok (j1 + 2, [(at_ (L s) (j1 + 1), at_ (L s) (j1 + 1))], some (at_ (L s) (j1 + 1))) := by unfold partP; rw [if_neg h92]
    rw [hpp] at hone
    simp only [] at hone
    refine (is_no h7 (ch := 92) (by omega) rfl).ret fun w8 b8 => ⟨false, rfl, fun g => (by cases g), fun _ => ?_⟩
    have h8 := h7.below b8
    refine ⟨_, h8.cell 1, h8.mv (j := j1 + 2) (by rw [w64 (by omega)]; omega) fun w9 s9 h9 e9 => ?_⟩
    have E9 := (E7.trans (Ext.of_below b8)).trans e9
    have k9 := (k7.below b8).keep e9 (by omega)
    rw [hw2]
    refine ⟨-1, h9.cell 2, fun _ => ⟨fun g => by simp at g, fun _ => ⟨fun g4 => ?_, fun g4 => ⟨-1, h9.cell 2, fun _ => ?_, fun g => absurd (of_decide_eq_false g) (by decide)⟩⟩⟩, fun g => absurd (of_decide_eq_false g) (by decide)⟩
    · have := of_decide_eq_true g4
      rw [if_pos (by omega)] at hone
      exact hfail h9 E9 hone
    · have := of_decide_eq_false g4
      rw [if_neg (by omega)] at hone
      exact hput h9 (by omega) (by omega) k9 E9 hc2 hone.symm rfl
theorem sclass_ok {w : World} {b : Nat} {s : ByteArray} {p g : Nat} {a : Option Addr} {ln c : Nat} (h : Sd w b s p (-1) g a ln c) (hs : s.size ≤ 120) (hp : p ≤ s.size) :
    Cl Try.prog 164 [.pointer (some ⟨b, 0, none⟩)] w (ClsS w b s g a ln c (clsFin (decide (at_ (L s) p = 94)) (clsP (L s) (if at_ (L s) p = 94 then p + 1 else p) true []))) := by
  apply vc164
  unfold V164
  have hsz := size_L s
  have hbl := h.lt
  obtain ⟨w4, hr4, s4, k4, e4⟩ := make256 w
  refine ⟨_, _, _, w4, hr4, ?_⟩
  have h4 : Sd w4 b s p (-1) g a ln c := Blk.keep h e4 fun h => h
  have E4 : Ext (fun x => x = b) w w4 := Ext.mono e4 fun _ _ h => h.elim
  by_cases h94 : at_ (L s) p = 94
  · have hlt : p < s.size := by
      by_cases hlt : p < s.size
      · exact hlt
      · unfold at_ at h94
        rw [List.getD_eq_getElem?_getD, List.getElem?_eq_none (by omega)] at h94
        exact absurd h94 (by decide)
    rw [if_pos h94]
    refine (is_yes h4 hlt (by omega) h94 rfl).use fun e w6 he => ?_
    obtain ⟨rfl, h6, e6⟩ := he
    exact ⟨true, rfl, sclass_loop hbl (Nat.le_refl _) hs (E4.trans e6) h6 (by omega) (k4.keep e6 (by omega)) rfl (by rw [decide_eq_true h94])⟩
  · rw [if_neg h94]
    refine (is_no h4 (ch := 94) (by omega) rfl).ret fun w6 b6 => ?_
    exact ⟨false, rfl, sclass_loop hbl (Nat.le_refl _) hs (E4.trans (Ext.of_below b6)) (h4.below b6) (by omega) (k4.below b6) rfl (by rw [decide_eq_false h94])⟩
end Go.Proofs.Ytngbiaeliphdjaa.V
/- The reference's reader: counts. No statement of the seat is proved here. -/
namespace Go.Vc
set_option linter.unusedVariables false
theorem digP_big (l : Bytes) : ∀ (k i n : Nat), k = l.length - i → 50 < n → 50 < (digP l i n).2 := by
  intro k
  induction k using Nat.strongRecOn with
  | _ k ih =>
    intro i n hk hn
    rw [digP]
    split
    · refine ih _ (by omega) _ _ rfl ?_
      show 50 < min _ _
      omega
    · exact hn
/-- Is there a digit? -/
def isDig (l : Bytes) (i : Nat) : Prop := i < l.length ∧ 48 ≤ at_ l i ∧ at_ l i ≤ 57
theorem numP_no {l : Bytes} {i : Nat} (hi : i ≤ l.length) (h : ¬ isDig l i) : numP l i = .bad i := by
  unfold isDig at h
  unfold numP
  split
  · congr 1; omega
  split
  · rfl
  · omega
end Go.Vc
namespace Go.Proofs.Ytngbiaeliphdjaa.V
open Go.Vc Go.Proofs Go.RowKit
set_option linter.unusedVariables false
set_option linter.unusedSimpArgs false
/-- What number leaves. -/
def NumS (w : World) (b : Nat) (s : ByteArray) (i g : Nat) (a : Option Addr) (ln c : Nat) : Ending → World → Prop := fun e w' => Ext (fun x => x = b) w w' ∧
  ((¬ isDig (L s) i ∧ e = .returned (.int .i64 (-1)) ∧ Sd w' b s i (-1) g a ln c) ∨
   (isDig (L s) i ∧ numP (L s) i = .bad i ∧ e = .returned (.int .i64 0) ∧ ∃ i', Sd w' b s i' (i : Int) g a ln c) ∨
   (∃ j n, isDig (L s) i ∧ numP (L s) i = .ok (j, n) ∧ n ≤ 50 ∧ i < j ∧ j ≤ s.size ∧ e = .returned (.int .i64 (n : Int)) ∧ Sd w' b s j (-1) g a ln c))
theorem snumber_ok {w : World} {b : Nat} {s : ByteArray} {i g : Nat} {a : Option Addr} {ln c : Nat} (h : Sd w b s i (-1) g a ln c) (hs : s.size ≤ 120) (hi : i ≤ s.size) :
    Cl Try.prog 168 [.pointer (some ⟨b, 0, none⟩)] w (NumS w b s i g a ln c) := by
  apply vc168
  unfold V168
  have hsz := size_L s
  refine ⟨i, h.cell 1, fun k n w' => ∃ j v : Nat, n = (v : Int) ∧ v ≤ 50 ∧ i ≤ j ∧ j ≤ s.size ∧ k = s.size - j ∧ digP (L s) j v = digP (L s) i 0 ∧ Sd w' b s j (-1) g a ln c ∧ Ext (fun x => x = b) w w' ∧ (i < j → isDig (L s) i), ⟨_, i, 0, rfl, by omega, Nat.le_refl _, hi, rfl, rfl, h, Ext.refl _ _, fun h => absurd h (Nat.lt_irrefl _)⟩, ?_⟩
  rintro k d n w1 ⟨j, v, rfl, hv, hij, hj, rfl, hd, h1, E1, hdg⟩
  refine drw_in fun w2 q2 e2 => ?_
  have h2 : Sd w2 b s j (-1) g a ln c := Blk.keep h1 e2 fun h => h
  have E2 := E1.trans (Ext.mono e2 fun _ _ h => h.elim)
  refine (more_ok h2).ret fun w3 b3 => ⟨_, rfl, ?_⟩
  have h3 := h2.below b3
  have E3 := E2.trans (Ext.of_below b3)
  have hout : ¬ isDig (L s) j → ∃ (n27 : Int), cellH w3.heap b (0 + 1) = some (.int .i64 n27) ∧ ((((n27 : Int) == (i : Int)) = true → NumS w b s i g a ln c (.returned (.int .i64 (-1))) w3) ∧ (((n27 : Int) == (i : Int)) = false → NumS w b s i g a ln c (.returned (.int .i64 (v : Int))) w3)) := by
    intro hnd
    have hdj : digP (L s) j v = (j, v) := by unfold isDig at hnd; rw [digP, dif_neg hnd]
    refine ⟨j, h3.cell 1, fun g1 => ?_, fun g1 => ?_⟩
    · have : j = i := by have : (j : Int) = i := by simpa using g1
                         omega
      subst this
      exact ⟨E3, .inl ⟨hnd, rfl, h3⟩⟩
    · have : j ≠ i := by have : ¬ (j : Int) = i := by simpa using g1
                         omega
      have hdi := hdg (by omega)
      refine ⟨E3, .inr (.inr ⟨j, v, hdi, ?_, hv, by omega, hj, rfl, h3⟩)⟩
      unfold numP
      unfold isDig at hdi
      rw [if_neg (by omega), if_neg (by omega), ← hd, hdj, if_neg (by show ¬ 50 < v; omega)]
  refine ⟨fun g1 => ?_, fun g1 => hout ?_⟩
  · have g1' := of_decide_eq_true g1
    refine ⟨s, h3.cell 0, j, h3.cell 1, ⟨by omega, by omega⟩, ?_⟩
    rw [byteI s (j := j) rfl]
    refine ⟨fun g2 => ⟨s, h3.cell 0, j, h3.cell 1, ⟨by omega, by omega⟩, ?_⟩, fun g2 => hout ?_⟩
    · have g2' := of_decide_eq_true g2
      rw [byteI s (j := j) rfl]
      refine ⟨fun g3 => drw_in fun w4 q4 e4 => ?_, fun g3 => hout ?_⟩
      · have g3' := of_decide_eq_true g3
        have h4 : Sd w4 b s j (-1) g a ln c := Blk.keep h3 e4 fun h => h
        have E4 := E3.trans (Ext.mono e4 fun _ _ h => h.elim)
        have hdj : isDig (L s) j := ⟨by omega, by omega, by omega⟩
        have hdi : isDig (L s) i := by
          rcases Nat.lt_or_ge i j with h | h
          · exact hdg h
          · have : j = i := by omega
            rw [← this]; exact hdj
        refine ⟨s, h4.cell 0, j, h4.cell 1, ⟨by omega, by omega⟩, ?_⟩
        rw [byteI s (j := j) rfl]
        have hw : IntKind.wrap .i64 (IntKind.wrap .i64 ((v : Int) * 10) + IntKind.wrap .i64 (IntKind.wrap .u8 ((at_ (L s) j : Int) - 48))) = ((10 * v + (at_ (L s) j - 48) : Nat) : Int) := by
          rw [w8, w64 (n := (v : Int) * 10) (by omega), w64 (n := ((at_ (L s) j : Int) - 48) % 256) (by omega), w64 (by omega)]; omega
        rw [hw]
        have hst : digP (L s) j v = digP (L s) (j + 1) (Nat.min 1000 (10 * v + (at_ (L s) j - 48))) := by
          conv => lhs; rw [digP]
          unfold isDig at hdj; rw [dif_pos hdj]
        have hmin : Nat.min 1000 (10 * v + (at_ (L s) j - 48)) = 10 * v + (at_ (L s) j - 48) := by
          show min _ _ = _
          omega
        rw [hmin] at hst
        refine ⟨fun g4 => ?_, fun g4 => ?_⟩
        · have g4' := of_decide_eq_true g4
          refine h4.mv (j := i) rfl fun w5 s5 h5 e5 => ?_
          refine (sfail_ok h5).use fun e w6 he => ?_
          obtain ⟨rfl, h6, e6⟩ := he
          refine ⟨rfl, (E4.trans e5).trans e6, .inr (.inl ⟨hdi, ?_, rfl, _, h6⟩)⟩
          unfold numP
          have hdi' := hdi
          unfold isDig at hdi'
          rw [if_neg (by omega), if_neg (by omega), ← hd, hst, if_pos (digP_big _ _ _ _ rfl (by omega))]
        · have g4' := of_decide_eq_false g4
          refine ⟨j, h4.cell 1, h4.mv (j := j + 1) (by rw [w64 (by omega)]; omega) fun w5 s5 h5 e5 => ?_⟩
          exact ⟨s.size - (j + 1), by omega, j + 1, 10 * v + (at_ (L s) j - 48), rfl, by omega, by omega, by omega, rfl, by rw [← hd, hst], h5, E4.trans e5, fun _ => hdi⟩
      · have g3' := of_decide_eq_false g3
        unfold isDig; omega
    · have g2' := of_decide_eq_false g2
      unfold isDig; omega
  · have g1' := of_decide_eq_false g1
    unfold isDig; omega
/-- What counts leaves. -/
def CntS (w : World) (b : Nat) (s : ByteArray) (g : Nat) (a : Option Addr) (ln c : Nat) (r : Pr (Nat × Int × Int)) : Ending → World → Prop := fun e w' => Ext (fun x => x = b) w w' ∧ match r with
  | .bad n => (∃ x y, e = .returned (.tuple #[.int .i64 x, .int .i64 y])) ∧ ∃ i, Sd w' b s i (n : Int) g a ln c
  | .ok (j, lo, hi) => e = .returned (.tuple #[.int .i64 lo, .int .i64 hi]) ∧ Sd w' b s j (-1) g a ln c
theorem scounts_ok {w : World} {b : Nat} {s : ByteArray} {i g : Nat} {a : Option Addr} {ln c : Nat} (h : Sd w b s i (-1) g a ln c) (hs : s.size ≤ 120) (hi : i ≤ s.size) :
    Cl Try.prog 150 [.pointer (some ⟨b, 0, none⟩)] w (CntS w b s g a ln c (braP (L s) i)) := by
  apply vc150
  unfold V150
  have hsz := size_L s
  generalize hC : braP (L s) i = C
  unfold braP at hC
  refine (snumber_ok h hs hi).use fun e w1 he => ?_
  obtain ⟨E1, he⟩ := he
  -- the end
  have hfin : ∀ {lo n : Int} {w' : World}, Ext (fun x => x = b) w w' → ((∃ j, j ≤ s.size ∧ Sd w' b s j (-1) g a ln c ∧ C = (if j < s.size ∧ at_ (L s) j = 125 then .ok (j + 1, lo, n) else .bad j)) ∨ (∃ i e, Sd w' b s i ((e : Nat) : Int) g a ln c ∧ C = .bad e)) →
      Cl Try.prog 112 ([.pointer (some ⟨b, 0, none⟩), .int .u8 125]) w' (retG (fun (r25 : Value) (w24 : World) => ∃ (t23 : Bool), r25 = .bool t23 ∧ (((!t23) = true → Cl Try.prog 79 ([.pointer (some ⟨b, 0, none⟩)]) w24 (retG (fun (r27 : Value) (w26 : World) => r27 = .tuple #[] ∧ CntS w b s g a ln c C (.returned (.tuple #[.int .i64 lo, .int .i64 n])) w26) (fun c1 w' => CntS w b s g a ln c C (.panicked c1) w'))) ∧ ((!t23) = false → CntS w b s g a ln c C (.returned (.tuple #[.int .i64 lo, .int .i64 n])) w24))) (fun c1 w' => CntS w b s g a ln c C (.panicked c1) w')) := by
    intro lo n w' E' hst
    rcases hst with ⟨j, hj, h', hC'⟩ | ⟨i', e', h', hC'⟩
    · by_cases hy : j < s.size ∧ at_ (L s) j = 125
      · rw [if_pos hy] at hC'
        refine (is_yes h' hy.1 (by omega) hy.2 rfl).use fun e w2 he => ?_
        obtain ⟨rfl, h2, e2⟩ := he
        refine ⟨true, rfl, fun g => by simp at g, fun _ => ?_⟩
        subst hC'
        exact ⟨E'.trans e2, rfl, h2⟩
      · rw [if_neg hy] at hC'
        refine (is_no h' (ch := 125) hy rfl).ret fun w2 b2 => ⟨false, rfl, fun _ => ?_, fun g => by simp at g⟩
        refine (sfail_ok (h'.below b2)).use fun e w3 he => ?_
        obtain ⟨rfl, h3, e3⟩ := he
        refine ⟨rfl, ?_⟩
        subst hC'
        exact ⟨(E'.trans (Ext.of_below b2)).trans e3, ⟨_, _, rfl⟩, _, h3⟩
    · refine (is_bad h' 125).ret fun w2 b2 => ⟨false, rfl, fun _ => ?_, fun g => by simp at g⟩
      refine (sfail_bad (h'.below b2)).ret fun w3 b3 => ⟨rfl, ?_⟩
      subst hC'
      exact ⟨(E'.trans (Ext.of_below b2)).trans (Ext.of_below b3), ⟨_, _, rfl⟩, _, (h'.below b2).below b3⟩
  rcases he with ⟨hnd, rfl, h1⟩ | ⟨hd, hnum, rfl, i1, h1⟩ | ⟨j, lo, hd, hnum, hlo, hij, hj, rfl, h1⟩
  · rw [numP_no (by omega) hnd] at hC
    refine ⟨-1, rfl, fun _ => ?_, fun g => absurd (of_decide_eq_false g) (by decide)⟩
    refine (sfail_ok h1).use fun e w2 he => ?_
    obtain ⟨rfl, h2, e2⟩ := he
    refine ⟨rfl, ?_⟩
    subst hC
    exact ⟨E1.trans e2, ⟨_, _, rfl⟩, _, h2⟩
  · rw [hnum] at hC
    refine ⟨0, rfl, fun g => absurd (of_decide_eq_true g) (by decide), fun _ => ?_⟩
    refine (is_bad h1 44).ret fun w2 b2 => ⟨false, rfl, ?_⟩
    refine ⟨fun n w' => Ext (fun x => x = b) w w' ∧ ∃ i1, Sd w' b s i1 (i : Int) g a ln c, ⟨fun g => (by cases g), fun _ => ⟨E1.trans (Ext.of_below b2), _, h1.below b2⟩⟩, ?_⟩
    rintro d n w3 ⟨E3, i3, h3⟩
    exact hfin E3 (.inr ⟨i3, i, h3, hC.symm⟩)
  · rw [hnum] at hC
    simp only [] at hC
    refine ⟨lo, rfl, fun g => ?_, fun _ => ?_⟩
    · have := of_decide_eq_true g; omega
    by_cases hcm : j < s.size ∧ at_ (L s) j = 44
    · rw [if_neg (by omega), if_pos hcm.2] at hC
      refine (is_yes h1 hcm.1 (by omega) hcm.2 rfl).use fun e w2 he => ?_
      obtain ⟨rfl, h2, e2⟩ := he
      have E2 := E1.trans e2
      refine ⟨true, rfl, fun n w' => Ext (fun x => x = b) w w' ∧ ((∃ j, j ≤ s.size ∧ Sd w' b s j (-1) g a ln c ∧ C = (if j < s.size ∧ at_ (L s) j = 125 then .ok (j + 1, (lo : Int), n) else .bad j)) ∨ (∃ i e, Sd w' b s i ((e : Nat) : Int) g a ln c ∧ C = .bad e)), ⟨fun _ => ⟨_, h2.cell 1, ?_⟩, fun g => (by cases g)⟩, fun d n w3 h3 => hfin h3.1 h3.2⟩
      refine (snumber_ok h2 hs (by omega)).use fun e w3 he => ?_
      obtain ⟨E3', he⟩ := he
      have E3 := E2.trans E3'
      rcases he with ⟨hnd, rfl, h3⟩ | ⟨hd2, hnum2, rfl, i3, h3⟩ | ⟨k, hi2, hd2, hnum2, hlo2, hij2, hj2, rfl, h3⟩
      · refine ⟨-1, rfl, -1, h3.cell 2, fun _ => ⟨fun g => absurd (of_decide_eq_true g) (by decide), fun _ => ⟨E3, .inl ⟨j + 1, by omega, h3, ?_⟩⟩⟩, fun g => absurd (of_decide_eq_false g) (by decide)⟩
        rw [← hC]
        by_cases hl : (L s).length ≤ j + 1
        · rw [if_pos hl, if_neg (by omega)]; congr 1; omega
        · rw [if_neg hl]
          by_cases h125 : at_ (L s) (j + 1) = 125
          · rw [if_pos h125, if_pos ⟨by omega, h125⟩]
          · rw [if_neg h125, if_neg (by omega), numP_no (by omega) hnd]
      · have h125 : at_ (L s) (j + 1) ≠ 125 := by unfold isDig at hd2; omega
        refine ⟨0, rfl, _, h3.cell 2, fun g => ?_, fun _ => ⟨E3, .inr ⟨i3, j + 1, h3, ?_⟩⟩⟩
        · have := of_decide_eq_true g; omega
        · unfold isDig at hd2
          rw [← hC, if_neg (by omega), if_neg h125, hnum2]
      · have h125 : at_ (L s) (j + 1) ≠ 125 := by unfold isDig at hd2; omega
        have hC2 := hC
        unfold isDig at hd2
        rw [if_neg (by omega), if_neg h125, hnum2] at hC2
        simp only [] at hC2
        refine ⟨hi2, rfl, -1, h3.cell 2, fun _ => ⟨fun _ => ⟨fun g => ?_, fun g => ?_⟩, fun g => ?_⟩, fun g => absurd (of_decide_eq_false g) (by decide)⟩
        · have g' := of_decide_eq_true g
          rw [if_pos (by omega)] at hC2
          refine h3.mv (j := j + 1) rfl fun w4 s4 h4 e4 => ?_
          refine (sfail_ok h4).use fun e w5 he => ?_
          obtain ⟨rfl, h5, e5⟩ := he
          exact ⟨rfl, (E3.trans e4).trans e5, .inr ⟨_, j + 1, h5, hC2.symm⟩⟩
        · have g' := of_decide_eq_false g
          rw [if_neg (by omega)] at hC2
          refine ⟨E3, .inl ⟨k, hj2, h3, ?_⟩⟩
          rw [← hC2]
          by_cases hl : (L s).length ≤ k
          · rw [if_pos hl, if_neg (by omega)]; congr 1; omega
          · rw [if_neg hl]
            by_cases h125' : at_ (L s) k = 125
            · rw [if_pos h125', if_pos ⟨by omega, h125'⟩]
            · rw [if_neg h125', if_neg (by omega)]
        · have := of_decide_eq_false g; omega
    · refine (is_no h1 (ch := 44) hcm rfl).ret fun w2 b2 => ?_
      refine ⟨false, rfl, fun n w' => Ext (fun x => x = b) w w' ∧ n = (lo : Int) ∧ Sd w' b s j (-1) g a ln c, ⟨fun g => (by cases g), fun _ => ⟨E1.trans (Ext.of_below b2), rfl, h1.below b2⟩⟩, ?_⟩
      rintro d n w3 ⟨E3, rfl, h3⟩
      refine hfin E3 (.inl ⟨j, hj, h3, ?_⟩)
      rw [← hC]
      by_cases hl : (L s).length ≤ j
      · rw [if_pos hl, if_neg (by omega)]; congr 1; omega
      · rw [if_neg hl, if_neg (by omega)]
        by_cases h125' : at_ (L s) j = 125
        · rw [if_pos h125', if_pos ⟨by omega, h125'⟩]
        · rw [if_neg h125', if_neg (by omega)]
end Go.Proofs.Ytngbiaeliphdjaa.V
/- put, number, counts in the program's reader. No statement of the seat is proved here. -/
namespace Go.Proofs.Ytngbiaeliphdjaa.V
open Go.Vc Go.Proofs Go.RowKit
set_option linter.unusedVariables false
set_option linter.unusedSimpArgs false

structure PSt (N : Nat) (w : World) (b : Nat) (s : ByteArray) (i g : Nat) (dp : Int) (a : Option Addr) (ln c : Nat) (rs : List Raw) (ps : List Pc) : Prop where
  rd : Rd w b s i g dp a ln c
  pcs : Pcs N w a ln c rs ps
  lt : b < N
  hN : N ≤ w.heap.size
theorem PSt.notb {N : Nat} {w : World} {b : Nat} {s : ByteArray} {i g : Nat} {dp : Int} {a : Option Addr} {ln c : Nat} {rs : List Raw} {ps : List Pc} (h : PSt N w b s i g dp a ln c rs ps) : b ∉ blks a rs := fun hb => by have := h.pcs.low b hb; have := h.lt; omega
theorem PSt.below {N : Nat} {w w' : World} {b : Nat} {s : ByteArray} {i g : Nat} {dp : Int} {a : Option Addr} {ln c : Nat} {rs : List Raw} {ps : List Pc} (h : PSt N w b s i g dp a ln c rs ps) (k : Below w.heap.size w w') : PSt N w' b s i g dp a ln c rs ps :=
  ⟨h.rd.below k, h.pcs.below k, h.lt, Nat.le_trans h.hN k.size⟩
/-- The reader's own block alone has changed. -/
theorem PSt.upd {N : Nat} {w w' : World} {b : Nat} {s : ByteArray} {i g i' g' : Nat} {dp dp' : Int} {a : Option Addr} {ln c : Nat} {rs : List Raw} {ps : List Pc} (h : PSt N w b s i g dp a ln c rs ps) (e : Ext (fun k => k = b) w w') (hr : Rd w' b s i' g' dp' a ln c) : PSt N w' b s i' g' dp' a ln c rs ps :=
  ⟨hr, h.pcs.keep e fun k hk hb => by subst hb; exact h.notb hk, h.lt, Nat.le_trans h.hN e.size⟩
theorem PSt.other {S : Nat → Prop} {N : Nat} {w w' : World} {b : Nat} {s : ByteArray} {i g : Nat} {dp : Int} {a : Option Addr} {ln c : Nat} {rs : List Raw} {ps : List Pc} (h : PSt N w b s i g dp a ln c rs ps) (e : Ext S w w') (hb : ¬ S b) (hs : ∀ k ∈ blks a rs, ¬ S k) : PSt N w' b s i g dp a ln c rs ps :=
  ⟨Blk.keep h.rd e hb, h.pcs.keep e hs, h.lt, Nat.le_trans h.hN e.size⟩

/-- What put leaves. -/
def PutR (N : Nat) (w : World) (b : Nat) (s : ByteArray) (i g : Nat) (dp : Int) (a : Option Addr) (ln : Nat) (rs : List Raw) (ps : List Pc) (r : Raw) (p : Pc) : Ending → World → Prop := fun e w' =>
  e = .returned (.int .i64 ln) ∧ ∃ a2 c2, PSt N w' b s i g dp a2 (ln + 1) c2 (rs ++ [r]) (ps ++ [p]) ∧ Ext (fun k => k = b ∨ k ∈ blks a rs) w w' ∧ ∀ k ∈ blks a2 (rs ++ [r]), k ∈ blks a rs ∨ k ∈ r.blocks ∨ w.heap.size ≤ k
theorem put_ok {N : Nat} {w : World} {b : Nat} {s : ByteArray} {i g : Nat} {dp : Int} {a : Option Addr} {ln c : Nat} {rs : List Raw} {ps : List Pc} (h : PSt N w b s i g dp a ln c rs ps) {r : Raw} {p : Pc} (hr : RawOk w r p) (hb : r.blocks.Nodup) (hd : ∀ k ∈ r.blocks, k ∉ blks a rs ∧ N ≤ k) (hl : ln ≤ 1000) :
    Cl Try.prog 110 [.pointer (some ⟨b, 0, none⟩), .agg ⟨r.cells⟩] w (PutR N w b s i g dp a ln rs ps r p) := by
  have hbl := h.rd.lt
  refine vc110 (n3 := r.kind) (a4 := r.sa) (l4 := r.sl) (c4 := r.sc) (n5 := r.min) (n6 := r.max) (t7 := r.lazy) (n8 := r.num) (a9 := r.ka) (l9 := r.kl) (c9 := r.kc) ?_
  unfold V110
  refine newC_in fun w1 s1 k1 e1 => ?_
  refine drw_in fun w2 q2 e2 => ?_
  have E2 : Below w.heap.size w w2 := Ext.to (Ext.to (Below.refl _ _) e1 fun _ h => h.elim) e2 fun _ h => h.elim
  have h2 := h.below E2
  have k2 : Blk w2.heap w.heap.size 111 r.cells := k1.keep e2 fun h => h
  have r2 : RawOk w2 r p := hr.keep (S := fun _ => False) (Ext.of_below E2) fun _ _ h => h
  refine ⟨a, ln, c, h2.rd.cell 4, _, k2.cell 0, _, _, _, k2.cell 1, _, k2.cell 2, _, k2.cell 3, _, k2.cell 4, _, k2.cell 5, _, _, _, k2.cell 6, ?_⟩
  obtain ⟨a2, c2, w3, p1, p2, p3, p4⟩ := Pcs_app h2.pcs h2.hN r2 hb hd hl
  refine ⟨?_, a2, ln + 1, c2, w3, p1, ?_⟩
  · exact (Blk.vnew h2.rd _).cell 4
  have hob : ∀ k, k ∈ ob a → k ∈ blks a rs := fun k hk => List.mem_append_left _ hk
  have hR3 : Rd w3 b s i g dp a ln c := Blk.keep h2.rd p3 fun hk => h2.notb (hob _ hk)
  refine stW_in hR3 (by show 0 + 4 + 1 ≤ 5; decide) fun w4 s4 k4 e4 => ?_
  have hR4 : Rd w4 b s i g dp a2 (ln + 1) c2 := k4
  have hz := E2.size
  have hz3 := p3.size
  have hblk : ∀ k ∈ blks a2 (rs ++ [r]), k ∈ blks a rs ∨ k ∈ r.blocks ∨ w2.heap.size ≤ k := by
    intro k hk
    simp only [blks, List.flatMap_append, List.mem_append, List.flatMap_cons, List.flatMap_nil, List.append_nil] at hk ⊢
    rcases hk with hk | hk | hk
    · rcases p4 with rfl | rfl
      · exact .inl (.inl hk)
      · right; right; rw [mem_ob] at hk; simp [blkOf] at hk; omega
    · exact .inl (.inr hk)
    · exact .inr (.inl hk)
  refine ⟨_, _, _, hR4.cell 4, ?_, a2, c2, ⟨hR4, p2.keep e4 fun k hk hkb => ?_, h.lt, by have := h.hN; omega⟩, ?_, ?_⟩
  · rw [show IntKind.wrap .i64 ((((ln + 1 : Nat) : Int)) - 1) = (ln : Int) from by rw [w64 (by omega)]; omega]
  · subst hkb
    rcases hblk k hk with h1 | h1 | h1
    · exact h.notb h1
    · have := (hd k h1).2; have := h.lt; omega
    · omega
  · exact ((Ext.of_below E2).trans (Ext.mono p3 fun k _ hk => .inr (hob k hk))).trans (Ext.mono e4 fun k _ hk => .inl hk)
  · intro k hk
    rcases hblk k hk with h1 | h1 | h1
    · exact .inl h1
    · exact .inr (.inl h1)
    · exact .inr (.inr (by omega))

/-! ### Numbers -/
theorem min_run (x y : Int) (w : World) : (Builtin.min_ #[3, 3] 3 #[.int .i64 x, .int .i64 y]).run Try.prog w = .ok (.int .i64 (if y < x then y else x)) w := by simp [Builtin.min_, Builtin.min2]
theorem number_ok {w : World} {b : Nat} {s : ByteArray} {i g : Nat} {dp : Int} {a : Option Addr} {ln c : Nat} (h : Rd w b s i g dp a ln c) (hs : s.size ≤ 120) (hi : i ≤ s.size) :
    Cl Try.prog 148 [.pointer (some ⟨b, 0, none⟩)] w (fun e w' => Ext (fun k => k = b) w w' ∧ match numP (L s) i with | .bad n => e = PanicB n | .ok (j, v) => e = .returned (.int .i64 (v : Int)) ∧ Rd w' b s j g dp a ln c ∧ j ≤ s.size) := by
  apply vc148
  unfold V148
  have hsz := size_L s
  refine ⟨i, h.cell 1, ?_⟩
  unfold numP
  by_cases hl : i < s.size
  case neg =>
    refine (need_bad h hl).use fun e w1 he => ?_
    obtain ⟨rfl, b1⟩ := he
    refine ⟨Ext.of_below b1, ?_⟩
    rw [if_pos (by omega), ← hsz]; rfl
  rw [if_neg (by omega)]
  refine (need_ret h hl).ret fun w1 b1 => ⟨_, rfl, ?_⟩
  have h1 := h.below b1
  have E1 : Ext (fun k => k = b) w w1 := Ext.of_below b1
  have hbad : (at_ (L s) i < 48 ∨ 57 < at_ (L s) i) → ∀ F : Value → World → Prop, ∃ n8 : Int, cellH w1.heap b (0 + 1) = some (.int .i64 n8) ∧ Cl Try.prog 76 [.pointer (some ⟨b, 0, none⟩), .int .i64 n8] w1 (retG F
        (fun c1 w' => Ext (fun k => k = b) w w' ∧ match (if at_ (L s) i < 48 ∨ 57 < at_ (L s) i then Pr.bad i else if 50 < (digP (L s) i 0).2 then .bad i else .ok (digP (L s) i 0)) with | .bad n => Ending.panicked c1 = PanicB n | .ok (j, v) => Ending.panicked c1 = .returned (.int .i64 (v : Int)) ∧ Rd w' b s j g dp a ln c ∧ j ≤ s.size)) := by
    intro n1 F
    refine ⟨_, h1.cell 1, (fail_ok b i rfl w1).use fun e w3 he => ?_⟩
    obtain ⟨rfl, rfl⟩ := he
    refine ⟨E1, ?_⟩
    rw [if_pos n1]; rfl
  refine ⟨fun w' => Rd w' b s i g dp a ln c ∧ Ext (fun k => k = b) w w' ∧ 48 ≤ at_ (L s) i ∧ at_ (L s) i ≤ 57, ⟨fun g1 => hbad (.inl (by have := of_decide_eq_true g1; omega)) _, fun g1 => ⟨fun g2 => hbad (.inr (by have := of_decide_eq_true g2; omega)) _, fun g2 => ⟨h1, E1, by have := of_decide_eq_false g1; omega, by have := of_decide_eq_false g2; omega⟩⟩⟩, ?_⟩
  rintro - w2 ⟨h2, E2, hd1, hd2⟩
  rw [if_neg (by omega)]
  refine ⟨fun k n w' => ∃ (j v : Nat), n = v ∧ v ≤ 1000 ∧ j ≤ s.size ∧ k = s.size - j ∧ digP (L s) j v = digP (L s) i 0 ∧ Rd w' b s j g dp a ln c ∧ Ext (fun k => k = b) w w', ⟨_, i, 0, rfl, by omega, hi, rfl, rfl, h2, E2⟩, ?_⟩
  rintro k d n w3 ⟨j, v, rfl, hv, hj, rfl, hdig, h3, E3⟩
  refine drw_in fun w4 q4 e4 => ?_
  have h4 : Rd w4 b s j g dp a ln c := Blk.keep h3 e4 fun h => h
  have E4 : Ext (fun k => k = b) w w4 := E3.trans (Ext.mono e4 fun _ _ h => h.elim)
  refine (end_ok h4).ret fun w5 b5 => ⟨_, rfl, ?_⟩
  have h5 := h4.below b5
  have E5 : Ext (fun k => k = b) w w5 := E4.trans (Ext.of_below b5)
  -- the end of the digits
  have hout : digP (L s) j v = (j, v) → ((decide ((v : Int) > 50)) = true → Cl Try.prog 76 [.pointer (some ⟨b, 0, none⟩), .int .i64 (i : Int)] w5 (retG (fun (r32 : Value) (w31 : World) => r32 = .tuple #[] ∧ (Ext (fun k => k = b) w w31 ∧ match (if 50 < (digP (L s) i 0).2 then Pr.bad i else .ok (digP (L s) i 0)) with | .bad n => Ending.returned (.int .i64 (v : Int)) = PanicB n | .ok (j, v1) => Ending.returned (.int .i64 (v : Int)) = .returned (.int .i64 (v1 : Int)) ∧ Rd w31 b s j g dp a ln c ∧ j ≤ s.size))
        (fun c1 w' => Ext (fun k => k = b) w w' ∧ match (if 50 < (digP (L s) i 0).2 then Pr.bad i else .ok (digP (L s) i 0)) with | .bad n => Ending.panicked c1 = PanicB n | .ok (j, v1) => Ending.panicked c1 = .returned (.int .i64 (v1 : Int)) ∧ Rd w' b s j g dp a ln c ∧ j ≤ s.size))) ∧
      ((decide ((v : Int) > 50)) = false → (Ext (fun k => k = b) w w5 ∧ match (if 50 < (digP (L s) i 0).2 then Pr.bad i else .ok (digP (L s) i 0)) with | .bad n => Ending.returned (.int .i64 (v : Int)) = PanicB n | .ok (j, v1) => Ending.returned (.int .i64 (v : Int)) = .returned (.int .i64 (v1 : Int)) ∧ Rd w5 b s j g dp a ln c ∧ j ≤ s.size)) := by
    intro hd
    rw [← hdig, hd]
    refine ⟨fun g1 => ?_, fun g1 => ?_⟩
    · have g1' := of_decide_eq_true g1
      refine (fail_ok b i rfl w5).use fun e w6 he => ?_
      obtain ⟨rfl, rfl⟩ := he
      refine ⟨E5, ?_⟩
      rw [if_pos (show 50 < v by omega)]; rfl
    · have g1' := of_decide_eq_false g1
      refine ⟨E5, ?_⟩
      rw [if_neg (show ¬ 50 < v by omega)]
      exact ⟨rfl, h5, hj⟩
  refine ⟨fun g1 => ?_, fun g1 => ?_⟩
  · have g1' : j < s.size := by
      have : decide (s.size ≤ j) = false := by simpa using g1
      have := of_decide_eq_false this; omega
    refine ⟨s, h5.cell 0, j, h5.cell 1, ⟨by omega, by omega⟩, ?_⟩
    rw [byteI s (j := j) rfl]
    refine ⟨fun g2 => ?_, fun g2 => ?_⟩
    · have g2' := of_decide_eq_true g2
      refine ⟨s, h5.cell 0, j, h5.cell 1, ⟨by omega, by omega⟩, ?_⟩
      rw [byteI s (j := j) rfl]
      refine ⟨fun g3 => ?_, fun g3 => ?_⟩
      · have g3' := of_decide_eq_true g3
        refine drw_in fun w6 q6 e6 => ?_
        have h6 : Rd w6 b s j g dp a ln c := Blk.keep h5 e6 fun h => h
        refine ⟨s, h6.cell 0, j, h6.cell 1, ⟨by omega, by omega⟩, ?_⟩
        rw [byteI s (j := j) rfl]
        refine ⟨_, min_run _ _ _, j, h6.cell 1, ?_⟩
        refine h6.mv (j := j + 1) (by rw [w64 (by omega)]; omega) fun w7 s7 h7 e7 => ?_
        have hw : IntKind.wrap .i64 (IntKind.wrap .i64 (10 * (v : Int)) + IntKind.wrap .i64 (IntKind.wrap .u8 ((at_ (L s) j : Int) - 48))) = ((10 * v + (at_ (L s) j - 48) : Nat) : Int) := by
          rw [w8, w64 (n := 10 * (v : Int)) (by omega), w64 (n := ((at_ (L s) j : Int) - 48) % 256) (by omega), w64 (by omega)]; omega
        rw [hw]
        refine ⟨s.size - (j + 1), by omega, j + 1, Nat.min 1000 (10 * v + (at_ (L s) j - 48)), ?_, Nat.min_le_left _ _, by omega, rfl, ?_, h7, (E5.trans (Ext.mono e6 fun _ _ h => h.elim)).trans e7⟩
        · have : Nat.min 1000 (10 * v + (at_ (L s) j - 48)) = if 10 * v + (at_ (L s) j - 48) < 1000 then 10 * v + (at_ (L s) j - 48) else 1000 := by
            show min _ _ = _
            split <;> omega
          rw [this]
          split <;> split <;> omega
        · rw [← hdig]; conv => rhs; rw [digP]
          rw [dif_pos ⟨by omega, by omega, by omega⟩]
      · have g3' := of_decide_eq_false g3
        exact hout (by rw [digP, dif_neg (by omega)])
    · have g2' := of_decide_eq_false g2
      exact hout (by rw [digP, dif_neg (by omega)])
  · have g1' : ¬ j < s.size := by
      have : decide (s.size ≤ j) = true := by simpa using g1
      have := of_decide_eq_true this; omega
    exact hout (by rw [digP, dif_neg (by omega)])
end Go.Proofs.Ytngbiaeliphdjaa.V
/- counts in the program's reader. No statement of the seat is proved here. -/
namespace Go.Proofs.Ytngbiaeliphdjaa.V
open Go.Vc Go.Proofs Go.RowKit
set_option linter.unusedVariables false
set_option linter.unusedSimpArgs false

/-- What a reading function leaves. -/
def ResI (N : Nat) (w : World) (b : Nat) (s : ByteArray) (dp : Int) (B : List Nat) (r : Pr (St × Int)) : Ending → World → Prop := fun e w' => match r with
  | .bad n => e = PanicB n ∧ Ext (fun k => k = b ∨ k ∈ B) w w'
  | .ok ((j, g, out), x) => e = .returned (.int .i64 x) ∧ ∃ a ln c rs, PSt N w' b s j g dp a ln c rs out ∧ Step b B w w' (blks a rs)
theorem ResI.bad {N : Nat} {w w' : World} {b : Nat} {s : ByteArray} {dp : Int} {B : List Nat} {r : Pr (St × Int)} {n : Nat} (hr : r = .bad n) (e : Ext (fun k => k = b ∨ k ∈ B) w w') : ResI N w b s dp B r (PanicB n) w' := by subst hr; exact ⟨rfl, e⟩

/-- Lazy or not. -/
def lazP (l : Bytes) (j : Nat) (a b : Int) : Pr (Nat × Option (Int × Int × Bool)) := if j < l.length ∧ at_ l j = 63 then .ok (j + 1, some (a, b, true)) else .ok (j, some (a, b, false))
theorem cntP_eq (l : Bytes) (i : Nat) : cntP l i = if l.length ≤ i then .ok (i, none)
  else if at_ l i = 42 then lazP l (i + 1) 0 (-1)
  else if at_ l i = 43 then lazP l (i + 1) 1 (-1)
  else if at_ l i = 63 then lazP l (i + 1) 0 1
  else if at_ l i = 123 then match braP l (i + 1) with
    | .bad e => .bad e
    | .ok (j, a, b) => lazP l j a b
  else .ok (i, none) := rfl

theorem counts_ok {N : Nat} {w : World} {b : Nat} {s : ByteArray} {i g : Nat} {dp : Int} {a : Option Addr} {ln c : Nat} {rs : List Raw} {ps : List Pc} (h : PSt N w b s i g dp a ln c rs ps) (hs : s.size ≤ 120) (hi : i ≤ s.size) (hl : ln ≤ 1000) (x : Int) :
    Cl Try.prog 127 [.pointer (some ⟨b, 0, none⟩), .int .i64 x] w (ResI N w b s dp (blks a rs) (cntR (L s) i g ps x)) := by
  apply vc127
  unfold V127
  have hsz := size_L s
  have hlen' := h.pcs.len'
  have hB := h.pcs.lt
  have hbl := h.rd.lt
  refine (end_ok h.rd).ret fun w1 b1 => ⟨_, rfl, fun g1 => ?_, fun g1 => ?_⟩
  · have g1' := of_decide_eq_true g1
    unfold cntR
    rw [cntP_eq, if_pos (by omega)]
    exact ⟨rfl, a, ln, c, rs, h.below b1, Step.of_below b1⟩
  have g1' := of_decide_eq_false g1
  have h1 := h.below b1
  refine newC_in fun w2 s2 k7 e2 => ?_
  have z1 := b1.size
  generalize hb7 : w1.heap.size = b7 at *
  refine newC_in fun w3 s3 k9 e3 => ?_
  generalize hb9 : w2.heap.size = b9 at *
  refine stW_in k9 (by show 0 + 7 ≤ 7; decide) fun w4 s4 k9' e4 => ?_
  let cs (m1 m2 : Int) (z : Bool) : List Value := [.int .i64 4, .slice none 0 0, .int .i64 m1, .int .i64 m2, .bool z, .int .i64 0, .slice (some ⟨b7, 0, none⟩) 1 1]
  -- what is kept all along
  let Q (w' : World) (j : Nat) (m1 m2 : Int) (z : Bool) : Prop := PSt N w' b s j g dp a ln c rs ps ∧ Blk w'.heap b9 111 (cs m1 m2 z) ∧ Blk w'.heap b7 3 [.int .i64 x] ∧ Ext (fun k => k = b) w w'
  have hb9' : b9 = b7 + 1 := by omega
  have qb : ∀ {w' w'' : World} {j : Nat} {m1 m2 : Int} {z : Bool}, Q w' j m1 m2 z → Below w'.heap.size w' w'' → Q w'' j m1 m2 z := fun h k => ⟨h.1.below k, h.2.1.below k, h.2.2.1.below k, h.2.2.2.trans (Ext.of_below k)⟩
  have qe : ∀ {w' w'' : World} {j : Nat} {m1 m2 : Int} {z : Bool}, Q w' j m1 m2 z → Ext (fun _ => False) w' w'' → Q w'' j m1 m2 z := fun h k => qb h ⟨k.os, k.tape, k.output, k.size, fun i hi => k.block i hi fun h => h⟩
  have qr : ∀ {w' w'' : World} {j j' : Nat} {m1 m2 : Int} {z : Bool}, Q w' j m1 m2 z → Ext (fun k => k = b) w' w'' → Rd w'' b s j' g dp a ln c → Q w'' j' m1 m2 z := fun h k r => ⟨h.1.upd k r, h.2.1.keep k (by omega), h.2.2.1.keep k (by omega), h.2.2.2.trans k⟩
  have q9 : ∀ {w' w'' : World} {j : Nat} {m1 m2 m1' m2' : Int} {z z' : Bool}, Q w' j m1 m2 z → Ext (fun k => k = b9) w' w'' → Blk w''.heap b9 111 (cs m1' m2' z') → Q w'' j m1' m2' z' := fun h k r =>
    ⟨h.1.other k (by omega) fun q hq hq' => by have := hB q hq; omega, r, h.2.2.1.keep k (by omega), h.2.2.2.step k fun q hq hq' => by omega⟩
  have st9 : ∀ {w' : World} {j : Nat} {m1 m2 : Int} {z : Bool} {K : World → Prop} {o : Nat} {v : Value} {m1' m2' : Int} {z' : Bool}, Q w' j m1 m2 z → o < 7 → segSet (cs m1 m2 z) o [v] = cs m1' m2' z' → (∀ w'', Q w'' j m1' m2' z' → K w'') → stW b9 o [v] K w' := by
    intro w' j m1 m2 z K o v m1' m2' z' hq ho hv hK
    refine stW_in hq.2.1 (by show o + 1 ≤ 7; omega) fun w'' s'' k'' e'' => ?_
    rw [hv] at k''
    exact hK w'' (q9 hq e'' k'')
  have mv : ∀ {w' : World} {j : Nat} {m1 m2 : Int} {z : Bool} {K : World → Prop} {n : Int}, Q w' j m1 m2 z → j ≤ 1000 → n = j → (∀ w'', Q w'' (j + 1) m1 m2 z → K w'') → stW b (0 + 1) [.int .i64 (IntKind.wrap .i64 (n + 1))] K w' := by
    intro w' j m1 m2 z K n hq hj hn hK
    subst hn
    exact hq.1.rd.mv (j := j + 1) (by rw [w64 (by omega)]; omega) fun w'' s'' k'' e'' => hK w'' (qr hq e'' k'')
  have hbadr : ∀ {w' : World} {j n : Nat} {m1 m2 : Int} {z : Bool} {r : Pr (St × Int)}, Q w' j m1 m2 z → ∀ {w'' : World}, Ext (fun k => k = b) w' w'' → r = .bad n → ResI N w b s dp (blks a rs) r (PanicB n) w'' := fun hq _ e hr => ResI.bad hr (Ext.mono (hq.2.2.2.trans e) fun _ _ hk => .inl hk)
  have q4 : Q w4 i 0 0 false := by
    have q3 : PSt N w3 b s i g dp a ln c rs ps := (h1.below ⟨e2.os, e2.tape, e2.output, e2.size, fun i hi => e2.block i hi fun h => h⟩).below ⟨e3.os, e3.tape, e3.output, e3.size, fun i hi => e3.block i hi fun h => h⟩
    refine ⟨q3.other e4 (by omega) fun q hq hq' => by have := hB q hq; omega, k9', (k7.keep e3 fun h => h).keep e4 (by omega), ?_⟩
    exact (((Ext.of_below b1).trans (Ext.mono e2 fun _ _ h => h.elim)).trans (Ext.mono e3 fun _ _ h => h.elim)).step e4 fun q hq hq' => by omega
  refine drw_in fun w5 q5 e5 => ?_
  have q5 := qe q4 e5
  refine ⟨s, q5.1.rd.cell 0, i, q5.1.rd.cell 1, ⟨by omega, by omega⟩, ?_⟩
  rw [byteI s (j := i) rfl]
  generalize hR : cntR (L s) i g ps x = R
  refine ⟨fun w' => ∃ j m1 m2, Q w' j m1 m2 false ∧ j ≤ s.size ∧ cntP (L s) i = lazP (L s) j m1 m2, ?_, ?_⟩
  · have hc0 := cntP_eq (L s) i
    rw [if_neg (by omega)] at hc0
    refine ⟨fun g2 => ?_, fun g2 => ⟨fun g3 => ?_, fun g3 => ⟨fun g4 => ?_, fun g4 => ⟨fun g5 => ?_, fun g5 => ?_⟩⟩⟩⟩
    all_goals try simp only [beq_iff_eq, beq_eq_false_iff_ne, ne_eq] at g2
    all_goals try simp only [beq_iff_eq, beq_eq_false_iff_ne, ne_eq] at g3
    all_goals try simp only [beq_iff_eq, beq_eq_false_iff_ne, ne_eq] at g4
    all_goals try simp only [beq_iff_eq, beq_eq_false_iff_ne, ne_eq] at g5
    · rw [if_pos (by omega)] at hc0
      exact st9 q5 (by decide) (show _ = cs 0 (-1) false from rfl) fun w6 q6 => ⟨i, q6.1.rd.cell 1, mv q6 (by omega) rfl fun w7 q7 => ⟨_, _, _, q7, by omega, hc0⟩⟩
    · rw [if_neg (by omega), if_pos (by omega)] at hc0
      exact st9 q5 (by decide) (show _ = cs 1 0 false from rfl) fun w6 q6 => st9 q6 (by decide) (show _ = cs 1 (-1) false from rfl) fun w7 q7 => ⟨i, q7.1.rd.cell 1, mv q7 (by omega) rfl fun w8 q8 => ⟨_, _, _, q8, by omega, hc0⟩⟩
    · rw [if_neg (by omega), if_neg (by omega), if_pos (by omega)] at hc0
      exact st9 q5 (by decide) (show _ = cs 0 1 false from rfl) fun w6 q6 => ⟨i, q6.1.rd.cell 1, mv q6 (by omega) rfl fun w7 q7 => ⟨_, _, _, q7, by omega, hc0⟩⟩
    · rw [if_neg (by omega), if_neg (by omega), if_neg (by omega), if_pos (by omega)] at hc0
      refine ⟨i, q5.1.rd.cell 1, mv q5 (by omega) rfl fun w6 q6 => ?_⟩
      refine (number_ok q6.1.rd hs (by omega)).use fun e w7 he => ?_
      obtain ⟨e7, he⟩ := he
      unfold braP at hc0
      cases hn : numP (L s) (i + 1) with
      | bad n =>
        rw [hn] at he hc0; subst he
        exact hbadr q6 e7 (by rw [← hR]; unfold cntR; rw [hc0])
      | ok y =>
      obtain ⟨j, lo⟩ := y
      rw [hn] at he hc0
      simp only [] at hc0
      obtain ⟨rfl, r7, hj⟩ := he
      have hlo := numP_gt hn
      have q7 := qr q6 e7 r7
      refine ⟨_, rfl, st9 q7 (by decide) (show _ = cs lo 0 false from rfl) fun w8 q8 => ?_⟩
      refine ⟨lo, q8.2.1.cell 2, st9 q8 (by decide) (show _ = cs lo lo false from rfl) fun w9 q9' => ?_⟩
      by_cases hjl : j < s.size
      case neg =>
        refine (need_bad q9'.1.rd hjl).use fun e w10 he => ?_
        obtain ⟨rfl, b10⟩ := he
        refine hbadr q9' (Ext.of_below b10) ?_
        rw [← hR]; unfold cntR; rw [hc0, if_pos (by omega), ← hsz]
      rw [if_neg (by omega)] at hc0
      refine (need_ret q9'.1.rd hjl).ret fun w10 b10 => ⟨_, rfl, fun g6 => ?_, fun g6 => ?_⟩
      · simp only [beq_iff_eq] at g6
        rw [if_pos (by omega)] at hc0
        have q10 := qb q9' b10
        refine ⟨j, q10.1.rd.cell 1, mv q10 (by omega) rfl fun w11 q11 => ?_⟩
        refine st9 q11 (by decide) (show _ = cs lo (-1) false from rfl) fun w12 q12 => ?_
        by_cases hj1 : j + 1 < s.size
        case neg =>
          refine (need_bad q12.1.rd hj1).use fun e w13 he => ?_
          obtain ⟨rfl, b13⟩ := he
          refine hbadr q12 (Ext.of_below b13) ?_
          rw [← hR]; unfold cntR; rw [hc0, if_pos (by omega), ← hsz]
        rw [if_neg (by omega)] at hc0
        refine (need_ret q12.1.rd hj1).ret fun w13 b13 => ⟨_, rfl, fun g7 => ?_, fun g7 => ?_⟩
        · have g7' : ¬ at_ (L s) (j + 1) = 125 := by have : ¬ ((at_ (L s) (j + 1) : Nat) : Int) = 125 := by simpa using g7
                                                     omega
          rw [if_neg g7'] at hc0
          have q13 := qb q12 b13
          refine ⟨_, q13.1.rd.cell 1, ?_⟩
          refine (number_ok q13.1.rd hs (by omega)).use fun e w14 he => ?_
          obtain ⟨e14, he⟩ := he
          cases hn2 : numP (L s) (j + 1) with
          | bad n =>
            rw [hn2] at he hc0; subst he
            exact hbadr q13 e14 (by rw [← hR]; unfold cntR; rw [hc0])
          | ok y =>
          obtain ⟨k, hi'⟩ := y
          rw [hn2] at he hc0
          simp only [] at hc0
          obtain ⟨rfl, r14, hk⟩ := he
          have q14 := qr q13 e14 r14
          refine ⟨_, rfl, st9 q14 (by decide) (show _ = cs lo hi' false from rfl) fun w15 q15 => ?_⟩
          refine ⟨_, q15.2.1.cell 3, _, q15.2.1.cell 2, fun g8 => ?_, fun g8 => ?_⟩
          · have g8' := of_decide_eq_true g8
            refine (fail_ok b (j + 1) rfl w15).use fun e w16 he => ?_
            obtain ⟨rfl, rfl⟩ := he
            refine hbadr q15 (Ext.refl _ _) ?_
            rw [← hR]; unfold cntR; rw [hc0, if_pos (by omega)]
          · have g8' := of_decide_eq_false g8
            rw [if_neg (by omega)] at hc0
            by_cases hkl : k < s.size
            case neg =>
              refine (need_bad q15.1.rd hkl).use fun e w16 he => ?_
              obtain ⟨rfl, b16⟩ := he
              refine hbadr q15 (Ext.of_below b16) ?_
              rw [← hR]; unfold cntR; rw [hc0, if_pos (by omega), ← hsz]
            rw [if_neg (by omega)] at hc0
            refine (need_ret q15.1.rd hkl).ret fun w16 b16 => ⟨_, rfl, fun g9 => ?_, fun g9 => ?_⟩
            · have g9' : ¬ at_ (L s) k = 125 := by have : ¬ ((at_ (L s) k : Nat) : Int) = 125 := by simpa using g9
                                                   omega
              have q16 := qb q15 b16
              refine ⟨_, q16.1.rd.cell 1, (fail_ok b k rfl w16).use fun e w17 he => ?_⟩
              obtain ⟨rfl, rfl⟩ := he
              refine hbadr q16 (Ext.refl _ _) ?_
              rw [← hR]; unfold cntR; rw [hc0, if_neg g9']
            · have g9' : at_ (L s) k = 125 := by have : ((at_ (L s) k : Nat) : Int) = 125 := by simpa using g9
                                                 omega
              rw [if_pos g9'] at hc0
              have q16 := qb q15 b16
              exact ⟨k, q16.1.rd.cell 1, mv q16 (by omega) rfl fun w17 q17 => ⟨_, _, _, q17, by omega, hc0⟩⟩
        · have g7' : at_ (L s) (j + 1) = 125 := by have : ((at_ (L s) (j + 1) : Nat) : Int) = 125 := by simpa using g7
                                                   omega
          rw [if_pos g7'] at hc0
          have q13 := qb q12 b13
          refine (need_ret q13.1.rd hj1).ret fun w14 b14 => ⟨_, rfl, fun g8 => ?_, fun g8 => ?_⟩
          · have : ¬ ((at_ (L s) (j + 1) : Nat) : Int) = 125 := by simpa using g8
            omega
          · have q14 := qb q13 b14
            exact ⟨_, q14.1.rd.cell 1, mv q14 (by omega) rfl fun w17 q17 => ⟨_, _, _, q17, by omega, hc0⟩⟩
      · have g6' : ¬ at_ (L s) j = 44 := by have : ¬ ((at_ (L s) j : Nat) : Int) = 44 := by simpa using g6
                                            omega
        rw [if_neg g6'] at hc0
        have q10 := qb q9' b10
        refine (need_ret q10.1.rd hjl).ret fun w11 b11 => ⟨_, rfl, fun g7 => ?_, fun g7 => ?_⟩
        · have g7' : ¬ at_ (L s) j = 125 := by have : ¬ ((at_ (L s) j : Nat) : Int) = 125 := by simpa using g7
                                               omega
          have q11 := qb q10 b11
          refine ⟨_, q11.1.rd.cell 1, (fail_ok b j rfl w11).use fun e w12 he => ?_⟩
          obtain ⟨rfl, rfl⟩ := he
          refine hbadr q11 (Ext.refl _ _) ?_
          rw [← hR]; unfold cntR; rw [hc0, if_neg g7']
        · have g7' : at_ (L s) j = 125 := by have : ((at_ (L s) j : Nat) : Int) = 125 := by simpa using g7
                                             omega
          rw [if_pos g7'] at hc0
          have q11 := qb q10 b11
          exact ⟨_, q11.1.rd.cell 1, mv q11 (by omega) rfl fun w17 q17 => ⟨_, _, _, q17, by omega, hc0⟩⟩
    · rw [if_neg (by omega), if_neg (by omega), if_neg (by omega), if_neg (by omega)] at hc0
      rw [← hR]
      unfold cntR
      rw [hc0]
      exact ⟨rfl, a, ln, c, rs, q5.1, Step.of_ext q5.2.2.2⟩
  · rintro - w6 ⟨j, m1, m2, q6, hj, hc⟩
    refine drw_in fun w7 q7' e7 => ?_
    have q7 := qe q6 e7
    have hput : ∀ {w' : World} {k : Nat} {z : Bool}, Q w' k m1 m2 z → R = .ok ((k, g, ps ++ [pRep m1 m2 z x]), (ps.length : Int)) →
        ∃ (n103 : Int), cellH w'.heap b9 0 = some (.int .i64 n103) ∧ ∃ (a104 : Option Addr), ∃ (l104 : Nat), ∃ (c104 : Nat), cellH w'.heap b9 1 = some (.slice a104 l104 c104) ∧ ∃ (n105 : Int), cellH w'.heap b9 2 = some (.int .i64 n105) ∧ ∃ (n106 : Int), cellH w'.heap b9 3 = some (.int .i64 n106) ∧ ∃ (t107 : Bool), cellH w'.heap b9 4 = some (.bool t107) ∧ ∃ (n108 : Int), cellH w'.heap b9 5 = some (.int .i64 n108) ∧ ∃ (a109 : Option Addr), ∃ (l109 : Nat), ∃ (c109 : Nat), cellH w'.heap b9 6 = some (.slice a109 l109 c109) ∧
          Cl Try.prog 110 [.pointer (some ⟨b, 0, none⟩), .agg #[.int .i64 n103, .slice a104 l104 c104, .int .i64 n105, .int .i64 n106, .bool t107, .int .i64 n108, .slice a109 l109 c109]] w' (retG (fun (r112 : Value) (w111 : World) => ∃ (n110 : Int), r112 = .int .i64 n110 ∧ ResI N w b s dp (blks a rs) R (.returned (.int .i64 n110)) w111) fun c1 w1 => ResI N w b s dp (blks a rs) R (.panicked c1) w1) := by
      intro w' k z hq hr
      refine ⟨_, hq.2.1.cell 0, _, _, _, hq.2.1.cell 1, _, hq.2.1.cell 2, _, hq.2.1.cell 3, _, hq.2.1.cell 4, _, hq.2.1.cell 5, _, _, _, hq.2.1.cell 6, ?_⟩
      have hok : RawOk w' ⟨4, none, 0, 0, m1, m2, z, 0, some ⟨b7, 0, none⟩, 1, 1⟩ (pRep m1 m2 z x) := ⟨rfl, rfl, rfl, rfl, rfl, Vec.nil _ _ _, ⟨rfl, Nat.le_refl _, .inr ⟨b7, _, rfl, hq.2.2.1, rfl, rfl⟩⟩⟩
      refine (put_ok (r := ⟨4, none, 0, 0, m1, m2, z, 0, some ⟨b7, 0, none⟩, 1, 1⟩) hq.1 hok (by simp [Raw.blocks, ob, blkOf]) (fun k hk => ?_) hl).use fun e w8 he => ?_
      · have hk' : k = b7 := by simpa [Raw.blocks, ob, blkOf] using hk
        subst hk'
        exact ⟨fun hm => by have := hB _ hm; omega, by have := h.hN; omega⟩
      · obtain ⟨rfl, a2, c2, p8, e8, hb8⟩ := he
        refine ⟨_, rfl, ?_⟩
        subst hr
        refine ⟨by rw [hlen'], a2, ln + 1, c2, _, p8, ?_, fun k hk => ?_⟩
        · exact (Ext.mono hq.2.2.2 fun _ _ hk => .inl hk).trans e8
        · rcases hb8 k hk with h1 | h1 | h1
          · exact .inl h1
          · have hk' : k = b7 := by simpa [Raw.blocks, ob, blkOf] using h1
            exact .inr (by omega)
          · exact .inr (Nat.le_trans hq.2.2.2.size h1)
    refine (end_ok q7.1.rd).ret fun w8 b8 => ⟨_, rfl, fun g2 => ?_, fun g2 => ?_⟩
    · have g2' : j < s.size := by
        have : decide (s.size ≤ j) = false := by simpa using g2
        have := of_decide_eq_false this; omega
      have q8 := qb q7 b8
      refine ⟨s, q8.1.rd.cell 0, j, q8.1.rd.cell 1, ⟨by omega, by omega⟩, ?_⟩
      rw [byteI s (j := j) rfl]
      refine ⟨fun g3 => ?_, fun g3 => ?_⟩
      · simp only [beq_iff_eq] at g3
        refine st9 q8 (by decide) (show _ = cs m1 m2 true from rfl) fun w9 q9'' => ?_
        refine ⟨j, q9''.1.rd.cell 1, mv q9'' (by omega) rfl fun w10 q10 => hput q10 ?_⟩
        rw [← hR]; unfold cntR; rw [hc]; unfold lazP; rw [if_pos ⟨by omega, by omega⟩]
      · simp only [beq_eq_false_iff_ne, ne_eq] at g3
        refine hput q8 ?_
        rw [← hR]; unfold cntR; rw [hc]; unfold lazP; rw [if_neg (by omega)]
    · have g2' : ¬ j < s.size := by
        have : decide (s.size ≤ j) = true := by simpa using g2
        have := of_decide_eq_true this; omega
      refine hput (qb q7 b8) ?_
      rw [← hR]; unfold cntR; rw [hc]; unfold lazP; rw [if_neg (by omega)]
end Go.Proofs.Ytngbiaeliphdjaa.V

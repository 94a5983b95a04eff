/- Desks: conditions, sizes, copies. -/
import Derived.Test.YtabbjilgpfnacaaAi
namespace Go.Proofs.Ytabbjilgpfnacaa
open Go.RowKit Ieee
set_option maxRecDepth 100000
set_option linter.unusedVariables false
set_option linter.unusedSimpArgs false

theorem quiet_drewA {P : Program} {f : FuncId} {args : Array Value} {W : World} {n : Nat} {v : Value} (h : Calls P f args (W.drewN n) fun e w' => e = .returned v ∧ ∃ m, w' = (W.drewN n).drewN m) : Calls P f args (W.drewN n) fun e w' => e = .returned v ∧ ∃ m, w' = W.drewN m :=
  h.mono fun e w' ⟨he, m, hm⟩ => ⟨he, n + m, by rw [hm]; simp [World.drewN, Nat.add_assoc]⟩

/-- Three cells of a picture or a map. -/
def Tri.at_ (t : Tri) (W : World) (pb o0 : Nat) : Prop := W.cell? ⟨pb, o0, none⟩ = some (.int .i64 t.a) ∧ W.cell? ⟨pb, o0 + 1, none⟩ = some (.int .i64 t.b) ∧ W.cell? ⟨pb, o0 + 2, none⟩ = some (.slice t.s t.l t.c)
theorem Tri.at_.drewN {t : Tri} {W : World} {pb o0 : Nat} (h : t.at_ W pb o0) (n : Nat) : t.at_ (W.drewN n) pb o0 := h
def Tri.ok (t : Tri) : Bool := vPic t.a t.b t.l
def fits (p m : Tri) : Bool := p.ok && m.ok && (p.a == m.a) && (p.b == m.b)

set_option maxHeartbeats 1000000 in
theorem l03Fits_gen (W : World) (pb o0 m0 : Nat) (p m : Tri) (hp : p.at_ W pb o0) (hm : m.at_ W pb m0) (hl : p.l ≤ 9223372036854775807) (hl2 : m.l ≤ 9223372036854775807) :
    Calls Try.prog 59 #[.pointer (some ⟨pb, o0, none⟩), .pointer (some ⟨pb, m0, none⟩)] W fun e w' => e = .returned (.bool (fits p m)) ∧ ∃ k, w' = W.drewN k := by
  have K1 := Lib.hid (fun n => quiet_drewA (W := W) (n := n) (l02Is_gen (W.drewN n) pb o0 p.a p.b p.s p.l p.c hl hp.1 hp.2.1 hp.2.2))
  have K2 := Lib.hid (fun n => quiet_drewA (W := W) (n := n) (l03IsMap_gen (W.drewN n) pb m0 m.a m.b m.s m.l m.c hl2 hm.1 hm.2.1 hm.2.2))
  obtain ⟨c0, c1, -⟩ := hp
  obtain ⟨d0, d1, -⟩ := hm
  unfold fits Tri.ok
  generalize vPic p.a p.b p.l = v1 at *
  generalize vPic m.a m.b m.l = v2 at *
  obtain ⟨x1, hx1⟩ : ∃ x, (p.a == m.a) = x := ⟨_, rfl⟩
  obtain ⟨x2, hx2⟩ : ∃ x, (p.b == m.b) = x := ⟨_, rfl⟩
  rw [hx1, hx2]
  cases v1
  case false =>
    go_enter Try.func59, Try.ntmps59
    go_wp2_with fail
    go_quiet (first | with_reducible exact K1.out _ | with_reducible exact K2.out _)
    go_wp2_with fail
    go_ret
    exact ⟨rfl, _, rfl⟩
  case true =>
    cases v2
    case false =>
      go_enter Try.func59, Try.ntmps59
      go_wp2_with fail
      go_quiet (first | with_reducible exact K1.out _ | with_reducible exact K2.out _)
      go_wp2_with fail
      go_ret
      exact ⟨rfl, _, rfl⟩
    case true =>
      cases x1
      case false =>
        go_enter Try.func59, Try.ntmps59
        go_wp2_with fail
        go_quiet (first | with_reducible exact K1.out _ | with_reducible exact K2.out _)
        go_wp2_with fail
        go_ret
        exact ⟨rfl, _, rfl⟩
      case true =>
        cases x2
        case false =>
          go_enter Try.func59, Try.ntmps59
          go_wp2_with fail
          go_quiet (first | with_reducible exact K1.out _ | with_reducible exact K2.out _)
          go_wp2_with fail
          go_ret
          exact ⟨rfl, _, rfl⟩
        case true =>
          go_enter Try.func59, Try.ntmps59
          go_wp2_with fail
          go_quiet (first | with_reducible exact K1.out _ | with_reducible exact K2.out _)
          go_wp2_with fail
          go_ret
          exact ⟨rfl, _, rfl⟩

set_option maxHeartbeats 1000000 in
theorem l08Is_gen (W : World) (pb : Nat) (p q m : Tri) (hp : p.at_ W pb 0) (hq : q.at_ W pb 3) (hm : m.at_ W pb 6) (hl : p.l ≤ 9223372036854775807) (hl1 : q.l ≤ 9223372036854775807) (hl2 : m.l ≤ 9223372036854775807) :
    Calls Try.prog 35 #[.pointer (some ⟨pb, 0, none⟩)] W fun e w' => e = .returned (.bool (fits p m && fits q m)) ∧ ∃ k, w' = W.drewN k := by
  have K1 := Lib.hid (fun n => quiet_drewA (W := W) (n := n) (l03Fits_gen (W.drewN n) pb 0 6 p m hp hm hl hl2))
  have K2 := Lib.hid (fun n => quiet_drewA (W := W) (n := n) (l03Fits_gen (W.drewN n) pb 3 6 q m hq hm hl1 hl2))
  have hlt : W.heap.size ≠ 0 ∨ True := .inr trivial
  clear hlt hp hq hm hl hl1 hl2
  generalize fits p m = v1 at *
  generalize fits q m = v2 at *
  cases v1
  case false =>
    go_enter Try.func35, Try.ntmps35
    go_wp2_with fail
    go_quiet (first | with_reducible exact K1.out _ | with_reducible exact K2.out _)
    go_wp2_with fail
    go_ret
    exact ⟨rfl, _, rfl⟩
  case true =>
    cases v2
    case false =>
      go_enter Try.func35, Try.ntmps35
      go_wp2_with fail
      go_quiet (first | with_reducible exact K1.out _ | with_reducible exact K2.out _)
      go_wp2_with fail
      go_ret
      exact ⟨rfl, _, rfl⟩
    case true =>
      go_enter Try.func35, Try.ntmps35
      go_wp2_with fail
      go_quiet (first | with_reducible exact K1.out _ | with_reducible exact K2.out _)
      go_wp2_with fail
      go_ret
      exact ⟨rfl, _, rfl⟩

theorem desk_at (w : World) (p q m : Tri) (T : TypeId) : p.at_ (w.alloc (.cells (desk p q m) T)) w.heap.size 0 ∧ q.at_ (w.alloc (.cells (desk p q m) T)) w.heap.size 3 ∧ m.at_ (w.alloc (.cells (desk p q m) T)) w.heap.size 6 := by
  have h := BoxN.last w (desk p q m) T
  exact ⟨⟨h.cell 0, h.cell 1, h.cell 2⟩, ⟨h.cell 3, h.cell 4, h.cell 5⟩, ⟨h.cell 6, h.cell 7, h.cell 8⟩⟩
theorem Tri.at_.below {t : Tri} {W W' : World} {pb o0 : Nat} (h : t.at_ W pb o0) (hl : pb < W.heap.size) (hb : Below W.heap.size W W') : t.at_ W' pb o0 :=
  ⟨by rw [hb.cell (p := ⟨pb, o0, none⟩) hl]; exact h.1, by rw [hb.cell (p := ⟨pb, o0 + 1, none⟩) hl]; exact h.2.1, by rw [hb.cell (p := ⟨pb, o0 + 2, none⟩) hl]; exact h.2.2⟩

/-- pairOk of any two pictures. -/
def pairV (p q : Tri) : Bool := p.ok && q.ok && (p.a == q.a) && (p.b == q.b)
set_option maxHeartbeats 1000000 in
theorem pairOk_gen (w : World) (p q : Tri) (hl : p.l ≤ 9223372036854775807) (hl1 : q.l ≤ 9223372036854775807) :
    Calls Try.prog 47 #[.agg #[.int .i64 p.a, .int .i64 p.b, .slice p.s p.l p.c], .agg #[.int .i64 q.a, .int .i64 q.b, .slice q.s q.l q.c]] w fun e w' => e = .returned (.bool (pairV p q)) ∧ Below w.heap.size w w' := by
  have hb0 := below_two w (.cells #[.int .i64 p.a, .int .i64 p.b, .slice p.s p.l p.c] 34) (.cells #[.int .i64 q.a, .int .i64 q.b, .slice q.s q.l q.c] 34)
  have B1 := box_first w (.int .i64 p.a) (.int .i64 p.b) (.slice p.s p.l p.c) 34 (.cells #[.int .i64 q.a, .int .i64 q.b, .slice q.s q.l q.c] 34)
  have B2 := box_second w (.int .i64 q.a) (.int .i64 q.b) (.slice q.s q.l q.c) 34 (.cells #[.int .i64 p.a, .int .i64 p.b, .slice p.s p.l p.c] 34)
  have K1 := Lib.hid (fun w => validPicture_any p.a p.b p.s p.l p.c hl w)
  have K2 := Lib.hid (fun w => validPicture_any q.a q.b q.s q.l q.c hl1 w)
  unfold pairV Tri.ok
  generalize vPic p.a p.b p.l = v1 at *
  generalize vPic q.a q.b q.l = v2 at *
  obtain ⟨x1, hx1⟩ : ∃ x, (p.a == q.a) = x := ⟨_, rfl⟩
  obtain ⟨x2, hx2⟩ : ∃ x, (p.b == q.b) = x := ⟨_, rfl⟩
  rw [hx1, hx2]
  have HB := Lib.hid (And.intro hb0 (And.intro B1 B2))
  obtain ⟨W0, hW0⟩ : ∃ W, W = ((w.alloc (.cells #[.int .i64 p.a, .int .i64 p.b, .slice p.s p.l p.c] 34)).alloc (.cells #[.int .i64 q.a, .int .i64 q.b, .slice q.s q.l q.c] 34)) := ⟨_, rfl⟩
  rw [← hW0] at HB
  have HW0 := Lib.hid hW0
  clear hb0 B1 B2 hW0 hl hl1
  cases v1
  case false =>
    go_enter Try.func47, Try.ntmps47
    go_wp2_with fail
    rw [← HW0.out]
    refine (K1.out _).mono ?_
    rintro e w1 ⟨rfl, hb1⟩
    go_wp2
    go_ret
    exact ⟨rfl, HB.out.1.trans (hb1.mono HB.out.1.size)⟩
  case true =>
    cases v2
    case false =>
      go_enter Try.func47, Try.ntmps47
      go_wp2_with fail
      rw [← HW0.out]
      refine (K1.out _).mono ?_
      rintro e w1 ⟨rfl, hb1⟩
      have hbb := HB.out.1.trans (hb1.mono HB.out.1.size)
      obtain ⟨d0, d1, d2', -, -, -⟩ := (HB.out.2.2.below hb1).cells
      go_wp2_with fail
      refine (K2.out _).mono ?_
      rintro e w2 ⟨rfl, hb2⟩
      go_wp2
      go_ret
      exact ⟨rfl, hbb.trans (hb2.mono hbb.size)⟩
    case true =>
      cases x1
      case false =>
        go_enter Try.func47, Try.ntmps47
        go_wp2_with fail
        rw [← HW0.out]
        refine (K1.out _).mono ?_
        rintro e w1 ⟨rfl, hb1⟩
        have hbb := HB.out.1.trans (hb1.mono HB.out.1.size)
        obtain ⟨d0, d1, d2', -, -, -⟩ := (HB.out.2.2.below hb1).cells
        have HB1 := Lib.hid (And.intro (HB.out.2.1.below hb1) (HB.out.2.2.below hb1))
        go_wp2_with fail
        refine (K2.out _).mono ?_
        rintro e w2 ⟨rfl, hb2⟩
        clear d0 d1 d2'
        obtain ⟨c0, c1, c2', -, -, -⟩ := (HB1.out.1.below hb2).cells
        obtain ⟨d0, d1, d2', -, -, -⟩ := (HB1.out.2.below hb2).cells
        go_wp2
        go_ret
        exact ⟨rfl, hbb.trans (hb2.mono hbb.size)⟩
      case true =>
        cases x2
        case false =>
          go_enter Try.func47, Try.ntmps47
          go_wp2_with fail
          rw [← HW0.out]
          refine (K1.out _).mono ?_
          rintro e w1 ⟨rfl, hb1⟩
          have hbb := HB.out.1.trans (hb1.mono HB.out.1.size)
          obtain ⟨d0, d1, d2', -, -, -⟩ := (HB.out.2.2.below hb1).cells
          have HB1 := Lib.hid (And.intro (HB.out.2.1.below hb1) (HB.out.2.2.below hb1))
          go_wp2_with fail
          refine (K2.out _).mono ?_
          rintro e w2 ⟨rfl, hb2⟩
          clear d0 d1 d2'
          obtain ⟨c0, c1, c2', -, -, -⟩ := (HB1.out.1.below hb2).cells
          obtain ⟨d0, d1, d2', -, -, -⟩ := (HB1.out.2.below hb2).cells
          go_wp2
          go_ret
          exact ⟨rfl, hbb.trans (hb2.mono hbb.size)⟩
        case true =>
          go_enter Try.func47, Try.ntmps47
          go_wp2_with fail
          rw [← HW0.out]
          refine (K1.out _).mono ?_
          rintro e w1 ⟨rfl, hb1⟩
          have hbb := HB.out.1.trans (hb1.mono HB.out.1.size)
          obtain ⟨d0, d1, d2', -, -, -⟩ := (HB.out.2.2.below hb1).cells
          have HB1 := Lib.hid (And.intro (HB.out.2.1.below hb1) (HB.out.2.2.below hb1))
          go_wp2_with fail
          refine (K2.out _).mono ?_
          rintro e w2 ⟨rfl, hb2⟩
          clear d0 d1 d2'
          obtain ⟨c0, c1, c2', -, -, -⟩ := (HB1.out.1.below hb2).cells
          obtain ⟨d0, d1, d2', -, -, -⟩ := (HB1.out.2.below hb2).cells
          go_wp2
          go_ret
          exact ⟨rfl, hbb.trans (hb2.mono hbb.size)⟩

/-- The program's condition. -/
theorem valid_eq (p q m : Tri) : (pairV p q && m.ok && (m.a == p.a) && (m.b == p.b)) = (fits p m && fits q m) := by
  unfold pairV fits
  generalize p.ok = v1
  generalize q.ok = v2
  generalize m.ok = v3
  rw [Bool.eq_iff_iff]
  simp only [Bool.and_eq_true, beq_iff_eq]
  constructor
  · rintro ⟨⟨⟨⟨⟨⟨h1, h2⟩, h3⟩, h4⟩, h5⟩, h6⟩, h7⟩
    exact ⟨⟨⟨⟨h1, h5⟩, h6.symm⟩, h7.symm⟩, ⟨⟨h2, h5⟩, by rw [← h3, h6]⟩, by rw [← h4, h7]⟩
  · rintro ⟨⟨⟨⟨h1, h5⟩, h6⟩, h7⟩, ⟨⟨h2, _⟩, h8⟩, h9⟩
    exact ⟨⟨⟨⟨⟨⟨h1, h2⟩, by rw [h6, h8]⟩, by rw [h7, h9]⟩, h5⟩, h6.symm⟩, h7.symm⟩

set_option maxHeartbeats 1000000 in
theorem ivalidDesk_any (w : World) (p q m : Tri) (hl : p.l ≤ 9223372036854775807) (hl1 : q.l ≤ 9223372036854775807) (hl2 : m.l ≤ 9223372036854775807) :
    Calls Try.prog 38 #[.agg (desk p q m)] w fun e w' => e = .returned (.bool (fits p m && fits q m)) ∧ Below w.heap.size w w' := by
  rw [← valid_eq]
  obtain ⟨W0, hW0⟩ : ∃ W, W = w.alloc (.cells (desk p q m) 37) := ⟨_, rfl⟩
  have hb : Below w.heap.size w W0 := by rw [hW0]; exact (Below.refl _ _).alloc (Nat.le_refl _) _
  have hlt : w.heap.size < W0.heap.size := by rw [hW0]; simp
  have hat := desk_at w p q m 37
  rw [← hW0] at hat
  have K1 := Lib.hid (fun w => pairOk_gen w p q hl hl1)
  have K2 := Lib.hid (fun w => validMap_any m.a m.b m.s m.l m.c hl2 w)
  have e1 : vPic m.a m.b m.l = m.ok := rfl
  rw [e1] at K2
  generalize m.ok = v2 at *
  generalize pairV p q = v1 at *
  obtain ⟨x1, hx1⟩ : ∃ x, (m.a == p.a) = x := ⟨_, rfl⟩
  obtain ⟨x2, hx2⟩ : ∃ x, (m.b == p.b) = x := ⟨_, rfl⟩
  rw [hx1, hx2]
  have HB := Lib.hid (And.intro hb (And.intro hlt hat))
  have HW0 := Lib.hid hW0
  clear hb hlt hat hW0 e1 hl hl1 hl2
  unfold desk at *
  cases v1
  case false =>
    go_enter Try.func38, Try.ntmps38
    go_wp2_with fail
    rw [← HW0.out]
    refine (K1.out _).mono ?_
    rintro e w1 ⟨rfl, hb1⟩
    go_wp2
    go_ret
    exact ⟨rfl, HB.out.1.trans (hb1.mono HB.out.1.size)⟩
  case true =>
    cases v2
    case false =>
      go_enter Try.func38, Try.ntmps38
      go_wp2_with fail
      rw [← HW0.out]
      refine (K1.out _).mono ?_
      rintro e w1 ⟨rfl, hb1⟩
      have hbb := HB.out.1.trans (hb1.mono HB.out.1.size)
      have hz1 : w.heap.size < w1.heap.size := Nat.lt_of_lt_of_le HB.out.2.1 hb1.size
      obtain ⟨c0, c1, c2⟩ := HB.out.2.2.2.2.below HB.out.2.1 hb1
      go_wp2_with fail
      refine (K2.out _).mono ?_
      rintro e w2 ⟨rfl, hb2⟩
      go_wp2
      go_ret
      exact ⟨rfl, hbb.trans (hb2.mono hbb.size)⟩
    case true =>
      cases x1
      case false =>
        go_enter Try.func38, Try.ntmps38
        go_wp2_with fail
        rw [← HW0.out]
        refine (K1.out _).mono ?_
        rintro e w1 ⟨rfl, hb1⟩
        have hbb := HB.out.1.trans (hb1.mono HB.out.1.size)
        have hz1 : w.heap.size < w1.heap.size := Nat.lt_of_lt_of_le HB.out.2.1 hb1.size
        obtain ⟨c0, c1, c2⟩ := HB.out.2.2.2.2.below HB.out.2.1 hb1
        have HC := Lib.hid (And.intro (HB.out.2.2.1.below HB.out.2.1 hb1) (HB.out.2.2.2.2.below HB.out.2.1 hb1))
        go_wp2_with fail
        refine (K2.out _).mono ?_
        rintro e w2 ⟨rfl, hb2⟩
        clear c0 c1 c2
        obtain ⟨c0, c1, c2⟩ := HC.out.1.below hz1 hb2
        obtain ⟨d0, d1, d2⟩ := HC.out.2.below hz1 hb2
        go_wp2
        go_ret
        exact ⟨rfl, hbb.trans (hb2.mono hbb.size)⟩
      case true =>
        cases x2
        case false =>
          go_enter Try.func38, Try.ntmps38
          go_wp2_with fail
          rw [← HW0.out]
          refine (K1.out _).mono ?_
          rintro e w1 ⟨rfl, hb1⟩
          have hbb := HB.out.1.trans (hb1.mono HB.out.1.size)
          have hz1 : w.heap.size < w1.heap.size := Nat.lt_of_lt_of_le HB.out.2.1 hb1.size
          obtain ⟨c0, c1, c2⟩ := HB.out.2.2.2.2.below HB.out.2.1 hb1
          have HC := Lib.hid (And.intro (HB.out.2.2.1.below HB.out.2.1 hb1) (HB.out.2.2.2.2.below HB.out.2.1 hb1))
          go_wp2_with fail
          refine (K2.out _).mono ?_
          rintro e w2 ⟨rfl, hb2⟩
          clear c0 c1 c2
          obtain ⟨c0, c1, c2⟩ := HC.out.1.below hz1 hb2
          obtain ⟨d0, d1, d2⟩ := HC.out.2.below hz1 hb2
          go_wp2
          go_ret
          exact ⟨rfl, hbb.trans (hb2.mono hbb.size)⟩
        case true =>
          go_enter Try.func38, Try.ntmps38
          go_wp2_with fail
          rw [← HW0.out]
          refine (K1.out _).mono ?_
          rintro e w1 ⟨rfl, hb1⟩
          have hbb := HB.out.1.trans (hb1.mono HB.out.1.size)
          have hz1 : w.heap.size < w1.heap.size := Nat.lt_of_lt_of_le HB.out.2.1 hb1.size
          obtain ⟨c0, c1, c2⟩ := HB.out.2.2.2.2.below HB.out.2.1 hb1
          have HC := Lib.hid (And.intro (HB.out.2.2.1.below HB.out.2.1 hb1) (HB.out.2.2.2.2.below HB.out.2.1 hb1))
          go_wp2_with fail
          refine (K2.out _).mono ?_
          rintro e w2 ⟨rfl, hb2⟩
          clear c0 c1 c2
          obtain ⟨c0, c1, c2⟩ := HC.out.1.below hz1 hb2
          obtain ⟨d0, d1, d2⟩ := HC.out.2.below hz1 hb2
          go_wp2
          go_ret
          exact ⟨rfl, hbb.trans (hb2.mono hbb.size)⟩

end Go.Proofs.Ytabbjilgpfnacaa

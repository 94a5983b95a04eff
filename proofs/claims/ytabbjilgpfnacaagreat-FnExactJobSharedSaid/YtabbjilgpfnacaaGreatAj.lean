/- Desks: conditions, sizes, copies. -/
import Derived.Test.YtabbjilgpfnacaaGreatAi
namespace Go.Proofs.YtabbjilgpfnacaaGreat
open Go.RowKit Ieee
set_option maxRecDepth 100000
set_option linter.unusedVariables false
set_option linter.unusedSimpArgs false

theorem quiet_drewA {P : Program} {f : FuncId} {args : Array Value} {W : World} {n : Nat} {v : Value} (h : Calls P f args (W.drewN n) fun e w' => e = .returned v ∧ ∃ m, w' = (W.drewN n).drewN m) : Calls P f args (W.drewN n) fun e w' => e = .returned v ∧ ∃ m, w' = W.drewN m :=
  h.mono fun e w' ⟨he, m, hm⟩ => ⟨he, n + m, by rw [hm]; simp [World.drewN, Nat.add_assoc]⟩

/-- Three cells of a picture or a map. -/
def Tri.at_ (t : Tri) (W : World) (pb o0 : Nat) : Prop := W.cell? ⟨pb, o0, none⟩ = some (.int .i64 t.a) ∧ W.cell? ⟨pb, o0 + 1, none⟩ = some (.int .i64 t.b) ∧ W.cell? ⟨pb, o0 + 2, none⟩ = some (.slice t.s t.l t.c)

theorem Tri.at_.drewN {t : Tri} {W : World} {pb o0 : Nat} (h : t.at_ W pb o0) (n : Nat) : t.at_ (W.drewN n) pb o0 := h

def Tri.ok (t : Tri) : Bool := vPic t.a t.b t.l

def fits (p m : Tri) : Bool := p.ok && m.ok && (p.a == m.a) && (p.b == m.b)

theorem desk_at (w : World) (p q m : Tri) (T : TypeId) : p.at_ (w.alloc (.cells (desk p q m) T)) w.heap.size 0 ∧ q.at_ (w.alloc (.cells (desk p q m) T)) w.heap.size 3 ∧ m.at_ (w.alloc (.cells (desk p q m) T)) w.heap.size 6 := by
  have h := BoxN.last w (desk p q m) T
  exact ⟨⟨h.cell 0, h.cell 1, h.cell 2⟩, ⟨h.cell 3, h.cell 4, h.cell 5⟩, ⟨h.cell 6, h.cell 7, h.cell 8⟩⟩

theorem Tri.at_.below {t : Tri} {W W' : World} {pb o0 : Nat} (h : t.at_ W pb o0) (hl : pb < W.heap.size) (hb : Below W.heap.size W W') : t.at_ W' pb o0 :=
  ⟨by rw [hb.cell (p := ⟨pb, o0, none⟩) hl]; exact h.1, by rw [hb.cell (p := ⟨pb, o0 + 1, none⟩) hl]; exact h.2.1, by rw [hb.cell (p := ⟨pb, o0 + 2, none⟩) hl]; exact h.2.2⟩

/-- pairOk of any two pictures. -/
def pairV (p q : Tri) : Bool := p.ok && q.ok && (p.a == q.a) && (p.b == q.b)

set_option maxHeartbeats 1000000 in
theorem pairOk_gen (w : World) (p q : Tri) (hl : p.l ≤ 9223372036854775807) (hl1 : q.l ≤ 9223372036854775807) :
    Calls Tryz.prog 45 #[.agg #[.int .i64 p.a, .int .i64 p.b, .slice p.s p.l p.c], .agg #[.int .i64 q.a, .int .i64 q.b, .slice q.s q.l q.c]] w fun e w' => e = .returned (.bool (pairV p q)) ∧ Below w.heap.size w w' := by
  have hb0 := below_two w (.cells #[.int .i64 p.a, .int .i64 p.b, .slice p.s p.l p.c] 35) (.cells #[.int .i64 q.a, .int .i64 q.b, .slice q.s q.l q.c] 35)
  have B1 := box_first w (.int .i64 p.a) (.int .i64 p.b) (.slice p.s p.l p.c) 35 (.cells #[.int .i64 q.a, .int .i64 q.b, .slice q.s q.l q.c] 35)
  have B2 := box_second w (.int .i64 q.a) (.int .i64 q.b) (.slice q.s q.l q.c) 35 (.cells #[.int .i64 p.a, .int .i64 p.b, .slice p.s p.l p.c] 35)
  have K1 := Lib.hid (fun w => validPicture_any p.a p.b p.s p.l p.c hl w)
  have K2 := Lib.hid (fun w => validPicture_any q.a q.b q.s q.l q.c hl1 w)
  unfold pairV Tri.ok
  generalize vPic p.a p.b p.l = v1 at *
  generalize vPic q.a q.b q.l = v2 at *
  obtain ⟨x1, hx1⟩ : ∃ x, (p.a == q.a) = x := ⟨_, rfl⟩
  obtain ⟨x2, hx2⟩ : ∃ x, (p.b == q.b) = x := ⟨_, rfl⟩
  rw [hx1, hx2]
  have HB := Lib.hid (And.intro hb0 (And.intro B1 B2))
  obtain ⟨W0, hW0⟩ : ∃ W, W = ((w.alloc (.cells #[.int .i64 p.a, .int .i64 p.b, .slice p.s p.l p.c] 35)).alloc (.cells #[.int .i64 q.a, .int .i64 q.b, .slice q.s q.l q.c] 35)) := ⟨_, rfl⟩
  rw [← hW0] at HB
  have HW0 := Lib.hid hW0
  clear hb0 B1 B2 hW0 hl hl1
  cases v1
  case false =>
    go_enter Tryz.func45, Tryz.ntmps45
    go_wp2_with fail
    rw [← HW0.out]
    refine (K1.out _).mono ?_
    rintro e w1 ⟨rfl, hb1⟩
    go_wp2
    go_ret
    exact ⟨rfl, HB.out.1.trans (hb1.mono HB.out.1.size)⟩
  case true =>
    cases v2
    case false =>
      go_enter Tryz.func45, Tryz.ntmps45
      go_wp2_with fail
      rw [← HW0.out]
      refine (K1.out _).mono ?_
      rintro e w1 ⟨rfl, hb1⟩
      have hbb := HB.out.1.trans (hb1.mono HB.out.1.size)
      obtain ⟨d0, d1, d2', -, -, -⟩ := (HB.out.2.2.below hb1).cells
      go_wp2_with fail
      refine (K2.out _).mono ?_
      rintro e w2 ⟨rfl, hb2⟩
      go_wp2
      go_ret
      exact ⟨rfl, hbb.trans (hb2.mono hbb.size)⟩
    case true =>
      cases x1
      case false =>
        go_enter Tryz.func45, Tryz.ntmps45
        go_wp2_with fail
        rw [← HW0.out]
        refine (K1.out _).mono ?_
        rintro e w1 ⟨rfl, hb1⟩
        have hbb := HB.out.1.trans (hb1.mono HB.out.1.size)
        obtain ⟨d0, d1, d2', -, -, -⟩ := (HB.out.2.2.below hb1).cells
        have HB1 := Lib.hid (And.intro (HB.out.2.1.below hb1) (HB.out.2.2.below hb1))
        go_wp2_with fail
        refine (K2.out _).mono ?_
        rintro e w2 ⟨rfl, hb2⟩
        clear d0 d1 d2'
        obtain ⟨c0, c1, c2', -, -, -⟩ := (HB1.out.1.below hb2).cells
        obtain ⟨d0, d1, d2', -, -, -⟩ := (HB1.out.2.below hb2).cells
        go_wp2
        go_ret
        exact ⟨rfl, hbb.trans (hb2.mono hbb.size)⟩
      case true =>
        cases x2
        case false =>
          go_enter Tryz.func45, Tryz.ntmps45
          go_wp2_with fail
          rw [← HW0.out]
          refine (K1.out _).mono ?_
          rintro e w1 ⟨rfl, hb1⟩
          have hbb := HB.out.1.trans (hb1.mono HB.out.1.size)
          obtain ⟨d0, d1, d2', -, -, -⟩ := (HB.out.2.2.below hb1).cells
          have HB1 := Lib.hid (And.intro (HB.out.2.1.below hb1) (HB.out.2.2.below hb1))
          go_wp2_with fail
          refine (K2.out _).mono ?_
          rintro e w2 ⟨rfl, hb2⟩
          clear d0 d1 d2'
          obtain ⟨c0, c1, c2', -, -, -⟩ := (HB1.out.1.below hb2).cells
          obtain ⟨d0, d1, d2', -, -, -⟩ := (HB1.out.2.below hb2).cells
          go_wp2
          go_ret
          exact ⟨rfl, hbb.trans (hb2.mono hbb.size)⟩
        case true =>
          go_enter Tryz.func45, Tryz.ntmps45
          go_wp2_with fail
          rw [← HW0.out]
          refine (K1.out _).mono ?_
          rintro e w1 ⟨rfl, hb1⟩
          have hbb := HB.out.1.trans (hb1.mono HB.out.1.size)
          obtain ⟨d0, d1, d2', -, -, -⟩ := (HB.out.2.2.below hb1).cells
          have HB1 := Lib.hid (And.intro (HB.out.2.1.below hb1) (HB.out.2.2.below hb1))
          go_wp2_with fail
          refine (K2.out _).mono ?_
          rintro e w2 ⟨rfl, hb2⟩
          clear d0 d1 d2'
          obtain ⟨c0, c1, c2', -, -, -⟩ := (HB1.out.1.below hb2).cells
          obtain ⟨d0, d1, d2', -, -, -⟩ := (HB1.out.2.below hb2).cells
          go_wp2
          go_ret
          exact ⟨rfl, hbb.trans (hb2.mono hbb.size)⟩

/-- The program's condition. -/
theorem valid_eq (p q m : Tri) : (pairV p q && m.ok && (m.a == p.a) && (m.b == p.b)) = (fits p m && fits q m) := by
  unfold pairV fits
  generalize p.ok = v1
  generalize q.ok = v2
  generalize m.ok = v3
  rw [Bool.eq_iff_iff]
  simp only [Bool.and_eq_true, beq_iff_eq]
  constructor
  · rintro ⟨⟨⟨⟨⟨⟨h1, h2⟩, h3⟩, h4⟩, h5⟩, h6⟩, h7⟩
    exact ⟨⟨⟨⟨h1, h5⟩, h6.symm⟩, h7.symm⟩, ⟨⟨h2, h5⟩, by rw [← h3, h6]⟩, by rw [← h4, h7]⟩
  · rintro ⟨⟨⟨⟨h1, h5⟩, h6⟩, h7⟩, ⟨⟨h2, _⟩, h8⟩, h9⟩
    exact ⟨⟨⟨⟨⟨⟨h1, h2⟩, by rw [h6, h8]⟩, by rw [h7, h9]⟩, h5⟩, h6.symm⟩, h7.symm⟩

end Go.Proofs.YtabbjilgpfnacaaGreat

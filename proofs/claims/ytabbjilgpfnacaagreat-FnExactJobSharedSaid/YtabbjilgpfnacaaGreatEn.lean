/- Jobs: their conditions; the reference's volume of a job. -/
import Derived.Test.YtabbjilgpfnacaaGreatEm
namespace Go.Proofs.YtabbjilgpfnacaaGreat
open Go.RowKit Ieee
set_option maxRecDepth 100000
set_option linter.unusedVariables false
set_option linter.unusedSimpArgs false

/-- A job. -/
structure JobX where
  kind : Int
  reach : Int
  deep : Int
  solve : Bool
  one : Nat
  more : Nat

def JobX.v (j : JobX) : Array Value := #[.int .i64 j.kind, .int .i64 j.reach, .int .i64 j.deep, .bool j.solve, .float .f32 j.one, .float .f32 j.more]

def inI (n lo hi : Int) : Bool := decide (lo ≤ n) && decide (n ≤ hi)

def JobX.ok (j : JobX) : Bool := inI j.kind 0 1 && (inI j.reach 0 3 && (inI j.deep 1 8 && prOk j.one j.more))

theorem six_of_box {W : World} {b : Nat} {x y z u v t : Value} {T : TypeId} (h : BoxN W b #[x, y, z, u, v, t] T) :
    W.cell? ⟨b, 0, none⟩ = some x ∧ W.cell? ⟨b, 1, none⟩ = some y ∧ W.cell? ⟨b, 2, none⟩ = some z ∧ W.cell? ⟨b, 3, none⟩ = some u ∧ W.cell? ⟨b, 4, none⟩ = some v ∧ W.cell? ⟨b, 5, none⟩ = some t := ⟨h.cell 0, h.cell 1, h.cell 2, h.cell 3, h.cell 4, h.cell 5⟩

theorem sInE (n lo hi : Int) (w : World) : Calls Tryz.prog 26 #[.int .i64 n, .int .i64 lo, .int .i64 hi] w fun e w' => e = .returned (.bool (inI n lo hi)) ∧ w = w' := s00In_any n lo hi w

theorem iInE (n lo hi : Int) (w : World) : Calls Tryz.prog 21 #[.int .i64 n, .int .i64 lo, .int .i64 hi] w fun e w' => e = .returned (.bool (inI n lo hi)) ∧ w = w' := in_any n lo hi w

set_option maxHeartbeats 1000000 in
theorem l07IsE (W : World) (pb : Nat) (j : JobX) (h : BoxN W pb j.v 39) :
    Calls Tryz.prog 15 #[.pointer (some ⟨pb, 0, none⟩)] W fun e w' => e = .returned (.bool j.ok) ∧ ∃ n, w' = W.drewN n := by
  obtain ⟨c0, c1, c2, c3, c4, c5⟩ := six_of_box h
  have K1 := Lib.hid (fun w => sInE j.kind 0 1 w)
  have K2 := Lib.hid (fun w => sInE j.reach 0 3 w)
  have K3 := Lib.hid (fun w => sInE j.deep 1 8 w)
  have K4 := Lib.hid (l04IsE W pb 4 j.one j.more c4 c5)
  have hpl := h.lt
  unfold JobX.ok
  clear h c4 c5 c3
  cases f1 : inI j.kind 0 1
  · rw [f1] at K1
    clear f1
    go_enter Tryz.func15, Tryz.ntmps15
    go_wp2_with fail
    refine (K1.out _).mono ?_
    rintro e w' ⟨rfl, rfl⟩
    go_wp2
    go_ret
    exact ⟨rfl, 0, rfl⟩
  · rw [f1] at K1
    clear f1
    cases f2 : inI j.reach 0 3
    · rw [f2] at K2
      clear f2
      go_enter Tryz.func15, Tryz.ntmps15
      go_wp2_with fail
      refine (K1.out _).mono ?_
      rintro e w' ⟨rfl, rfl⟩
      go_wp2_with fail
      refine (K2.out _).mono ?_
      rintro e w' ⟨rfl, rfl⟩
      go_wp2
      go_ret
      exact ⟨rfl, 0, rfl⟩
    · rw [f2] at K2
      clear f2
      cases f3 : inI j.deep 1 8
      · rw [f3] at K3
        clear f3
        go_enter Tryz.func15, Tryz.ntmps15
        go_wp2_with fail
        refine (K1.out _).mono ?_
        rintro e w' ⟨rfl, rfl⟩
        go_wp2_with fail
        refine (K2.out _).mono ?_
        rintro e w' ⟨rfl, rfl⟩
        go_wp2_with fail
        refine (K3.out _).mono ?_
        rintro e w' ⟨rfl, rfl⟩
        go_wp2
        go_ret
        exact ⟨rfl, 0, rfl⟩
      · rw [f3] at K3
        clear f3
        go_enter Tryz.func15, Tryz.ntmps15
        go_wp2_with fail
        refine (K1.out _).mono ?_
        rintro e w' ⟨rfl, rfl⟩
        go_wp2_with fail
        refine (K2.out _).mono ?_
        rintro e w' ⟨rfl, rfl⟩
        go_wp2_with fail
        refine (K3.out _).mono ?_
        rintro e w' ⟨rfl, rfl⟩
        go_wp2_with fail
        refine K4.out.mono ?_
        rintro e w' ⟨rfl, n, rfl⟩
        go_wp2
        go_ret
        exact ⟨by simp, n, rfl⟩

set_option maxHeartbeats 1000000 in
theorem iJobE (w : World) (j : JobX) (ho : j.one < 4294967296) (hm : j.more < 4294967296) :
    Calls Tryz.prog 44 #[.agg j.v] w fun e w' => e = .returned (.bool j.ok) ∧ Below w.heap.size w w' := by
  obtain ⟨W0, hW0⟩ : ∃ W, W = w.alloc (.cells j.v 39) := ⟨_, rfl⟩
  obtain ⟨hb0, hx, -⟩ := box_new hW0
  obtain ⟨c0, c1, c2, c3, c4, c5⟩ := six_of_box hx
  have K1 := Lib.hid (fun w => iInE j.kind 0 1 w)
  have K2 := Lib.hid (fun w => iInE j.reach 0 3 w)
  have K3 := Lib.hid (fun w => iInE j.deep 1 8 w)
  have K4 := Lib.hid (iPricesE W0 j.one j.more ho hm)
  have hpl := hx.lt
  have HB := Lib.hid hb0
  have HW0 := Lib.hid hW0
  rw [hW0] at c0 c1 c2 c3 c4 c5 hpl
  unfold JobX.ok
  clear hx hb0 hW0 ho hm
  unfold JobX.v at *
  cases f1 : inI j.kind 0 1
  · rw [f1] at K1
    clear f1
    go_enter Tryz.func44, Tryz.ntmps44
    go_wp2_with fail
    refine (K1.out _).mono ?_
    rintro e w' ⟨rfl, rfl⟩
    rw [← HW0.out]
    rw [← HW0.out] at c0 c1 c2 c3 c4 c5
    go_wp2
    go_ret
    exact ⟨rfl, HB.out⟩
  · rw [f1] at K1
    clear f1
    cases f2 : inI j.reach 0 3
    · rw [f2] at K2
      clear f2
      go_enter Tryz.func44, Tryz.ntmps44
      go_wp2_with fail
      refine (K1.out _).mono ?_
      rintro e w' ⟨rfl, rfl⟩
      rw [← HW0.out]
      rw [← HW0.out] at c0 c1 c2 c3 c4 c5
      go_wp2_with fail
      refine (K2.out _).mono ?_
      rintro e w' ⟨rfl, rfl⟩
      go_wp2
      go_ret
      exact ⟨rfl, HB.out⟩
    · rw [f2] at K2
      clear f2
      cases f3 : inI j.deep 1 8
      · rw [f3] at K3
        clear f3
        go_enter Tryz.func44, Tryz.ntmps44
        go_wp2_with fail
        refine (K1.out _).mono ?_
        rintro e w' ⟨rfl, rfl⟩
        rw [← HW0.out]
        rw [← HW0.out] at c0 c1 c2 c3 c4 c5
        go_wp2_with fail
        refine (K2.out _).mono ?_
        rintro e w' ⟨rfl, rfl⟩
        go_wp2_with fail
        refine (K3.out _).mono ?_
        rintro e w' ⟨rfl, rfl⟩
        go_wp2
        go_ret
        exact ⟨rfl, HB.out⟩
      · rw [f3] at K3
        clear f3
        go_enter Tryz.func44, Tryz.ntmps44
        go_wp2_with fail
        refine (K1.out _).mono ?_
        rintro e w' ⟨rfl, rfl⟩
        rw [← HW0.out]
        rw [← HW0.out] at c0 c1 c2 c3 c4 c5
        go_wp2_with fail
        refine (K2.out _).mono ?_
        rintro e w' ⟨rfl, rfl⟩
        go_wp2_with fail
        refine (K3.out _).mono ?_
        rintro e w' ⟨rfl, rfl⟩
        go_wp2_with fail
        refine K4.out.mono ?_
        rintro e w' ⟨rfl, hb⟩
        go_wp2
        go_ret
        exact ⟨by simp, HB.out.trans (hb.mono HB.out.size)⟩

set_option maxHeartbeats 1000000 in
theorem l02TwoE (W : World) (p1 p2 o1 o2 : Nat) (p q : Tri) (hp : p.at_ W p1 o1) (hq : q.at_ W p2 o2) (hl : p.l ≤ 9223372036854775807) (hl2 : q.l ≤ 9223372036854775807) :
    Calls Tryz.prog 16 #[.pointer (some ⟨p1, o1, none⟩), .pointer (some ⟨p2, o2, none⟩)] W fun e w' => e = .returned (.bool (pairV p q)) ∧ ∃ k, w' = W.drewN k := by
  have K1 := Lib.hid (fun n => quiet_drewA (W := W) (n := n) (l02Is_gen (W.drewN n) p1 o1 p.a p.b p.s p.l p.c hl hp.1 hp.2.1 hp.2.2))
  have K2 := Lib.hid (fun n => quiet_drewA (W := W) (n := n) (l02Is_gen (W.drewN n) p2 o2 q.a q.b q.s q.l q.c hl2 hq.1 hq.2.1 hq.2.2))
  obtain ⟨c0, c1, -⟩ := hp
  obtain ⟨d0, d1, -⟩ := hq
  unfold pairV Tri.ok
  generalize vPic p.a p.b p.l = v1 at *
  generalize vPic q.a q.b q.l = v2 at *
  obtain ⟨x1, hx1⟩ : ∃ x, (p.a == q.a) = x := ⟨_, rfl⟩
  obtain ⟨x2, hx2⟩ : ∃ x, (p.b == q.b) = x := ⟨_, rfl⟩
  rw [hx1, hx2]
  cases v1
  case false =>
    go_enter Tryz.func16, Tryz.ntmps16
    go_wp2_with fail
    go_quiet (first | with_reducible exact K1.out _ | with_reducible exact K2.out _)
    go_wp2_with fail
    go_ret
    exact ⟨rfl, _, rfl⟩
  case true =>
    cases v2
    case false =>
      go_enter Tryz.func16, Tryz.ntmps16
      go_wp2_with fail
      go_quiet (first | with_reducible exact K1.out _ | with_reducible exact K2.out _)
      go_wp2_with fail
      go_ret
      exact ⟨rfl, _, rfl⟩
    case true =>
      cases x1
      case false =>
        go_enter Tryz.func16, Tryz.ntmps16
        go_wp2_with fail
        go_quiet (first | with_reducible exact K1.out _ | with_reducible exact K2.out _)
        go_wp2_with fail
        go_ret
        exact ⟨rfl, _, rfl⟩
      case true =>
        cases x2
        case false =>
          go_enter Tryz.func16, Tryz.ntmps16
          go_wp2_with fail
          go_quiet (first | with_reducible exact K1.out _ | with_reducible exact K2.out _)
          go_wp2_with fail
          go_ret
          exact ⟨rfl, _, rfl⟩
        case true =>
          go_enter Tryz.func16, Tryz.ntmps16
          go_wp2_with fail
          go_quiet (first | with_reducible exact K1.out _ | with_reducible exact K2.out _)
          go_wp2_with fail
          go_ret
          exact ⟨rfl, _, rfl⟩

end Go.Proofs.YtabbjilgpfnacaaGreat

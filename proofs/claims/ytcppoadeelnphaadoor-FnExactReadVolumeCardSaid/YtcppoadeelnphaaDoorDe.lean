/- The exact laws' functions on pictures, maps, desks. -/
import Derived.Test.YtcppoadeelnphaaDoorDk
namespace Go.Proofs.YtcppoadeelnphaaDoor
open Go.RowKit Ieee
set_option maxRecDepth 100000
set_option linter.unusedVariables false
set_option linter.unusedSimpArgs false
set_option maxHeartbeats 1000000

theorem eqP_yes (w : World) (a b : Int) (s1 s2 : Option Addr) (n1 n2 c1 c2 : Nat) (xs ys : List Nat) (h1 : SlF w (.slice s1 n1 c1) xs) (h2 : SlF w (.slice s2 n2 c2) ys) (he : xs.map fl = ys.map fl) :
    Calls Tryd.prog 8 #[.agg #[.int .i64 a, .int .i64 b, .slice s1 n1 c1], .agg #[.int .i64 a, .int .i64 b, .slice s2 n2 c2]] w fun e w' => e = .returned (.bool true) ∧ Below w.heap.size w w' := by
  have hb := below_two2 w (.cells #[.int .i64 a, .int .i64 b, .slice s1 n1 c1] 24) (.cells #[.int .i64 a, .int .i64 b, .slice s2 n2 c2] 24)
  have K := Lib.hid (eqF_yes _ _ _ xs ys (h1.below hb) (h2.below hb) he)
  go_enter Tryd.func8, Tryd.ntmps8
  go_wp2_with fail
  refine K.out.mono ?_
  rintro e w' ⟨rfl, q, rfl⟩
  go_wp2
  go_ret
  exact ⟨rfl, below_drewN hb _⟩

theorem eqM_yes (w : World) (a b : Int) (s1 s2 : Option Addr) (n1 n2 c1 c2 : Nat) (xs ys : List Nat) (h1 : SlF w (.slice s1 n1 c1) xs) (h2 : SlF w (.slice s2 n2 c2) ys) (he : xs.map fl = ys.map fl) :
    Calls Tryd.prog 13 #[.agg #[.int .i64 a, .int .i64 b, .slice s1 n1 c1], .agg #[.int .i64 a, .int .i64 b, .slice s2 n2 c2]] w fun e w' => e = .returned (.bool true) ∧ Below w.heap.size w w' := by
  have hb := below_two2 w (.cells #[.int .i64 a, .int .i64 b, .slice s1 n1 c1] 31) (.cells #[.int .i64 a, .int .i64 b, .slice s2 n2 c2] 31)
  have K := Lib.hid (eqF_yes _ _ _ xs ys (h1.below hb) (h2.below hb) he)
  go_enter Tryd.func13, Tryd.ntmps13
  go_wp2_with fail
  refine K.out.mono ?_
  rintro e w' ⟨rfl, q, rfl⟩
  go_wp2
  go_ret
  exact ⟨rfl, below_drewN hb _⟩

/-- Marks written into a slice of one's own. -/
def Marks (w : World) (B : Nat) (v : Value) (n k : Nat) (e : Ending) (w' : World) : Prop := e = .returned (.int .i64 ((k + n : Nat) : Int)) ∧ OwnF w' B v (marks k n) ∧ w.grownBy w' v.ownBlock

theorem markP_any (w : World) (B : Nat) (a b : Int) (s : Option Addr) (c : Nat) (bs : List Nat) (k : Nat) (hk : k + bs.length ≤ 9223372036854775000) (hB : B ≤ w.heap.size) (h : OwnF w B (.slice s bs.length c) bs) :
    Calls Tryd.prog 9 #[.agg #[.int .i64 a, .int .i64 b, .slice s bs.length c], .int .i64 k] w (Marks w B (.slice s bs.length c) bs.length k) := by
  have hb : Below w.heap.size w (w.alloc (.cells #[.int .i64 a, .int .i64 b, .slice s bs.length c] 24)) := (Below.refl _ _).alloc (Nat.le_refl _) _
  have K := Lib.hid (markF_any _ B _ bs k hk (h.below hb))
  go_enter Tryd.func9, Tryd.ntmps9
  go_wp2_with fail
  refine K.out.mono ?_
  rintro e w' ⟨rfl, hown, hg⟩
  go_wp2
  go_ret
  exact ⟨rfl, hown, grown_trans2 (grown_below hb _) hg⟩

theorem markM_any (w : World) (B : Nat) (a b : Int) (s : Option Addr) (c : Nat) (bs : List Nat) (k : Nat) (hk : k + bs.length ≤ 9223372036854775000) (hB : B ≤ w.heap.size) (h : OwnF w B (.slice s bs.length c) bs) :
    Calls Tryd.prog 14 #[.agg #[.int .i64 a, .int .i64 b, .slice s bs.length c], .int .i64 k] w (Marks w B (.slice s bs.length c) bs.length k) := by
  have hb : Below w.heap.size w (w.alloc (.cells #[.int .i64 a, .int .i64 b, .slice s bs.length c] 31)) := (Below.refl _ _).alloc (Nat.le_refl _) _
  have K := Lib.hid (markF_any _ B _ bs k hk (h.below hb))
  go_enter Tryd.func14, Tryd.ntmps14
  go_wp2_with fail
  refine K.out.mono ?_
  rintro e w' ⟨rfl, hown, hg⟩
  go_wp2
  go_ret
  exact ⟨rfl, hown, grown_trans2 (grown_below hb _) hg⟩

theorem heldP_yes (w : World) (a b : Int) (s : Option Addr) (l c : Nat) (k n : Nat) (hk : k + n ≤ 9223372036854775000) (h : SlF w (.slice s l c) (marks k n)) :
    Calls Tryd.prog 10 #[.agg #[.int .i64 a, .int .i64 b, .slice s l c], .int .i64 k] w fun e w' => e = .returned (.int .i64 ((k + n : Nat) : Int)) ∧ Below w.heap.size w w' := by
  have hb : Below w.heap.size w (w.alloc (.cells #[.int .i64 a, .int .i64 b, .slice s l c] 24)) := (Below.refl _ _).alloc (Nat.le_refl _) _
  have K := Lib.hid (heldF_yes _ _ k n hk (h.below hb))
  obtain ⟨m, hm⟩ : ∃ m, m = k + n := ⟨_, rfl⟩
  rw [← hm] at K ⊢
  clear hm
  go_enter Tryd.func10, Tryd.ntmps10
  go_wp2_with fail
  refine K.out.mono ?_
  rintro e w' ⟨rfl, rfl⟩
  go_wp2
  go_ret
  exact ⟨rfl, hb⟩

theorem heldM_yes (w : World) (a b : Int) (s : Option Addr) (l c : Nat) (k n : Nat) (hk : k + n ≤ 9223372036854775000) (h : SlF w (.slice s l c) (marks k n)) :
    Calls Tryd.prog 15 #[.agg #[.int .i64 a, .int .i64 b, .slice s l c], .int .i64 k] w fun e w' => e = .returned (.int .i64 ((k + n : Nat) : Int)) ∧ Below w.heap.size w w' := by
  have hb : Below w.heap.size w (w.alloc (.cells #[.int .i64 a, .int .i64 b, .slice s l c] 31)) := (Below.refl _ _).alloc (Nat.le_refl _) _
  have K := Lib.hid (heldF_yes _ _ k n hk (h.below hb))
  obtain ⟨m, hm⟩ : ∃ m, m = k + n := ⟨_, rfl⟩
  rw [← hm] at K ⊢
  clear hm
  go_enter Tryd.func15, Tryd.ntmps15
  go_wp2_with fail
  refine K.out.mono ?_
  rintro e w' ⟨rfl, rfl⟩
  go_wp2
  go_ret
  exact ⟨rfl, hb⟩

/-- A desk's value: a left and a right picture, a map. -/
structure Tri where
  a : Int
  b : Int
  s : Option Addr
  l : Nat
  c : Nat

def Tri.v (t : Tri) : Value := .slice t.s t.l t.c

/-- A desk's value, its nine cells. -/
def desk (p q m : Tri) : Array Value := #[.int .i64 p.a, .int .i64 p.b, .slice p.s p.l p.c, .int .i64 q.a, .int .i64 q.b, .slice q.s q.l q.c, .int .i64 m.a, .int .i64 m.b, .slice m.s m.l m.c]

theorem marks_grown {w w' : World} {B : Nat} {v u : Value} {bs : List Nat} (h : OwnF w B v bs) (hg : w.grownBy w' u.ownBlock) (hne : v.ownBlock = none ∨ v.ownBlock ≠ u.ownBlock) : OwnF w' B v bs := h.grown hg hne

/-- Two slices in blocks of their own. -/
def Far (x y : Value) : Prop := (x.ownBlock = none ∨ x.ownBlock ≠ y.ownBlock) ∧ (y.ownBlock = none ∨ y.ownBlock ≠ x.ownBlock)

/-- A desk that is all one's own, above a bound. -/
structure OwnDesk (w : World) (B : Nat) (p q m : Tri) (xs ys zs : List Nat) : Prop where
  op : OwnF w B (.slice p.s p.l p.c) xs
  oq : OwnF w B (.slice q.s q.l q.c) ys
  om : OwnF w B (.slice m.s m.l m.c) zs
  pq : Far (.slice p.s p.l p.c) (.slice q.s q.l q.c)
  pm : Far (.slice p.s p.l p.c) (.slice m.s m.l m.c)
  qm : Far (.slice q.s q.l q.c) (.slice m.s m.l m.c)

theorem own_len {w : World} {B : Nat} {s : Option Addr} {l c : Nat} {bs : List Nat} (h : OwnF w B (.slice s l c) bs) : l = bs.length := by
  obtain ⟨a, c', e⟩ := h.sl.len
  simp only [Value.slice.injEq] at e; omega

end Go.Proofs.YtcppoadeelnphaaDoor

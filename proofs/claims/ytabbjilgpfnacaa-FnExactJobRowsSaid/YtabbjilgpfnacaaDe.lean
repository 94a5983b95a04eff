/- The exact laws' functions on pictures, maps, desks. -/
import Derived.Test.YtabbjilgpfnacaaDk
namespace Go.Proofs.Ytabbjilgpfnacaa
open Go.RowKit Ieee
set_option maxRecDepth 100000
set_option linter.unusedVariables false
set_option linter.unusedSimpArgs false
set_option maxHeartbeats 1000000

theorem eqP_yes (w : World) (a b : Int) (s1 s2 : Option Addr) (n1 n2 c1 c2 : Nat) (xs ys : List Nat) (h1 : SlF w (.slice s1 n1 c1) xs) (h2 : SlF w (.slice s2 n2 c2) ys) (he : xs.map fl = ys.map fl) :
    Calls Try.prog 21 #[.agg #[.int .i64 a, .int .i64 b, .slice s1 n1 c1], .agg #[.int .i64 a, .int .i64 b, .slice s2 n2 c2]] w fun e w' => e = .returned (.bool true) ∧ Below w.heap.size w w' := by
  have hb := below_two2 w (.cells #[.int .i64 a, .int .i64 b, .slice s1 n1 c1] 34) (.cells #[.int .i64 a, .int .i64 b, .slice s2 n2 c2] 34)
  have K := Lib.hid (eqF_yes _ _ _ xs ys (h1.below hb) (h2.below hb) he)
  go_enter Try.func21, Try.ntmps21
  go_wp2_with fail
  refine K.out.mono ?_
  rintro e w' ⟨rfl, q, rfl⟩
  go_wp2
  go_ret
  exact ⟨rfl, below_drewN hb _⟩

theorem eqM_yes (w : World) (a b : Int) (s1 s2 : Option Addr) (n1 n2 c1 c2 : Nat) (xs ys : List Nat) (h1 : SlF w (.slice s1 n1 c1) xs) (h2 : SlF w (.slice s2 n2 c2) ys) (he : xs.map fl = ys.map fl) :
    Calls Try.prog 31 #[.agg #[.int .i64 a, .int .i64 b, .slice s1 n1 c1], .agg #[.int .i64 a, .int .i64 b, .slice s2 n2 c2]] w fun e w' => e = .returned (.bool true) ∧ Below w.heap.size w w' := by
  have hb := below_two2 w (.cells #[.int .i64 a, .int .i64 b, .slice s1 n1 c1] 35) (.cells #[.int .i64 a, .int .i64 b, .slice s2 n2 c2] 35)
  have K := Lib.hid (eqF_yes _ _ _ xs ys (h1.below hb) (h2.below hb) he)
  go_enter Try.func31, Try.ntmps31
  go_wp2_with fail
  refine K.out.mono ?_
  rintro e w' ⟨rfl, q, rfl⟩
  go_wp2
  go_ret
  exact ⟨rfl, below_drewN hb _⟩

/-- Marks written into a slice of one's own. -/
def Marks (w : World) (B : Nat) (v : Value) (n k : Nat) (e : Ending) (w' : World) : Prop := e = .returned (.int .i64 ((k + n : Nat) : Int)) ∧ OwnF w' B v (marks k n) ∧ w.grownBy w' v.ownBlock

theorem markP_any (w : World) (B : Nat) (a b : Int) (s : Option Addr) (c : Nat) (bs : List Nat) (k : Nat) (hk : k + bs.length ≤ 9223372036854775000) (hB : B ≤ w.heap.size) (h : OwnF w B (.slice s bs.length c) bs) :
    Calls Try.prog 22 #[.agg #[.int .i64 a, .int .i64 b, .slice s bs.length c], .int .i64 k] w (Marks w B (.slice s bs.length c) bs.length k) := by
  have hb : Below w.heap.size w (w.alloc (.cells #[.int .i64 a, .int .i64 b, .slice s bs.length c] 34)) := (Below.refl _ _).alloc (Nat.le_refl _) _
  have K := Lib.hid (markF_any _ B _ bs k hk (h.below hb))
  go_enter Try.func22, Try.ntmps22
  go_wp2_with fail
  refine K.out.mono ?_
  rintro e w' ⟨rfl, hown, hg⟩
  go_wp2
  go_ret
  exact ⟨rfl, hown, grown_trans2 (grown_below hb _) hg⟩

theorem markM_any (w : World) (B : Nat) (a b : Int) (s : Option Addr) (c : Nat) (bs : List Nat) (k : Nat) (hk : k + bs.length ≤ 9223372036854775000) (hB : B ≤ w.heap.size) (h : OwnF w B (.slice s bs.length c) bs) :
    Calls Try.prog 32 #[.agg #[.int .i64 a, .int .i64 b, .slice s bs.length c], .int .i64 k] w (Marks w B (.slice s bs.length c) bs.length k) := by
  have hb : Below w.heap.size w (w.alloc (.cells #[.int .i64 a, .int .i64 b, .slice s bs.length c] 35)) := (Below.refl _ _).alloc (Nat.le_refl _) _
  have K := Lib.hid (markF_any _ B _ bs k hk (h.below hb))
  go_enter Try.func32, Try.ntmps32
  go_wp2_with fail
  refine K.out.mono ?_
  rintro e w' ⟨rfl, hown, hg⟩
  go_wp2
  go_ret
  exact ⟨rfl, hown, grown_trans2 (grown_below hb _) hg⟩

theorem heldM_yes (w : World) (a b : Int) (s : Option Addr) (l c : Nat) (k n : Nat) (hk : k + n ≤ 9223372036854775000) (h : SlF w (.slice s l c) (marks k n)) :
    Calls Try.prog 33 #[.agg #[.int .i64 a, .int .i64 b, .slice s l c], .int .i64 k] w fun e w' => e = .returned (.int .i64 ((k + n : Nat) : Int)) ∧ Below w.heap.size w w' := by
  have hb : Below w.heap.size w (w.alloc (.cells #[.int .i64 a, .int .i64 b, .slice s l c] 35)) := (Below.refl _ _).alloc (Nat.le_refl _) _
  have K := Lib.hid (heldF_yes _ _ k n hk (h.below hb))
  obtain ⟨m, hm⟩ : ∃ m, m = k + n := ⟨_, rfl⟩
  rw [← hm] at K ⊢
  clear hm
  go_enter Try.func33, Try.ntmps33
  go_wp2_with fail
  refine K.out.mono ?_
  rintro e w' ⟨rfl, rfl⟩
  go_wp2
  go_ret
  exact ⟨rfl, hb⟩

/-- A desk's value: a left and a right picture, a map. -/
structure Tri where
  a : Int
  b : Int
  s : Option Addr
  l : Nat
  c : Nat

def Tri.v (t : Tri) : Value := .slice t.s t.l t.c

/-- A desk's value, its nine cells. -/
def desk (p q m : Tri) : Array Value := #[.int .i64 p.a, .int .i64 p.b, .slice p.s p.l p.c, .int .i64 q.a, .int .i64 q.b, .slice q.s q.l q.c, .int .i64 m.a, .int .i64 m.b, .slice m.s m.l m.c]

theorem eqDesk_yes (w : World) (p q m p' q' m' : Tri) (xs ys zs xs' ys' zs' : List Nat) (hp : SlF w (.slice p.s p.l p.c) xs) (hq : SlF w (.slice q.s q.l q.c) ys) (hm : SlF w (.slice m.s m.l m.c) zs)
    (hp' : SlF w (.slice p'.s p'.l p'.c) xs') (hq' : SlF w (.slice q'.s q'.l q'.c) ys') (hm' : SlF w (.slice m'.s m'.l m'.c) zs') (e1 : p.a = p'.a ∧ p.b = p'.b) (e2 : q.a = q'.a ∧ q.b = q'.b) (e3 : m.a = m'.a ∧ m.b = m'.b) (f1 : xs.map fl = xs'.map fl) (f2 : ys.map fl = ys'.map fl) (f3 : zs.map fl = zs'.map fl) :
    Calls Try.prog 12 #[.agg (desk p q m), .agg (desk p' q' m')] w fun e w' => e = .returned (.bool true) ∧ Below w.heap.size w w' := by
  obtain ⟨pa, pb, ps, pl, pc⟩ := p
  obtain ⟨qa, qb, qs, ql, qc⟩ := q
  obtain ⟨ma, mb, ms, ml, mc⟩ := m
  obtain ⟨pa', pb', ps', pl', pc'⟩ := p'
  obtain ⟨qa', qb', qs', ql', qc'⟩ := q'
  obtain ⟨ma', mb', ms', ml', mc'⟩ := m'
  obtain ⟨rfl, rfl⟩ := e1
  obtain ⟨rfl, rfl⟩ := e2
  obtain ⟨rfl, rfl⟩ := e3
  dsimp only [desk] at *
  have F1 := Lib.hid f1
  have F2 := Lib.hid f2
  have F3 := Lib.hid f3
  clear f1 f2 f3
  have hb0 := below_two2 w (.cells #[.int .i64 pa, .int .i64 pb, .slice ps pl pc, .int .i64 qa, .int .i64 qb, .slice qs ql qc, .int .i64 ma, .int .i64 mb, .slice ms ml mc] 37) (.cells #[.int .i64 pa, .int .i64 pb, .slice ps' pl' pc', .int .i64 qa, .int .i64 qb, .slice qs' ql' qc', .int .i64 ma, .int .i64 mb, .slice ms' ml' mc'] 37)
  go_enter Try.func12, Try.ntmps12
  go_wp2_with fail
  with_reducible refine (eqP_yes _ _ _ _ _ _ _ _ _ xs xs' (hp.below hb0) (hp'.below hb0) F1.out).mono ?_
  rintro e w1 ⟨rfl, hb1⟩
  have hbb1 := hb0.trans (hb1.mono hb0.size)
  obtain ⟨hc1, _⟩ := bcell2 hb1
  have hz1 : w.heap.size + 1 < w1.heap.size := by have := hb1.size; simp at this; omega
  have hy1 : w.heap.size < w1.heap.size := by omega
  go_wp2_with fail
  with_reducible refine (eqP_yes _ _ _ _ _ _ _ _ _ ys ys' (hq.below hbb1) (hq'.below hbb1) F2.out).mono ?_
  rintro e w2 ⟨rfl, hb2⟩
  have hbb2 := hbb1.trans (hb2.mono hbb1.size)
  obtain ⟨hc2, _⟩ := bcell2 hb2
  have hz2 : w.heap.size + 1 < w2.heap.size := by have := hb2.size; omega
  have hy2 : w.heap.size < w2.heap.size := by omega
  go_wp2_with fail
  refine (eqM_yes _ _ _ _ _ _ _ _ _ zs zs' (hm.below hbb2) (hm'.below hbb2) F3.out).mono ?_
  rintro e w3 ⟨rfl, hb3⟩
  have hbb3 := hbb2.trans (hb3.mono hbb2.size)
  go_wp2
  go_ret
  exact ⟨rfl, hbb3⟩

theorem marks_grown {w w' : World} {B : Nat} {v u : Value} {bs : List Nat} (h : OwnF w B v bs) (hg : w.grownBy w' u.ownBlock) (hne : v.ownBlock = none ∨ v.ownBlock ≠ u.ownBlock) : OwnF w' B v bs := h.grown hg hne

/-- Two slices in blocks of their own. -/
def Far (x y : Value) : Prop := (x.ownBlock = none ∨ x.ownBlock ≠ y.ownBlock) ∧ (y.ownBlock = none ∨ y.ownBlock ≠ x.ownBlock)

/-- A desk that is all one's own, above a bound. -/
structure OwnDesk (w : World) (B : Nat) (p q m : Tri) (xs ys zs : List Nat) : Prop where
  op : OwnF w B (.slice p.s p.l p.c) xs
  oq : OwnF w B (.slice q.s q.l q.c) ys
  om : OwnF w B (.slice m.s m.l m.c) zs
  pq : Far (.slice p.s p.l p.c) (.slice q.s q.l q.c)
  pm : Far (.slice p.s p.l p.c) (.slice m.s m.l m.c)
  qm : Far (.slice q.s q.l q.c) (.slice m.s m.l m.c)

theorem own_len {w : World} {B : Nat} {s : Option Addr} {l c : Nat} {bs : List Nat} (h : OwnF w B (.slice s l c) bs) : l = bs.length := by
  obtain ⟨a, c', e⟩ := h.sl.len
  simp only [Value.slice.injEq] at e; omega

theorem markDesk_any (w : World) (B : Nat) (p q m : Tri) (xs ys zs : List Nat) (k : Nat) (hk : k + xs.length + ys.length + zs.length ≤ 9223372036854775000) (hB : B ≤ w.heap.size) (h : OwnDesk w B p q m xs ys zs) :
    Calls Try.prog 13 #[.agg (desk p q m), .int .i64 k] w fun e w' => e = .returned (.int .i64 ((k + xs.length + ys.length + zs.length : Nat) : Int)) ∧ OwnDesk w' B p q m (marks k xs.length) (marks (k + xs.length) ys.length) (marks (k + xs.length + ys.length) zs.length) ∧ Below B w w' ∧ w.heap.size ≤ w'.heap.size ∧ ∀ b, b < w.heap.size → some b ≠ (Value.slice p.s p.l p.c).ownBlock → some b ≠ (Value.slice q.s q.l q.c).ownBlock → some b ≠ (Value.slice m.s m.l m.c).ownBlock → w'.heap[b]? = w.heap[b]? := by
  obtain ⟨hp, hq, hm, ⟨a1, a2⟩, ⟨a3, a4⟩, ⟨a5, a6⟩⟩ := h
  obtain ⟨pa, pb, ps, pl, pc⟩ := p
  obtain ⟨qa, qb, qs, ql, qc⟩ := q
  obtain ⟨ma, mb, ms, ml, mc⟩ := m
  dsimp only [desk] at *
  have e1 := own_len hp
  have e2 := own_len hq
  have e3 := own_len hm
  have hb0 : Below w.heap.size w (w.alloc (.cells #[.int .i64 pa, .int .i64 pb, .slice ps pl pc, .int .i64 qa, .int .i64 qb, .slice qs ql qc, .int .i64 ma, .int .i64 mb, .slice ms ml mc] 37)) := (Below.refl _ _).alloc (Nat.le_refl _) _
  have n1 : some w.heap.size ≠ (Value.slice ps pl pc).ownBlock := fun e => by have := (hp.lt e.symm).2; omega
  have n2 : some w.heap.size ≠ (Value.slice qs ql qc).ownBlock := fun e => by have := (hq.lt e.symm).2; omega
  have lp := fun k hk => (hp.lt (k := k) hk).1
  have lq := fun k hk => (hq.lt (k := k) hk).1
  have lm := fun k hk => (hm.lt (k := k) hk).1
  subst e1; subst e2; subst e3
  obtain ⟨u1, hu1⟩ : ∃ u, u = k + xs.length := ⟨_, rfl⟩
  obtain ⟨u2, hu2⟩ : ∃ u, u = u1 + ys.length := ⟨_, rfl⟩
  obtain ⟨u3, hu3⟩ : ∃ u, u = u2 + zs.length := ⟨_, rfl⟩
  have M1 := fun w' hB' h' => markP_any w' B pa pb ps pc xs k (by omega) hB' h'
  have M2 := fun w' hB' h' => markP_any w' B qa qb qs qc ys u1 (by omega) hB' h'
  have M3 := fun w' hB' h' => markM_any w' B ma mb ms mc zs u2 (by omega) hB' h'
  unfold Marks at M1 M2 M3
  rw [← hu1] at M1 ⊢
  rw [← hu2] at M2 ⊢
  rw [← hu3] at M3 ⊢
  have H1 := Lib.hid M1
  have H2 := Lib.hid M2
  have H3 := Lib.hid M3
  clear M1 M2 M3 hu1 hu2 hu3 hk
  go_enter Try.func13, Try.ntmps13
  go_wp2_with fail
  refine (H1.out _ (by simp; omega) (hp.below hb0)).mono ?_
  rintro e w1 ⟨rfl, hp1, hg1⟩
  have hc1 : ∀ o, w1.cell? ⟨w.heap.size, o, none⟩ = (w.alloc (.cells #[.int .i64 pa, .int .i64 pb, .slice ps xs.length pc, .int .i64 qa, .int .i64 qb, .slice qs ys.length qc, .int .i64 ma, .int .i64 mb, .slice ms zs.length mc] 37)).cell? ⟨w.heap.size, o, none⟩ := fun o => World.cell?_of_block (hg1.block w.heap.size (by simp) n1)
  have hq1 := (hq.below hb0).grown hg1 a2
  have hm1 := (hm.below hb0).grown hg1 a4
  have B1 : Below B w w1 := (hb0.mono hB).grown hg1 (by simp; omega) lp
  have hs1 := hg1.size
  go_wp2_with fail
  refine (H2.out _ (by have := B1.size; omega) hq1).mono ?_
  rintro e w2 ⟨rfl, hq2, hg2⟩
  have hc2 : ∀ o, w2.cell? ⟨w.heap.size, o, none⟩ = w1.cell? ⟨w.heap.size, o, none⟩ := fun o => World.cell?_of_block (hg2.block w.heap.size (by simp at hs1; omega) n2)
  have hp2 := hp1.grown hg2 a1
  have hm2 := hm1.grown hg2 a6
  have B2 : Below B w w2 := B1.grown hg2 (by have := B1.size; omega) lq
  go_wp2_with fail
  refine (H3.out _ (by have := B2.size; omega) hm2).mono ?_
  rintro e w3 ⟨rfl, hm3, hg3⟩
  have hp3 := hp2.grown hg3 a3
  have hq3 := hq2.grown hg3 a5
  have B3 : Below B w w3 := B2.grown hg3 (by have := B2.size; omega) lm
  go_wp2
  go_ret
  have z0 := hb0.size
  have z1 := hg1.size
  have z2 := hg2.size
  have z3 := hg3.size
  refine ⟨rfl, ⟨hp3, hq3, hm3, ⟨a1, a2⟩, ⟨a3, a4⟩, ⟨a5, a6⟩⟩, B3, by omega, fun b hb k1 k2 k3 => ?_⟩
  rw [hg3.block b (by omega) k3, hg2.block b (by omega) k2, hg1.block b (by omega) k1, hb0.block b hb]

end Go.Proofs.Ytabbjilgpfnacaa

/- Vectors that a law draws, of any numbers: spec.B10Any. -/
import Derived.Test.YtjibghjongplpaaDoorDl
namespace Go.Proofs.YtjibghjongplpaaDoor
open Go.RowKit Ieee
set_option maxRecDepth 100000
set_option linter.unusedVariables false
set_option linter.unusedSimpArgs false

/-- A vector that is being drawn. -/
structure DvS (w0 : World) (L sb U rb vb x y z : Nat) (w : World) : Prop where
  src : SrcOk w L sb U
  box : BoxN w vb #[.float .f32 x, .float .f32 y, .float .f32 z] 39
  res : BoxN w rb #[.float .f32 0, .float .f32 0, .float .f32 0] 39
  bel : Below w0.heap.size w0 w
  vs : vb ≠ sb
  rs : rb ≠ sb
  rv : rb ≠ vb
  own : w0.heap.size ≤ vb
  low : L ≤ vb
  sr : w0.heap.size ≤ sb
theorem DvS.drew {w0 w w' : World} {L sb U V rb vb x y z : Nat} (h : DvS w0 L sb U rb vb x y z w) (hd : Drew L sb V w w') : DvS w0 L sb V rb vb x y z w' :=
  ⟨hd.ok, h.box.grown hd.grown (fun e => h.vs (Option.some.inj e)), h.res.grown hd.grown (fun e => h.rs (Option.some.inj e)), hd.away h.bel h.sr, h.vs, h.rs, h.rv, h.own, h.low, h.sr⟩
theorem DvS.set1 {w0 w : World} {L sb U rb vb x y z : Nat} (h : DvS w0 L sb U rb vb x y z w) (q : Nat) : DvS w0 L sb U rb vb x q z (w.setCell ⟨vb, 1, none⟩ (.float .f32 q)) :=
  ⟨h.src.grown (grown_setCell w ⟨vb, 1, none⟩ (.float .f32 q)) (fun e => h.vs (Option.some.inj e).symm) (fun k hk => by cases hk; exact h.low), h.box.set 1 (.float .f32 q), h.res.grown (grown_setCell w ⟨vb, 1, none⟩ (.float .f32 q)) (fun e => h.rv (Option.some.inj e)), h.bel.setCell h.own _, h.vs, h.rs, h.rv, h.own, h.low, h.sr⟩
theorem DvS.set2 {w0 w : World} {L sb U rb vb x y z : Nat} (h : DvS w0 L sb U rb vb x y z w) (q : Nat) : DvS w0 L sb U rb vb x y q (w.setCell ⟨vb, 2, none⟩ (.float .f32 q)) :=
  ⟨h.src.grown (grown_setCell w ⟨vb, 2, none⟩ (.float .f32 q)) (fun e => h.vs (Option.some.inj e).symm) (fun k hk => by cases hk; exact h.low), h.box.set 2 (.float .f32 q), h.res.grown (grown_setCell w ⟨vb, 2, none⟩ (.float .f32 q)) (fun e => h.rv (Option.some.inj e)), h.bel.setCell h.own _, h.vs, h.rs, h.rv, h.own, h.low, h.sr⟩
theorem DvS.three {w0 w : World} {L sb U rb vb x y z : Nat} (h : DvS w0 L sb U rb vb x y z w) : w.cell? ⟨vb, 0, none⟩ = some (.float .f32 x) ∧ w.cell? ⟨vb, 1, none⟩ = some (.float .f32 y) ∧ w.cell? ⟨vb, 2, none⟩ = some (.float .f32 z) ∧ w.frozen? ⟨vb, 1, none⟩ = false ∧ w.frozen? ⟨vb, 2, none⟩ = false ∧ vb < w.heap.size :=
  ⟨h.box.cell 0, h.box.cell 1, h.box.cell 2, h.box.free 1, h.box.free 2, h.box.lt⟩

/-- A vector of words. -/
def MakesW (w0 : World) (e : Ending) (w' : World) : Prop := ∃ a b c, e = .returned (vecV a b c) ∧ a < 4294967296 ∧ b < 4294967296 ∧ c < 4294967296 ∧ Below w0.heap.size w0 w'

set_option maxHeartbeats 4000000 in
theorem drawVector_any (w0 w : World) {L : Nat} (sb : Nat) (h : SrcOk w L sb 0) (hB : Below w0.heap.size w0 w) (hsb : w0.heap.size ≤ sb) :
    Calls Tryd.prog 45 #[.pointer (some ⟨sb, 0, none⟩)] w (MakesW w0) := by
  obtain ⟨W0, hW0⟩ : ∃ W, W = w.alloc (.cells #[.float .f32 0, .float .f32 0, .float .f32 0] 39) := ⟨_, rfl⟩
  have hb0 : Below w.heap.size w W0 := by rw [hW0]; exact (Below.refl _ _).alloc (Nat.le_refl _) _
  have hx0 : BoxN W0 w.heap.size #[.float .f32 0, .float .f32 0, .float .f32 0] 39 := by rw [hW0]; exact BoxN.last w _ _
  have hL : L ≤ w.heap.size := by
    have h9 := h.lt
    obtain ⟨_, _, _, _, _, _, _, _, hLs, _, _⟩ := h
    omega
  have hlt := h.lt
  have hsz := hB.size
  obtain ⟨rb, hrb⟩ : ∃ rb, w.heap.size = rb := ⟨_, rfl⟩
  have hs0 : W0.heap.size = rb + 1 := by rw [hW0, ← hrb]; simp
  have KF := Lib.hid (And.intro (h.below hb0) (And.intro (hB.trans (hb0.mono hsz)) (hrb ▸ hx0)))
  rw [hrb] at hL hlt hsz
  have HW0 := Lib.hid hW0
  have HRB := Lib.hid hrb
  clear h hB hb0 hx0 hW0 hrb
  go_enter Tryd.func45, Tryd.ntmps45
  go_wp2_with fail
  rw [← HW0.out, HRB.out]
  refine (one_any _ _ _ 10 (by omega) (by omega) KF.out.1 (by omega)).mono ?_
  rintro e w1 ⟨b, rfl, hd1⟩
  have K1 := Lib.hid (And.intro hd1.ok (And.intro (hd1.away KF.out.2.1 hsb) (KF.out.2.2.grown hd1.grown (show some rb ≠ some sb by simp; omega))))
  have hg1 := hd1.grown.size
  clear hd1 KF HW0
  go_wp2_with fail
  refine (small_word _ _ _ K1.out.1 (by omega)).mono ?_
  rintro e w2 ⟨x, rfl, hx, hd2⟩
  have hg2 := hd2.grown.size
  obtain ⟨vb, hvb⟩ : ∃ vb, w2.heap.size = vb := ⟨_, rfl⟩
  obtain ⟨V2, hV2⟩ : ∃ W, W = w2.alloc (.cells #[.float .f32 x, .float .f32 0, .float .f32 0] 39) := ⟨_, rfl⟩
  have hbv : Below w2.heap.size w2 V2 := by rw [hV2]; exact (Below.refl _ _).alloc (Nat.le_refl _) _
  have hxv : BoxN V2 vb #[.float .f32 x, .float .f32 0, .float .f32 0] 39 := by rw [hV2, ← hvb]; exact BoxN.last w2 _ _
  have hD2 := hd2.below hbv
  have S2 := Lib.hid (show DvS w0 L sb (0 + 2 + 2) rb vb x 0 0 V2 from ⟨hD2.ok, hxv, K1.out.2.2.grown hD2.grown (show some rb ≠ some sb by simp; omega), hD2.away K1.out.2.1 hsb, by omega, by omega, by omega, by omega, by omega, hsb⟩)
  have HV2 := Lib.hid hV2
  have HVB := Lib.hid hvb
  clear hV2 hbv hxv hD2 hd2 K1 hvb hg1 hg2
  go_upto_region 3 with fail
  rw [← HV2.out, HVB.out]
  go_wp2_with fail
  refine (small_word _ _ _ S2.out.src (by omega)).mono ?_
  rintro e w3 ⟨y, rfl, hy, hd3⟩
  have S3 := Lib.hid (S2.out.drew hd3)
  have S3' := Lib.hid (S3.out.set1 y)
  obtain ⟨c0, c1, c2, f1, f2, l3⟩ := S3.out.three
  clear S2 HV2 hd3
  go_upto_region 4 with fail
  obtain ⟨V3, hV3⟩ : ∃ W, W = w3.setCell ⟨vb, 1, none⟩ (.float .f32 y) := ⟨_, rfl⟩
  rw [← hV3] at S3' ⊢
  clear hV3 c0 c1 c2 f1 f2 l3 S3
  go_wp2_with fail
  refine (small_word _ _ _ S3'.out.src (by omega)).mono ?_
  rintro e w4 ⟨z, rfl, hz, hd4⟩
  have S4 := Lib.hid (S3'.out.drew hd4)
  have S4' := Lib.hid (S4.out.set2 z)
  obtain ⟨c0, c1, c2, f1, f2, l4⟩ := S4.out.three
  clear S3' hd4
  go_upto_region 5 with fail
  obtain ⟨V4, hV4⟩ : ∃ W, W = w4.setCell ⟨vb, 2, none⟩ (.float .f32 z) := ⟨_, rfl⟩
  rw [← hV4] at S4' ⊢
  clear hV4 c0 c1 c2 f1 f2 l4 S4
  have fin : ∀ (V : World) (U p : Nat), DvS w0 L sb U rb vb x p z V → p < 4294967296 → ∀ s : Array Value, True := fun _ _ _ _ _ _ => trivial
  clear fin
  cases b
  case false =>
    obtain ⟨v0, v1, v2, g1, g2, l5⟩ := S4'.out.three
    have hR := S4'.out.res
    obtain ⟨d0, d1, d2⟩ := three_cells hR (Below.refl _ _)
    have e0 := hR.free 0
    have e1 := hR.free 1
    have e2 := hR.free 2
    have z2 := hR.lt
    clear hR
    go_wp2_with fail
    refine bodyPost_ret (v := .agg #[.float .f32 x, .float .f32 y, .float .f32 z]) (by simp [results, Tryd.results45, go_sem, d0, d1, d2, z2]) rfl ?_
    exact ⟨x, y, z, rfl, hx, hy, hz, below_set3v S4'.out.bel hsz _ _ _⟩
  case true =>
    go_wp2_with fail
    refine (drawFloat_any _ _ _ S4'.out.src (by omega)).mono ?_
    rintro e w5 ⟨p, rfl, hp, hd5⟩
    have S5 := Lib.hid (S4'.out.drew hd5)
    have S5' := Lib.hid (S5.out.set1 p)
    obtain ⟨c0, c1, c2, f1, f2, l5⟩ := S5.out.three
    clear S4' hd5
    go_upto_region 7 with fail
    obtain ⟨V5, hV5⟩ : ∃ W, W = w5.setCell ⟨vb, 1, none⟩ (.float .f32 p) := ⟨_, rfl⟩
    rw [← hV5] at S5' ⊢
    clear hV5 c0 c1 c2 f1 f2 l5 S5
    obtain ⟨v0, v1, v2, g1, g2, l6⟩ := S5'.out.three
    have hR := S5'.out.res
    obtain ⟨d0, d1, d2⟩ := three_cells hR (Below.refl _ _)
    have e0 := hR.free 0
    have e1 := hR.free 1
    have e2 := hR.free 2
    have z2 := hR.lt
    clear hR
    go_wp2_with fail
    refine bodyPost_ret (v := .agg #[.float .f32 x, .float .f32 p, .float .f32 z]) (by simp [results, Tryd.results45, go_sem, d0, d1, d2, z2]) rfl ?_
    exact ⟨x, p, z, rfl, hx, hp, hz, below_set3v S5'.out.bel hsz _ _ _⟩

set_option maxHeartbeats 4000000 in
theorem b10Any_any (w : World) (a : Option Addr) (len cap : Nat) (h : BytesIn w a len) :
    Calls Tryd.prog 26 #[.slice a len cap] w (MakesW w) := by
  obtain ⟨W0, hW0⟩ : ∃ W, W = w.alloc (.cells #[.float .f32 0, .float .f32 0, .float .f32 0] 39) := ⟨_, rfl⟩
  have hb0 : Below w.heap.size w W0 := by rw [hW0]; exact (Below.refl _ _).alloc (Nat.le_refl _) _
  have hx0 : BoxN W0 w.heap.size #[.float .f32 0, .float .f32 0, .float .f32 0] 39 := by rw [hW0]; exact BoxN.last w _ _
  have H0 := Lib.hid (And.intro hb0 hx0)
  have KF := Lib.hid (from_any W0 a len cap (h.below hb0).at (Nat.le_refl _))
  have HW0 := Lib.hid hW0
  clear h hb0 hx0 hW0
  go_enter Tryd.func26, Tryd.ntmps26
  go_wp2_with fail
  rw [← HW0.out]
  refine KF.out.mono ?_
  rintro e w1 ⟨rfl, hs, hb1, hlt⟩
  have KD := Lib.hid (drawVector_any W0 w1 _ hs hb1 (Nat.le_refl _))
  clear hs hb1 hlt KF HW0
  go_wp2_with fail
  refine KD.out.mono ?_
  rintro e w2 ⟨p, q, r, rfl, hp, hq, hr, hb2⟩
  have hR := H0.out.2.below hb2
  obtain ⟨d0, d1, d2⟩ := three_cells hR (Below.refl _ _)
  have e0 := hR.free 0
  have e1 := hR.free 1
  have e2 := hR.free 2
  have z2 := hR.lt
  have HB2 := Lib.hid (H0.out.1.trans (hb2.mono H0.out.1.size))
  clear hR hb2 KD
  unfold vecV vecC
  go_wp2_with fail
  refine bodyPost_ret (v := .agg #[.float .f32 p, .float .f32 q, .float .f32 r]) (by simp [results, Tryd.results26, go_sem, d0, d1, d2, z2]) rfl ?_
  exact ⟨p, q, r, rfl, hp, hq, hr, below_set3v HB2.out (Nat.le_refl _) _ _ _⟩

end Go.Proofs.YtjibghjongplpaaDoor

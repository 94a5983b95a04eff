/- A camera that a law draws: spec.R8Camera. -/
import Derived.Test.YtkhoifgljalfcaaQb
import Derived.Test.YtkhoifgljalfcaaSrc
import Derived.Test.YtkhoifgljalfcaaQf
namespace Go.Proofs.Ytkhoifgljalfcaa
open Go.RowKit Ieee
set_option maxRecDepth 100000
set_option linter.unusedVariables false
set_option linter.unusedSimpArgs false

theorem quo2_tab : ∀ i : Fin 17, floatBits .quo .f32 (fq 0 (i.val : Int)) 1073741824 = some (fq 1 (i.val : Int)) := by decide +kernel
theorem quo4_tab : ∀ i : Fin 17, floatBits .quo .f32 (fq 0 (i.val : Int)) 1082130432 = some (fq 2 (i.val : Int)) := by decide +kernel
/-- A whole number, divided by two or by four. -/
theorem half_of {z : Int} (h0 : 0 ≤ z) (h1 : z ≤ 16) : ∃ a b, floatOfInt .f32 z = a ∧ fq 1 z = b ∧ floatBits .quo .f32 a 1073741824 = some b := by
  have := quo2_tab ⟨z.toNat, by omega⟩
  have e : ((z.toNat : Nat) : Int) = z := by omega
  simp only [e] at this
  exact ⟨_, _, fq_ofInt (by omega), rfl, this⟩
theorem quart_of {z : Int} (h0 : 0 ≤ z) (h1 : z ≤ 16) : ∃ a b, floatOfInt .f32 z = a ∧ fq 2 z = b ∧ floatBits .quo .f32 a 1082130432 = some b := by
  have := quo4_tab ⟨z.toNat, by omega⟩
  have e : ((z.toNat : Nat) : Int) = z := by omega
  simp only [e] at this
  exact ⟨_, _, fq_ofInt (by omega), rfl, this⟩

/-- A camera that is being drawn. -/
structure DcS (w0 : World) (L sb U rb vb x y z u : Nat) (w : World) : Prop where
  src : SrcOk w L sb U
  box : BoxN w vb #[.float .f32 x, .float .f32 y, .float .f32 z, .float .f32 u] 37
  res : BoxN w rb #[.float .f32 0, .float .f32 0, .float .f32 0, .float .f32 0] 37
  bel : Below w0.heap.size w0 w
  vs : vb ≠ sb
  rs : rb ≠ sb
  rv : rb ≠ vb
  own : w0.heap.size ≤ vb
  low : L ≤ vb
  sr : w0.heap.size ≤ sb
theorem DcS.drew {w0 w w' : World} {L sb U V rb vb x y z u : Nat} (h : DcS w0 L sb U rb vb x y z u w) (hd : Drew L sb V w w') : DcS w0 L sb V rb vb x y z u w' :=
  ⟨hd.ok, h.box.grown hd.grown (fun e => h.vs (Option.some.inj e)), h.res.grown hd.grown (fun e => h.rs (Option.some.inj e)), hd.away h.bel h.sr, h.vs, h.rs, h.rv, h.own, h.low, h.sr⟩
theorem DcS.set {w0 w : World} {L sb U rb vb x y z u : Nat} (h : DcS w0 L sb U rb vb x y z u w) (i q : Nat) {x' y' z' u' : Nat} (he : (#[.float .f32 x, .float .f32 y, .float .f32 z, .float .f32 u] : Array Value).setIfInBounds i (.float .f32 q) = #[.float .f32 x', .float .f32 y', .float .f32 z', .float .f32 u']) : DcS w0 L sb U rb vb x' y' z' u' (w.setCell ⟨vb, i, none⟩ (.float .f32 q)) :=
  ⟨h.src.grown (grown_setCell w ⟨vb, i, none⟩ (.float .f32 q)) (fun e => h.vs (Option.some.inj e).symm) (fun k hk => by cases hk; exact h.low), he ▸ h.box.set i (.float .f32 q), h.res.grown (grown_setCell w ⟨vb, i, none⟩ (.float .f32 q)) (fun e => h.rv (Option.some.inj e)), h.bel.setCell h.own _, h.vs, h.rs, h.rv, h.own, h.low, h.sr⟩
theorem DcS.four {w0 w : World} {L sb U rb vb x y z u : Nat} (h : DcS w0 L sb U rb vb x y z u w) : w.cell? ⟨vb, 0, none⟩ = some (.float .f32 x) ∧ w.cell? ⟨vb, 1, none⟩ = some (.float .f32 y) ∧ w.cell? ⟨vb, 2, none⟩ = some (.float .f32 z) ∧ w.cell? ⟨vb, 3, none⟩ = some (.float .f32 u) ∧ w.frozen? ⟨vb, 1, none⟩ = false ∧ w.frozen? ⟨vb, 2, none⟩ = false ∧ w.frozen? ⟨vb, 3, none⟩ = false ∧ vb < w.heap.size :=
  ⟨h.box.cell 0, h.box.cell 1, h.box.cell 2, h.box.cell 3, h.box.free 1, h.box.free 2, h.box.free 3, h.box.lt⟩

/-- A camera of halves and quarters. -/
def MakesCam (w0 : World) (e : Ending) (w' : World) : Prop := ∃ f b m n : Int, e = .returned (.agg (camC (fq 1 f) (fq 2 b) (fq 1 m) (fq 1 n))) ∧ 1 ≤ f ∧ f ≤ 16 ∧ 1 ≤ b ∧ b ≤ 8 ∧ 0 ≤ m ∧ m ≤ 8 ∧ 0 ≤ n ∧ n ≤ 8 ∧ Below w0.heap.size w0 w'

set_option maxHeartbeats 4000000 in
theorem drawCam_any (w0 w : World) {L : Nat} (sb : Nat) (h : SrcOk w L sb 0) (hB : Below w0.heap.size w0 w) (hsb : w0.heap.size ≤ sb) :
    Calls Try.prog 62 #[.pointer (some ⟨sb, 0, none⟩)] w (MakesCam w0) := by
  obtain ⟨W0, hW0⟩ : ∃ W, W = w.alloc (.cells #[.float .f32 0, .float .f32 0, .float .f32 0, .float .f32 0] 37) := ⟨_, rfl⟩
  have hb0 : Below w.heap.size w W0 := by rw [hW0]; exact (Below.refl _ _).alloc (Nat.le_refl _) _
  have hx0 : BoxN W0 w.heap.size #[.float .f32 0, .float .f32 0, .float .f32 0, .float .f32 0] 37 := by rw [hW0]; exact BoxN.last w _ _
  have hL : L ≤ w.heap.size := by
    have h9 := h.lt
    obtain ⟨_, _, _, _, _, _, _, _, hLs, _, _⟩ := h
    omega
  have hlt := h.lt
  have hsz := hB.size
  obtain ⟨rb, hrb⟩ : ∃ rb, w.heap.size = rb := ⟨_, rfl⟩
  have hs0 : W0.heap.size = rb + 1 := by rw [hW0, ← hrb]; simp
  have KF := Lib.hid (And.intro (h.below hb0) (And.intro (hB.trans (hb0.mono hsz)) (hrb ▸ hx0)))
  rw [hrb] at hL hlt hsz
  have HW0 := Lib.hid hW0
  have HRB := Lib.hid hrb
  have hd0 : ∀ W : World, W.drewN 0 = W := fun _ => rfl
  clear h hB hb0 hx0 hW0 hrb
  go_enter Try.func62, Try.ntmps62
  go_wp2_with fail
  rw [← HW0.out, HRB.out]
  refine (pick_any _ _ _ 16 (by omega) (by omega) KF.out.1 (by omega)).mono ?_
  rintro e w1 ⟨f0, rfl, hf0, hf1, hd1⟩
  obtain ⟨fa, fb, hfa, hfb, qf⟩ := half_of (z := 1 + f0) (by omega) (by omega)
  obtain ⟨gf1, gf2⟩ := f32op .quo qf
  have HF := Lib.hid (And.intro hfb (And.intro hf0 hf1))
  have hg1 := hd1.grown.size
  have hf1' : f0 ≤ 15 := by omega
  obtain ⟨vb, hvb⟩ : ∃ vb, w1.heap.size = vb := ⟨_, rfl⟩
  obtain ⟨V2, hV2⟩ : ∃ W, W = w1.alloc (.cells #[.float .f32 fb, .float .f32 0, .float .f32 0, .float .f32 0] 37) := ⟨_, rfl⟩
  have hbv : Below w1.heap.size w1 V2 := by rw [hV2]; exact (Below.refl _ _).alloc (Nat.le_refl _) _
  have hxv : BoxN V2 vb #[.float .f32 fb, .float .f32 0, .float .f32 0, .float .f32 0] 37 := by rw [hV2, ← hvb]; exact BoxN.last w1 _ _
  have hD2 := hd1.below hbv
  have S2 := Lib.hid (show DcS w0 L sb (0 + 2) rb vb fb 0 0 0 V2 from ⟨hD2.ok, hxv, KF.out.2.2.grown hD2.grown (show some rb ≠ some sb by simp; omega), hD2.away KF.out.2.1 hsb, by omega, by omega, by omega, by omega, by omega, hsb⟩)
  have HV2 := Lib.hid hV2
  have HVB := Lib.hid hvb
  clear hV2 hbv hxv hD2 hd1 KF hvb hg1 hfb qf hf1
  go_upto_region 2 with fail
  rw [← HV2.out, HVB.out]
  clear hfa gf1 gf2
  go_wp2_with fail
  refine (pick_any _ _ _ 8 (by omega) (by omega) S2.out.src (by omega)).mono ?_
  rintro e w3 ⟨b0, rfl, hb0, hb1, hd3⟩
  obtain ⟨ba, bb, hba, hbb, qb⟩ := quart_of (z := 1 + b0) (by omega) (by omega)
  obtain ⟨gb1, gb2⟩ := f32op .quo qb
  have HB := Lib.hid (And.intro hbb (And.intro hb0 hb1))
  have hb1' : b0 ≤ 7 := by omega
  have S3 := Lib.hid (S2.out.drew hd3)
  have S3' := Lib.hid (S3.out.set 1 bb (x' := fb) (y' := bb) (z' := 0) (u' := 0) (by simp))
  obtain ⟨c0, c1, c2, c3, f1, f2, f3, l3⟩ := S3.out.four
  clear S2 HV2 hd3 hbb qb hb1
  go_upto_region 3 with fail
  obtain ⟨V3, hV3⟩ : ∃ W, W = w3.setCell ⟨vb, 1, none⟩ (.float .f32 bb) := ⟨_, rfl⟩
  rw [← hV3] at S3' ⊢
  clear hV3 c0 c1 c2 c3 f1 f2 f3 l3 S3 hba gb1 gb2
  go_wp2_with fail
  refine (pick_any _ _ _ 9 (by omega) (by omega) S3'.out.src (by omega)).mono ?_
  rintro e w4 ⟨m0, rfl, hm0, hm1, hd4⟩
  obtain ⟨ma, mb, hma, hmb, qm⟩ := half_of (z := m0) (by omega) (by omega)
  obtain ⟨gm1, gm2⟩ := f32op .quo qm
  have HM := Lib.hid (And.intro hmb (And.intro hm0 hm1))
  have hm1' : m0 ≤ 8 := by omega
  have S4 := Lib.hid (S3'.out.drew hd4)
  have S4' := Lib.hid (S4.out.set 2 mb (x' := fb) (y' := bb) (z' := mb) (u' := 0) (by simp))
  obtain ⟨c0, c1, c2, c3, f1, f2, f3, l3⟩ := S4.out.four
  clear S3' hd4 hmb qm hm1
  go_upto_region 4 with fail
  obtain ⟨V4, hV4⟩ : ∃ W, W = w4.setCell ⟨vb, 2, none⟩ (.float .f32 mb) := ⟨_, rfl⟩
  rw [← hV4] at S4' ⊢
  clear hV4 c0 c1 c2 c3 f1 f2 f3 l3 S4 hma gm1 gm2
  go_wp2_with fail
  refine (pick_any _ _ _ 9 (by omega) (by omega) S4'.out.src (by omega)).mono ?_
  rintro e w5 ⟨n0, rfl, hn0, hn1, hd5⟩
  obtain ⟨na, nb, hna, hnb, qn⟩ := half_of (z := n0) (by omega) (by omega)
  obtain ⟨gn1, gn2⟩ := f32op .quo qn
  have HN := Lib.hid (And.intro hnb (And.intro hn0 hn1))
  have hn1' : n0 ≤ 8 := by omega
  have S5 := Lib.hid (S4'.out.drew hd5)
  have S5' := Lib.hid (S5.out.set 3 nb (x' := fb) (y' := bb) (z' := mb) (u' := nb) (by simp))
  obtain ⟨c0, c1, c2, c3, f1, f2, f3, l3⟩ := S5.out.four
  clear S4' hd5 hnb qn hn1
  go_upto_region 5 with fail
  obtain ⟨V5, hV5⟩ : ∃ W, W = w5.setCell ⟨vb, 3, none⟩ (.float .f32 nb) := ⟨_, rfl⟩
  rw [← hV5] at S5' ⊢
  clear hV5 c0 c1 c2 c3 f1 f2 f3 l3 S5 hna gn1 gn2
  obtain ⟨v0, v1, v2, v3, g1, g2, g3, l5⟩ := S5'.out.four
  have hR := S5'.out.res
  have d0 : V5.cell? ⟨rb, 0, none⟩ = some (.float .f32 0) := hR.cell 0
  have d1 : V5.cell? ⟨rb, 1, none⟩ = some (.float .f32 0) := hR.cell 1
  have d2 : V5.cell? ⟨rb, 2, none⟩ = some (.float .f32 0) := hR.cell 2
  have d3 : V5.cell? ⟨rb, 3, none⟩ = some (.float .f32 0) := hR.cell 3
  have e0 := hR.free 0
  have e1 := hR.free 1
  have e2 := hR.free 2
  have e3 := hR.free 3
  have z2 := hR.lt
  clear hR
  go_wp2_with fail
  refine bodyPost_ret (v := .agg #[.float .f32 fb, .float .f32 bb, .float .f32 mb, .float .f32 nb]) (by simp [results, Try.results62, go_sem, d0, d1, d2, d3, z2]) rfl ?_
  refine ⟨1 + f0, 1 + b0, m0, n0, by rw [HF.out.1, HB.out.1, HM.out.1, HN.out.1]; rfl, by omega, by omega, by omega, by omega, by omega, by omega, by omega, by omega, ?_⟩
  exact (((S5'.out.bel.setCell (show w0.heap.size ≤ (⟨rb, 0, none⟩ : Addr).block from hsz) _).setCell (show w0.heap.size ≤ (⟨rb, 1, none⟩ : Addr).block from hsz) _).setCell (show w0.heap.size ≤ (⟨rb, 2, none⟩ : Addr).block from hsz) _).setCell (show w0.heap.size ≤ (⟨rb, 3, none⟩ : Addr).block from hsz) _

set_option maxHeartbeats 4000000 in
theorem r8Camera_any (w : World) (a : Option Addr) (len cap : Nat) (h : BytesIn w a len) :
    Calls Try.prog 18 #[.slice a len cap] w (MakesCam w) := by
  obtain ⟨W0, hW0⟩ : ∃ W, W = w.alloc (.cells #[.float .f32 0, .float .f32 0, .float .f32 0, .float .f32 0] 37) := ⟨_, rfl⟩
  have hb0 : Below w.heap.size w W0 := by rw [hW0]; exact (Below.refl _ _).alloc (Nat.le_refl _) _
  have hx0 : BoxN W0 w.heap.size #[.float .f32 0, .float .f32 0, .float .f32 0, .float .f32 0] 37 := by rw [hW0]; exact BoxN.last w _ _
  have H0 := Lib.hid (And.intro hb0 hx0)
  have KF := Lib.hid (from_any W0 a len cap (h.below hb0).at (Nat.le_refl _))
  have HW0 := Lib.hid hW0
  clear h hb0 hx0 hW0
  go_enter Try.func18, Try.ntmps18
  go_wp2_with fail
  rw [← HW0.out]
  refine KF.out.mono ?_
  rintro e w1 ⟨rfl, hs, hb1, hlt⟩
  have KD := Lib.hid (drawCam_any W0 w1 _ hs hb1 (Nat.le_refl _))
  clear hs hb1 hlt KF HW0
  go_wp2_with fail
  refine KD.out.mono ?_
  rintro e w2 ⟨f, b, m, n, rfl, hf0, hf1, hb0, hb1, hm0, hm1, hn0, hn1, hb2⟩
  have hR := H0.out.2.below hb2
  have d0 : w2.cell? ⟨w.heap.size, 0, none⟩ = some (.float .f32 0) := hR.cell 0
  have d1 : w2.cell? ⟨w.heap.size, 1, none⟩ = some (.float .f32 0) := hR.cell 1
  have d2 : w2.cell? ⟨w.heap.size, 2, none⟩ = some (.float .f32 0) := hR.cell 2
  have d3 : w2.cell? ⟨w.heap.size, 3, none⟩ = some (.float .f32 0) := hR.cell 3
  have e0 := hR.free 0
  have e1 := hR.free 1
  have e2 := hR.free 2
  have e3 := hR.free 3
  have z2 := hR.lt
  have HB2 := Lib.hid (H0.out.1.trans (hb2.mono H0.out.1.size))
  have HB := Lib.hid (And.intro (And.intro hf0 hf1) (And.intro (And.intro hb0 hb1) (And.intro (And.intro hm0 hm1) (And.intro hn0 hn1))))
  obtain ⟨F, hF⟩ : ∃ x, fq 1 f = x := ⟨_, rfl⟩
  obtain ⟨B, hB⟩ : ∃ x, fq 2 b = x := ⟨_, rfl⟩
  obtain ⟨mx, hmx⟩ : ∃ x, fq 1 m = x := ⟨_, rfl⟩
  obtain ⟨my, hmy⟩ : ∃ x, fq 1 n = x := ⟨_, rfl⟩
  rw [hF, hB, hmx, hmy]
  have HH := Lib.hid (And.intro hF (And.intro hB (And.intro hmx hmy)))
  clear hR hb2 KD hf0 hf1 hb0 hb1 hm0 hm1 hn0 hn1 hF hB hmx hmy
  unfold camC
  go_wp2_with fail
  refine bodyPost_ret (v := .agg #[.float .f32 F, .float .f32 B, .float .f32 mx, .float .f32 my]) (by simp [results, Try.results18, go_sem, d0, d1, d2, d3, z2]) rfl ?_
  obtain ⟨q1, q2, q3, q4⟩ := HB.out
  refine ⟨f, b, m, n, by rw [HH.out.1, HH.out.2.1, HH.out.2.2.1, HH.out.2.2.2]; rfl, q1.1, q1.2, q2.1, q2.2, q3.1, q3.2, q4.1, q4.2, ?_⟩
  exact (((HB2.out.setCell (show w.heap.size ≤ (⟨w.heap.size, 0, none⟩ : Addr).block from Nat.le_refl _) _).setCell (show w.heap.size ≤ (⟨w.heap.size, 1, none⟩ : Addr).block from Nat.le_refl _) _).setCell (show w.heap.size ≤ (⟨w.heap.size, 2, none⟩ : Addr).block from Nat.le_refl _) _).setCell (show w.heap.size ≤ (⟨w.heap.size, 3, none⟩ : Addr).block from Nat.le_refl _) _

end Go.Proofs.Ytkhoifgljalfcaa

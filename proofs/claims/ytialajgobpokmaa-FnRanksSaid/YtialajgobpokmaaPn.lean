/- impl.BackPicture: a picture told back by a map of one whole number. -/
import Derived.Test.YtialajgobpokmaaPl
namespace Go.Proofs.Ytialajgobpokmaa
open Go.RowKit
set_option maxRecDepth 100000
set_option linter.unusedVariables false
set_option linter.unusedSimpArgs false

theorem PicAt.drew2p {W : World} {pb wd hi : Nat} {v : Value} {bs : List Nat} {T : TypeId} (h : PicAt W pb wd hi v bs T) (n : Nat) : PicAt (W.drewN n) pb wd hi v bs T := ⟨h.box, ⟨h.sl.1.drewN n, h.sl.2⟩, h.len⟩
theorem PicAt.grown {W W' : World} {pb wd hi cb q n c : Nat} {bs : List Nat} {T : TypeId} (h : PicAt W pb wd hi (.slice (some ⟨q, 0, none⟩) n c) bs T) (hg : W.grownBy W' (some cb)) (h1 : pb ≠ cb) (h2 : q ≠ cb) : PicAt W' pb wd hi (.slice (some ⟨q, 0, none⟩) n c) bs T :=
  ⟨h.box.grown hg (by simpa using h1), ⟨h.sl.1.grown hg (.inr (by simpa [Value.ownBlock] using h2)), h.sl.2⟩, h.len⟩

theorem isHoleP_any (b : Nat) (w : World) : Calls Try.prog 62 #[.float .f32 b] w fun e w' => e = .returned (.bool (!le32 0 b)) ∧ w = w' := by
  go_enter Try.func62, Try.ntmps62
  go_wp2
  go_ret
  exact ⟨rfl, rfl⟩

theorem PW.set {W : World} {q c N ob i : Nat} {bs : List Nat} (h : PW W q c N bs) (hne : ob ≠ q) (v : Value) : PW (W.setCell ⟨ob, i, none⟩ v) q c N bs :=
  ⟨⟨h.sl.1.grown (grown_setCell _ _ _) (.inr (by simpa [Value.ownBlock] using (Ne.symm hne))), h.sl.2⟩, by simpa using h.lt, h.len⟩

/-- What is told back. -/
def backF (ks : List Int) (wd hi d : Nat) (x y : Nat) : Int := ks.getD (ix ((x : Int) - d) (y : Int) wd hi) 0

set_option maxHeartbeats 1000000 in
theorem back_gives {W0 : World} {mb rb cb wd hi d qm qr cm cr N : Nat} {bm : List Nat} {ks : List Int} (hm : PicAt W0 mb wd hi (.slice (some ⟨qm, 0, none⟩) N cm) bm 51) (hr : PicAt W0 rb wd hi (.slice (some ⟨qr, 0, none⟩) N cr) (ks.map (fq 2)) 26)
    (hbm : ∀ i, i < wd * hi → bm.getD i 0 = fq 0 d) (hd : d ≤ 8) (hw : 0 < wd) (hh : 0 < hi) (hw2 : wd ≤ 24) (hh2 : hi ≤ 24) (hk : ∀ k ∈ ks, 0 ≤ k ∧ k ≤ 16) (n1 : mb ≠ cb) (n2 : rb ≠ cb) (n3 : qm ≠ cb) (n4 : qr ≠ cb) :
    GivesC W0 (.func (.func 61) #[] #[.pointer (some ⟨mb, 0, none⟩), .pointer (some ⟨rb, 0, none⟩), .pointer (some ⟨cb, 0, none⟩)]) wd hi cb 4 (fun x y => fq 2 (backF ks wd hi d x y)) (fun _ => .bool true) := by
  refine ⟨61, _, rfl, Try.call61, fun x y W hx hy hg hc => ?_⟩
  have hmW := hm.grown hg n1 n3
  have hrW := hr.grown hg n2 n4
  have KM := Lib.hid (fun n => mat_any (W.drewN n) mb wd hi _ bm x y x y rfl rfl hx hy (by omega) (by omega) (hmW.drew2p n))
  have e1 := hbm (x + wd * y) (by
    calc x + wd * y < wd + wd * y := by omega
      _ = wd * (y + 1) := by rw [Nat.mul_add, Nat.mul_one, Nat.add_comm]
      _ ≤ wd * hi := Nat.mul_le_mul_left _ hy)
  rw [e1] at KM
  have hle : le32 0 (fq 0 (d : Int)) = true := by
    have := le32_fq (g := 0) (a := 0) (b := (d : Int)) (by decide) (by omega)
    rw [fq_zero] at this; rw [this]; simp
  have ox := fq_ofInt (n := (x : Int)) (by omega)
  have oy := fq_ofInt (n := (y : Int)) (by omega)
  have sb := fq_sub (g := 0) (a := (x : Int)) (b := (d : Int)) (by omega) (by omega) (by omega)
  have KS := Lib.hid (fun n => sample_q (W.drewN n) rb wd hi _ ks ((x : Int) - d) y (by omega) (by omega) hw hh hw2 hh2 hk (hrW.drew2p n))
  have hgb := ks_bd hk (ix ((x : Int) - d) (y : Int) wd hi)
  have KM0 := Lib.hid (KM.out 0)
  have HC := Lib.hid hc
  have hkeep : backF ks wd hi d x y = ks.getD (ix ((x : Int) - d) (y : Int) wd hi) 0 := rfl
  have HKEEP := Lib.hid hkeep
  obtain ⟨vx, hvx⟩ : ∃ v, v = fq 0 (x : Int) := ⟨_, rfl⟩
  obtain ⟨vy, hvy⟩ : ∃ v, v = fq 0 (y : Int) := ⟨_, rfl⟩
  obtain ⟨vd, hvd⟩ : ∃ v, v = fq 0 (d : Int) := ⟨_, rfl⟩
  obtain ⟨vs, hvs⟩ : ∃ v, v = fq 0 ((x : Int) - d) := ⟨_, rfl⟩
  obtain ⟨vr, hvr⟩ : ∃ v, v = fq 2 (ks.getD (ix ((x : Int) - d) (y : Int) wd hi) 0) := ⟨_, rfl⟩
  have HVR := Lib.hid hvr
  rw [← hvx] at ox sb
  rw [← hvd] at hle sb KM KM0
  rw [← hvs] at sb KS
  rw [← hvy] at oy KS
  rw [← hvr] at KS
  have a1 := fres_some sb
  have a2 := fdr_some sb
  have hd0 : ∀ W : World, W.drewN 0 = W := fun _ => rfl
  clear hmW hrW e1 sb hvx hvy hvd hvs hvr hc hm hr hbm hkeep
  show Calls _ _ #[.int .i64 x, .int .i64 y, .pointer (some ⟨mb, 0, none⟩), .pointer (some ⟨rb, 0, none⟩), .pointer (some ⟨cb, 0, none⟩)] _ _
  go_enter Try.func61, Try.ntmps61
  go_wp2_with fail
  refine KM0.out.mono ?_
  rintro e w' ⟨rfl, m1, rfl⟩
  go_wp2_with fail
  refine (isHoleP_any _ _).mono ?_
  rw [hle]
  rintro e w' ⟨rfl, rfl⟩
  go_wp2_with fail
  refine (KM.out _).mono ?_
  rintro e w' ⟨rfl, m2, rfl⟩
  go_wp2_with fail
  refine (KS.out _).mono ?_
  rintro e w5 ⟨rfl, hb⟩
  have hb5 : Below W.heap.size W w5 := ⟨hb.os, hb.tape, hb.output, hb.size, hb.block⟩
  have hc5 := HC.out.below hb5
  have z0 : w5.cell? ⟨cb, 0, none⟩ = some (.bool true) := hc5.cell 0
  have f0 := hc5.free 0
  have HB5 := Lib.hid hb5
  have HC5 := Lib.hid hc5
  clear hb hb5 hc5
  go_wp2
  go_ret
  refine ⟨vr, rfl, ?_, ?_, ?_, ?_⟩
  · rw [HVR.out]; exact fq_lt (by omega)
  · show fl vr = fq 2 (backF ks wd hi d x y)
    rw [HVR.out, HKEEP.out]; exact fl_fq (by omega)
  · exact grown_trans (grown_below HB5.out _) (grown_setCell _ _ _)
  · have := HC5.out.set 0 (.bool true)
    simpa using this

set_option maxHeartbeats 1000000 in
theorem back_ok (w : World) (wd hi N d qm qr cm cr : Nat) (bm : List Nat) (ks : List Int) (hv : vPic wd hi N = true) (hm : PW w qm cm N bm) (hr : PW w qr cr N (ks.map (fq 2))) (hbm : ∀ i, i < N → bm.getD i 0 = fq 0 d) (hd : d ≤ 8) (hk : ∀ k ∈ ks, 0 ≤ k ∧ k ≤ 16) :
    Calls Try.prog 26 #[.agg #[.int .i64 wd, .int .i64 hi, .slice (some ⟨qm, 0, none⟩) N cm], .agg #[.int .i64 wd, .int .i64 hi, .slice (some ⟨qr, 0, none⟩) N cr]] w (MakesPW w wd hi N fun x y => fq 2 (backF ks wd hi d x y)) := by
  obtain ⟨e1, e2, d1, d2, d3, d4, e7⟩ := vN hv
  have hb0 := (below_two w (.cells #[.int .i64 wd, .int .i64 hi, .slice (some ⟨qm, 0, none⟩) N cm] 51) (.cells #[.int .i64 wd, .int .i64 hi, .slice (some ⟨qr, 0, none⟩) N cr] 26)).alloc (by simp; omega) (.cells #[.int .i64 0, .int .i64 0, .slice none 0 0] 26)
  have B1 := (box_first w (.int .i64 wd) (.int .i64 hi) (.slice (some ⟨qm, 0, none⟩) N cm) 51 (.cells #[.int .i64 wd, .int .i64 hi, .slice (some ⟨qr, 0, none⟩) N cr] 26)).below (alb1 _ (.cells #[.int .i64 0, .int .i64 0, .slice none 0 0] 26))
  have B2 := (box_second w (.int .i64 wd) (.int .i64 hi) (.slice (some ⟨qr, 0, none⟩) N cr) 26 (.cells #[.int .i64 wd, .int .i64 hi, .slice (some ⟨qm, 0, none⟩) N cm] 51)).below (alb1 _ (.cells #[.int .i64 0, .int .i64 0, .slice none 0 0] 26))
  have B3 := box_last ((w.alloc (.cells #[.int .i64 wd, .int .i64 hi, .slice (some ⟨qm, 0, none⟩) N cm] 51)).alloc (.cells #[.int .i64 wd, .int .i64 hi, .slice (some ⟨qr, 0, none⟩) N cr] 26)) (.int .i64 0) (.int .i64 0) (.slice none 0 0) 26
  rw [show ((w.alloc (.cells #[.int .i64 wd, .int .i64 hi, .slice (some ⟨qm, 0, none⟩) N cm] 51)).alloc (.cells #[.int .i64 wd, .int .i64 hi, .slice (some ⟨qr, 0, none⟩) N cr] 26)).heap.size = w.heap.size + 2 by simp] at B3
  have HE1 := Lib.hid e1
  have HM := Lib.hid (hm.below hb0)
  have HR := Lib.hid (hr.below hb0)
  have hq1 := hm.lt
  have hq2 := hr.lt
  have HB0 := Lib.hid hb0
  have HB1 := Lib.hid B1
  have HB2 := Lib.hid B2
  have HB3 := Lib.hid B3
  have HBM := Lib.hid hbm
  clear e1 hm hr hb0 B1 B2 B3 hbm
  go_enter Try.func26, Try.ntmps26
  go_wp2_with fail
  refine (validMap_any _ _ _ _ _ (by omega) _).mono ?_
  rw [hv]
  rintro e w1 ⟨rfl, hb1⟩
  obtain ⟨c0, c1, c2, -, -, -⟩ := (HB2.out.below hb1).cells
  have X1 := HB1.out.below hb1
  have X2 := HB2.out.below hb1
  have X3 := HB3.out.below hb1
  have Y1 := HM.out.below hb1
  have Y2 := HR.out.below hb1
  have hbb := HB0.out.trans (hb1.mono HB0.out.size)
  clear hb1 HB0 HB1 HB2 HB3 HM HR
  go_wp2_with fail
  refine (validPicture_any _ _ _ _ _ (by omega) _).mono ?_
  rw [hv]
  rintro e w2 ⟨rfl, hb2⟩
  have X1 := X1.below hb2
  have X2 := X2.below hb2
  have X3 := X3.below hb2
  have Y1 := Y1.below hb2
  have Y2 := Y2.below hb2
  have hbb := hbb.trans (hb2.mono hbb.size)
  clear hb2 c0 c1 c2
  obtain ⟨c0, c1, c2, -, -, -⟩ := X1.cells
  obtain ⟨g0, g1, g2, -, -, -⟩ := X2.cells
  have hl3 := X3.lt
  have ha := alb1 w2 (.cells #[.bool true] 4)
  have M1 : PicAt (w2.alloc (.cells #[.bool true] 4)) w.heap.size wd hi (.slice (some ⟨qm, 0, none⟩) N cm) bm 51 := ⟨X1.below ha, (Y1.below ha).sl, by rw [Y1.len]; exact HE1.out⟩
  have M2 : PicAt (w2.alloc (.cells #[.bool true] 4)) (w.heap.size + 1) wd hi (.slice (some ⟨qr, 0, none⟩) N cr) (ks.map (fq 2)) 26 := ⟨X2.below ha, (Y2.below ha).sl, by rw [Y2.len]; exact HE1.out⟩
  have hgv := back_gives (cb := w2.heap.size) (d := d) M1 M2 (fun i hi_ => HBM.out i (by rw [HE1.out]; exact hi_)) hd d1 d2 d3 d4 hk (by omega) (by omega) (by omega) (by omega)
  have K := Lib.hid (made_c _ wd hi w2.heap.size 4 _ _ _ d3 d4 hgv (BoxN.last w2 _ _))
  have HX3 := Lib.hid (X3.below ha)
  have HBB := Lib.hid hbb
  have HA := Lib.hid ha
  have hsw : w.heap.size + 3 ≤ w2.heap.size := by omega
  obtain ⟨k0, k1, k2, -, -, -⟩ := M1.box.cells
  clear X1 X2 X3 Y1 Y2 M1 M2 hgv ha hbb
  go_wp2_with fail
  refine K.out.mono ?_
  rintro e w3 ⟨a, cc, bs, rfl, hown, hcon, hgr, hcb⟩
  have hlen := tab_len hcon
  rw [← HE1.out] at hlen
  rw [hlen] at hown ⊢
  obtain ⟨q, rfl⟩ := own_ptr hown (by omega)
  have z0 : w3.cell? ⟨w2.heap.size, 0, none⟩ = some (.bool true) := hcb.cell 0
  have hs3 := hgr.size
  have hs2 : w2.heap.size < w3.heap.size := by have := hcb.lt; exact this
  have X3 := HX3.out.grown hgr (by simp; omega)
  obtain ⟨r0, r1, r2, s0, s1, s2⟩ := X3.cells
  have hbel3 : Below w.heap.size w w3 := (HBB.out.trans (HA.out.mono HBB.out.size)).grown hgr (by have := HBB.out.size; simp; omega) (fun k hk => by injection hk with e; omega)
  have hqB := hown.lt (k := q) rfl
  simp at hqB
  have Z0 : ∀ o, (w3.alloc o).cell? ⟨w2.heap.size, 0, none⟩ = some (.bool true) := fun o => (hcb.below (alb1 w3 o)).cell 0
  have R0 : w3.cell? ⟨w.heap.size + 1 + 1, 0, none⟩ = some (.int .i64 0) := r0
  have R1 : w3.cell? ⟨w.heap.size + 1 + 1, 1, none⟩ = some (.int .i64 0) := r1
  have R2 : w3.cell? ⟨w.heap.size + 1 + 1, 2, none⟩ = some (.slice none 0 0) := r2
  have S0 : w3.frozen? ⟨w.heap.size + 1 + 1, 0, none⟩ = false := s0
  have S1 : w3.frozen? ⟨w.heap.size + 1 + 1, 1, none⟩ = false := s1
  have S2 : w3.frozen? ⟨w.heap.size + 1 + 1, 2, none⟩ = false := s2
  have hl4 : w.heap.size + 1 + 1 < w3.heap.size := X3.lt
  have HCON := Lib.hid hcon
  have HOWN := Lib.hid hown
  have HB3 := Lib.hid hbel3
  have HLEN := Lib.hid hlen
  clear hcon hown hgr hcb K X3 hbel3 c0 c1 c2 g0 g1 g2 k0 k1 k2 z0 r0 r1 r2 s0 s1 s2 hlen
  go_wp2
  refine bodyPost_ret (v := .tuple #[.agg #[.int .i64 wd, .int .i64 hi, .slice (some ⟨q, 0, none⟩) N cc], .bool true]) (by simp [results, Try.results26, go_sem, R0, R1, R2, hl4]) rfl ?_
  have pw : PW w3 q cc N bs := ⟨HOWN.out.sl, by omega, HLEN.out⟩
  have hb4 := HB3.out
  have pw2 := ((pw.set (ob := w.heap.size + 1 + 1) (i := 0) (by omega) (.int .i64 wd)).set (ob := w.heap.size + 1 + 1) (i := 1) (by omega) (.int .i64 hi)).set (ob := w.heap.size + 1 + 1) (i := 2) (by omega) (.slice (some ⟨q, 0, none⟩) N cc)
  have hb5 : Below w.heap.size w (((w3.setCell ⟨w.heap.size + 1 + 1, 0, none⟩ (.int .i64 wd)).setCell ⟨w.heap.size + 1 + 1, 1, none⟩ (.int .i64 hi)).setCell ⟨w.heap.size + 1 + 1, 2, none⟩ (.slice (some ⟨q, 0, none⟩) N cc)) := ((hb4.setCell (by simp; omega) _).setCell (by simp; omega) _).setCell (by simp; omega) _
  exact ⟨q, cc, bs, rfl, pw2.below (alb1 _ _), HCON.out, hb5.trans ((alb1 _ _).mono hb5.size)⟩

end Go.Proofs.Ytialajgobpokmaa

/- WinnersNear of quarters, where the winners are those of the map. -/
import Derived.Test.YtdeikjiflinkhaaWp
namespace Go.Proofs.Ytdeikjiflinkhaa
open Go.RowKit
set_option maxRecDepth 100000
set_option linter.unusedVariables false
set_option linter.unusedSimpArgs false

/-- The winner among the disparities from low on, n of them, is D. -/
def NearTold (f : Nat → Nat) (low n D : Nat) : Prop := ∃ e : Nat, winW (fun i => f (low + i)) (-1) n = e ∧ low + e = D

set_option maxHeartbeats 2000000 in
theorem near1_gives {W0 : World} {mb rb pb wd hi dp M N q c q2 c2 r : Nat} {bs : List Nat} {ms : List Int} (D : Nat → Nat) (hm : PicAt W0 mb wd hi (.slice (some ⟨q2, 0, none⟩) N c2) (ms.map (fq 2)) 40) (hr : BoxN W0 rb #[.int .i64 r] 2) (hp : VolAt W0 pb wd hi dp q 0 M c bs) (hN : N = wd * hi) (hr8 : r = 0 ∨ r = 8)
    (hD : ∀ i, i < N → D i < dp ∧ ms.getD i 0 = 4 * (D i : Int)) (hE : ∀ x y, x < wd → y < hi → (r = 0 → NearTold (gc bs wd dp x y) (D (x + wd * y)) 1 (D (x + wd * y))) ∧ (r = 8 → NearTold (gc bs wd dp x y) 0 dp (D (x + wd * y)))) (hw : wd ≤ 24) (hh : hi ≤ 24) (hd1 : 1 ≤ dp) (hd2 : dp ≤ 8) :
    Gives2 W0 (.func (.func 60) #[] #[.pointer (some ⟨mb, 0, none⟩), .pointer (some ⟨rb, 0, none⟩), .pointer (some ⟨pb, 0, none⟩)]) wd hi (fun x y => fq 2 (4 * (D (x + wd * y) : Int))) := by
  refine ⟨60, _, rfl, Try.call60, fun x y W hx hy hbW => ?_⟩
  have hp2 := hp.below hbW
  have hm2 := hm.below hbW
  have r0 : W.cell? ⟨rb, 0, none⟩ = some (.int .i64 r) := (hr.below hbW).cell 0
  obtain ⟨c0, c1, c2_, c3, -, -, -, -⟩ := hp2.box.four
  have KA := Lib.hid (mat_q W mb wd hi _ ms x y x y rfl rfl hx hy (by omega) (by omega) hm2)
  obtain ⟨hdd, hde⟩ := hD _ (show x + wd * y < N by rw [hN]; exact xy_lt hx hy)
  rw [hde] at KA
  have KP := Lib.hid (fun m => place_q (4 * ((D (x + wd * y) : Nat) : Int)) (W.drewN m) (by omega) (by omega))
  rw [plq_four] at KP
  have KC := Lib.hid (fun m => cell_any (W.drewN m) pb wd hi dp q 0 M c bs x y x y rfl rfl hx hy hw hh hd1 hd2 (hp2.drewN m))
  have HRow := Lib.hid (hp2.row hx hy)
  have HE := Lib.hid (hE x y hx hy)
  have hof := fq_ofInt (n := ((D (x + wd * y) : Nat) : Int)) (by omega)
  have hsh : fq 0 ((D (x + wd * y) : Nat) : Int) = fq 2 (4 * ((D (x + wd * y) : Nat) : Int)) := by
    have := fq_shift (g := 0) (j := 2) (by omega) ((D (x + wd * y) : Nat) : Int)
    rw [← this]; congr 1; simp; omega
  rw [hsh] at hof
  have hlt := fq_lt (g := 2) (k := 4 * ((D (x + wd * y) : Nat) : Int)) (by omega)
  have hfl := fl_fq (g := 2) (k := 4 * ((D (x + wd * y) : Nat) : Int)) (by omega)
  generalize hDD : D (x + wd * y) = dd at *
  have HDD := Lib.hid hDD
  generalize hz : fq 2 (4 * (dd : Int)) = z at *
  have HZ := Lib.hid hz
  have HFL := Lib.hid hfl
  generalize hf : gc bs wd dp x y = f at *
  generalize ic wd dp x y = kk at *
  clear hm hr hp hD hE hp2 hm2 hbW hde hsh hDD hz hfl hf
  have dI : (dd : Int) < (dp : Int) := by omega
  have pI : (dp : Int) ≤ 8 := by omega
  show Calls _ _ #[.int .i64 x, .int .i64 y, .pointer (some ⟨mb, 0, none⟩), .pointer (some ⟨rb, 0, none⟩), .pointer (some ⟨pb, 0, none⟩)] _ _
  rcases hr8 with rfl | rfl
  · obtain ⟨e, he1, he2⟩ := HE.out.1 rfl
    obtain rfl : e = 0 := by omega
    have hmin : ¬ ((dp : Int) - 1 < (dd : Int)) := by omega
    have HW := Lib.hid (fun m => winner_any (W.drewN m) q (kk + dd) 1 (dp - dd) (fun i => f (dd + i)) (-1) (by omega) (by omega) (by omega) (fun i hi_ => by have := HRow.out (dd + i) (by omega); rw [Nat.zero_add, ← Nat.add_assoc] at this; exact this))
    rw [he1] at HW
    go_enter Try.func60, Try.ntmps60
    go_wp2_with fail
    refine KA.out.mono ?_
    rintro e w1 ⟨rfl, m1, rfl⟩
    go_wp2_with fail
    refine (KP.out _).mono ?_
    rintro e w2 ⟨rfl, m2, rfl⟩
    go_wp2_with fail
    go_quiet (fail)
    go_wp2_with fail
    refine (KC.out _).mono ?_
    rintro e w3 ⟨rfl, m3, rfl⟩
    have q1 : (dd : Int) + 1 ≤ (dp : Int) := by omega
    have q2_ : ((dd : Int) + 1).toNat = dd + 1 := by omega
    have q3 : dd + 1 - dd = 1 := by omega
    have q4 : (0 : Int) ≤ (dd : Int) + 1 := by omega
    have q5 : ¬ dp = dd := by omega
    go_wp2_with fail
    refine (HW.out _).mono ?_
    rintro e w4 ⟨rfl, m4, rfl⟩
    clear q1 q2_ q3 q4 q5
    go_wp2
    go_ret
    exact ⟨_, rfl, hlt, by show _ = fq 2 (4 * ((D (x + wd * y) : Nat) : Int)); rw [HFL.out, HDD.out, HZ.out], below_drewN (Below.refl _ _) _⟩
  · obtain ⟨e, he1, he2⟩ := HE.out.2 rfl
    obtain rfl : e = dd := by omega
    have h1 : ¬ ((e : Int) - 8 > 0) := by omega
    have h2 : (dp : Int) - 1 < (e : Int) + 8 := by omega
    have h3 : (0 : Int) > (e : Int) - 8 := by omega
    have HW := Lib.hid (fun m => winner_any (W.drewN m) q kk dp dp (fun i => f (0 + i)) (-1) (by omega) (by omega) (by omega) (fun i hi_ => by have := HRow.out i hi_; rw [Nat.zero_add] at this; simpa using this))
    rw [he1] at HW
    go_enter Try.func60, Try.ntmps60
    go_wp2_with fail
    refine KA.out.mono ?_
    rintro e_ w1 ⟨rfl, m1, rfl⟩
    go_wp2_with fail
    refine (KP.out _).mono ?_
    rintro e_ w2 ⟨rfl, m2, rfl⟩
    go_wp2_with fail
    have t1 : IntKind.i64.wrap ((e : Int) - 8) = (e : Int) - 8 := IntWalk.i64_in _ (by omega)
    have t2 : IntKind.i64.wrap ((e : Int) + 8) = (e : Int) + 8 := IntWalk.i64_in _ (by omega)
    have t3 : IntKind.i64.wrap ((dp : Int) - 1) = (dp : Int) - 1 := IntWalk.i64_in _ (by omega)
    go_quiet (fail)
    clear t1 t2 t3
    have hdp0 : (0 : Int) ≤ (dp : Int) - 1 := by omega
    go_wp2_with fail
    refine (KC.out _).mono ?_
    rintro e_ w3 ⟨rfl, m3, rfl⟩
    have q5 : ¬ dp = 0 := by omega
    go_wp2_with fail
    refine (HW.out _).mono ?_
    rintro e_ w4 ⟨rfl, m4, rfl⟩
    clear q5
    go_wp2
    go_ret
    exact ⟨_, rfl, hlt, by show _ = fq 2 (4 * ((D (x + wd * y) : Nat) : Int)); rw [HFL.out, HDD.out, HZ.out], below_drewN (Below.refl _ _) _⟩

set_option maxHeartbeats 2000000 in
theorem near_q (w : World) (wd hi dp M N q c q2 c2 r : Nat) (ks ms : List Int) (D : Nat → Nat) (hv : vVol wd hi dp M = true) (hN : N = wd * hi) (hp : MQ w q c M ks) (hm : MQ w q2 c2 N ms) (hr8 : r = 0 ∨ r = 8)
    (hD : ∀ i, i < N → D i < dp ∧ ms.getD i 0 = 4 * (D i : Int)) (hE : ∀ x y, x < wd → y < hi → (r = 0 → NearTold (gc (ks.map (fq 2)) wd dp x y) (D (x + wd * y)) 1 (D (x + wd * y))) ∧ (r = 8 → NearTold (gc (ks.map (fq 2)) wd dp x y) 0 dp (D (x + wd * y)))) :
    Calls Try.prog 25 #[.agg #[.int .i64 wd, .int .i64 hi, .int .i64 dp, .slice (some ⟨q, 0, none⟩) M c], .agg #[.int .i64 wd, .int .i64 hi, .slice (some ⟨q2, 0, none⟩) N c2], .int .i64 r] w (MakesMQ w wd hi N (tabI N fun i => 4 * (D i : Int))) := by
  obtain ⟨hpic, hM, d1, d2, d3, d4, d5, d6, d7, d8⟩ := vVol_pic hv
  rw [← hN] at hpic
  have hb0 := ((below_two w (.cells #[.int .i64 wd, .int .i64 hi, .int .i64 dp, .slice (some ⟨q, 0, none⟩) M c] 26) (.cells #[.int .i64 wd, .int .i64 hi, .slice (some ⟨q2, 0, none⟩) N c2] 40)).alloc (by simp; try omega) (.cells #[.int .i64 r] 2)).alloc (by simp; try omega) (.cells #[.int .i64 0, .int .i64 0, .slice none 0 0] 40)
  have B0 := BoxN.last w #[.int .i64 wd, .int .i64 hi, .int .i64 dp, .slice (some ⟨q, 0, none⟩) M c] 26
  replace B0 := B0.below (alb1 (w.alloc (.cells #[.int .i64 wd, .int .i64 hi, .int .i64 dp, .slice (some ⟨q, 0, none⟩) M c] 26)) (.cells #[.int .i64 wd, .int .i64 hi, .slice (some ⟨q2, 0, none⟩) N c2] 40))
  replace B0 := B0.below (alb1 ((w.alloc (.cells #[.int .i64 wd, .int .i64 hi, .int .i64 dp, .slice (some ⟨q, 0, none⟩) M c] 26)).alloc (.cells #[.int .i64 wd, .int .i64 hi, .slice (some ⟨q2, 0, none⟩) N c2] 40)) (.cells #[.int .i64 r] 2))
  replace B0 := B0.below (alb1 (((w.alloc (.cells #[.int .i64 wd, .int .i64 hi, .int .i64 dp, .slice (some ⟨q, 0, none⟩) M c] 26)).alloc (.cells #[.int .i64 wd, .int .i64 hi, .slice (some ⟨q2, 0, none⟩) N c2] 40)).alloc (.cells #[.int .i64 r] 2)) (.cells #[.int .i64 0, .int .i64 0, .slice none 0 0] 40))
  have B1 := BoxN.last (w.alloc (.cells #[.int .i64 wd, .int .i64 hi, .int .i64 dp, .slice (some ⟨q, 0, none⟩) M c] 26)) #[.int .i64 wd, .int .i64 hi, .slice (some ⟨q2, 0, none⟩) N c2] 40
  replace B1 := B1.below (alb1 ((w.alloc (.cells #[.int .i64 wd, .int .i64 hi, .int .i64 dp, .slice (some ⟨q, 0, none⟩) M c] 26)).alloc (.cells #[.int .i64 wd, .int .i64 hi, .slice (some ⟨q2, 0, none⟩) N c2] 40)) (.cells #[.int .i64 r] 2))
  replace B1 := B1.below (alb1 (((w.alloc (.cells #[.int .i64 wd, .int .i64 hi, .int .i64 dp, .slice (some ⟨q, 0, none⟩) M c] 26)).alloc (.cells #[.int .i64 wd, .int .i64 hi, .slice (some ⟨q2, 0, none⟩) N c2] 40)).alloc (.cells #[.int .i64 r] 2)) (.cells #[.int .i64 0, .int .i64 0, .slice none 0 0] 40))
  have hs1 : (w.alloc (.cells #[.int .i64 wd, .int .i64 hi, .int .i64 dp, .slice (some ⟨q, 0, none⟩) M c] 26)).heap.size = w.heap.size + 1 := by simp
  rw [hs1] at B1
  have B2 := BoxN.last ((w.alloc (.cells #[.int .i64 wd, .int .i64 hi, .int .i64 dp, .slice (some ⟨q, 0, none⟩) M c] 26)).alloc (.cells #[.int .i64 wd, .int .i64 hi, .slice (some ⟨q2, 0, none⟩) N c2] 40)) #[.int .i64 r] 2
  replace B2 := B2.below (alb1 (((w.alloc (.cells #[.int .i64 wd, .int .i64 hi, .int .i64 dp, .slice (some ⟨q, 0, none⟩) M c] 26)).alloc (.cells #[.int .i64 wd, .int .i64 hi, .slice (some ⟨q2, 0, none⟩) N c2] 40)).alloc (.cells #[.int .i64 r] 2)) (.cells #[.int .i64 0, .int .i64 0, .slice none 0 0] 40))
  have hs2 : ((w.alloc (.cells #[.int .i64 wd, .int .i64 hi, .int .i64 dp, .slice (some ⟨q, 0, none⟩) M c] 26)).alloc (.cells #[.int .i64 wd, .int .i64 hi, .slice (some ⟨q2, 0, none⟩) N c2] 40)).heap.size = w.heap.size + 2 := by simp
  rw [hs2] at B2
  have B3 := BoxN.last (((w.alloc (.cells #[.int .i64 wd, .int .i64 hi, .int .i64 dp, .slice (some ⟨q, 0, none⟩) M c] 26)).alloc (.cells #[.int .i64 wd, .int .i64 hi, .slice (some ⟨q2, 0, none⟩) N c2] 40)).alloc (.cells #[.int .i64 r] 2)) #[.int .i64 0, .int .i64 0, .slice none 0 0] 40
  have hs3 : (((w.alloc (.cells #[.int .i64 wd, .int .i64 hi, .int .i64 dp, .slice (some ⟨q, 0, none⟩) M c] 26)).alloc (.cells #[.int .i64 wd, .int .i64 hi, .slice (some ⟨q2, 0, none⟩) N c2] 40)).alloc (.cells #[.int .i64 r] 2)).heap.size = w.heap.size + 3 := by simp
  rw [hs3] at B3
  have HP := Lib.hid (hp.mw.vol hb0 hM B0)
  have HMP := Lib.hid (MQ.pic hm hb0 B1.three hN)
  have HB0 := Lib.hid hb0
  have HB2 := Lib.hid B2
  have HB3 := Lib.hid B3
  have HN := Lib.hid hN
  have HDD := Lib.hid hD
  have HEE := Lib.hid hE
  have HVV := Lib.hid hv
  have HPP := Lib.hid hpic
  have hN2 : N ≤ 256 := by omega
  have hrr : (r : Int) ≤ 8 := by omega
  have HR8 := Lib.hid hr8
  have hin : (decide ((0 : Int) ≤ r) && decide ((r : Int) ≤ 8)) = true := by simp; omega
  clear hb0 B0 B1 B2 B3 hs1 hs2 hs3 hp hm hM hN hv hpic hD hE hr8
  go_enter Try.func25, Try.ntmps25
  go_wp2_with fail
  refine (validVolume_any _ _ _ _ _ _ (by omega) _).mono ?_
  rw [HVV.out]
  rintro e w1 ⟨rfl, hb1⟩
  have hbx := HB0.out.trans (hb1.mono HB0.out.size)
  have hv1 := HP.out.below hb1
  have hm1 := HMP.out.below hb1
  have hr1 := HB2.out.below hb1
  obtain ⟨zv0, zv1, zv2, zv3, -, -, -, -⟩ := hv1.box.four
  obtain ⟨zm0, zm1, zm2, -, -, -⟩ := hm1.box.cells
  have HV1 := Lib.hid hv1
  have HM1 := Lib.hid hm1
  have HR1 := Lib.hid hr1
  have HB31 := Lib.hid (HB3.out.below hb1)
  have HBX := Lib.hid hbx
  clear hbx hv1 hm1 hb1 hr1
  go_wp2_with fail
  refine (validMap_any _ _ _ _ _ (by omega) _).mono ?_
  rw [HPP.out]
  rintro e w2 ⟨rfl, hb2⟩
  have hbx := HBX.out.trans (hb2.mono HBX.out.size)
  have hv2 := HV1.out.below hb2
  have hm2 := HM1.out.below hb2
  have hr2 := HR1.out.below hb2
  clear zv0 zv1 zv2 zv3 zm0 zm1 zm2
  obtain ⟨zv0, zv1, zv2, zv3, -, -, -, -⟩ := hv2.box.four
  obtain ⟨zm0, zm1, zm2, -, -, -⟩ := hm2.box.cells
  have zr0 : w2.cell? ⟨w.heap.size + 2, 0, none⟩ = some (.int .i64 r) := hr2.cell 0
  have zr1 : w2.cell? ⟨w.heap.size + 1 + 1, 0, none⟩ = some (.int .i64 r) := zr0
  have K := Lib.hid (remap_q w2 wd hi N (some ⟨q2, 0, none⟩) c2 _ (fun i => 4 * (D i : Int)) HPP.out (fun i hi_ => by have := (HDD.out i hi_).1; omega) (near1_gives D hm2 hr2 hv2 HN.out HR8.out HDD.out HEE.out d2 d4 d6 d7))
  have HB32 := Lib.hid (HB31.out.below hb2)
  have HBX2 := Lib.hid hbx
  clear hbx hv2 hm2 hr2 hb2
  go_wp2_with fail
  refine (in_any _ _ _ _).mono ?_
  rw [hin]
  rintro e w' ⟨rfl, rfl⟩
  clear hin
  go_wp2_with fail
  refine K.out.mono ?_
  rintro e w3 ⟨q', cc, rfl, hmq, hq, hb3⟩
  obtain ⟨e0, e1, e2, g0, g1, g2⟩ := (HB32.out.below hb3).three.cells
  have hlt3 := (HB32.out.below hb3).lt
  have hbb := HBX2.out.trans (hb3.mono HBX2.out.size)
  have hqs := Nat.le_trans HBX2.out.size hq
  have hsz := HB32.out.lt
  have hq3 : w.heap.size + 3 < q' := by omega
  have HMQ := Lib.hid hmq
  clear hmq hq
  go_wp2
  refine bodyPost_ret (v := .tuple #[.agg #[.int .i64 wd, .int .i64 hi, .slice (some ⟨q', 0, none⟩) N cc], .bool true]) (by simp [results, Try.results25, go_sem, e0, e1, e2, hlt3]) rfl ?_
  exact ⟨q', cc, rfl, ((HMQ.out.set (by omega) _).set (by omega) _).set (by omega) _, hqs, ((hbb.setCell (by simp; try omega) _).setCell (by simp; try omega) _).setCell (by simp; try omega) _⟩

end Go.Proofs.Ytdeikjiflinkhaa

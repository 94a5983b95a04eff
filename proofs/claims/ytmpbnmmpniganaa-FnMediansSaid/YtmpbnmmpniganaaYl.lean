/- MedianMap and MedianAt. -/
import Derived.Test.YtmpbnmmpniganaaYk
namespace Go.Proofs.Ytmpbnmmpniganaa
open Go.RowKit
set_option maxRecDepth 100000
set_option linter.unusedVariables false
set_option linter.unusedSimpArgs false

/-- A function value that tells quarters and may make memory. -/
theorem gives_b {fid : FuncId} {caps : Array Value} {W0 : World} {wd hi : Nat} (F : Nat → Int) (hb : ∀ x y, x < wd → y < hi → (F (x + wd * y)).natAbs ≤ 16777216)
    (hcall : ∀ args w, (callFunc fid args).run Try.prog w = .ok (.enter fid args) w)
    (hrun : ∀ (x y : Nat) (W : World), x < wd → y < hi → Below W0.heap.size W0 W → Calls Try.prog fid (#[.int .i64 x, .int .i64 y] ++ caps) W fun e w' => e = .returned (.float .f32 (fq 2 (F (x + wd * y)))) ∧ Below W.heap.size W w') :
    Gives2 W0 (.func (.func fid) #[] caps) wd hi (fun x y => fq 2 (F (x + wd * y))) := by
  refine ⟨fid, caps, rfl, hcall, fun x y W hx hy hbW => ?_⟩
  refine (hrun x y W hx hy hbW).mono ?_
  rintro e w' ⟨rfl, hb'⟩
  exact ⟨_, rfl, fq_lt (hb x y hx hy), fl_fq (hb x y hx hy), hb'⟩
theorem in_T (n lo hi : Int) (h1 : lo ≤ n) (h2 : n ≤ hi) (w : World) : Calls Try.prog 58 #[.int .i64 n, .int .i64 lo, .int .i64 hi] w fun e w' => e = .returned (.bool true) ∧ w = w' := by
  have := in_any n lo hi w
  rw [decide_eq_true h1, decide_eq_true h2] at this
  exact this
/-- The medians of a map. -/
def medF (ks : List Int) (wd hi r i : Nat) : Int := med (lst ks (visL wd (i % wd) (i / wd) r (wd * hi)))
theorem med_bd {L : List Int} (h : ∀ k ∈ L, k.natAbs ≤ 1000) : (med L).natAbs ≤ 1000 := by
  unfold med
  cases e : L.find? (isMed L) with
  | none => decide
  | some u => exact h u (List.mem_of_find?_eq_some e)
theorem lst_bd {ks : List Int} {l : List Nat} (h : ∀ i, (ks.getD i 0).natAbs ≤ 1000) : ∀ k ∈ lst ks l, k.natAbs ≤ 1000 := by
  intro k hk
  unfold lst at hk
  obtain ⟨j, -, e⟩ := List.mem_map.1 hk
  rw [← e]; exact h j

set_option maxHeartbeats 1000000 in
theorem medianMap_q (w : World) (wd hi N q c : Nat) (ks : List Int) (r : Nat) (hr : r ≤ 3) (hN40 : N < 40) (hv : vPic wd hi N = true) (h : MQ w q c N ks) :
    Calls Try.prog 28 #[.agg #[.int .i64 wd, .int .i64 hi, .slice (some ⟨q, 0, none⟩) N c], .int .i64 r] w (MakesMQ w wd hi N (tabI N (medF ks wd hi r))) := by
  obtain ⟨e1, e2, e3, e4, e5, e6, e7⟩ := vPic_mul hv
  obtain ⟨W0, hW0⟩ : ∃ W0, W0 = ((w.alloc (.cells #[.int .i64 wd, .int .i64 hi, .slice (some ⟨q, 0, none⟩) N c] 27)).alloc (.cells #[.int .i64 r] 2)).alloc (.cells #[.int .i64 0, .int .i64 0, .slice none 0 0] 27) := ⟨_, rfl⟩
  have hb0 : Below w.heap.size w W0 := by rw [hW0]; exact ((alb1 w _).alloc (by simp) _).alloc (by simp; omega) _
  have hX1 : Box3 W0 w.heap.size (.int .i64 wd) (.int .i64 hi) (.slice (some ⟨q, 0, none⟩) N c) 27 := by
    rw [hW0]; exact (box_first w _ _ _ _ _).below (alb1 _ _)
  have hX2 : BoxN W0 (w.heap.size + 1) #[.int .i64 r] 2 := by
    rw [hW0]
    have := BoxN.first (w.alloc (.cells #[.int .i64 wd, .int .i64 hi, .slice (some ⟨q, 0, none⟩) N c] 27)) #[.int .i64 r] 2 (.cells #[.int .i64 0, .int .i64 0, .slice none 0 0] 27)
    simpa using this
  have hX3 : Box3 W0 (w.heap.size + 2) (.int .i64 0) (.int .i64 0) (.slice none 0 0) 27 := by
    rw [hW0]
    have := box_last ((w.alloc (.cells #[.int .i64 wd, .int .i64 hi, .slice (some ⟨q, 0, none⟩) N c] 27)).alloc (.cells #[.int .i64 r] 2)) (.int .i64 0) (.int .i64 0) (.slice none 0 0) 27
    simpa using this
  have hsz : W0.heap.size = w.heap.size + 3 := by rw [hW0]; simp
  have hP := h.pic hb0 hX1 e1
  have hkb := h.kb
  have hg := gives_b (fid := 78) (caps := #[.pointer (some ⟨w.heap.size, 0, none⟩), .pointer (some ⟨w.heap.size + 1, 0, none⟩)]) (W0 := W0) (wd := wd) (hi := hi) (medF ks wd hi r) (fun x y _ _ => by have := med_bd (lst_bd (l := visL wd ((x + wd * y) % wd) ((x + wd * y) / wd) r (wd * hi)) hkb); unfold medF; omega) Try.call78 (by
    intro x y W hx hy hbW
    have hPW := hP.below hbW
    have c1 : W.cell? ⟨w.heap.size + 1, 0, none⟩ = some (.int .i64 r) := (hX2.below hbW).cell 0
    have eF : medF ks wd hi r (x + wd * y) = med (lst ks (visL wd x y r (wd * hi))) := by unfold medF; rw [xy_mod hx, xy_div hx]
    have K := Lib.hid (median_q W w.heap.size wd hi _ ks x y r hx hy (by omega) (by omega) (by omega) (by omega) hkb hPW)
    rw [← eF] at K
    clear eF hPW hP hbW hX1 hX2 hX3 hb0 hW0 h hkb hv e1
    show Calls _ _ #[.int .i64 x, .int .i64 y, .pointer (some ⟨w.heap.size, 0, none⟩), .pointer (some ⟨w.heap.size + 1, 0, none⟩)] _ _
    go_enter Try.func78, Try.ntmps78
    go_wp2_with fail
    refine K.out.mono ?_
    rintro e w' ⟨rfl, hb'⟩
    go_wp2
    go_ret
    exact ⟨rfl, hb'⟩)
  have HG := Lib.hid hg
  have hbd : ∀ i, i < N → (medF ks wd hi r i).natAbs ≤ 1000 := fun i _ => med_bd (lst_bd hkb)
  have HBD := Lib.hid hbd
  have HW0 := Lib.hid hW0
  have HB0 := Lib.hid hb0
  have HSZ := Lib.hid hsz
  have HX3 := Lib.hid hX3
  obtain ⟨z0, z1, z2, -, -, -⟩ := hX1.cells
  have z3 : W0.cell? ⟨w.heap.size + 1, 0, none⟩ = some (.int .i64 r) := hX2.cell 0
  have KI := Lib.hid (in_T (r : Int) 0 3 (by omega) (by omega) W0)
  clear hP hg e1 hbd hW0 hb0 hX1 hX2 hX3 h hkb hsz
  go_enter Try.func28, Try.ntmps28
  go_upto_region 1 with fail
  rw [← HW0.out]
  go_wp2_with fail
  refine KI.out.mono ?_
  rintro e w1 ⟨rfl, rfl⟩
  go_wp2_with fail
  refine (remap_q _ wd hi N _ c _ _ hv HBD.out HG.out).mono ?_
  rintro e w2 ⟨q2, c2, rfl, hm, hq, hb2⟩
  have hbb := HB0.out.trans (hb2.mono HB0.out.size)
  obtain ⟨d0, d1, d2, g0, g1, g2⟩ := (HX3.out.below hb2).cells
  have hz2 : w.heap.size + 2 < w2.heap.size := by have := hb2.size; have := HSZ.out; omega
  have hq1 : w.heap.size + 3 ≤ q2 := by have := HSZ.out; omega
  have HM := Lib.hid (And.intro hm hbb)
  clear hm hbb hq hb2 hv z0 z1 z2 z3
  go_wp2
  refine bodyPost_ret (v := .tuple #[.agg #[.int .i64 wd, .int .i64 hi, .slice (some ⟨q2, 0, none⟩) N c2], .bool true]) (by simp [results, Try.results28, go_sem, d0, d1, d2, hz2]) rfl ?_
  exact ⟨q2, c2, rfl, ((HM.out.1.set (by first | omega | (simp; done) | (simp; omega)) _).set (by first | omega | (simp; done) | (simp; omega)) _).set (by first | omega | (simp; done) | (simp; omega)) _, by omega, ((HM.out.2.setCell (by first | omega | (simp; done) | (simp; omega)) _).setCell (by first | omega | (simp; done) | (simp; omega)) _).setCell (by first | omega | (simp; done) | (simp; omega)) _⟩

set_option maxHeartbeats 1000000 in
theorem medianAt_q (w : World) (wd hi N q c : Nat) (ks : List Int) (x y r : Nat) (hx : x < wd) (hy : y < hi) (hr : r ≤ 3) (hN40 : N < 40) (hv : vPic wd hi N = true) (h : MQ w q c N ks) :
    Calls Try.prog 29 #[.agg #[.int .i64 wd, .int .i64 hi, .slice (some ⟨q, 0, none⟩) N c], .int .i64 x, .int .i64 y, .int .i64 r] w fun e w' => e = .returned (.tuple #[.float .f32 (fq 2 (medF ks wd hi r (x + wd * y))), .bool true]) ∧ Below w.heap.size w w' := by
  obtain ⟨e1, e2, e3, e4, e5, e6, e7⟩ := vPic_mul hv
  obtain ⟨W0, hW0⟩ : ∃ W0, W0 = w.alloc (.cells #[.int .i64 wd, .int .i64 hi, .slice (some ⟨q, 0, none⟩) N c] 27) := ⟨_, rfl⟩
  have hb0 : Below w.heap.size w W0 := by rw [hW0]; exact alb1 w _
  have hX1 : Box3 W0 w.heap.size (.int .i64 wd) (.int .i64 hi) (.slice (some ⟨q, 0, none⟩) N c) 27 := by rw [hW0]; exact box_last w _ _ _ _
  have hP := h.pic hb0 hX1 e1
  have hkb := h.kb
  have eF : medF ks wd hi r (x + wd * y) = med (lst ks (visL wd x y r (wd * hi))) := by unfold medF; rw [xy_mod hx, xy_div hx]
  have KM := Lib.hid (fun W (hb : Below W0.heap.size W0 W) => median_q W w.heap.size wd hi _ ks x y r hx hy (by omega) (by omega) (by omega) (by omega) hkb (hP.below hb))
  rw [← eF] at KM
  have KH := Lib.hid (fun W (hb : Below W0.heap.size W0 W) => mapHas_any W w.heap.size wd hi _ (x : Int) (y : Int) (by omega) (by omega) (hX1.below hb))
  have hin : inB (x : Int) (y : Int) wd hi = true := (by unfold inB; simp; omega)
  rw [hin] at KH
  have KI := Lib.hid (fun W => in_T (r : Int) 0 3 (by omega) (by omega) W)
  have HW0 := Lib.hid hW0
  have HB0 := Lib.hid hb0
  obtain ⟨z0, z1, z2, -, -, -⟩ := hX1.cells
  have kv := validMap_any (wd : Int) (hi : Int) (some ⟨q, 0, none⟩) N c (by omega) W0
  rw [hv] at kv
  have KV := Lib.hid kv
  clear hP hkb eF hW0 hb0 hX1 h e1
  go_enter Try.func29, Try.ntmps29
  go_upto_region 1 with fail
  rw [← HW0.out]
  clear kv
  go_wp2_with fail
  refine KV.out.mono ?_
  rintro e w1 ⟨rfl, hb1⟩
  go_wp2_with fail
  refine (KH.out _ hb1).mono ?_
  rintro e w2 ⟨rfl, rfl⟩
  go_wp2_with fail
  refine (KI.out _).mono ?_
  rintro e w2 ⟨rfl, rfl⟩
  go_wp2_with fail
  refine (KM.out _ hb1).mono ?_
  rintro e w2 ⟨rfl, hb2⟩
  have HBB := Lib.hid ((HB0.out.trans (hb1.mono HB0.out.size)).trans (hb2.mono (Nat.le_trans HB0.out.size hb1.size)))
  clear hb1 hb2 z0 z1 z2
  go_wp2
  go_ret2
  exact ⟨rfl, HBB.out⟩

end Go.Proofs.Ytmpbnmmpniganaa

/- Patches: the functions that tell them, and that drop small ones. -/
import Derived.Test.YticbgeknledpcaaHr
import Derived.Test.YticbgeknledpcaaMr
namespace Go.Proofs.Yticbgeknledpcaa
open Go.RowKit
set_option maxRecDepth 100000
set_option linter.unusedVariables false
set_option linter.unusedSimpArgs false

/-- The patches, told. -/
def MakesPat3 (W : World) (N : Nat) (S : Nat → Prop) (H : Nat → Nat → Prop) (e : Ending) (w' : World) : Prop :=
  ∃ (go gs cs m : Nat) (f g : Nat → Int), e = .returned (.tuple #[.slice (some ⟨go, 0, none⟩) N N, .slice (some ⟨gs, 0, none⟩) m cs, .bool true]) ∧ OwnI w' W.heap.size (.slice (some ⟨go, 0, none⟩) N N) (tabI N f) ∧ OwnI w' W.heap.size (.slice (some ⟨gs, 0, none⟩) m cs) (tabI m g) ∧ Fl N S H f g m [] N ∧ Below W.heap.size W w' ∧ m ≤ N

set_option maxHeartbeats 2000000 in
theorem patchesOf_q (w : World) (wd hi N q c : Nat) (ks : List Int) (mo : Int) (hv : vPic wd hi N = true) (h : MQ w q c N ks) (hm : mo.natAbs ≤ 1000) (hb : ∀ k ∈ ks, k.natAbs ≤ 500) :
    Calls Try.prog 15 #[.agg #[.int .i64 wd, .int .i64 hi, .slice (some ⟨q, 0, none⟩) N c], .float .f32 (fq 2 mo)] w (MakesPat3 w N (valS ks) (hangH ks wd hi mo)) := by
  obtain ⟨e1, e2, e3, e4, e5, e6, e7⟩ := vPic_mul hv
  have hb0 := alb1 w (.cells #[.int .i64 wd, .int .i64 hi, .slice (some ⟨q, 0, none⟩) N c] 26)
  have B := box_last w (.int .i64 wd) (.int .i64 hi) (.slice (some ⟨q, 0, none⟩) N c) 26
  obtain ⟨W0, hW0⟩ : ∃ W0, W0 = w.alloc (.cells #[.int .i64 wd, .int .i64 hi, .slice (some ⟨q, 0, none⟩) N c] 26) := ⟨_, rfl⟩
  rw [← hW0] at hb0 B
  have KP := Lib.hid (fun w1 (hb1 : Below W0.heap.size W0 w1) => patches_q w1 w.heap.size wd hi q c N ks mo e1 e2 e3 e4 e5 e6 hm hb ((h.below hb0).pic hb1 (B.below hb1) e1) ((h.below hb0).below hb1))
  obtain ⟨vm, hvm⟩ : ∃ v, fq 2 mo = v := ⟨_, rfl⟩
  rw [hvm] at KP ⊢
  have HW0 := Lib.hid hW0
  have KB := Lib.hid B
  clear e1 hvm h hW0 B
  go_enter Try.func15, Try.ntmps15
  go_wp2_with fail
  rw [← HW0.out]
  refine (validMap_any _ _ _ _ _ (by omega) _).mono ?_
  rw [hv]
  rintro e w1 ⟨rfl, hb1⟩
  have HB1 := Lib.hid (hb0.trans (hb1.mono hb0.size))
  have hsz := HB1.out.size
  have KP2 := Lib.hid (KP.out w1 hb1)
  clear hb1 hb0 hv KP
  go_wp2_with fail
  refine KP2.out.mono ?_
  rintro e w2 ⟨go, gs, cs, m, f, g, rfl, ho, hs, hfl, hbl, hmn⟩
  have HO := Lib.hid (ho.base hsz)
  have HS := Lib.hid (hs.base hsz)
  have HF := Lib.hid hfl
  have HB := Lib.hid (HB1.out.trans (hbl.mono hsz))
  clear ho hs hfl hbl
  go_wp2_with fail
  go_ret3
  exact ⟨go, gs, cs, m, f, g, rfl, HO.out, HS.out, HF.out, HB.out, hmn⟩

/-- Small patches are dropped. -/
def dropF (ks : List Int) (f g : Nat → Int) (lst : Int) (i : Nat) : Int := if 0 ≤ f i ∧ g (f i).toNat < lst then -4 else ks.getD i 0
theorem dropF_bd {ks : List Int} (h : ∀ i, (ks.getD i 0).natAbs ≤ 1000) (f g : Nat → Int) (lst : Int) (i : Nat) : (dropF ks f g lst i).natAbs ≤ 1000 := by
  have := h i
  unfold dropF; split <;> omega
def MakesDrop (w : World) (wd hi N : Nat) (ks : List Int) (S : Nat → Prop) (H : Nat → Nat → Prop) (lst : Int) (e : Ending) (w' : World) : Prop :=
  ∃ (q c m : Nat) (f g : Nat → Int), e = .returned (.tuple #[.agg #[.int .i64 wd, .int .i64 hi, .slice (some ⟨q, 0, none⟩) N c], .bool true]) ∧ MQ w' q c N (tabI N (dropF ks f g lst)) ∧ Fl N S H f g m [] N ∧ w.heap.size ≤ q ∧ Below w.heap.size w w'

theorem drop1_q (W : World) (pb ob sb lb wd hi q c N go gs cs m : Nat) (ks : List Int) (f g : Nat → Int) (lst : Int) (x y : Nat) (hx : x < wd) (hy : y < hi) (hw : wd ≤ 24) (hh : hi ≤ 24) (hN : N = wd * hi) (hN2 : N ≤ 256)
    (hP : PicAt W pb wd hi (.slice (some ⟨q, 0, none⟩) N c) (ks.map (fq 2)) 26) (ho : OwnI W 0 (.slice (some ⟨go, 0, none⟩) N N) (tabI N f)) (hs : OwnI W 0 (.slice (some ⟨gs, 0, none⟩) m cs) (tabI m g))
    (co : W.cell? ⟨ob, 0, none⟩ = some (.slice (some ⟨go, 0, none⟩) N N)) (csz : W.cell? ⟨sb, 0, none⟩ = some (.slice (some ⟨gs, 0, none⟩) m cs)) (cl : W.cell? ⟨lb, 0, none⟩ = some (.int .i64 lst)) (hf : ∀ i, i < N → -1 ≤ f i ∧ f i < m) (hmN : m ≤ N) :
    Calls Try.prog 45 #[.int .i64 x, .int .i64 y, .pointer (some ⟨ob, 0, none⟩), .pointer (some ⟨pb, 0, none⟩), .pointer (some ⟨sb, 0, none⟩), .pointer (some ⟨lb, 0, none⟩)] W fun e w' => e = .returned (.float .f32 (fq 2 (dropF ks f g lst (x + wd * y)))) ∧ ∃ n, w' = W.drewN n := by
  have hxy : x + wd * y < N := by rw [hN]; exact xy_lt hx hy
  have KA := Lib.hid (mat_q W pb wd hi _ ks x y x y rfl rfl hx hy (by omega) (by omega) hP)
  have KA2 := Lib.hid (fun n => mat_q (W.drewN n) pb wd hi _ ks x y x y rfl rfl hx hy (by omega) (by omega) (hP.drew2 n))
  have hF : dropF ks f g lst (x + wd * y) = if 0 ≤ f (x + wd * y) ∧ g (f (x + wd * y)).toNat < lst then -4 else ks.getD (x + wd * y) 0 := rfl
  rw [hF]
  have c1 := ho.cellAt (x + wd * y) (by rw [tabI_length]; exact hxy)
  rw [tabI_get hxy] at c1
  have hfr := hf (x + wd * y) hxy
  have hcg : ∀ k, k < m → W.cell? ⟨gs, k, none⟩ = some (.int .i64 (g k)) := fun k hk => by
    have := hs.cellAt k (by rw [tabI_length]; exact hk)
    rwa [tabI_get hk] at this
  have e3 : (0 : Int) ≤ (x : Int) + (wd : Int) * (y : Int) := by rw [← Int.natCast_mul]; omega
  have e4 : (x : Int) + (wd : Int) * (y : Int) < (N : Int) := by rw [← Int.natCast_mul]; omega
  have e5 : ((x : Int) + (wd : Int) * (y : Int)).toNat = x + wd * y := by rw [← Int.natCast_mul]; omega
  have e2 : IntKind.i64.wrap ((x : Int) + (wd : Int) * (y : Int)) = (x : Int) + (wd : Int) * (y : Int) := IntWalk.i64_in _ (by omega)
  have e1 : IntKind.i64.wrap ((wd : Int) * (y : Int)) = (wd : Int) * (y : Int) := IntWalk.i64_in _ (by omega)
  have cm : fq 2 (-4) = 3212836864 := by decide +kernel
  obtain ⟨z0, z1, z2, -, -, -⟩ := hP.box.cells
  have hcs := hs.len.2.1
  generalize x + wd * y = i at *
  generalize f i = fi at *
  generalize ks.getD i 0 = ki at *
  by_cases h0 : 0 ≤ fi
  · obtain ⟨k, rfl⟩ := Int.eq_ofNat_of_zero_le h0
    have hkm : k < m := by omega
    have hkm2 : (k : Int) < (m : Int) := by omega
    have c2 := hcg k hkm
    rw [Int.toNat_natCast]
    by_cases h2 : g k < lst
    · rw [if_pos ⟨h0, h2⟩, cm]
      have h2d : decide (g k < lst) = true := decide_eq_true h2
      clear hcg ho hs hP hF hN cm hxy h0 h2
      go_enter Try.func45, Try.ntmps45
      go_wp2_with fail
      go_quiet (fail)
      go_wp2_with fail
      go_ret
      exact ⟨rfl, _, rfl⟩
    · rw [if_neg (fun hh => h2 hh.2)]
      have h2d : decide (g k < lst) = false := decide_eq_false h2
      clear hcg ho hs hP hF hN cm hxy h0 h2
      go_enter Try.func45, Try.ntmps45
      go_wp2_with fail
      go_quiet (fail)
      go_wp2_with fail
      refine (KA2.out _).mono ?_
      rintro e w' ⟨rfl, n, rfl⟩
      go_wp2_with fail
      go_ret
      exact ⟨rfl, _, rfl⟩
  · rw [if_neg (fun hh => h0 hh.1)]
    have h0d : decide (0 ≤ fi) = false := decide_eq_false h0
    clear hcg ho hs hP hF hN cm hxy h0
    go_enter Try.func45, Try.ntmps45
    go_wp2_with fail
    go_quiet (fail)
    go_wp2_with fail
    refine (KA2.out _).mono ?_
    rintro e w' ⟨rfl, n, rfl⟩
    go_wp2_with fail
    go_ret
    exact ⟨rfl, _, rfl⟩

set_option maxHeartbeats 2000000 in
theorem dropPatches_q (w : World) (wd hi N q c : Nat) (ks : List Int) (mo lst : Int) (hv : vPic wd hi N = true) (h : MQ w q c N ks) (hm : mo.natAbs ≤ 1000) (hb : ∀ k ∈ ks, k.natAbs ≤ 500) :
    Calls Try.prog 16 #[.agg #[.int .i64 wd, .int .i64 hi, .slice (some ⟨q, 0, none⟩) N c], .float .f32 (fq 2 mo), .int .i64 lst] w (MakesDrop w wd hi N ks (valS ks) (hangH ks wd hi mo) lst) := by
  obtain ⟨e1, e2, e3, e4, e5, e6, e7⟩ := vPic_mul hv
  obtain ⟨W0, hW0⟩ : ∃ W0, W0 = ((w.alloc (.cells #[.int .i64 wd, .int .i64 hi, .slice (some ⟨q, 0, none⟩) N c] 26)).alloc (.cells #[.int .i64 lst] 2)).alloc (.cells #[.int .i64 0, .int .i64 0, .slice none 0 0] 26) := ⟨_, rfl⟩
  have hb0 : Below w.heap.size w W0 := by rw [hW0]; exact ((alb1 w _).alloc (by simp) _).alloc (by simp; omega) _
  have B : Box3 W0 w.heap.size (.int .i64 wd) (.int .i64 hi) (.slice (some ⟨q, 0, none⟩) N c) 26 := by rw [hW0]; exact ((box_last w _ _ _ _).below (alb1 _ _)).below (alb1 _ _)
  have BZ : Box3 W0 (w.heap.size + 2) (.int .i64 0) (.int .i64 0) (.slice none 0 0) 26 := by rw [hW0]; have := box_last ((w.alloc (.cells #[.int .i64 wd, .int .i64 hi, .slice (some ⟨q, 0, none⟩) N c] 26)).alloc (.cells #[.int .i64 lst] 2)) (.int .i64 0) (.int .i64 0) (.slice none 0 0) 26; simpa using this
  have BL : BoxN W0 (w.heap.size + 1) #[.int .i64 lst] 2 := by rw [hW0]; exact (BoxN.second w #[.int .i64 lst] 2 _).below (alb1 _ _)
  have hsz : W0.heap.size = w.heap.size + 3 := by rw [hW0]; simp
  have hsz1 : w.heap.size + 3 ≤ W0.heap.size := by omega
  have HM := Lib.hid (h.below hb0)
  have KP := Lib.hid (fun w1 (hb1 : Below W0.heap.size W0 w1) => patches_q w1 w.heap.size wd hi q c N ks mo e1 e2 e3 e4 e5 e6 hm hb (HM.out.pic hb1 (B.below hb1) e1) (HM.out.below hb1))
  obtain ⟨vm, hvm⟩ : ∃ v, fq 2 mo = v := ⟨_, rfl⟩
  rw [hvm] at KP ⊢
  have HW0 := Lib.hid hW0
  have HB0 := Lib.hid hb0
  have KB := Lib.hid (And.intro B (And.intro BZ BL))
  have HNN := Lib.hid e1
  have HV := Lib.hid hv
  clear e1 hvm h hW0 B hsz BZ BL hb0 hv
  go_enter Try.func16, Try.ntmps16
  go_wp2_with fail
  rw [← HW0.out]
  refine (validMap_any _ _ _ _ _ (by omega) _).mono ?_
  rw [HV.out]
  rintro e w1 ⟨rfl, hb1⟩
  have hs1 := hb1.size
  have hs2 : w.heap.size + 3 ≤ w1.heap.size := by omega
  have KP2 := Lib.hid (KP.out w1 hb1)
  have HB1 := Lib.hid hb1
  clear hb1 KP
  go_wp2_with fail
  refine KP2.out.mono ?_
  rintro e w2 ⟨go, gs, cs, m, f, g, rfl, ho, hs, hfl, hbl, hmn⟩
  have HO := Lib.hid ho
  have HS := Lib.hid hs
  have HF := Lib.hid hfl
  have HB2 := Lib.hid (HB1.out.trans (hbl.mono hs1))
  have hs3 : w.heap.size + 3 ≤ w2.heap.size := by have := HB2.out.size; omega
  obtain ⟨Wg, hWg⟩ : ∃ Wg, Wg = (w2.alloc (.cells #[.slice (some ⟨go, 0, none⟩) N N] 39)).alloc (.cells #[.slice (some ⟨gs, 0, none⟩) m cs] 39) := ⟨_, rfl⟩
  have hag : Below w2.heap.size w2 Wg := by rw [hWg]; exact (alb1 w2 _).alloc (by simp) _
  have bo : BoxN Wg w2.heap.size #[.slice (some ⟨go, 0, none⟩) N N] 39 := by rw [hWg]; exact BoxN.first w2 _ _ _
  have bs : BoxN Wg (w2.heap.size + 1) #[.slice (some ⟨gs, 0, none⟩) m cs] 39 := by rw [hWg]; exact BoxN.second w2 _ _ _
  have hbg := HB2.out.trans (hag.mono HB2.out.size)
  have og := (HO.out.base (Nat.zero_le _)).below hag
  have sg := (HS.out.base (Nat.zero_le _)).below hag
  have hbd : ∀ i, i < N → (dropF ks f g lst i).natAbs ≤ 1000 := fun i hi => dropF_bd HM.out.kb f g lst i
  have hg := gives_q (fid := 45) (caps := #[.pointer (some ⟨w2.heap.size, 0, none⟩), .pointer (some ⟨w.heap.size, 0, none⟩), .pointer (some ⟨w2.heap.size + 1, 0, none⟩), .pointer (some ⟨w.heap.size + 1, 0, none⟩)]) (W0 := Wg) (wd := wd) (hi := hi) (dropF ks f g lst) (fun x y hx hy => by have := dropF_bd HM.out.kb f g lst (x + wd * y); omega) Try.call45 (by
    intro x y W hx hy hbW
    have hbW0 := hbg.trans (hbW.mono hbg.size)
    exact drop1_q W w.heap.size w2.heap.size (w2.heap.size + 1) (w.heap.size + 1) wd hi q c N go gs cs m ks f g lst x y hx hy e3 e5 HNN.out e6 (HM.out.pic hbW0 (KB.out.1.below hbW0) HNN.out) (og.below hbW) (sg.below hbW) ((bo.below hbW).cell 0) ((bs.below hbW).cell 0) ((KB.out.2.2.below hbW0).cell 0) (fun i hi => HF.out.rng i hi) hmn)
  have HG := Lib.hid hg
  have HBG := Lib.hid hbg
  have HWg := Lib.hid hWg
  obtain ⟨z0, z1, z2, -, -, -⟩ := (KB.out.1.below hbg).cells
  rw [hWg] at z0 z1 z2
  have ha1 : Below w2.heap.size w2 (w2.alloc (.cells #[.slice (some ⟨go, 0, none⟩) N N] 39)) := alb1 w2 _
  clear ho hs hfl hbl KP2 hg hbg hWg og sg bo bs hag ha1
  go_wp2_with fail
  rw [← HWg.out]
  refine (remap_q _ wd hi N _ c _ _ HV.out hbd HG.out).mono ?_
  rintro e w3 ⟨q3, c3, rfl, hm3, hq, hb3⟩
  have hbb := HBG.out.trans (hb3.mono HBG.out.size)
  obtain ⟨d0, d1, d2, g0, g1, g2⟩ := (KB.out.2.1.below hbb).cells
  have hz2 : w.heap.size + 2 < w3.heap.size := by have := hbb.size; omega
  have hz3 : w.heap.size + 1 + 1 < w3.heap.size := by omega
  have hq1 : w.heap.size + 3 ≤ q3 := by have := HBG.out.size; omega
  have hbw := HB0.out.trans (hbb.mono HB0.out.size)
  clear z0 z1 z2
  go_wp2
  refine bodyPost_ret (v := .tuple #[.agg #[.int .i64 wd, .int .i64 hi, .slice (some ⟨q3, 0, none⟩) N c3], .bool true]) (by simp [results, Try.results16, go_sem, d0, d1, d2, hz2]) rfl ?_
  exact ⟨q3, c3, m, f, g, rfl, ((hm3.set (by simp; omega) _).set (by simp; omega) _).set (by simp; omega) _, HF.out, by omega, ((hbw.setCell (by first | omega | (simp; done) | (simp; omega)) _).setCell (by first | omega | (simp; done) | (simp; omega)) _).setCell (by first | omega | (simp; done) | (simp; omega)) _⟩

end Go.Proofs.Yticbgeknledpcaa

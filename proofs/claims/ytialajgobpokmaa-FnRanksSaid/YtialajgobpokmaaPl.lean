/- Samples at cells. -/
import Derived.Test.YtialajgobpokmaaPk
namespace Go.Proofs.Ytialajgobpokmaa
open Go.RowKit
set_option maxRecDepth 100000
set_option linter.unusedVariables false
set_option linter.unusedSimpArgs false

theorem ks_bd {ks : List Int} (hk : ∀ k ∈ ks, 0 ≤ k ∧ k ≤ 16) (i : Nat) : 0 ≤ ks.getD i 0 ∧ ks.getD i 0 ≤ 16 := by
  rw [List.getD_eq_getElem?_getD]
  cases e : ks[i]? with
  | none => exact ⟨Int.le_refl _, by decide⟩
  | some z => exact hk z (List.mem_of_getElem? e)

theorem drewN_drewN2 (W : World) (n m : Nat) : ∃ k, (W.drewN n).drewN m = W.drewN k := ⟨n + m, by simp [World.drewN, Nat.add_assoc]⟩

theorem sampleRow_q (W : World) (pbx ubx fbx pb wd hi : Nat) (v : Value) (ks : List Int) (n Y : Int) (hp : W.cell? ⟨pbx, 0, none⟩ = some (.pointer (some ⟨pb, 0, none⟩))) (hu : W.cell? ⟨ubx, 0, none⟩ = some (.float .f32 (fq 0 n))) (hf : W.cell? ⟨fbx, 0, none⟩ = some (.float .f32 0)) (hn : n.natAbs ≤ 100) (hw : 0 < wd) (hh : 0 < hi) (hw2 : wd ≤ 24) (hh2 : hi ≤ 24) (hk : ∀ k ∈ ks, 0 ≤ k ∧ k ≤ 16) (h : PicAt W pb wd hi v (ks.map (fq 2)) 26) :
    Calls Try.prog 76 #[.int .i64 Y, .pointer (some ⟨pbx, 0, none⟩), .pointer (some ⟨ubx, 0, none⟩), .pointer (some ⟨fbx, 0, none⟩)] W fun e w' => e = .returned (.float .f32 (fq 2 (ks.getD (ix n Y wd hi) 0))) ∧ ∃ m, w' = W.drewN m := by
  have KA := Lib.hid (fun m X => about_q (W.drewN m) pb wd hi v ks X Y hw hh (by omega) (by omega) (h.drewN m))
  have ga := ks_bd hk (ix n Y wd hi)
  have gb := ks_bd hk (ix (n + 1) Y wd hi)
  obtain ⟨m0, s1, s2, s3⟩ := mix_zero ga gb
  have hi1 := fq_int (k := n) (by omega)
  have KA0 := Lib.hid (KA.out 0 n)
  generalize ks.getD (ix n Y wd hi) 0 = a at *
  obtain ⟨b, hb⟩ : ∃ b, b = ks.getD (ix (n + 1) Y wd hi) 0 := ⟨_, rfl⟩
  rw [← hb] at s1 s2 gb
  have HB := Lib.hid hb
  clear hb
  generalize fq 2 (b - a) = db at *
  generalize fq 2 a = fa at *
  obtain ⟨fb, hfb⟩ : ∃ fb, fb = fq 2 b := ⟨_, rfl⟩
  rw [← hfb] at s1
  have HFB := Lib.hid hfb
  clear hfb
  generalize fq 0 n = fn at *
  have a1 := fres_some s1
  have a2 := fdr_some s1
  have a3 := fres_some s2
  have a4 := fdr_some s2
  have a5 := fres_some s3
  have a6 := fdr_some s3
  have hd0 : ∀ W : World, W.drewN 0 = W := fun _ => rfl
  have n1 : -100 ≤ n := by omega
  have n2 : n ≤ 100 := by omega
  have HPIC := Lib.hid h
  clear s1 s2 s3 h hk ga gb KA hn
  go_enter Try.func76, Try.ntmps76
  go_wp2_with fail
  refine KA0.out.mono ?_
  rintro e w1 ⟨rfl, m, hw1⟩
  have hp1 : w1.cell? ⟨pbx, 0, none⟩ = some (.pointer (some ⟨pb, 0, none⟩)) := by rw [hw1]; exact hp
  have hu1 : w1.cell? ⟨ubx, 0, none⟩ = some (.float .f32 fn) := by rw [hw1]; exact hu
  have hf1 : w1.cell? ⟨fbx, 0, none⟩ = some (.float .f32 0) := by rw [hw1]; exact hf
  have hpic : PicAt w1 pb wd hi v (ks.map (fq 2)) 26 := by rw [hw1]; exact HPIC.out.drewN m
  have K1 : ∀ m, Calls Try.prog 37 #[.pointer (some ⟨pb, 0, none⟩), .int .i64 (n + 1), .int .i64 Y] (w1.drewN m) fun e w' => e = .returned (.float .f32 fb) ∧ ∃ k, w' = w1.drewN k := fun m => by
    refine (about_q (w1.drewN m) pb wd hi v ks (n + 1) Y hw hh (by omega) (by omega) (hpic.drewN m)).mono ?_
    rintro e w' ⟨rfl, k, rfl⟩
    exact ⟨by rw [HFB.out, HB.out], drewN_drewN2 _ _ _⟩
  have K1 := Lib.hid K1
  have HW1 := Lib.hid hw1
  clear hp hu hf hpic hw1
  go_wp2_with fail
  go_quiet ((first | with_reducible exact K1.out _))
  go_wp2
  go_ret
  exact ⟨rfl, by rw [HW1.out]; exact drewN_drewN2 _ _ _⟩

/-- A sample at a cell is what is about it. -/
theorem sample_q (W : World) (pb wd hi : Nat) (v : Value) (ks : List Int) (X Y : Int) (hX : X.natAbs ≤ 50) (hY : Y.natAbs ≤ 50) (hw : 0 < wd) (hh : 0 < hi) (hw2 : wd ≤ 24) (hh2 : hi ≤ 24) (hk : ∀ k ∈ ks, 0 ≤ k ∧ k ≤ 16) (h : PicAt W pb wd hi v (ks.map (fq 2)) 26) :
    Calls Try.prog 64 #[.pointer (some ⟨pb, 0, none⟩), .float .f32 (fq 0 X), .float .f32 (fq 0 Y)] W fun e w' => e = .returned (.tuple #[.float .f32 (fq 2 (ks.getD (ix X Y wd hi) 0)), .bool true]) ∧ Below W.heap.size W w' := by
  have o1 := Lib.hid (sampleOk_q X (W.alloc (.cells #[.pointer (some ⟨pb, 0, none⟩)] 83)) (by omega))
  have o2 := Lib.hid (sampleOk_q Y (W.alloc (.cells #[.pointer (some ⟨pb, 0, none⟩)] 83)) (by omega))
  have wx := fq_wide (g := 0) (by omega) (k := X) (by omega)
  have wy := fq_wide (g := 0) (by omega) (k := Y) (by omega)
  have nx := fq_narrow (g := 0) (by omega) (k := X) (by omega)
  have ny := fq_narrow (g := 0) (by omega) (k := Y) (by omega)
  have sx := fq_sub (g := 0) (a := X) (b := X) (by omega) (by omega) (by omega)
  have sy := fq_sub (g := 0) (a := Y) (b := Y) (by omega) (by omega) (by omega)
  rw [Int.sub_self, fq_zero] at sx sy
  have iy := fq_int (k := Y) (by omega)
  have KF1 := Lib.hid (fun w => floor_int X w (by omega))
  have KF2 := Lib.hid (fun w => floor_int Y w (by omega))
  have ga := ks_bd hk (ix X Y wd hi)
  have gb := ks_bd hk (ix X (Y + 1) wd hi)
  obtain ⟨m0, s1, s2, s3⟩ := mix_zero ga gb
  have KR := Lib.hid (fun (w : World) (pbx ubx fbx : Nat) (Y : Int) h1 h2 h3 h4 => sampleRow_q w pbx ubx fbx pb wd hi v ks X Y h1 h2 h3 (by omega) hw hh hw2 hh2 hk h4)
  have HPIC := Lib.hid h
  obtain ⟨fa, hfa⟩ : ∃ fa, fa = fq 2 (ks.getD (ix X Y wd hi) 0) := ⟨_, rfl⟩
  obtain ⟨fb, hfb⟩ : ∃ fb, fb = fq 2 (ks.getD (ix X (Y + 1) wd hi) 0) := ⟨_, rfl⟩
  generalize ks.getD (ix X (Y + 1) wd hi) 0 - ks.getD (ix X Y wd hi) 0 = dk at *
  generalize fq 2 dk = db at *
  rw [← hfa, ← hfb] at s1
  rw [← hfa] at s3
  have HFA := Lib.hid hfa
  have HFB := Lib.hid hfb
  generalize hfx : fq 0 X = fx at *
  generalize hfy : fq 0 Y = fy at *
  generalize hdx : dq 0 X = dx at *
  generalize hdy : dq 0 Y = dy at *
  have HFX := Lib.hid hfx
  have a1 := fres_some s1
  have a2 := fdr_some s1
  have a3 := fres_some s2
  have a4 := fdr_some s2
  have a5 := fres_some s3
  have a6 := fdr_some s3
  have a7 := fres_some sx
  have a8 := fdr_some sx
  have b7 := fres_some sy
  have b8 := fdr_some sy
  have c1 := cvr_some wx
  have c2 := cvd_some wx
  have c3 := cvr_some wy
  have c4 := cvd_some wy
  have c5 := cvr_some nx
  have c6 := cvd_some nx
  have c7 := cvr_some ny
  have c8 := cvd_some ny
  have hd0 : ∀ W : World, W.drewN 0 = W := fun _ => rfl
  have y1 : -50 ≤ Y := by omega
  have y2 : Y ≤ 50 := by omega
  clear s1 s2 s3 sx sy wx wy nx ny ga gb hfa hfb hfx hfy hdx hdy hk h hX hY
  go_enter Try.func64, Try.ntmps64
  go_wp2_with fail
  refine o1.out.mono ?_
  rintro e w' ⟨rfl, rfl⟩
  go_wp2_with fail
  refine o2.out.mono ?_
  rintro e w' ⟨rfl, rfl⟩
  go_wp2_with fail
  refine (KF1.out _).mono ?_
  rintro e w' ⟨rfl, rfl⟩
  go_wp2_with fail
  refine (KF2.out _).mono ?_
  rintro e w' ⟨rfl, rfl⟩
  go_wp2_with fail
  have ha1 := alb1 W (.cells #[.pointer (some ⟨pb, 0, none⟩)] 83)
  have ha2 := ha1.trans ((alb1 (W.alloc (.cells #[.pointer (some ⟨pb, 0, none⟩)] 83)) (.cells #[.float .f32 fx] 32)).mono ha1.size)
  have ha3 := ha2.trans ((alb1 ((W.alloc (.cells #[.pointer (some ⟨pb, 0, none⟩)] 83)).alloc (.cells #[.float .f32 fx] 32)) (.cells #[.float .f32 0] 32)).mono ha2.size)
  have k0 : (((W.alloc (.cells #[.pointer (some ⟨pb, 0, none⟩)] 83)).alloc (.cells #[.float .f32 fx] 32)).alloc (.cells #[.float .f32 0] 32)).cell? ⟨W.heap.size, 0, none⟩ = some (.pointer (some ⟨pb, 0, none⟩)) := by simp [go_sem]
  have k1 : (((W.alloc (.cells #[.pointer (some ⟨pb, 0, none⟩)] 83)).alloc (.cells #[.float .f32 fx] 32)).alloc (.cells #[.float .f32 0] 32)).cell? ⟨W.heap.size + 1, 0, none⟩ = some (.float .f32 fx) := by simp [go_sem]
  have k2 : (((W.alloc (.cells #[.pointer (some ⟨pb, 0, none⟩)] 83)).alloc (.cells #[.float .f32 fx] 32)).alloc (.cells #[.float .f32 0] 32)).cell? ⟨W.heap.size + 1 + 1, 0, none⟩ = some (.float .f32 0) := by simp [go_sem]
  have hp3 := HPIC.out.below ha3
  generalize (((W.alloc (.cells #[.pointer (some ⟨pb, 0, none⟩)] 83)).alloc (.cells #[.float .f32 fx] 32)).alloc (.cells #[.float .f32 0] 32)) = W3 at *
  have HA3 := Lib.hid ha3
  clear ha1 ha2 ha3
  have R1 := KR.out W3 W.heap.size (W.heap.size + 1) (W.heap.size + 1 + 1) Y k0 k1 k2 hp3
  have R2 := fun m => KR.out (W3.drewN m) W.heap.size (W.heap.size + 1) (W.heap.size + 1 + 1) (Y + 1) k0 k1 k2 (hp3.drewN m)
  rw [← HFA.out] at R1
  rw [← HFB.out] at R2
  have R2 := Lib.hid R2
  refine R1.mono ?_
  clear R1
  rintro e w' ⟨rfl, m1, rfl⟩
  go_wp2_with fail
  refine (R2.out _).mono ?_
  rintro e w' ⟨rfl, m2, rfl⟩
  go_wp2
  go_ret2
  exact ⟨by rw [HFA.out]; rfl, below_drewN HA3.out _⟩

end Go.Proofs.Ytialajgobpokmaa

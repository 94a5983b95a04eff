/- Prices over a flat picture. -/
import Derived.Test.YtfhlpabbacopjaaSv
namespace Go.Proofs.Ytfhlpabbacopjaa
open Go.RowKit
set_option maxRecDepth 100000
set_option linter.unusedVariables false
set_option linter.unusedSimpArgs false

theorem abs_zero_any (w : World) : Calls Try.prog 104 #[.float .f32 0] w fun e w' => e = .returned (.float .f32 0) ∧ w = w' := by
  go_enter Try.func104, Try.ntmps104
  go_wp2
  go_ret
  exact ⟨rfl, rfl⟩

theorem flatP1_gives {W0 : World} {qb v : Nat} (hv : v < 4294967296) (hq : W0.cell? ⟨qb, 0, none⟩ = some (.float .f32 v)) (hqb : qb < W0.heap.size) (wd hi : Nat) :
    Gives2 W0 (.func (.func 78) #[] #[.pointer (some ⟨qb, 0, none⟩)]) wd hi (fun _ _ => fl v) := by
  refine ⟨78, _, rfl, Try.call78, fun x y W hx hy hbW => ?_⟩
  have hq' : W.cell? ⟨qb, 0, none⟩ = some (.float .f32 v) := by rw [hbW.cell (p := ⟨qb, 0, none⟩) hqb]; exact hq
  clear hq
  show Calls _ _ #[.int .i64 x, .int .i64 y, .pointer (some ⟨qb, 0, none⟩)] _ _
  go_enter Try.func78, Try.ntmps78
  go_wp2
  go_ret
  exact ⟨v, rfl, hv, rfl, Below.refl _ _⟩

theorem flatPicture_ok (w : World) (wd hi v : Nat) (hv : v < 4294967296) (hs : szOk wd hi = true) :
    Calls Try.prog 33 #[.int .i64 wd, .int .i64 hi, .float .f32 v] w (MakesPicOk w wd hi fun _ _ => fl v) := by
  have hsp := szOk_spec hs
  have d1 : wd ≤ 24 := by omega
  have d2 : hi ≤ 24 := by omega
  have hb0 := below_two w (.cells #[.float .f32 v] 28) (.cells #[.int .i64 0, .int .i64 0, .slice none 0 0] 60)
  clear hsp
  go_enter Try.func33, Try.ntmps33
  go_wp2_with fail
  refine (sizeOk_any _ _ _).mono ?_
  rw [hs]
  rintro e w1 ⟨rfl, rfl⟩
  clear hs
  go_wp2_with fail
  refine (made_any _ wd hi _ _ d1 d2 (flatP1_gives (qb := w.heap.size) hv (by simp [go_sem]) (by simp; omega) wd hi)).mono ?_
  rintro e w2 ⟨a, cc, bs', rfl, hown, hcon, hb2⟩
  have hbb := hb0.trans (hb2.mono hb0.size)
  obtain ⟨hc2, hf2⟩ := bcellV hb2
  have hz2 : w.heap.size + 1 < w2.heap.size := by have := hb2.size; simp at this; omega
  go_wp2
  refine bodyPost_ret (v := .tuple #[.agg #[.int .i64 wd, .int .i64 hi, .slice a bs'.length cc], .bool true]) (by simp [results, Try.results33, go_sem, hc2, hz2]) rfl ?_
  exact ⟨a, cc, bs', rfl, (((hown.set (by first | omega | (simp; done) | (simp; omega)) _).set (by first | omega | (simp; done) | (simp; omega)) _).set (by first | omega | (simp; done) | (simp; omega)) _).mono (by first | omega | (simp; done) | (simp; omega)), hcon, ((hbb.setCell (by first | omega | (simp; done) | (simp; omega)) _).setCell (by first | omega | (simp; done) | (simp; omega)) _).setCell (by first | omega | (simp; done) | (simp; omega)) _⟩

theorem quo1 : ∀ k : Nat, k ≤ 64 → floatBits .quo .f32 (fq 2 k) 1065353216 = some (fq 2 k) := by
  have h : ∀ k : Fin 65, floatBits .quo .f32 (fq 2 k.val) 1065353216 = some (fq 2 k.val) := by decide +kernel
  intro k hk; exact h ⟨k, by omega⟩

/-- A flat picture of twos, in its box. -/
structure FlatAt (W : World) (gb wd hi : Nat) (v : Value) (bs : List Nat) : Prop where
  at_ : PicAt W gb wd hi v bs 60
  two : ∀ i, i < bs.length → bs.getD i 0 = 1073741824
theorem FlatAt.below {W W' : World} {gb wd hi : Nat} {v : Value} {bs : List Nat} (h : FlatAt W gb wd hi v bs) (hb : Below W.heap.size W W') : FlatAt W' gb wd hi v bs := ⟨h.at_.below hb, h.two⟩

theorem about_two (W : World) (gb wd hi : Nat) (v : Value) (bs : List Nat) (x y : Int) (hw : 0 < wd) (hh : 0 < hi) (hw2 : wd ≤ 24) (hh2 : hi ≤ 24) (h : FlatAt W gb wd hi v bs) (k : Nat) :
    Calls Try.prog 105 #[.pointer (some ⟨gb, 0, none⟩), .int .i64 x, .int .i64 y] (W.drewN k) fun e w' => e = .returned (.float .f32 1073741824) ∧ ∃ n, w' = W.drewN n := by
  refine (about_any (W.drewN k) gb wd hi v bs x y hw hh (by omega) (by omega) ⟨h.at_.box, ⟨h.at_.sl.1.drewN k, h.at_.sl.2⟩, h.at_.len⟩).mono ?_
  rintro e w' ⟨rfl, n, rfl⟩
  rw [h.two _ (by rw [h.at_.len]; exact ix_lt x y hw hh), World.drewN_drewN]
  exact ⟨rfl, _, rfl⟩

set_option maxHeartbeats 1000000 in
theorem over_gives (w0 : World) (wd hi pb gpb gb gw gh : Nat) (v : Value) (bs : List Nat) (one more : Int) (h1 : 0 ≤ one) (h2 : one ≤ more) (h3 : more ≤ 64)
    (hp : BoxN w0 pb #[.float .f32 (fq 2 one), .float .f32 (fq 2 more)] 30) (hg : w0.cell? ⟨gpb, 0, none⟩ = some (.pointer (some ⟨gb, 0, none⟩))) (hgpb : gpb < w0.heap.size)
    (hf : FlatAt w0 gb gw gh v bs) (d1 : 0 < gw) (d2 : 0 < gh) (d3 : gw ≤ 24) (d4 : gh ≤ 24) :
    GivesP w0 (.func (.func 103) #[] #[.pointer (some ⟨pb, 0, none⟩), .pointer (some ⟨gpb, 0, none⟩)]) wd hi (fun _ _ _ _ => (one, more)) := by
  refine ⟨103, _, _, rfl, Try.call103, fun x y u t W i1 i2 hW => ?_⟩
  show Calls _ _ #[.int .i64 x, .int .i64 y, .int .i64 u, .int .i64 t, .pointer (some ⟨pb, 0, none⟩), .pointer (some ⟨gpb, 0, none⟩)] _ _
  have hp' := hp.below hW
  have hg' : W.cell? ⟨gpb, 0, none⟩ = some (.pointer (some ⟨gb, 0, none⟩)) := by rw [hW.cell (p := ⟨gpb, 0, none⟩) hgpb]; exact hg
  have hf' := hf.below hW
  have ha : Below W.heap.size W (W.alloc (.cells #[.float .f32 0, .float .f32 0] 30)) := (Below.refl _ _).alloc (Nat.le_refl _) _
  have q1 : W.cell? ⟨pb, 0, none⟩ = some (.float .f32 (fq 2 one)) := hp'.cell 0
  have q2 : W.cell? ⟨pb, 1, none⟩ = some (.float .f32 (fq 2 more)) := hp'.cell 1
  have K := Lib.hid (fun (X Y : Int) k => about_two _ gb gw gh v bs X Y d1 d2 d3 d4 (hf'.below ha) k)
  have KA := Lib.hid (fun k => (abs_zero_any ((W.alloc (.cells #[.float .f32 0, .float .f32 0] 30)).drewN k)).mono (fun e w' (h : e = .returned (.float .f32 0) ∧ _ = w') => (⟨h.1, k, h.2.symm⟩ : e = .returned (.float .f32 0) ∧ ∃ m, w' = (W.alloc (.cells #[.float .f32 0, .float .f32 0] 30)).drewN m)))
  have s1 : floatBits .sub .f32 1073741824 1073741824 = some 0 := by decide +kernel
  have s2 : floatBits .add .f32 1065353216 0 = some 1065353216 := by decide +kernel
  obtain ⟨m, rfl⟩ := Int.eq_ofNat_of_zero_le (show 0 ≤ more by omega)
  have s3 := quo1 m (by omega)
  have r1 := fres_some s1
  have r2 := fdr_some s1
  have r3 := fres_some s2
  have r4 := fdr_some s2
  have l1 : le32 (fq 2 one) (fq 2 (m : Int)) = true := by rw [le32_fq (by omega) (by omega)]; simpa using h2
  have hd0 : ∀ W : World, W.drewN 0 = W := fun _ => rfl
  generalize fq 2 one = vo at *
  generalize fq 2 (m : Int) = vm at *
  have r5 := fres_some s3
  have r6 := fdr_some s3
  have l2 := hp'.lt
  have l3 : gpb < W.heap.size := Nat.lt_of_lt_of_le hgpb hW.size
  clear s1 s2 s3 hp hg hf hf' hp' hW
  go_enter Try.func103, Try.ntmps103
  go_wp2_with fail
  go_quiet ((first | with_reducible exact K.out x y _ | with_reducible exact K.out u t _ | with_reducible exact KA.out _))
  go_wp2
  refine bodyPost_ret (v := .agg #[.float .f32 vo, .float .f32 vm]) (by simp [results, Try.results103, go_sem]) rfl ⟨rfl, ?_⟩
  exact ((below_drewN ((Below.refl _ _).alloc (Nat.le_refl _) _) _).setCell (by simp) _).setCell (by simp) _

theorem overOk_yes (w : World) (wd hi dp : Nat) (sa sb : Option Addr) (n c n2 c2 : Nat) (hw : wd ≤ 24) (hh : hi ≤ 24) (hn : n2 ≤ 1000) (hv : vPic wd hi n2 = true) :
    Calls Try.prog 79 #[.agg #[.int .i64 wd, .int .i64 hi, .int .i64 dp, .slice sa n c], .agg #[.int .i64 wd, .int .i64 hi, .slice sb n2 c2]] w fun e w' => e = .returned (.bool true) ∧ Below w.heap.size w w' := by
  have hb0 := below_two w (.cells #[.int .i64 wd, .int .i64 hi, .int .i64 dp, .slice sa n c] 26) (.cells #[.int .i64 wd, .int .i64 hi, .slice sb n2 c2] 60)
  go_enter Try.func79, Try.ntmps79
  go_wp2_with fail
  refine (validPicture_any _ _ _ _ _ (by omega) _).mono ?_
  rw [hv]
  rintro e w1 ⟨rfl, hb1⟩
  obtain ⟨hc1, hf1⟩ := bcellV hb1
  have hz1 : w.heap.size + 1 < w1.heap.size := by have := hb1.size; simp at this; omega
  have hbb := hb0.trans (hb1.mono hb0.size)
  clear hb1 hb0
  go_wp2
  go_ret
  exact ⟨rfl, hbb⟩

theorem alike_yes (w : World) (wd hi dp : Nat) (sa sb : Option Addr) (n c c2 : Nat) (hv : vVol wd hi dp n = true) :
    Calls Try.prog 72 #[.agg #[.int .i64 wd, .int .i64 hi, .int .i64 dp, .slice sa n c], .agg #[.int .i64 wd, .int .i64 hi, .int .i64 dp, .slice sb n c2]] w fun e w' => e = .returned (.bool true) ∧ Below w.heap.size w w' := by
  obtain ⟨x1, x2, x3, e1, e2, e3, e4, b1, b2, b3, b4, b5, b6, b7, b8⟩ := vVol_spec hv
  have hn : n ≤ 2048 := by omega
  clear e1 e2 e3 e4 b1 b2 b3 b4 b5 b6 b7 b8
  have hb0 := below_two w (.cells #[.int .i64 wd, .int .i64 hi, .int .i64 dp, .slice sa n c] 26) (.cells #[.int .i64 wd, .int .i64 hi, .int .i64 dp, .slice sb n c2] 26)
  go_enter Try.func72, Try.ntmps72
  go_wp2_with fail
  refine (validVolume_any _ _ _ _ _ _ (by omega) _).mono ?_
  rw [hv]
  rintro e w1 ⟨rfl, hb1⟩
  obtain ⟨hc1, hf1⟩ := bcellV hb1
  have hz1 : w.heap.size + 1 < w1.heap.size := by have := hb1.size; simp at this; omega
  have hbb := hb0.trans (hb1.mono hb0.size)
  have hz1a : w.heap.size < w1.heap.size := by omega
  clear hb1 hb0
  go_wp2_with fail
  refine (validVolume_any _ _ _ _ _ _ (by omega) _).mono ?_
  rw [hv]
  rintro e w2 ⟨rfl, hb2⟩
  obtain ⟨hc2, hf2⟩ := bcellV hb2
  have hz2 : w.heap.size + 1 < w2.heap.size := by have := hb2.size; omega
  have hbc := hbb.trans (hb2.mono hbb.size)
  have hz2a : w.heap.size < w2.heap.size := by omega
  clear hb2 hbb
  go_wp2
  go_ret
  exact ⟨rfl, hbc⟩

theorem addV_ok (w : World) (wd hi dp b off c b2 off2 c2 : Nat) (bs bs2 : List Nat) (h : VolOk w wd hi dp b off c bs) (h2 : VolOk w wd hi dp b2 off2 c2 bs2) :
    Calls Try.prog 30 #[.agg #[.int .i64 wd, .int .i64 hi, .int .i64 dp, .slice (some ⟨b, off, none⟩) bs.length c], .agg #[.int .i64 wd, .int .i64 hi, .int .i64 dp, .slice (some ⟨b2, off2, none⟩) bs2.length c2]] w (MakesVolOk w wd hi dp fun x y d => fop .add (fl (gc bs wd dp x y d)) (fl (gc bs2 wd dp x y d))) := by
  obtain ⟨d1, d2, d3, d4, d5, d6, d7, d8⟩ := h.dims
  have hll : bs2.length = bs.length := by rw [h.len, h2.len]
  have hb0 := (below_two w (.cells #[.int .i64 wd, .int .i64 hi, .int .i64 dp, .slice (some ⟨b, off, none⟩) bs.length c] 26) (.cells #[.int .i64 wd, .int .i64 hi, .int .i64 dp, .slice (some ⟨b2, off2, none⟩) bs2.length c2] 26)).alloc (by simp; omega) (.cells #[.int .i64 0, .int .i64 0, .int .i64 0, .slice none 0 0] 26)
  have hP := h.at hb0 ((BoxN.first w _ _ _).below ((Below.refl _ _).alloc (Nat.le_refl _) _))
  have hP2 := h2.at hb0 ((BoxN.second w _ _ _).below ((Below.refl _ _).alloc (Nat.le_refl _) _))
  have hV := h.vl
  rw [hll] at hP2 hb0 hP ⊢
  have HP := Lib.hid hP
  have HP2 := Lib.hid hP2
  have HB := Lib.hid hb0
  clear hP hP2 hll hb0 h h2
  go_enter Try.func30, Try.ntmps30
  go_wp2_with fail
  refine (alike_yes _ _ _ _ _ _ _ _ _ hV).mono ?_
  rintro e w1 ⟨rfl, hb1⟩
  obtain ⟨hc1, hf1⟩ := bcellV hb1
  have hz1 : w.heap.size + 2 < w1.heap.size := by have := hb1.size; simp at this; omega
  have hbb := HB.out.trans (hb1.mono HB.out.size)
  have HB1 := Lib.hid hb1
  clear hb1
  go_wp2_with fail
  refine (revolume_ok w1 wd hi dp _ _ c _ _ hV (addV_gives (HP.out.below HB1.out) (HP2.out.below HB1.out) d3 d4 d5 d6)).mono ?_
  rintro e w2 ⟨q, cc, bs', rfl, hown, hcon, hb2⟩
  have hbc := hbb.trans (hb2.mono hbb.size)
  obtain ⟨hc2, hf2⟩ := bcellV hb2
  have hz2 : w.heap.size + 2 < w2.heap.size := by have := hb2.size; omega
  go_wp2
  refine bodyPost_ret (v := .tuple #[.agg #[.int .i64 wd, .int .i64 hi, .int .i64 dp, .slice (some ⟨q, 0, none⟩) bs'.length cc], .bool true]) (by simp [results, Try.results30, go_sem, hc2, hz2, hc1, hz1]) rfl ?_
  exact ⟨q, cc, bs', rfl, ((((hown.set (by first | omega | (simp; done) | (simp; omega)) _).set (by first | omega | (simp; done) | (simp; omega)) _).set (by first | omega | (simp; done) | (simp; omega)) _).set (by first | omega | (simp; done) | (simp; omega)) _).mono (by first | omega | (simp; done) | (simp; omega)), hcon, (((hbc.setCell (by first | omega | (simp; done) | (simp; omega)) _).setCell (by first | omega | (simp; done) | (simp; omega)) _).setCell (by first | omega | (simp; done) | (simp; omega)) _).setCell (by first | omega | (simp; done) | (simp; omega)) _⟩

end Go.Proofs.Ytfhlpabbacopjaa

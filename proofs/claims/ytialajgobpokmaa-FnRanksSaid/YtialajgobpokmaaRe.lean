/- Pictures scaled; slopes; norms. -/
import Derived.Test.YtialajgobpokmaaRd
import Derived.StillTactics
namespace Go.Proofs.Ytialajgobpokmaa
open Go.RowKit
set_option maxRecDepth 100000
set_option linter.unusedVariables false
set_option linter.unusedSimpArgs false

theorem scaleP_gives {W0 : World} {pb wd hi qb rb by_ ad : Nat} {v : Value} {bs : List Nat} (hq : W0.cell? ⟨qb, 0, none⟩ = some (.float .f32 by_)) (hqb : qb < W0.heap.size) (hr : W0.cell? ⟨rb, 0, none⟩ = some (.float .f32 ad)) (hrb : rb < W0.heap.size) (h : PicAt W0 pb wd hi v bs 26) (hw : 0 < wd) (hh : 0 < hi) (hw2 : wd ≤ 24) (hh2 : hi ≤ 24) :
    Gives2 W0 (.func (.func 54) #[] #[.pointer (some ⟨pb, 0, none⟩), .pointer (some ⟨qb, 0, none⟩), .pointer (some ⟨rb, 0, none⟩)]) wd hi (fun x y => fop .add (fop .mul (fl (bs.getD (ix x y wd hi) 0)) (fl by_)) (fl ad)) := by
  refine ⟨54, _, rfl, Try.call54, fun x y W hx hy hbW => ?_⟩
  have hp := h.below hbW
  have hq' : W.cell? ⟨qb, 0, none⟩ = some (.float .f32 by_) := by rw [hbW.cell (p := ⟨qb, 0, none⟩) hqb]; exact hq
  have hr' : W.cell? ⟨rb, 0, none⟩ = some (.float .f32 ad) := by rw [hbW.cell (p := ⟨rb, 0, none⟩) hrb]; exact hr
  have K := Lib.hid (fun n => about_any (W.drewN n) pb wd hi v bs x y hw hh (by omega) (by omega) (hp.drewN n))
  have K0 := Lib.hid (about_any W.drew pb wd hi v bs x y hw hh (by omega) (by omega) (hp.drewN 1))
  have K1 := Lib.hid (about_any W pb wd hi v bs x y hw hh (by omega) (by omega) hp)
  generalize hgz : bs.getD (ix x y wd hi) 0 = z at *
  have HGZ := Lib.hid hgz
  clear hgz
  clear hq hr h hp
  show Calls _ _ #[.int .i64 x, .int .i64 y, .pointer (some ⟨pb, 0, none⟩), .pointer (some ⟨qb, 0, none⟩), .pointer (some ⟨rb, 0, none⟩)] _ _
  go_enter Try.func54, Try.ntmps54
  go_wp2_with fail
  go_region_law (first | (go_simp; (with_reducible refine K0.out.mono ?_); rintro e w' ⟨rfl, m, rfl⟩) | (go_simp; (with_reducible refine K1.out.mono ?_); rintro e w' ⟨rfl, m, rfl⟩) | (go_simp; (with_reducible refine (K.out _).mono ?_); rintro e w' ⟨rfl, m, rfl⟩))
  all_goals
    go_wp2
    go_ret
    exact ⟨_, rfl, fres_lt _ _ _ _, by rw [fl_fres, fl_fres, HGZ.out], below_drewN (Below.refl _ _) _⟩

theorem scaleP_ok (w : World) (wd hi : Nat) (sa : Option Addr) (c : Nat) (bs : List Nat) (by_ ad : Nat) (h : PicOk w wd hi sa c bs) :
    Calls Try.prog 19 #[.agg #[.int .i64 wd, .int .i64 hi, .slice sa bs.length c], .float .f32 by_, .float .f32 ad] w (MakesPicOk w wd hi fun x y => fop .add (fop .mul (fl (bs.getD (ix x y wd hi) 0)) (fl by_)) (fl ad)) := by
  obtain ⟨d1, d2, d3, d4, d5⟩ := h.dims
  have hV := h.vl
  have hb0 := ((below_two w (.cells #[.int .i64 wd, .int .i64 hi, .slice sa bs.length c] 26) (.cells #[.float .f32 by_] 32)).alloc (by simp; omega) (.cells #[.float .f32 ad] 32)).alloc (by simp; omega) (.cells #[.int .i64 0, .int .i64 0, .slice none 0 0] 26)
  have hP := h.at hb0 (((box_first w _ _ _ _ _).below ((Below.refl _ _).alloc (Nat.le_refl _) _)).below ((Below.refl _ _).alloc (Nat.le_refl _) _))
  generalize bs.length = N at *
  go_enter Try.func19, Try.ntmps19
  go_wp2_with fail
  refine (remade_ok _ wd hi _ sa c _ _ hV (scaleP_gives (qb := w.heap.size + 1) (rb := w.heap.size + 2) (by_ := by_) (ad := ad) (by simp [go_sem]) (by first | omega | (simp; done) | (simp; omega)) (by simp [go_sem]) (by first | omega | (simp; done) | (simp; omega)) hP d1 d2 d3 d4)).mono ?_
  rintro e w2 ⟨a, cc, bs', rfl, hown, hcon, hb2⟩
  have hbb := hb0.trans (hb2.mono hb0.size)
  obtain ⟨hc2, hf2⟩ := bcell hb2
  have hz2 : w.heap.size + 3 < w2.heap.size := by have := hb2.size; simp at this; omega
  go_wp2
  refine bodyPost_ret (v := .tuple #[.agg #[.int .i64 wd, .int .i64 hi, .slice a bs'.length cc], .bool true]) (by simp [results, Try.results19, go_sem, hc2, hz2]) rfl ?_
  exact ⟨a, cc, bs', rfl, (((hown.set (by first | omega | (simp; done) | (simp; omega)) _).set (by first | omega | (simp; done) | (simp; omega)) _).set (by first | omega | (simp; done) | (simp; omega)) _).mono (by first | omega | (simp; done) | (simp; omega)), hcon, ((hbb.setCell (by first | omega | (simp; done) | (simp; omega)) _).setCell (by first | omega | (simp; done) | (simp; omega)) _).setCell (by first | omega | (simp; done) | (simp; omega)) _⟩
theorem scaleP_pw (w : World) (wd hi N q c : Nat) (bs : List Nat) (by_ ad : Nat) (hv : vPic wd hi N = true) (h : PW w q c N bs) :
    Calls Try.prog 19 #[.agg #[.int .i64 wd, .int .i64 hi, .slice (some ⟨q, 0, none⟩) N c], .float .f32 by_, .float .f32 ad] w (MakesPW w wd hi N fun x y => fop .add (fop .mul (fl (bs.getD (ix x y wd hi) 0)) (fl by_)) (fl ad)) := by
  have k := scaleP_ok w wd hi (some ⟨q, 0, none⟩) c bs by_ ad (h.ok hv)
  rw [h.len] at k
  exact k.mono fun e w' hh => hh.pw (vN hv).1 (vN hv).2.1

theorem SlF.setAway {W : World} {q c N ob i : Nat} {bs : List Nat} (h : SlF W (.slice (some ⟨q, 0, none⟩) N c) bs) (hne : ob ≠ q) (v : Value) : SlF (W.setCell ⟨ob, i, none⟩ v) (.slice (some ⟨q, 0, none⟩) N c) bs :=
  ⟨h.1.grown (grown_setCell _ _ _) (.inr (by simpa [Value.ownBlock] using (Ne.symm hne))), h.2⟩
def slpG (bs : List Nat) (wd hi : Nat) (x y : Nat) : Nat := fop .quo (fop .sub (fl (bs.getD (ix ((x : Int) + 1) y wd hi) 0)) (fl (bs.getD (ix ((x : Int) - 1) y wd hi) 0))) 1073741824
theorem slope_gives {W0 : World} {pb wd hi : Nat} {v : Value} {bs : List Nat} (h : PicAt W0 pb wd hi v bs 26) (hw : 0 < wd) (hh : 0 < hi) (hw2 : wd ≤ 24) (hh2 : hi ≤ 24) :
    Gives2 W0 (.func (.func 57) #[] #[.pointer (some ⟨pb, 0, none⟩)]) wd hi (slpG bs wd hi) := by
  refine ⟨57, _, rfl, Try.call57, fun x y W hx hy hbW => ?_⟩
  have hp := h.below hbW
  have b1 : (x : Int) < 24 := by omega
  have b2 : (y : Int) < 24 := by omega
  show Calls _ _ #[.int .i64 x, .int .i64 y, .pointer (some ⟨pb, 0, none⟩)] _ _
  go_enter Try.func57, Try.ntmps57
  go_wp2_with fail
  refine (about_any _ pb wd hi v bs _ _ hw hh (by omega) (by omega) hp).mono ?_
  rintro e w' ⟨rfl, n1, rfl⟩
  go_wp2_with fail
  refine (about_any _ pb wd hi v bs _ _ hw hh (by omega) (by omega) (by exact (hp.drewN _))).mono ?_
  rintro e w' ⟨rfl, n2, rfl⟩
  go_wp2
  go_ret
  exact ⟨_, rfl, fres_lt _ _ _ _, by rw [fl_fres, fl_fres, fl_c2]; rfl, below_drewN (Below.refl _ _) _⟩

theorem slope_ok (w : World) (wd hi : Nat) (sa : Option Addr) (c : Nat) (bs : List Nat) (h : PicOk w wd hi sa c bs) :
    Calls Try.prog 23 #[.agg #[.int .i64 wd, .int .i64 hi, .slice sa bs.length c]] w (MakesPicOk w wd hi (slpG bs wd hi)) := by
  obtain ⟨d1, d2, d3, d4, d5⟩ := h.dims
  have hV := h.vl
  have hb0 := below_two w (.cells #[.int .i64 wd, .int .i64 hi, .slice sa bs.length c] 26) (.cells #[.int .i64 0, .int .i64 0, .slice none 0 0] 26)
  have hP := h.at hb0 (box_first w _ _ _ _ _)
  generalize bs.length = N at *
  go_enter Try.func23, Try.ntmps23
  go_wp2_with fail
  refine (remade_ok _ wd hi _ sa c _ _ hV (slope_gives hP d1 d2 d3 d4)).mono ?_
  rintro e w2 ⟨a, cc, bs', rfl, hown, hcon, hb2⟩
  have hbb := hb0.trans (hb2.mono hb0.size)
  obtain ⟨hc2, hf2⟩ := bcell hb2
  have hz2 : w.heap.size + 1 < w2.heap.size := by have := hb2.size; simp at this; omega
  go_wp2
  refine bodyPost_ret (v := .tuple #[.agg #[.int .i64 wd, .int .i64 hi, .slice a bs'.length cc], .bool true]) (by simp [results, Try.results23, go_sem, hc2, hz2]) rfl ?_
  exact ⟨a, cc, bs', rfl, (((hown.set (by first | omega | (simp; done) | (simp; omega)) _).set (by first | omega | (simp; done) | (simp; omega)) _).set (by first | omega | (simp; done) | (simp; omega)) _).mono (by first | omega | (simp; done) | (simp; omega)), hcon, ((hbb.setCell (by first | omega | (simp; done) | (simp; omega)) _).setCell (by first | omega | (simp; done) | (simp; omega)) _).setCell (by first | omega | (simp; done) | (simp; omega)) _⟩
theorem slope_pw (w : World) (wd hi N q c : Nat) (bs : List Nat) (hv : vPic wd hi N = true) (h : PW w q c N bs) :
    Calls Try.prog 23 #[.agg #[.int .i64 wd, .int .i64 hi, .slice (some ⟨q, 0, none⟩) N c]] w (MakesPW w wd hi N (slpG bs wd hi)) := by
  have k := slope_ok w wd hi (some ⟨q, 0, none⟩) c bs (h.ok hv)
  rw [h.len] at k
  exact k.mono fun e w' hh => hh.pw (vN hv).1 (vN hv).2.1

theorem MakesPicOk.pwq {w w' : World} {e : Ending} {wd hi N : Nat} {g : Nat → Nat → Nat} (hN : N = wd * hi) (h0 : 0 < N) (h : MakesPicOk w wd hi g e w') : ∃ q c bs, e = .returned (.tuple #[.agg #[.int .i64 wd, .int .i64 hi, .slice (some ⟨q, 0, none⟩) N c], .bool true]) ∧ PW w' q c N bs ∧ bs.map fl = tab (hi * wd) (fun i => g (i % wd) (i / wd)) ∧ Below w.heap.size w w' ∧ w.heap.size ≤ q := by
  obtain ⟨a, c, bs, rfl, ho, hc, hb⟩ := h
  have hl := tab_len hc
  rw [← hN] at hl
  rw [hl] at ho
  obtain ⟨q, rfl⟩ := own_ptr ho (by omega)
  exact ⟨q, c, bs, by rw [hl], ⟨ho.sl, (ho.lt (k := q) rfl).2, hl⟩, hc, hb, (ho.lt (k := q) rfl).1⟩
/-- The norm of a grey in quarters. -/
def nrm (n m : Nat) : Nat := fop .quo (fq 2 n) (fq 2 m)
def nrmF (L H k : Int) : Nat := if L = H then 0 else nrm (k - L).toNat (H - L).toNat
theorem norm_gives {W0 : World} {pb wd hi lb hb : Nat} {v : Value} {ks : List Int} {L H : Int} (hl : W0.cell? ⟨lb, 0, none⟩ = some (.float .f32 (fq 2 L))) (hlb : lb < W0.heap.size) (hh' : W0.cell? ⟨hb, 0, none⟩ = some (.float .f32 (fq 2 H))) (hhb : hb < W0.heap.size) (h : PicAt W0 pb wd hi v (ks.map (fq 2)) 26) (hw : 0 < wd) (hh : 0 < hi) (hw2 : wd ≤ 24) (hh2 : hi ≤ 24)
    (hL : 0 ≤ L) (hLH : L ≤ H) (hH : H ≤ 16) (hk : ∀ i, i < wd * hi → L ≤ ks.getD i 0 ∧ ks.getD i 0 ≤ H) :
    Gives2 W0 (.func (.func 58) #[] #[.pointer (some ⟨lb, 0, none⟩), .pointer (some ⟨hb, 0, none⟩), .pointer (some ⟨pb, 0, none⟩)]) wd hi (fun x y => nrmF L H (ks.getD (ix x y wd hi) 0)) := by
  refine ⟨58, _, rfl, Try.call58, fun x y W hx hy hbW => ?_⟩
  have hp := h.below hbW
  have hq' : W.cell? ⟨lb, 0, none⟩ = some (.float .f32 (fq 2 L)) := by rw [hbW.cell (p := ⟨lb, 0, none⟩) hlb]; exact hl
  have hr' : W.cell? ⟨hb, 0, none⟩ = some (.float .f32 (fq 2 H)) := by rw [hbW.cell (p := ⟨hb, 0, none⟩) hhb]; exact hh'
  have K := Lib.hid (fun n => about_q (W.drewN n) pb wd hi v ks x y hw hh (by omega) (by omega) (hp.drewN n))
  have K0 := Lib.hid (about_q W.drew pb wd hi v ks x y hw hh (by omega) (by omega) (hp.drewN 1))
  have K1 := Lib.hid (about_q W pb wd hi v ks x y hw hh (by omega) (by omega) hp)
  have hkb := hk (ix x y wd hi) (ix_lt _ _ hw hh)
  generalize hgk : ks.getD (ix x y wd hi) 0 = k at *
  have HGK := Lib.hid hgk
  clear hgk
  have eq0 := eq32_fq (g := 2) (a := L) (b := H) (by omega) (by omega)
  have s1 := fq_sub (g := 2) (a := k) (b := L) (by omega) (by omega) (by omega)
  have s2 := fq_sub (g := 2) (a := H) (b := L) (by omega) (by omega) (by omega)
  have f1 := fl_fq (g := 2) (k := k - L) (by omega)
  have f2 := fl_fq (g := 2) (k := H - L) (by omega)
  have he : L ≠ H → nrmF L H k = fop .quo (fq 2 (k - L)) (fq 2 (H - L)) := by
    intro hne
    unfold nrmF nrm
    rw [if_neg hne, show ((k - L).toNat : Int) = k - L by omega, show ((H - L).toNat : Int) = H - L by omega]
  have HE := Lib.hid he
  have HZ := Lib.hid (fun e : L = H => show nrmF L H k = 0 by unfold nrmF; rw [if_pos e])
  generalize fq 2 (k - L) = t1 at *
  generalize fq 2 (H - L) = t2 at *
  generalize fq 2 k = kw at *
  generalize fq 2 L = lw at *
  generalize fq 2 H = hw_ at *
  have a1 := fres_some s1
  have a2 := fdr_some s1
  have a3 := fres_some s2
  have a4 := fdr_some s2
  have hd0 : ∀ W : World, W.drewN 0 = W := fun _ => rfl
  have F1 := Lib.hid f1
  have F2 := Lib.hid f2
  show Calls _ _ #[.int .i64 x, .int .i64 y, .pointer (some ⟨lb, 0, none⟩), .pointer (some ⟨hb, 0, none⟩), .pointer (some ⟨pb, 0, none⟩)] _ _
  by_cases e : L = H
  · rw [decide_eq_true e] at eq0
    have EE := Lib.hid e
    clear hl hh' h hp s1 s2 he hkb hLH hL hH f1 f2 e
    go_enter Try.func58, Try.ntmps58
    go_wp2
    go_ret
    exact ⟨0, rfl, by decide, by rw [HGK.out, HZ.out EE.out]; rfl, Below.refl _ _⟩
  · rw [decide_eq_false e] at eq0
    have EE := Lib.hid e
    clear hl hh' h hp s1 s2 he hkb hLH hL hH f1 f2 e
    go_enter Try.func58, Try.ntmps58
    go_wp2_with fail
    go_region_law (first | (go_simp; (with_reducible refine K0.out.mono ?_); rintro e w' ⟨rfl, m, rfl⟩) | (go_simp; (with_reducible refine K1.out.mono ?_); rintro e w' ⟨rfl, m, rfl⟩) | (go_simp; (with_reducible refine (K.out _).mono ?_); rintro e w' ⟨rfl, m, rfl⟩))
    all_goals
      go_wp2
      go_ret
      exact ⟨_, rfl, fres_lt _ _ _ _, by rw [fl_fres, F1.out, F2.out, HGK.out]; exact (HE.out EE.out).symm, below_drewN (Below.refl _ _) _⟩

theorem norm_pw (w : World) (wd hi N q c : Nat) (ks : List Int) (L H : Int) (hv : vPic wd hi N = true) (h : PW w q c N (ks.map (fq 2))) (g1 : (rwF (ks.map (fq 2))).1 = fq 2 L) (g2 : (rwF (ks.map (fq 2))).2.1 = fq 2 H) (g3 : (rwF (ks.map (fq 2))).2.2 = true) (hL : 0 ≤ L) (hLH : L ≤ H) (hH : H ≤ 16) (hk : ∀ i, i < N → L ≤ ks.getD i 0 ∧ ks.getD i 0 ≤ H) (hk2 : ∀ k ∈ ks, 0 ≤ k ∧ k ≤ 16) :
    Calls Try.prog 24 #[.agg #[.int .i64 wd, .int .i64 hi, .slice (some ⟨q, 0, none⟩) N c]] w (MakesPW w wd hi N fun x y => nrmF L H (ks.getD (ix x y wd hi) 0)) := by
  obtain ⟨e1, e2, d1, d2, d3, d4, e7⟩ := vN hv
  have hfin : ∀ b ∈ ks.map (fq 2), fin32 b = true := by
    intro b hb
    obtain ⟨k, h1, rfl⟩ := List.mem_map.1 hb
    exact fq_fin (by have := hk2 k h1; omega)
  have hb0 := below_two w (.cells #[.int .i64 wd, .int .i64 hi, .slice (some ⟨q, 0, none⟩) N c] 26) (.cells #[.int .i64 0, .int .i64 0, .slice none 0 0] 26)
  have B := box_first w (.int .i64 wd) (.int .i64 hi) (.slice (some ⟨q, 0, none⟩) N c) 26 (.cells #[.int .i64 0, .int .i64 0, .slice none 0 0] 26)
  have R := box_second w (.int .i64 0) (.int .i64 0) (.slice none 0 0) 26 (.cells #[.int .i64 wd, .int .i64 hi, .slice (some ⟨q, 0, none⟩) N c] 26)
  have p1 := h.below hb0
  have HE1 := Lib.hid e1
  have HK := Lib.hid hk
  have KR := Lib.hid (range_pw _ wd hi N q c (ks.map (fq 2)) hv p1 hfin)
  rw [g1, g2, g3] at KR
  have HV := Lib.hid hv
  clear e1 h hk hk2 g1 g2 g3 hfin hv
  go_enter Try.func24, Try.ntmps24
  go_wp2_with fail
  refine KR.out.mono ?_
  rintro e w1 ⟨rfl, hb1⟩
  have hbb1 := hb0.trans (hb1.mono hb0.size)
  have B1 := B.below hb1
  have R1 := R.below hb1
  have q1 := p1.below hb1
  obtain ⟨lw, hlw⟩ : ∃ lw, lw = fq 2 L := ⟨_, rfl⟩
  obtain ⟨hw, hhw⟩ : ∃ hw, hw = fq 2 H := ⟨_, rfl⟩
  rw [← hlw, ← hhw]
  have HLW := Lib.hid hlw
  have HHW := Lib.hid hhw
  have hb2 := below_two w1 (.cells #[.float .f32 lw] 32) (.cells #[.float .f32 hw] 32)
  have B2 := B1.below hb2
  have R2 := R1.below hb2
  have q2 := q1.below hb2
  have hbb2 := hbb1.trans (hb2.mono hbb1.size)
  have hsz1 : w.heap.size + 2 ≤ w1.heap.size := by have := hb1.size; simp at this; omega
  obtain ⟨z0, z1, z2, f0, f1, f2⟩ := B2.cells
  clear hlw hhw B B1 R R1 p1 q1 hb0 hb1 hbb1 hb2 KR
  go_wp2_with fail
  have P : PicAt ((w1.alloc (.cells #[.float .f32 lw] 32)).alloc (.cells #[.float .f32 hw] 32)) w.heap.size wd hi (.slice (some ⟨q, 0, none⟩) N c) (ks.map (fq 2)) 26 := ⟨B2, q2.sl, by rw [q2.len]; exact HE1.out⟩
  refine (remade_ok _ wd hi N (some ⟨q, 0, none⟩) c _ _ HV.out (norm_gives (lb := w1.heap.size) (hb := w1.heap.size + 1) (L := L) (H := H) (by rw [← HLW.out]; simp [go_sem]) (by simp; omega) (by rw [← HHW.out]; simp [go_sem]) (by simp) P d1 d2 d3 d4 hL hLH hH (fun i hi_ => HK.out i (by rw [HE1.out]; exact hi_)))).mono ?_
  rintro e w2 hmk
  obtain ⟨qr, cr, bsr, he, prr, conr, hbr, hqr⟩ := MakesPicOk.pwq HE1.out e2 hmk
  subst he
  have R3 := R2.below hbr
  have hbb3 := hbb2.trans (hbr.mono hbb2.size)
  obtain ⟨y0, y1, y2, y3, y4, y5⟩ := R3.cells
  have hne : qr ≠ w.heap.size + 1 := by simp at hqr; omega
  have HR3 := Lib.hid R3
  have HPR := Lib.hid prr
  have HB3 := Lib.hid hbb3
  clear R2 R3 prr hbr hbb2 hbb3 hmk P q2 B2 z0 z1 z2 f0 f1 f2
  go_wp2
  refine bodyPost_ret (v := .tuple #[.agg #[.int .i64 wd, .int .i64 hi, .slice (some ⟨qr, 0, none⟩) N cr], .bool true]) (by simp [results, Try.results24, go_sem, y0, y1, y2]) rfl ?_
  refine ⟨qr, cr, bsr, rfl, ⟨?_, by simpa using HPR.out.lt, HPR.out.len⟩, conr, ((HB3.out.setCell (by first | omega | (simp; done) | (simp; omega)) _).setCell (by first | omega | (simp; done) | (simp; omega)) _).setCell (by first | omega | (simp; done) | (simp; omega)) _⟩
  exact ((HPR.out.sl.setAway (Ne.symm hne) _).setAway (Ne.symm hne) _).setAway (Ne.symm hne) _

end Go.Proofs.Ytialajgobpokmaa

/- SameAlbum, SliceAlbum. -/
import Derived.Test.YtkifhajkmgeafaaZi
import Derived.Test.YtkifhajkmgeafaaSame
namespace Go.Proofs.Ytkifhajkmgeafaa
open Go.RowKit
set_option maxRecDepth 100000
set_option linter.unusedVariables false
set_option linter.unusedSimpArgs false

set_option maxHeartbeats 2000000 in
theorem equalA_any (w : World) (B1 B2 : Nat) (sa sb : Option Addr) (k ca cb : Nat) (xs ys : List PicX) (h1 : OwnA w B1 (.slice sa k ca) xs) (h2 : OwnA w B2 (.slice sb k cb) ys) (hx : xs.length = k) (hy : ys.length = k) (hk : k ≤ 100) (hs : Sames (xs.map PicX.p) (ys.map PicX.p)) :
    Calls Try.prog 40 #[.slice sa k ca, .slice sb k cb, .func (.func 41) #[] #[]] w fun e w' => e = .returned (.bool true) ∧ Below w.heap.size w w' := by
  have HA := Lib.hid h1
  have HB := Lib.hid h2
  have HS := Lib.hid (And.intro hs (And.intro hx hy))
  clear h1 h2 hs hx hy
  go_enter Try.func40, Try.ntmps40
  go_wp2_with fail
  go_loopw [17] (fun v17 wr => ∃ i : Nat, v17 = .int .i64 i ∧ i ≤ k ∧ Below w.heap.size w wr) (fun v17 _ => k - (intOf v17).toNat)
  case atStart => exact ⟨0, rfl, Nat.zero_le _, Below.refl _ _⟩
  case round =>
    obtain ⟨i, rfl, hi, hb⟩ := hrel
    by_cases hlt : i < k
    · obtain ⟨g, x, hx, hxi, rfl, hgl, p0, p1, p2⟩ := (HA.out.below hb).atk HS.out.2.1 i hlt
      obtain ⟨g2, y, hy, hyi, rfl, hgl2, r0, r1, r2⟩ := (HB.out.below hb).atk HS.out.2.2 i hlt
      have hltI : (i : Int) < (k : Int) := by omega
      obtain ⟨e1, e2, e3⟩ : x.p.same y.p := by
        have := HS.out.1.get i (by rw [List.length_map, HS.out.2.1]; exact hlt) (by rw [List.length_map, HS.out.2.2]; exact hlt)
        rw [List.getElem_map, List.getElem_map] at this
        have q1 : xs[i]'(by rw [HS.out.2.1]; exact hlt) = x := by
          have := hxi; rw [List.getElem?_eq_getElem (by rw [HS.out.2.1]; exact hlt)] at this; injection this
        have q2 : ys[i]'(by rw [HS.out.2.2]; exact hlt) = y := by
          have := hyi; rw [List.getElem?_eq_getElem (by rw [HS.out.2.2]; exact hlt)] at this; injection this
        rwa [q1, q2] at this
      have hxo := (HA.out.pic x hx).1
      have hyo := (HB.out.pic y hy).1
      obtain ⟨W2, hW2⟩ : ∃ W, W = (wr.alloc (.cells #[.int .i64 x.p.wd, .int .i64 x.p.hi, x.sl] 41)).alloc (.cells #[.int .i64 y.p.wd, .int .i64 y.p.hi, y.sl] 41) := ⟨_, rfl⟩
      have hbW : Below wr.heap.size wr W2 := by rw [hW2]; exact below_two _ _ _
      have hbX := hb.trans (hbW.mono hb.size)
      have KS := Lib.hid (samePicture_yes W2 (y.p.wd : Int) (y.p.hi : Int) (some ⟨x.q, 0, none⟩) (some ⟨y.q, 0, none⟩) x.p.bs.length y.p.bs.length x.c y.c x.p.bs y.p.bs (hxo.below hbX).sl (hyo.below hbX).sl e3)
      have m0 := (BoxN.first wr #[.int .i64 x.p.wd, .int .i64 x.p.hi, x.sl] 41 (.cells #[.int .i64 y.p.wd, .int .i64 y.p.hi, y.sl] 41))
      have m1 := (BoxN.second wr #[.int .i64 y.p.wd, .int .i64 y.p.hi, y.sl] 41 (.cells #[.int .i64 x.p.wd, .int .i64 x.p.hi, x.sl] 41))
      obtain ⟨a0, a1, a2, -, -, -⟩ := m0.three.cells
      obtain ⟨b0, b1, b2, -, -, -⟩ := m1.three.cells
      have gg : ∀ o, (wr.alloc o).cell? ⟨g2, i * 3, none⟩ = some (.int .i64 (y.p.wd : Int)) ∧ (wr.alloc o).cell? ⟨g2, i * 3 + 1, none⟩ = some (.int .i64 (y.p.hi : Int)) ∧ (wr.alloc o).cell? ⟨g2, i * 3 + 2, none⟩ = some y.sl := fun o => by
        have hq : Below wr.heap.size wr (wr.alloc o) := (Below.refl _ _).alloc (Nat.le_refl _) _
        exact ⟨by rw [hq.cell (p := ⟨g2, i * 3, none⟩) hgl2]; exact r0, by rw [hq.cell (p := ⟨g2, i * 3 + 1, none⟩) hgl2]; exact r1, by rw [hq.cell (p := ⟨g2, i * 3 + 2, none⟩) hgl2]; exact r2⟩
      obtain ⟨t0, t1, t2⟩ := gg (.cells #[.int .i64 x.p.wd, .int .i64 x.p.hi, x.sl] 41)
      have HW2 := Lib.hid hW2
      have HBX := Lib.hid hbX
      unfold PicX.sl at *
      generalize x.p.wd = wx at *
      generalize y.p.wd = wd at *
      subst e1
      generalize x.p.hi = hx_ at *
      generalize y.p.hi = hi_ at *
      subst e2
      clear e3 hx hy hxi hyi hxo hyo hbW hbX hW2 gg hb m0 m1
      generalize x.p.bs.length = n at *
      generalize y.p.bs.length = n2 at *
      go_wp2_with fail
      rw [← HW2.out]
      refine KS.out.mono ?_
      rintro e w3 ⟨rfl, hb3⟩
      have HB3 := Lib.hid (HBX.out.trans (hb3.mono HBX.out.size))
      clear hb3 p0 p1 p2 r0 r1 r2 a0 a1 a2 b0 b1 b2 t0 t1 t2
      go_wp2
      go_roundw
      case rel => exact ⟨i + 1, by go_num, by omega, HB3.out⟩
      case measure => simp [intOf]; omega
    · obtain rfl : k = i := by omega
      go_wp2
      go_ret
      exact ⟨rfl, hb⟩

/-- Albums of the same pictures are the same. -/
theorem sameAlbum_yes (w : World) (B1 B2 : Nat) (v1 v2 : Value) (xs ys : List PicX) (h1 : OwnA w B1 v1 xs) (h2 : OwnA w B2 v2 ys) (hk : xs.length ≤ 8) (hs : Sames (xs.map PicX.p) (ys.map PicX.p)) :
    Calls Try.prog 13 #[.agg #[v1], .agg #[v2]] w fun e w' => e = .returned (.bool true) ∧ Below w.heap.size w w' := by
  obtain ⟨W0, hW0⟩ : ∃ W, W = (w.alloc (.cells #[v1] 26)).alloc (.cells #[v2] 26) := ⟨_, rfl⟩
  have hb0 : Below w.heap.size w W0 := by rw [hW0]; exact below_two _ _ _
  have hyl : ys.length = xs.length := by have := hs.length_eq; rw [List.length_map, List.length_map] at this; exact this.symm
  have K1 := Lib.hid (fun W (hW : Below W0.heap.size W0 W) => validAlbum_any W B1 v1 xs ((h1.below hb0).below hW) (by omega))
  have K2 := Lib.hid (fun W (hW : Below W0.heap.size W0 W) => validAlbum_any W B2 v2 ys ((h2.below hb0).below hW) (by omega))
  rw [decide_eq_true hk] at K1
  rw [decide_eq_true (show ys.length ≤ 8 by omega)] at K2
  obtain ⟨sa, ca, rfl, -, -⟩ := h1.form
  obtain ⟨sb, cb, rfl, -, -⟩ := h2.form
  rw [hyl] at h2 K2 hW0 ⊢
  have KE := Lib.hid (fun W (hW : Below W0.heap.size W0 W) => equalA_any W B1 B2 sa sb xs.length ca cb xs ys ((h1.below hb0).below hW) ((h2.below hb0).below hW) rfl hyl (by omega) hs)
  have b1 : BoxN W0 w.heap.size #[.slice sa xs.length ca] 26 := by rw [hW0]; exact BoxN.first _ _ _ _
  have b2 : BoxN W0 (w.heap.size + 1) #[.slice sb xs.length cb] 26 := by rw [hW0]; exact BoxN.second _ _ _ _
  have CELLS := Lib.hid (fun W (hW : Below W0.heap.size W0 W) => (And.intro ((b1.below hW).cell 0) ((b2.below hW).cell 0) : W.cell? ⟨w.heap.size, 0, none⟩ = some (.slice sa xs.length ca) ∧ W.cell? ⟨w.heap.size + 1, 0, none⟩ = some (.slice sb xs.length cb)))
  have HB0 := Lib.hid hb0
  obtain ⟨c0, c1⟩ := CELLS.out W0 (Below.refl _ _)
  rw [hW0] at c0 c1
  have HW0 := Lib.hid hW0
  have hk100 : xs.length ≤ 100 := by omega
  generalize xs.length = k at *
  clear h1 h2 hb0 hyl b1 b2 hW0 hk
  go_enter Try.func13, Try.ntmps13
  go_wp2_with fail
  rw [← HW0.out]
  refine (K1.out _ (Below.refl _ _)).mono ?_
  rintro e w1 ⟨rfl, hb1⟩
  have HB1 := Lib.hid hb1
  clear c0 c1
  obtain ⟨c0, c1⟩ := CELLS.out w1 hb1
  clear hb1
  go_wp2_with fail
  refine (K2.out _ HB1.out).mono ?_
  rintro e w2 ⟨rfl, hb2⟩
  have HB2 := Lib.hid (HB1.out.trans (hb2.mono HB1.out.size))
  clear c0 c1 hb2
  obtain ⟨c0, c1⟩ := CELLS.out w2 HB2.out
  go_wp2_with fail
  refine (KE.out _ HB2.out).mono ?_
  rintro e w3 ⟨rfl, hb3⟩
  have HB3 := Lib.hid (HB0.out.trans ((HB2.out.trans (hb3.mono HB2.out.size)).mono HB0.out.size))
  clear c0 c1 hb3
  go_wp2
  go_ret
  exact ⟨rfl, HB3.out⟩

/-- The first pictures of an album. -/
theorem sliceAlbum_yes (w : World) (B : Nat) (g k sc c : Nat) (xs : List PicX) (h : OwnA w B (.slice (some ⟨g, 0, none⟩) k sc) xs) (hk : xs.length = k) (hk8 : k ≤ 8) (hc : c ≤ k) :
    Calls Try.prog 16 #[.agg #[.slice (some ⟨g, 0, none⟩) k sc], .int .i64 0, .int .i64 c] w fun e w' => ∃ v ys, e = .returned (.tuple #[.agg #[v], .bool true]) ∧ OwnA w' w.heap.size v ys ∧ ys.map PicX.p = (xs.map PicX.p).take c ∧ Below w.heap.size w w' := by
  obtain ⟨W0, hW0⟩ : ∃ W, W = (w.alloc (.cells #[.slice (some ⟨g, 0, none⟩) k sc] 26)).alloc (.cells #[.slice none 0 0] 26) := ⟨_, rfl⟩
  have hb0 : Below w.heap.size w W0 := by rw [hW0]; exact below_two _ _ _
  have hs0 : W0.heap.size = w.heap.size + 2 := by rw [hW0]; simp
  have h0 := h.below hb0
  have K1 := Lib.hid (validAlbum_any W0 B _ xs h0 (by omega))
  rw [decide_eq_true (show xs.length ≤ 8 by omega)] at K1
  have KC := Lib.hid (fun W (hW : Below W0.heap.size W0 W) => cloneAlbum_any W (some ⟨g, 0, none⟩) c sc (xs.take c) ((h0.below hW).rd hk hc) (by omega))
  have KI := Lib.hid (fun W => in_yes 0 0 (k : Int) (by omega) (by omega) W)
  have KJ := Lib.hid (fun W => in_yes (c : Int) 0 (k : Int) (by omega) (by omega) W)
  have b1 : BoxN W0 w.heap.size #[.slice (some ⟨g, 0, none⟩) k sc] 26 := by rw [hW0]; exact BoxN.first _ _ _ _
  have b2 : BoxN W0 (w.heap.size + 1) #[.slice none 0 0] 26 := by rw [hW0]; exact BoxN.second _ _ _ _
  have B1 := Lib.hid (And.intro b1 b2)
  have c0 : W0.cell? ⟨w.heap.size, 0, none⟩ = some (.slice (some ⟨g, 0, none⟩) k sc) := b1.cell 0
  have HB0 := Lib.hid (And.intro hb0 hs0)
  obtain ⟨-, fc, -, f1, f2⟩ := h.form
  have hsc : k ≤ sc ∧ sc ≤ maxLen := by
    rcases h.row.2 with ⟨h1, h2⟩ | ⟨g', cap, cur, e, hg, hh, h3, h4, r⟩
    · cases h1
    · injection e with e1 e2 e3; subst e3; rw [hk] at h3; exact ⟨h3, h4⟩
  obtain ⟨hsc1, hsc2⟩ := hsc
  unfold maxLen at hsc2
  rw [hW0] at c0
  have HW0 := Lib.hid hW0
  have hcI : (c : Int) ≤ (k : Int) := by omega
  have hcJ : (c : Int) ≤ (sc : Int) := by omega
  have hkJ : (k : Int) ≤ 8 := by omega
  have hcn : (c : Int).toNat = c := by omega
  clear h h0 hb0 b1 b2 hW0 hs0 f1 f2 hk
  go_enter Try.func16, Try.ntmps16
  go_wp2_with fail
  rw [← HW0.out]
  refine K1.out.mono ?_
  rintro e w1 ⟨rfl, hb1⟩
  have HB1 := Lib.hid hb1
  clear c0
  have c0 : w1.cell? ⟨w.heap.size, 0, none⟩ = some (.slice (some ⟨g, 0, none⟩) k sc) := (B1.out.1.below hb1).cell 0
  clear hb1
  go_wp2_with fail
  refine (KI.out _).mono ?_
  rintro e w' ⟨rfl, rfl⟩
  go_wp2_with fail
  refine (KJ.out _).mono ?_
  rintro e w' ⟨rfl, rfl⟩
  go_wp2_with fail
  refine (KC.out _ HB1.out).mono ?_
  rintro e w2 ⟨v, ys, rfl, ho, hm, hb2⟩
  have hb3 := HB1.out.trans (hb2.mono HB1.out.size)
  have hR := B1.out.2.below hb3
  have rr : w2.cell? ⟨w.heap.size + 1, 0, none⟩ = some (.slice none 0 0) := hR.cell 0
  have rf : w2.frozen? ⟨w.heap.size + 1, 0, none⟩ = false := hR.free 0
  have hRl := hR.lt
  obtain ⟨va, vc, rfl, -, -⟩ := ho.form
  have hsz := HB1.out.size
  have h1 := (ho.set (a := ⟨w.heap.size + 1, 0, none⟩) (by show w.heap.size + 1 < _; have := HB0.out.2; omega) (.slice va ys.length vc)).mono (B' := w.heap.size) (by have := HB0.out.2; omega)
  have h2 := (HB0.out.1.trans (hb3.mono HB0.out.1.size)).setCell (p := ⟨w.heap.size + 1, 0, none⟩) (Nat.le_succ _) (.slice va ys.length vc)
  have HFIN := Lib.hid (And.intro h1 (And.intro hm h2))
  clear h1 h2 hm hR ho hb2 hb3 c0
  go_wp2_with fail
  refine bodyPost_ret (v := .tuple #[.agg #[.slice va ys.length vc], .bool true]) (by simp [results, Try.results16, go_sem, rr, rf, hRl]) rfl ?_
  exact ⟨_, ys, rfl, HFIN.out.1, by rw [HFIN.out.2.1, List.map_take], HFIN.out.2.2⟩

end Go.Proofs.Ytkifhajkmgeafaa

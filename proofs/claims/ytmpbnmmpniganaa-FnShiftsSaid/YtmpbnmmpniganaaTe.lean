/- Warped pictures, of whole disparities. -/
import Derived.Test.YtmpbnmmpniganaaKi
namespace Go.Proofs.Ytmpbnmmpniganaa
open Go.RowKit
set_option maxRecDepth 100000
set_option linter.unusedVariables false
set_option linter.unusedSimpArgs false

theorem fqD (ks : List Int) (i : Nat) : (ks.map (fq 2)).getD i 0 = fq 2 (ks.getD i 0) := by
  rw [List.getD_eq_getElem?_getD, List.getD_eq_getElem?_getD, List.getElem?_map]
  cases ks[i]? with
  | none => show 0 = fq 2 0; rw [fq_zero]
  | some z => rfl
/-- The grey to which a whole disparity leads. -/
def wrpF (ks : List Int) (wd hi p : Nat) (i : Nat) : Int := ks.getD (ix ((i % wd : Nat) - (p : Int)) (i / wd : Nat) wd hi) 0

set_option maxHeartbeats 1000000 in
theorem warped_q (W : World) (pa pm wd hi p x y : Nat) (va vm : Value) (ks ms : List Int) (hx : x < wd) (hy : y < hi) (hw2 : wd ≤ 24) (hh2 : hi ≤ 24) (hp : p ≤ 24) (ha : PicAt W pa wd hi va (ks.map (fq 2)) 37) (hm : PicAt W pm wd hi vm (ms.map (fq 2)) 27) (hmp : ms.getD (x + wd * y) 0 = 4 * (p : Int)) :
    Calls Try.prog 70 #[.pointer (some ⟨pa, 0, none⟩), .pointer (some ⟨pm, 0, none⟩), .int .i64 x, .int .i64 y] W fun e w' => e = .returned (.tuple #[.float .f32 (fq 2 (ks.getD (ix ((x : Int) - (p : Int)) y wd hi) 0)), .bool true]) ∧ ∃ n, w' = W.drewN n := by
  have K1 := Lib.hid (mat_q W pm wd hi vm ms x y x y rfl rfl hx hy (by omega) (by omega) hm)
  rw [hmp] at K1
  have K2 := Lib.hid (fun w => place_q (4 * (p : Int)) w (by omega) (by omega))
  rw [plq_4] at K2
  have K3 := Lib.hid (fun n => about_any (W.drewN n) pa wd hi va _ ((x : Int) - (p : Int)) y (by omega) (by omega) (by omega) (by omega) (ha.drew2 n))
  have hin : (decide ((0 : Int) ≤ p) && decide ((p : Int) ≤ 24)) = true := by simp; omega
  have hxI : (x : Int) < 24 := by omega
  have hpI : (p : Int) ≤ 24 := by omega
  rw [fqD] at K3
  generalize ks.getD (ix ((x : Int) - (p : Int)) y wd hi) 0 = r at *
  generalize fq 2 (4 * (p : Int)) = vp at *
  clear ha hm hmp
  go_enter Try.func70, Try.ntmps70
  go_wp2_with fail
  refine K1.out.mono ?_
  rintro e w1 ⟨rfl, n, hw1⟩
  go_wp2_with fail
  refine (K2.out _).mono ?_
  rintro e w2 ⟨rfl, m, hw2'⟩
  obtain ⟨j, hj⟩ : ∃ j, w2 = W.drewN j := by first | (rw [hw2']; exact drewN_drewN W n m) | (rw [hw2', hw1]; exact drewN_drewN W n m)
  clear hw1 hw2'
  go_wp2_with fail
  refine (in_any _ _ _ _).mono ?_
  rw [hin]
  rintro e w' ⟨rfl, rfl⟩
  clear hin
  subst hj
  go_wp2_with fail
  refine (K3.out _).mono ?_
  rintro e w3 ⟨rfl, i, hw3⟩
  obtain ⟨k, hk⟩ := drewN_drewN W j i
  rw [hk] at hw3
  clear hk
  go_wp2
  go_ret2
  exact ⟨rfl, k, by first | exact hw3 | rfl⟩

set_option maxHeartbeats 1000000 in
theorem warpPicture_q (w : World) (wd hi N q c q2 c2 p : Nat) (ks ms : List Int) (hv : vPic wd hi N = true) (h : MQ w q c N ks) (h2 : MQ w q2 c2 N ms) (hp : p ≤ 24) (hms : ∀ i, i < N → ms.getD i 0 = 4 * (p : Int)) :
    Calls Try.prog 22 #[.agg #[.int .i64 wd, .int .i64 hi, .slice (some ⟨q, 0, none⟩) N c], .agg #[.int .i64 wd, .int .i64 hi, .slice (some ⟨q2, 0, none⟩) N c2]] w (MakesMQ w wd hi N (tabI N (wrpF ks wd hi p))) := by
  obtain ⟨e1, e2, e3, e4, e5, e6, e7⟩ := vPic_mul hv
  obtain ⟨W0, hW0⟩ : ∃ W0, W0 = ((w.alloc (.cells #[.int .i64 wd, .int .i64 hi, .slice (some ⟨q, 0, none⟩) N c] 37)).alloc (.cells #[.int .i64 wd, .int .i64 hi, .slice (some ⟨q2, 0, none⟩) N c2] 27)).alloc (.cells #[.int .i64 0, .int .i64 0, .slice none 0 0] 37) := ⟨_, rfl⟩
  have hb0 : Below w.heap.size w W0 := by rw [hW0]; exact (below_two w _ _).alloc (by simp; omega) _
  have hX1 : Box3 W0 w.heap.size (.int .i64 wd) (.int .i64 hi) (.slice (some ⟨q, 0, none⟩) N c) 37 := by rw [hW0]; exact (box_first w _ _ _ _ _).below (alb1 _ _)
  have hX2 : Box3 W0 (w.heap.size + 1) (.int .i64 wd) (.int .i64 hi) (.slice (some ⟨q2, 0, none⟩) N c2) 27 := by rw [hW0]; exact (box_second w _ _ _ _ _).below (alb1 _ _)
  have hXZ : Box3 W0 (w.heap.size + 2) (.int .i64 0) (.int .i64 0) (.slice none 0 0) 37 := by rw [hW0]; have := box_last ((w.alloc (.cells #[.int .i64 wd, .int .i64 hi, .slice (some ⟨q, 0, none⟩) N c] 37)).alloc (.cells #[.int .i64 wd, .int .i64 hi, .slice (some ⟨q2, 0, none⟩) N c2] 27)) (.int .i64 0) (.int .i64 0) (.slice none 0 0) 37; simpa using this
  have hsz : W0.heap.size = w.heap.size + 3 := by rw [hW0]; simp
  have KV1 := Lib.hid (fun W => validPicture_any (wd : Int) (hi : Int) (some ⟨q, 0, none⟩) N c (by omega) W)
  have KV2 := Lib.hid (fun W => validMap_any (wd : Int) (hi : Int) (some ⟨q2, 0, none⟩) N c2 (by omega) W)
  rw [hv] at KV1 KV2
  have HW0 := Lib.hid hW0
  have HM1 := Lib.hid (h.below hb0)
  have HM2 := Lib.hid (h2.below hb0)
  have HE1 := Lib.hid e1
  have HKB := Lib.hid h.bd
  obtain ⟨c0, c1, c2', -, -, -⟩ := hX1.cells
  obtain ⟨d0, d1, d2', -, -, -⟩ := hX2.cells
  rw [hW0] at c0 c1 c2' d0 d1 d2'
  have HB := Lib.hid (And.intro hb0 (And.intro hX1 (And.intro hX2 (And.intro hXZ hsz))))
  clear h h2 e1 hW0 hb0 hX1 hX2 hXZ hsz hv
  go_enter Try.func22, Try.ntmps22
  go_wp2_with fail
  refine (KV1.out _).mono ?_
  rintro e w1 ⟨rfl, hb1⟩
  rw [← HW0.out] at hb1
  obtain ⟨hb0, hX1, hX2, hXZ, hsz⟩ := HB.out
  obtain ⟨c0, c1, c2', -, -, -⟩ := (hX1.below hb1).cells
  obtain ⟨d0, d1, d2', -, -, -⟩ := (hX2.below hb1).cells
  have HB1 := Lib.hid hb1
  clear hb1 hb0 hX1 hX2 hXZ
  go_wp2_with fail
  refine (KV2.out _).mono ?_
  rintro e w2 ⟨rfl, hb2⟩
  obtain ⟨hb0, hX1, hX2, hXZ, -⟩ := HB.out
  have hb3 : Below W0.heap.size W0 w2 := HB1.out.trans (hb2.mono HB1.out.size)
  obtain ⟨c0, c1, c2', -, -, -⟩ := (hX1.below hb3).cells
  obtain ⟨d0, d1, d2', -, -, -⟩ := (hX2.below hb3).cells
  have hg := gives_q (fid := 69) (caps := #[.pointer (some ⟨w.heap.size, 0, none⟩), .pointer (some ⟨w.heap.size + 1, 0, none⟩)]) (W0 := w2) (wd := wd) (hi := hi) (wrpF ks wd hi p) (fun x y _ _ => by
      have := HM1.out.kb (ix (((x + wd * y) % wd : Nat) - (p : Int)) ((x + wd * y) / wd : Nat) wd hi)
      unfold wrpF; omega) Try.call69 (by
    intro x y W hx hy hbW
    have hPA : PicAt W w.heap.size wd hi _ (ks.map (fq 2)) 37 := ⟨(hX1.below hb3).below hbW, (HM1.out.below hb3).sl.below hbW, by rw [List.length_map, HM1.out.len, HE1.out]⟩
    have hPM := HM2.out.pic (hb3.trans (hbW.mono hb3.size)) ((hX2.below hb3).below hbW) HE1.out
    have KW := Lib.hid (warped_q W w.heap.size (w.heap.size + 1) wd hi p x y _ _ ks ms hx hy (by omega) (by omega) hp hPA hPM (hms _ (by rw [HE1.out]; exact xy_lt hx hy)))
    have eF : wrpF ks wd hi p (x + wd * y) = ks.getD (ix ((x : Int) - (p : Int)) y wd hi) 0 := by unfold wrpF; rw [xy_mod hx, xy_div hx]
    rw [eF]
    clear hPA hPM eF c0 c1 c2' d0 d1 d2' hX1 hX2 hXZ hb2 hb0 hb3
    show Calls _ _ #[.int .i64 x, .int .i64 y, .pointer (some ⟨w.heap.size, 0, none⟩), .pointer (some ⟨w.heap.size + 1, 0, none⟩)] _ _
    go_enter Try.func69, Try.ntmps69
    go_wp2_with fail
    refine KW.out.mono ?_
    rintro e w' ⟨rfl, n, hw'⟩
    go_wp2
    go_ret
    exact ⟨rfl, n, by first | exact hw' | rfl⟩)
  have KG := Lib.hid (made_any w2 wd hi _ _ (by omega) (by omega) hg)
  have HB3 := Lib.hid (hXZ.below hb3)
  have HBB := Lib.hid (hb0.trans (hb3.mono hb0.size))
  have hs2 := hb3.size
  clear hg hb2 hb3 hb0 hX1 hX2 hXZ
  go_wp2_with fail
  refine KG.out.mono ?_
  rintro e w4 ⟨a, cc, bs', rfl, hown, hcon, hb4⟩
  have hbs := bs_of_tab (wd := wd) (hi := hi) (F := wrpF ks wd hi p) (fun i _ => by have := HM1.out.kb (ix ((i % wd : Nat) - (p : Int)) (i / wd : Nat) wd hi); unfold wrpF; omega) hcon
  have hl : bs'.length = N := by rw [hbs, List.length_map, tabI_length, HE1.out]
  rw [hl] at hown ⊢
  obtain ⟨q', rfl⟩ := own_ptr hown (by omega)
  obtain ⟨e0, e1, e2, g0, g1, g2⟩ := (HB3.out.below hb4).cells
  have hlt4 := (HB3.out.below hb4).lt
  have hbb := HBB.out.trans (hb4.mono HBB.out.size)
  have hq := (hown.lt (k := q') rfl).1
  have hqs : w.heap.size ≤ q' := by omega
  have hq3 : w.heap.size + 2 < q' := by omega
  have HBS := Lib.hid hbs
  clear hcon hbs hl hq
  go_wp2
  refine bodyPost_ret (v := .tuple #[.agg #[.int .i64 wd, .int .i64 hi, .slice (some ⟨q', 0, none⟩) N cc], .bool true]) (by simp [results, Try.results22, go_sem, e0, e1, e2, hlt4]) rfl ?_
  have ho := (((hown.set (by show w.heap.size + 2 < _; omega) (.int .i64 wd) (a := ⟨w.heap.size + 2, 0, none⟩)).set (by show w.heap.size + 2 < _; omega) (.int .i64 hi) (a := ⟨w.heap.size + 2, 1, none⟩)).set (by show w.heap.size + 2 < _; omega) (.slice (some ⟨q', 0, none⟩) N cc) (a := ⟨w.heap.size + 2, 2, none⟩))
  refine ⟨q', cc, rfl, ⟨?_, (ho.lt (k := q') rfl).2, ?_⟩, hqs, ((hbb.setCell (by simp; try omega) _).setCell (by simp; try omega) _).setCell (by simp; try omega) _⟩
  · have := ho.sl
    rw [HBS.out, ← HE1.out] at this
    exact this
  · intro z hz
    obtain ⟨i, hi_, rfl⟩ := mem_tabI hz
    exact HM1.out.kb _

end Go.Proofs.Ytmpbnmmpniganaa

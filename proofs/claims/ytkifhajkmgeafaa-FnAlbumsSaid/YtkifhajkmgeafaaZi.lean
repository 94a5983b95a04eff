/- Albums made anew: cloneAlbum, SliceAlbum, AddPicture. -/
import Derived.Test.YtkifhajkmgeafaaZg
import Derived.Test.YtkifhajkmgeafaaDk
import Derived.Test.YtkifhajkmgeafaaZc
namespace Go.Proofs.Ytkifhajkmgeafaa
open Go.RowKit
set_option maxRecDepth 100000
set_option linter.unusedVariables false
set_option linter.unusedSimpArgs false

theorem info_picI : (Try.prog.info? 41).map (fun i => (i.zero, i.size, i.bytes)) = some (some (.agg #[.int .i64 0, .int .i64 0, .slice none 0 0]), 3, 40) := by kernel_rfl

/-- Pictures that can be read. -/
structure RdA (W : World) (sa : Option Addr) (k : Nat) (xs : List PicX) : Prop where
  len : xs.length = k
  at_ : ∀ i, i < k → ∃ (g : Nat) (x : PicX), x ∈ xs ∧ xs[i]? = some x ∧ sa = some ⟨g, 0, none⟩ ∧ g < W.heap.size ∧
    W.cell? ⟨g, i * 3, none⟩ = some (.int .i64 (x.p.wd : Int)) ∧ W.cell? ⟨g, i * 3 + 1, none⟩ = some (.int .i64 (x.p.hi : Int)) ∧ W.cell? ⟨g, i * 3 + 2, none⟩ = some x.sl
  sl : ∀ x ∈ xs, SlF W x.sl x.p.bs ∧ x.p.ok
theorem RdA.below {W W' : World} {sa : Option Addr} {k : Nat} {xs : List PicX} (h : RdA W sa k xs) (hb : Below W.heap.size W W') : RdA W' sa k xs := by
  refine ⟨h.len, fun i hi => ?_, fun x hx => ⟨(h.sl x hx).1.below hb, (h.sl x hx).2⟩⟩
  obtain ⟨g, x, h1, h2, h3, h4, h5, h6, h7⟩ := h.at_ i hi
  exact ⟨g, x, h1, h2, h3, Nat.lt_of_lt_of_le h4 hb.size, by rw [hb.cell (p := ⟨g, i * 3, none⟩) h4]; exact h5, by rw [hb.cell (p := ⟨g, i * 3 + 1, none⟩) h4]; exact h6, by rw [hb.cell (p := ⟨g, i * 3 + 2, none⟩) h4]; exact h7⟩
theorem OwnA.rd {W : World} {B : Nat} {sa : Option Addr} {n sc : Nat} {xs : List PicX} (h : OwnA W B (.slice sa n sc) xs) (hn : xs.length = n) {k : Nat} (hk : k ≤ n) : RdA W sa k (xs.take k) := by
  refine ⟨by rw [List.length_take]; omega, fun i hi => ?_, fun x hx => ⟨(h.pic x (List.mem_of_mem_take hx)).1.sl, (h.pic x (List.mem_of_mem_take hx)).2⟩⟩
  obtain ⟨g, x, h1, h2, h3, h4, h5, h6, h7⟩ := h.atk hn i (by omega)
  have e : (xs.take k)[i]? = some x := by rw [List.getElem?_take]; simp [hi, h2]
  exact ⟨g, x, List.mem_of_getElem? e, e, h3, h4, h5, h6, h7⟩

theorem own_some {w : World} {B : Nat} {a : Option Addr} {n c : Nat} {bs : List Nat} (h : OwnF w B (.slice a n c) bs) (h0 : bs ≠ []) : ∃ q, a = some ⟨q, 0, none⟩ := by
  rcases h.form with ⟨_, h2⟩ | ⟨q, cap, h1, _⟩
  · exact absurd h2 h0
  · injection h1 with e1; exact ⟨q, e1⟩
set_option maxHeartbeats 4000000 in
theorem cloneAlbum_any (w : World) (sa : Option Addr) (k sc : Nat) (xs : List PicX) (h : RdA w sa k xs) (hk : k ≤ 100) :
    Calls Try.prog 43 #[.slice sa k sc] w fun e w' => ∃ v ys, e = .returned (.agg #[v]) ∧ OwnA w' w.heap.size v ys ∧ ys.map PicX.p = xs.map PicX.p ∧ Below w.heap.size w w' := by
  obtain ⟨i0, hi0, hz0, hz1, hz2⟩ := info_parts info_picI
  obtain ⟨wA, hwA⟩ : ∃ wA, wA = w.alloc (.cells #[.slice none 0 0] 26) := ⟨_, rfl⟩
  have hbA : Below w.heap.size w wA := by rw [hwA]; exact (Below.refl _ _).alloc (Nat.le_refl _) _
  have hR : BoxN wA w.heap.size #[.slice none 0 0] 26 := by rw [hwA]; exact BoxN.last w _ _
  have hsA : wA.heap.size = w.heap.size + 1 := by rw [hwA]; simp
  have hacc : AccA wA (wA.alloc (.cells #[.slice none 0 0] 26)) wA.heap.size (.slice none 0 0) [] :=
    ⟨(Below.refl _ _).alloc (Nat.le_refl _) _, BoxN.last wA _ _, OwnA.nil _ _, by simp [Value.ownBlock], by simp, Nat.le_refl _⟩
  obtain ⟨ob, hob⟩ : ∃ ob, ob = wA.heap.size := ⟨_, rfl⟩
  rw [← hob] at hacc
  have HRD := Lib.hid (h.below hbA)
  have HR := Lib.hid (And.intro hbA hR)
  have HACC := Lib.hid hacc
  have HWA := Lib.hid hwA
  have HSA := Lib.hid hsA
  have hob1 : ob = w.heap.size + 1 := by rw [hob, hsA]
  have HOB := Lib.hid (And.intro hob hob1)
  clear hbA hR hacc hwA h
  go_enter Try.func43, Try.ntmps43
  go_wp2_with fail
  rw [← hob1, ← HWA.out]
  clear hsA hob hob1
  go_loopw [9] (fun v9 wr => ∃ (i : Nat) (v : Value) (ys : List PicX), v9 = .int .i64 i ∧ i ≤ k ∧ ys.length = i ∧ ys.map PicX.p = (xs.map PicX.p).take i ∧ AccA wA wr ob v ys) (fun v9 _ => k - (intOf v9).toNat)
  case atStart => exact ⟨0, _, [], rfl, Nat.zero_le _, rfl, rfl, HACC.out⟩
  case round =>
    clear HACC
    obtain ⟨i, v, ys, rfl, hi, hyl, hym, hacc⟩ := hrel
    obtain ⟨va, vc, rfl, hc1, hc2⟩ := hacc.own.form
    rw [hyl] at hacc hc1
    by_cases hlt : i < k
    · obtain ⟨g, x, hx, hxi, rfl, hgl, p0, p1, p2⟩ := (HRD.out.below hacc.bel).at_ i hlt
      have hltI : (i : Int) < (k : Int) := by omega
      obtain ⟨hxs, hxk⟩ := HRD.out.sl x hx
      obtain ⟨d1, d2, d3, d4, d5, d6, d7⟩ := hxk.dims
      have hne0 : x.p.bs ≠ [] := fun e => by rw [e] at d7; simp at d7
      have KC := Lib.hid (fun W (hW : Below wA.heap.size wA W) => cloneP_any W (x.p.wd : Int) (x.p.hi : Int) (some ⟨x.q, 0, none⟩) x.c x.p.bs (hxs.below hW) hne0 (by omega))
      obtain ⟨W2, hW2⟩ : ∃ W, W = wr.alloc (.cells #[.int .i64 x.p.wd, .int .i64 x.p.hi, x.sl] 41) := ⟨_, rfl⟩
      have hbW : Below wr.heap.size wr W2 := by rw [hW2]; exact (Below.refl _ _).alloc (Nat.le_refl _) _
      have hacc2 := hacc.below hbW
      have hpb : BoxN W2 wr.heap.size #[.int .i64 x.p.wd, .int .i64 x.p.hi, x.sl] 41 := by rw [hW2]; exact BoxN.last _ _ _
      have HST := Lib.hid (fun q1 c1 w1 gg cap w2 h1 h2 h3 h4 h5 => hacc2.stepk (x := ⟨x.p, q1, c1⟩) (w1 := w1) (w2 := w2) (gg := gg) (cap := cap) (T := 41) hyl h1 h2 hxk rfl h3 h4 h5)
      have hxm : (xs.map PicX.p).take (i + 1) = (xs.map PicX.p).take i ++ [x.p] := by
        have hl : i < (xs.map PicX.p).length := by
          have := HRD.out.len; rw [List.length_map]; omega
        rw [List.take_succ_eq_append_getElem hl]
        congr 1
        have e : (xs.map PicX.p)[i]? = some x.p := by rw [List.getElem?_map, hxi]; rfl
        rw [List.getElem?_eq_getElem hl] at e; injection e with e; rw [e]
      have HYM := Lib.hid (And.intro hyl (And.intro hym hxm))
      have hbox := hacc2.box
      have hne := hacc2.ne
      have hbel2 := hacc2.bel
      have hrow : W2.ownsRow wA.heap.size 41 3 (.slice va i vc) i (pxCells ys) := by
        have := hacc2.own.row; rwa [hyl] at this
      have HW2 := Lib.hid hW2
      have hsz2 := hbel2.size
      have hi100 : i ≤ 100 := by omega
      unfold PicX.sl at *
      unfold PicX.cells PicX.sl at HST
      dsimp only at HST
      clear hyl hym hxm hxk hxs hacc hacc2 hW2 hbW hx hxi d1 d2 d3 d4 d5 d7
      generalize hwd : x.p.wd = wd at *
      generalize hhi : x.p.hi = hi_ at *
      generalize hbs : x.p.bs = bs at *
      generalize hn : bs.length = n at *
      clear hwd hhi hbs
      go_upto_region 5 with fail
      rw [← HW2.out]
      clear p0 p1 p2
      have c0 : W2.cell? ⟨ob, 0, none⟩ = some (.slice va i vc) := hbox.cell 0
      obtain ⟨p0, p1, p2, -, -, -⟩ := hpb.three.cells
      have hbD : Below W2.heap.size W2 W2.drew := below_drewN (Below.refl _ _) 1
      have hKD := hbel2.trans (hbD.mono hbel2.size)
      have HPB := Lib.hid hpb
      go_region_law (first
        | (refine step_append_lies _ (by rfl) _ _ _ (by rfl) wA.heap.size 41 i0 _ 3 40 Try.underlying24 hi0 hz0 hz1 hz2 rfl (by omega) (.slice va i vc) i _ (by rfl) (World.ownsRow.alloc hown1 _) ⟨w1.heap.size, 0, none⟩ 1 1 [.int .i64 wd, .int .i64 hi_, .slice (some ⟨q1, 0, none⟩) n c1] (by rfl) (by rfl) (cells_new3 _ _ _ _ _) (by simp [Value.oneCell']) (by omega) (by unfold maxLen; omega) (by omega) (by simp; omega) (w1.heap.size + 1) (by simp) ?_; intro gg cap w2 hown2 hgrow hat hlt2; have hbg := (hbox1.below ((Below.refl w1.heap.size w1).alloc (Nat.le_refl _) (.cells #[.int .i64 wd, .int .i64 hi_, .slice (some ⟨q1, 0, none⟩) n c1] 41))).grown hgrow hne; have g0 : w2.cell? ⟨ob, 0, none⟩ = some (.slice va i vc) := hbg.cell 0; have g1 : w2.frozen? ⟨ob, 0, none⟩ = false := hbg.free 0; have g2 := hbg.lt)
        | (go_simp; refine (KC.out _ hKD).mono ?_; rintro e w1 ⟨a1, c1, rfl, hxo, hbk⟩; obtain ⟨q1, rfl⟩ := own_some hxo hne0; rw [hn] at hxo ⊢; have hb2 : Below W2.heap.size W2 w1 := hbD.trans (hbk.mono hbD.size); have hbox1 := hbox.below hb2; have c0' : w1.cell? ⟨ob, 0, none⟩ = some (.slice va i vc) := hbox1.cell 0; have c4 : ∀ o, (w1.alloc o).cell? ⟨ob, 0, none⟩ = some (.slice va i vc) := (fun o => (hbox1.below ((Below.refl _ _).alloc (Nat.le_refl _) o)).cell 0); have hown1 := hrow.kept (grown_below hb2 none) (by cases va <;> simp [Value.ownBlock]); have hz2' : wA.heap.size ≤ w1.heap.size := (by have := hb2.size; omega)))
      all_goals
        go_wp2
        go_roundw
        case rel => exact ⟨i + 1, _, ys ++ [⟨x.p, q1, c1⟩], by go_num, by omega, by rw [List.length_append, HYM.out.1]; rfl, by rw [List.map_append, HYM.out.2.1, HYM.out.2.2]; rfl, HST.out q1 c1 w1 gg cap w2 hb2 hxo hown2 hgrow hat⟩
        case measure => simp [intOf]; omega
    · obtain rfl : k = i := by omega
      have hall : (xs.map PicX.p).take k = xs.map PicX.p := List.take_of_length_le (by rw [List.length_map, HRD.out.len]; exact Nat.le_refl _)
      rw [hall] at hym
      have hRX := HR.out.2.below hacc.bel
      have rr : wr.cell? ⟨w.heap.size, 0, none⟩ = some (.slice none 0 0) := hRX.cell 0
      have rf : wr.frozen? ⟨w.heap.size, 0, none⟩ = false := hRX.free 0
      have c0 : wr.cell? ⟨ob, 0, none⟩ = some (.slice va k vc) := hacc.box.cell 0
      have hRl := hRX.lt
      have h1 := (hacc.own.set (a := ⟨w.heap.size, 0, none⟩) (by show w.heap.size < _; rw [HSA.out]; omega) (.slice va k vc)).mono (B' := w.heap.size) (by rw [HSA.out]; omega)
      have h2 := (HR.out.1.trans (hacc.bel.mono HR.out.1.size)).setCell (p := ⟨w.heap.size, 0, none⟩) (Nat.le_refl _) (.slice va k vc)
      have HFIN := Lib.hid (And.intro h1 (And.intro hym h2))
      clear h1 h2 hym hRX hacc hall
      go_wp2_with fail
      refine bodyPost_ret (v := .agg #[.slice va k vc]) (by simp [results, Try.results43, go_sem, rr, rf, hRl]) rfl ?_
      exact ⟨_, ys, rfl, HFIN.out⟩

end Go.Proofs.Ytkifhajkmgeafaa

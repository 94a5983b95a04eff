/- SolveRows: the map of the rows that are solved. -/
import Derived.Test.YtfhlpabbacopjaaJg
import Derived.Test.YtfhlpabbacopjaaMr
namespace Go.Proofs.Ytfhlpabbacopjaa
open Go.RowKit Go.Shelf
set_option maxRecDepth 100000
set_option linter.unusedVariables false
set_option linter.unusedSimpArgs false

theorem info_i64s : (Try.prog.info? 42).map (fun i => (i.zero, i.size, i.bytes)) = some (some (.slice none 0 0), 1, 24) := by kernel_rfl

/-- Rows of numbers in memory; their blocks are none of two others. -/
def RowsX (W : World) (f bx : Nat) (vals : List Value) (T : Nat → Nat → Nat) (n : Nat) : Prop :=
  ∀ i, i < vals.length → ∃ g c, vals[i]? = some (.slice (some ⟨g, 0, none⟩) n c) ∧ g < W.heap.size ∧ g ≠ f ∧ g ≠ bx ∧ ∀ d, d < n → W.cell? ⟨g, d, none⟩ = some (.int .i64 (T i d : Nat))
theorem RowsX.below {W W' : World} {f bx : Nat} {vals : List Value} {T : Nat → Nat → Nat} {n : Nat} (h : RowsX W f bx vals T n) (hb : Below W.heap.size W W') : RowsX W' f bx vals T n := fun i hi => by
  obtain ⟨g, c, h1, h2, h3, h4, h5⟩ := h i hi
  exact ⟨g, c, h1, Nat.lt_of_lt_of_le h2 hb.size, h3, h4, fun d hd => (hb.cell (p := ⟨g, d, none⟩) h2).trans (h5 d hd)⟩
theorem RowsX.snoc {W W1 : World} {f f' bx : Nat} {vals : List Value} {T : Nat → Nat → Nat} {n g c : Nat} {v : Value} (h : RowsX W f bx vals T n) (hg : W.grownBy W1 (some f)) (hf : f' = f ∨ W.heap.size ≤ f')
    (h2 : g < W.heap.size) (h3 : g ≠ f) (h3b : g ≠ bx) (h4 : ∀ d, d < n → W.cell? ⟨g, d, none⟩ = some (.int .i64 (T vals.length d : Nat))) : RowsX (W1.setCell ⟨bx, 0, none⟩ v) f' bx (vals ++ [.slice (some ⟨g, 0, none⟩) n c]) T n := fun i hi => by
  have key : ∀ (k : Nat), k < W.heap.size → k ≠ f → k ≠ bx → (W1.setCell ⟨bx, 0, none⟩ v).heap[k]? = W.heap[k]? := fun k hk hne hnb => (Below.heap_setCell _ _ _ k (by simpa using hnb)).trans (hg.block k hk (by intro e; injection e with e; omega))
  have hsz : (W1.setCell ⟨bx, 0, none⟩ v).heap.size = W1.heap.size := by simp
  by_cases hh : i < vals.length
  · obtain ⟨g1, c1, k1, k2, k3, k4, k5⟩ := h i hh
    exact ⟨g1, c1, by rw [List.getElem?_append_left hh]; exact k1, by rw [hsz]; exact Nat.lt_of_lt_of_le k2 hg.size, by omega, k4, fun d hd => (World.cell?_of_block (key g1 k2 k3 k4)).trans (k5 d hd)⟩
  · have : i = vals.length := by rw [List.length_append] at hi; simp at hi; omega
    subst this
    exact ⟨g, c, by simp, by rw [hsz]; exact Nat.lt_of_lt_of_le h2 hg.size, by omega, h3b, fun d hd => (World.cell?_of_block (key g h2 h3 h3b)).trans (h4 d hd)⟩

/-- The whole map of rows. -/
def solM (P : Int → Int → List Int) (one more : Int) (dp wd hi : Nat) : List Nat := (List.range (wd * hi)).map fun i => solR P one more dp wd (i / wd) (i % wd)
theorem solM_q (P : Int → Int → List Int) (one more : Int) (dp wd hi : Nat) : (solM P one more dp wd hi).map wW = (tabI (wd * hi) fun i => 4 * (solR P one more dp wd (i / wd) (i % wd) : Int)).map (fq 2) := by
  unfold solM tabI
  rw [List.map_map, List.map_map]
  refine List.map_congr_left fun i _ => ?_
  rw [Function.comp_apply, Function.comp_apply]
  exact wW_q _
theorem solM_len (P : Int → Int → List Int) (one more : Int) (dp wd hi : Nat) : (solM P one more dp wd hi).length = wd * hi := by simp [solM]
theorem solM_get {P : Int → Int → List Int} {one more : Int} {dp wd hi x y : Nat} (hx : x < wd) (hy : y < hi) : (solM P one more dp wd hi).getD (x + wd * y) 0 = solR P one more dp wd y x := by
  have h := cell_lt hx hy
  unfold solM
  rw [List.getD_eq_getElem?_getD, List.getElem?_map, List.getElem?_range h]
  show solR P one more dp wd ((x + wd * y) / wd) ((x + wd * y) % wd) = _
  rw [Nat.add_mul_div_left _ _ (by omega), Nat.div_eq_of_lt hx, Nat.add_mul_mod_self_left, Nat.mod_eq_of_lt hx, Nat.zero_add]
theorem solM_lt {P : Int → Int → List Int} {one more : Int} {dp wd hi : Nat} (h : 1 ≤ dp) : ∀ m ∈ solM P one more dp wd hi, m < dp := by
  intro m hm
  obtain ⟨i, _, rfl⟩ := List.mem_map.1 hm
  exact sol_lt h _

theorem solveRows1_gives {W0 : World} {f bx fc wd hi : Nat} {vals : List Value} {R : Nat → Nat → Nat} (hb : Boxed W0 bx 105 (.slice (some ⟨f, 0, none⟩) hi fc)) (ho : ∀ i u, vals[i]? = some u → W0.cell? ⟨f, i, none⟩ = some u) (hf : f < W0.heap.size) (hl : vals.length = hi) (hr : RowsX W0 f bx vals R wd) (hw : wd ≤ 24) (hh : hi ≤ 24) (hR : ∀ i d, R i d < 8) :
    Gives2 W0 (.func (.func 82) #[] #[.pointer (some ⟨bx, 0, none⟩)]) wd hi (fun x y => fq 0 (R y x : Int)) := by
  refine ⟨82, _, rfl, Try.call82, fun x y W hx hy hbW => ?_⟩
  obtain ⟨g, c, h1, h2, h3, h4, h5⟩ := hr y (by omega)
  have c0 := (hbW.cell (p := ⟨bx, 0, none⟩) hb.lt).trans hb.cell
  have c1 := (hbW.cell (p := ⟨f, y, none⟩) hf).trans (ho y _ h1)
  have c2 := (hbW.cell (p := ⟨g, x, none⟩) h2).trans (h5 x hx)
  have hRR := hR y x
  obtain ⟨z, hzr⟩ : ∃ z, R y x = z := ⟨_, rfl⟩
  rw [hzr] at c2 hRR
  have hzz := Lib.hid hzr
  have of := fq_ofInt (n := (z : Int)) (by omega)
  obtain ⟨vz, hvz⟩ : ∃ vz, fq 0 (z : Int) = vz := ⟨_, rfl⟩
  rw [hvz] at of
  have HV := Lib.hid hvz
  have xI : (x : Int) < wd := by omega
  have yI : (y : Int) < hi := by omega
  clear hb ho hr hbW h5 h1 hvz hzr
  show Calls _ _ #[.int .i64 x, .int .i64 y, .pointer (some ⟨bx, 0, none⟩)] _ _
  go_enter Try.func82, Try.ntmps82
  go_wp2_with fail
  go_ret
  refine ⟨_, rfl, ?_, ?_, Below.refl _ _⟩
  · rw [← HV.out]; exact fq_lt (by omega)
  · rw [← HV.out]; show fl (fq 0 (z : Int)) = fq 0 (R y x : Int); rw [hzz.out]; exact fl_fq (by omega)

def MakesWM (w : World) (wd hi N : Nat) (ms : List Nat) (dp : Nat) (e : Ending) (w' : World) : Prop :=
  ∃ q c, e = .returned (.tuple #[.agg #[.int .i64 wd, .int .i64 hi, .slice (some ⟨q, 0, none⟩) N c], .bool true]) ∧ WM w' q c N ms dp ∧ w.heap.size ≤ q ∧ Below w.heap.size w w'

set_option maxHeartbeats 4000000 in
theorem solveRows_ok (w : World) (wd hi dp N qv Nv cv : Nat) (bs : List Nat) (P : Int → Int → List Int) (one more : Int) (hC : Cst P bs wd hi dp N Nv one more)
    (hv : SlF w (.slice (some ⟨qv, 0, none⟩) Nv cv) bs) (hlv : bs.length = wd * hi * dp) (hqv : qv < w.heap.size) :
    Calls Try.prog 36 #[.agg #[.int .i64 wd, .int .i64 hi, .int .i64 dp, .slice (some ⟨qv, 0, none⟩) Nv cv], .agg #[.float .f32 (fq 2 one), .float .f32 (fq 2 more)]] w (MakesWM w wd hi N (solM P one more dp wd hi) dp) := by
  obtain ⟨d1, d2, d3, d4, d5, d6, d7, d8, d9, d10⟩ := hC.dims
  obtain ⟨i0, hi0, hz0, hz1, hz2⟩ := info_parts info_i64s
  have KR := Lib.hid (fun w => rowOk_yes w wd hi dp Nv 0 (some ⟨qv, 0, none⟩) cv one more hC.vv d9 (by omega) d4 hC.o0 hC.o1 (by have := hC.o2; omega))
  have KS := Lib.hid (fun w vb y hV hy hq => solve_is w vb wd hi dp N qv Nv cv y bs P one more hC hV hy hq)
  have HN := Lib.hid d7
  obtain ⟨vo, hvo⟩ : ∃ vo, vo = fq 2 one := ⟨_, rfl⟩
  obtain ⟨vm, hvm⟩ : ∃ vm, vm = fq 2 more := ⟨_, rfl⟩
  rw [← hvo, ← hvm] at KR KS ⊢
  have hb0 := (below_two w (.cells #[.int .i64 wd, .int .i64 hi, .int .i64 dp, .slice (some ⟨qv, 0, none⟩) Nv cv] 26) (.cells #[.float .f32 vo, .float .f32 vm] 30)).alloc (by simp; omega) (.cells #[.int .i64 0, .int .i64 0, .slice none 0 0] 48)
  have BV := (BoxN.first w #[.int .i64 wd, .int .i64 hi, .int .i64 dp, .slice (some ⟨qv, 0, none⟩) Nv cv] 26 (.cells #[.float .f32 vo, .float .f32 vm] 30)).below (alb1_ _ (.cells #[.int .i64 0, .int .i64 0, .slice none 0 0] 48))
  have BP := (BoxN.second w #[.float .f32 vo, .float .f32 vm] 30 (.cells #[.int .i64 wd, .int .i64 hi, .int .i64 dp, .slice (some ⟨qv, 0, none⟩) Nv cv] 26)).below (alb1_ _ (.cells #[.int .i64 0, .int .i64 0, .slice none 0 0] 48))
  have BM := box_last ((w.alloc (.cells #[.int .i64 wd, .int .i64 hi, .int .i64 dp, .slice (some ⟨qv, 0, none⟩) Nv cv] 26)).alloc (.cells #[.float .f32 vo, .float .f32 vm] 30)) (.int .i64 0) (.int .i64 0) (.slice none 0 0) 48
  rw [show ((w.alloc (.cells #[.int .i64 wd, .int .i64 hi, .int .i64 dp, .slice (some ⟨qv, 0, none⟩) Nv cv] 26)).alloc (.cells #[.float .f32 vo, .float .f32 vm] 30)).heap.size = w.heap.size + 2 by simp] at BM
  have hv1 := hv.below hb0
  have HB0 := Lib.hid hb0
  have HLV := Lib.hid hlv
  have HQV := Lib.hid hqv
  clear hv hb0 hC d7 hvo hvm hlv hqv
  go_enter Try.func36, Try.ntmps36
  go_wp2_with fail
  refine (KR.out _).mono ?_
  rintro e w1 ⟨rfl, hb1⟩
  have BP1 := BP.below hb1
  have BV1 := BV.below hb1
  have BM1 := BM.below hb1
  have HV1 := Lib.hid (VolAt.mk BV1 (hv1.below hb1) HLV.out)
  have HB1 := Lib.hid (HB0.out.trans (hb1.mono HB0.out.size))
  have hs1 : w.heap.size + 2 < w1.heap.size := BM1.lt
  have HQ1 := Lib.hid (Nat.lt_of_lt_of_le HQV.out HB1.out.size)
  have ha1 := below_two w1 (.cells #[] 42) (.cells #[.slice (some ⟨w1.heap.size, 0, none⟩) 0 0] 105)
  obtain ⟨y0, y1, y2, y3, -, -, -, -⟩ := (BV1.below ha1).four
  have HBV := Lib.hid BV1
  have HBP := Lib.hid BP1
  have HBM := Lib.hid BM1
  have st1 := Boxed.new (w1.alloc (.cells #[] 42)) 105 (.slice (some ⟨w1.heap.size, 0, none⟩) 0 0)
  have st2 := (OwnT.start 42 w1).below (alb1_ _ (.cells #[.slice (some ⟨w1.heap.size, 0, none⟩) 0 0] 105))
  simp only [World.size_alloc] at st1
  have HST := Lib.hid (And.intro st1 (And.intro st2 ha1))
  clear hb1 BP BV BM hv1 BV1 BP1 BM1 ha1 st1 st2
  go_wp2_with fail
  clear y0 y1 y2 y3
  go_loopw [19] (fun v19 wr => ∃ (y f fc : Nat) (vals : List Value), v19 = .int .i64 y ∧ y ≤ hi ∧ Boxed wr (w1.heap.size + 1) 105 (.slice (some ⟨f, 0, none⟩) y fc) ∧ OwnT 42 wr w1.heap.size (.slice (some ⟨f, 0, none⟩) y fc) vals ∧ RowsX wr f (w1.heap.size + 1) vals (solR P one more dp wd) wd ∧ Below w1.heap.size w1 wr ∧ f ≠ w1.heap.size + 1) (fun v19 _ => hi - (intOf v19).toNat)
  case atStart => exact ⟨0, w1.heap.size, 0, [], rfl, Nat.zero_le _, HST.out.1, HST.out.2.1, fun i hi => absurd hi (by simp), HST.out.2.2, by omega⟩
  case round =>
    clear HST
    obtain ⟨y, f, fc, vals, rfl, hy, hbx, hown, hrw, hbl, hfx⟩ := hrel
    have HBX := Lib.hid hbx
    have HOW := Lib.hid hown
    have HRW := Lib.hid hrw
    have HBL := Lib.hid hbl
    have hsr := hbl.size
    have hbxl := hbx.lt
    clear hbx hown hrw hbl
    by_cases hlt : y < hi
    · have BP2 := HBP.out.below HBL.out
      have zp0 := BP2.cell 0
      have zp1 := BP2.cell 1
      simp only [List.size_toArray, List.length_cons, List.length_nil, List.getElem?_toArray, List.getElem?_cons_zero, List.getElem?_cons_succ] at zp0 zp1
      have KS1 := Lib.hid (KS.out wr w.heap.size y (HV1.out.below HBL.out) hlt (Nat.lt_of_lt_of_le HQ1.out hsr))
      have hltI : (y : Int) < hi := by omega
      clear BP2
      go_wp2_with fail
      (with_reducible refine KS1.out.mono ?_)
      rintro e w2 ⟨g, c, rfl, hrow, hb2⟩
      have hg := hrow.lt (k := g) rfl
      have hs2 := hb2.size
      have hbx2 := HBX.out.kept (grown_below hb2 none) (by simp)
      have hrc : ∀ d, d < wd → w2.cell? ⟨g, d, none⟩ = some (.int .i64 (solR P one more dp wd y d : Nat)) := fun d hd => by
        have := hrow.cellAt d (by rw [tabI_length]; exact hd)
        rw [tabI_get hd] at this
        exact this
      have hvl : vals.length = y := HOW.out.len.1
      have HRC := Lib.hid hrc
      have HB2 := Lib.hid hb2
      have HOW2 := Lib.hid (HOW.out.below hb2)
      have HRW2 := Lib.hid (HRW.out.below hb2)
      have hfl := (HOW.out.lt (k := f) rfl).2
      have hos := HOW2.out
      unfold OwnT at hos
      rw [hvl] at hos
      have HVL := Lib.hid hvl
      have HBX2 := Lib.hid hbx2
      have cbx := hbx2.cell
      have hNE := Lib.hid (show some (w1.heap.size + 1) ≠ some f by intro e; injection e with e; omega)
      clear hrow hrc hb2 hvl hbx2 zp0 zp1 KS1
      go_wp2_with (at_builtin; refine wpList_append_lies _ (by rfl) _ _ _ (by rfl) w1.heap.size 42 i0 _ 1 24 Try.underlying105 hi0 hz0 hz1 hz2 rfl (by omega) (.slice (some ⟨f, 0, none⟩) y fc) y _ (by rfl) (World.ownsRow.alloc hos _) ⟨w2.heap.size, 0, none⟩ 1 1 [.slice (some ⟨g, 0, none⟩) wd c] (by rfl) (by rfl) (cell_one_new _ _ _) (by simp [Value.oneCell']) (by omega) (by unfold maxLen; omega) (by omega) (by simp; omega) (w2.heap.size + 1) (by simp) ?_; intro gg cap2 w3 hown3 hgrow hat hlt2; have hx3 := (HBX2.out.alloc (.cells #[.slice (some ⟨g, 0, none⟩) wd c] 42)).kept hgrow hNE.out; have c3 := hx3.cell; have f3 := hx3.frozen)
      go_roundw
      case rel =>
        have hat' : gg = f ∨ gg = w2.heap.size + 1 := by
          rcases hat with h | h
          · left; simpa [Value.ownBlock] using h.symm
          · right; exact h
        have hgr : (w2.alloc (.cells #[.slice (some ⟨g, 0, none⟩) wd c] 42)).grownBy w3 (some f) := hgrow
        have hA := alb1_ w2 (.cells #[.slice (some ⟨g, 0, none⟩) wd c] 42)
        have hBB := ((HBL.out.trans (HB2.out.mono hsr)).alloc (by omega) (.cells #[.slice (some ⟨g, 0, none⟩) wd c] 42)).grown hgr (by simp; omega) (fun k hk => by injection hk with e; have := (HOW.out.lt (k := f) rfl).1; omega)
        refine ⟨y + 1, gg, cap2, vals ++ [.slice (some ⟨g, 0, none⟩) wd c], by go_num, by omega, hx3.set _, ?_, ?_, hBB.setCell (by simp) _, by omega⟩
        · have := ownT_snoc hown3 HVL.out
          exact this.grown (grownBy_setCell' w3 _ _) (.inr (by simp [Value.ownBlock]; omega))
        · refine (HRW2.out.below hA).snoc hgr (by simp; omega) (by simp; omega) (by omega) (by omega) fun d hd => ?_
          rw [HVL.out]
          exact (hA.cell (p := ⟨g, d, none⟩) hg.2).trans (HRC.out d hd)
      case measure => simp [intOf]; omega
    · obtain rfl : hi = y := by omega
      have hvl : vals.length = hi := HOW.out.len.1
      have hfl := (HOW.out.lt (k := f) rfl).2
      have G := solveRows1_gives (wd := wd) HBX.out (fun i u hu => HOW.out.cellAt i hu) hfl hvl HRW.out d2 d4 (fun i d => Nat.lt_of_lt_of_le (sol_lt d5 d) d6)
      have K := Lib.hid (mapOf_any wr wd hi _ _ d2 d4 G)
      obtain ⟨y0, y1, y2, y3, -, -, -, -⟩ := (HBV.out.below HBL.out).four
      clear G hvl
      go_wp2_with fail
      (with_reducible refine K.out.mono ?_)
      rintro e w2 ⟨a, cc, bs2, rfl, hown, hcon, hb2⟩
      have hbs : bs2 = (solM P one more dp wd hi).map wW := by
        rw [solM_q]
        refine bs_of_tab (fun i _ => by have := sol_lt (P := P) (one := one) (more := more) (wd := wd) (y := i / wd) d5 (i % wd); omega) ?_
        rw [hcon]
        unfold tab
        refine List.map_congr_left fun i hi_ => ?_
        have hi_ := List.mem_range.1 hi_
        have e1 : (i % wd + wd * (i / wd)) / wd = i / wd := by rw [Nat.mod_add_div]
        have e2 : (i % wd + wd * (i / wd)) % wd = i % wd := by rw [Nat.mod_add_div]
        show fq 0 _ = fq 2 (4 * (solR P one more dp wd ((i % wd + wd * (i / wd)) / wd) ((i % wd + wd * (i / wd)) % wd) : Int))
        rw [e1, e2]
        exact wW_q _
      have hl : bs2.length = N := by rw [hbs, List.length_map, solM_len, HN.out]
      rw [hl] at hown ⊢
      obtain ⟨q, rfl⟩ := own_ptr hown (by omega)
      have hbz := HBL.out.trans (hb2.mono HBL.out.size)
      obtain ⟨e0, e1, e2, g0, g1, g2⟩ := (HBM.out.below hbz).cells
      have hbb := HB1.out.trans (hbz.mono HB1.out.size)
      have hq := (hown.lt (k := q) rfl).1
      have hqs : w.heap.size + 2 < q := by omega
      have HCON := Lib.hid hbs
      have HOWN := Lib.hid hown
      have HBB := Lib.hid hbb
      clear hcon hbs hown hbb hbz hb2
      go_wp2
      refine bodyPost_ret (v := .tuple #[.agg #[.int .i64 wd, .int .i64 hi, .slice (some ⟨q, 0, none⟩) N cc], .bool true]) (by simp [results, Try.results36, go_sem, e0, e1, e2]) rfl ?_
      have ho := (((HOWN.out.set (by first | omega | (simp; done) | (simp; omega)) (.int .i64 wd) (a := ⟨w.heap.size + 2, 0, none⟩)).set (by first | omega | (simp; done) | (simp; omega)) (.int .i64 hi) (a := ⟨w.heap.size + 2, 1, none⟩)).set (by first | omega | (simp; done) | (simp; omega)) (.slice (some ⟨q, 0, none⟩) N cc) (a := ⟨w.heap.size + 2, 2, none⟩))
      refine ⟨q, cc, rfl, ⟨?_, (ho.lt (k := q) rfl).2, by rw [solM_len, HN.out], solM_lt d5⟩, by omega, ((HBB.out.setCell (by simp; omega) _).setCell (by simp; omega) _).setCell (by simp; omega) _⟩
      have := ho.sl
      rw [HCON.out] at this
      simpa using this

end Go.Proofs.Ytfhlpabbacopjaa

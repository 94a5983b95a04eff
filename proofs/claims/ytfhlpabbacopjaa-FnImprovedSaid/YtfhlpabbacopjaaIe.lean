/- Maps improved. -/
import Derived.Test.YtfhlpabbacopjaaId
import Derived.Test.YtfhlpabbacopjaaCl
import Derived.Deep.CutRange
import Derived.Deep.RegionHeld3
import Derived.StillTactics
namespace Go.Proofs.Ytfhlpabbacopjaa
open Go.RowKit
set_option maxRecDepth 100000
set_option linter.unusedVariables false
set_option linter.unusedSimpArgs false

/-- What improving keeps. -/
def Impr (P : Int → Int → List Int) (ms ms' : List Nat) (wd hi dp N : Nat) (one more : Int) (n : Nat) : Prop :=
  ms'.length = N ∧ (∀ m ∈ ms', m < dp) ∧ (n = 0 → ms' = ms) ∧ costI P ms' wd hi one more ≤ costI P ms wd hi one more ∧ (0 < n → costI P ms' wd hi one more < costI P ms wd hi one more)
theorem Impr.step {P : Int → Int → List Int} {ms ms' : List Nat} {wd hi dp N n x y d : Nat} {one more : Int} (h : Impr P ms ms' wd hi dp N one more n) (hN : N = wd * hi) (hx : x < wd) (hy : y < hi) (hd : d < dp) (hl : locI P ms' wd hi one more x y d < locI P ms' wd hi one more x y (mAt ms' wd x y)) :
    Impr P ms (ms'.set (x + wd * y) d) wd hi dp N one more (n + 1) := by
  obtain ⟨h1, h2, h3, h4, h5⟩ := h
  have hc := cost_set (P := P) (ms := ms') (wd := wd) (hi := hi) (x0 := x) (y0 := y) (d := d) (one := one) (more := more) (by rw [h1, hN]) hx hy
  refine ⟨by rw [List.length_set, h1], fun m hm => ?_, fun e => absurd e (by omega), by omega, fun _ => by omega⟩
  rcases List.mem_or_eq_of_mem_set hm with g | g
  · exact h2 m g
  · rw [g]; exact hd
theorem Impr.start {P : Int → Int → List Int} {ms : List Nat} {wd hi dp N : Nat} {one more : Int} (hl : ms.length = N) (hb : ∀ m ∈ ms, m < dp) : Impr P ms ms wd hi dp N one more 0 := ⟨hl, hb, fun _ => rfl, Int.le_refl _, fun h => by omega⟩
theorem set_words (ms : List Nat) (i d : Nat) : (ms.map wW).set i (wW d) = (ms.set i d).map wW := by rw [List.map_set]
theorem wrap_divI (k wd : Nat) (h : k ≤ 1000000) : wrap64 ((k : Int) / (wd : Int)) = ((k / wd : Nat) : Int) := by
  rw [← Int.natCast_ediv]
  have := Nat.div_le_self k wd
  generalize k / wd = q at *
  unfold wrap64; omega
theorem xy_facts {wd hi N i : Nat} (hN : N = wd * hi) (hw : 0 < wd) (hi_ : i < N) (h : N ≤ 256) : ∃ x y : Nat, (i : Int) % (wd : Int) = (x : Int) ∧ wrap64 ((i : Int) % (wd : Int)) = (x : Int) ∧ wrap64 ((i : Int) / (wd : Int)) = (y : Int) ∧ x < wd ∧ y < hi ∧ i = x + wd * y := by
  refine ⟨i % wd, i / wd, (Int.natCast_emod i wd).symm, ?_, wrap_divI i wd (by omega), Nat.mod_lt i hw, (Nat.div_lt_iff_lt_mul hw).2 (by rw [Nat.mul_comm, ← hN]; exact hi_), (Nat.mod_add_div i wd).symm⟩
  rw [← Int.natCast_emod]
  have := Nat.mod_le i wd
  generalize i % wd = q at *
  unfold wrap64; omega
/-- What the rounds keep of the memory. -/
structure ImpW (W1 wr : World) (vb ob qo co wd hi dp N : Nat) (qv cv Nv : Nat) (bs : List Nat) (vo vm : Nat) (ms' : List Nat) : Prop where
  gr : W1.grownBy wr (some qo)
  vol : VolAt wr vb wd hi dp qv 0 Nv cv bs
  pri : BoxN wr (vb + 1) #[.float .f32 vo, .float .f32 vm] 30
  box : BoxN wr ob #[.int .i64 wd, .int .i64 hi, .slice (some ⟨qo, 0, none⟩) N co] 48
  own : OwnF wr (vb + 4) (.slice (some ⟨qo, 0, none⟩) N co) (ms'.map wW)
  ovb : vb < qo
  oob : qo ≠ ob
  oqv : qo ≠ qv
theorem ImpW.below {W1 wr w' : World} {vb ob qo co wd hi dp N qv cv Nv vo vm : Nat} {bs ms' : List Nat} (h : ImpW W1 wr vb ob qo co wd hi dp N qv cv Nv bs vo vm ms') (hb : Below wr.heap.size wr w') : ImpW W1 w' vb ob qo co wd hi dp N qv cv Nv bs vo vm ms' :=
  ⟨grown_trans h.gr (grown_below hb _), h.vol.below hb, h.pri.below hb, h.box.below hb, h.own.below hb, h.ovb, h.oob, h.oqv⟩
theorem ImpW.mb {W1 wr : World} {vb ob qo co wd hi dp N qv cv Nv vo vm : Nat} {bs ms' : List Nat} (h : ImpW W1 wr vb ob qo co wd hi dp N qv cv Nv bs vo vm ms') (hl : ms'.length = N) (hb : ∀ m ∈ ms', m < dp) : MB wr ob wd hi qo co N ms' dp :=
  ⟨h.box.three, by have := h.own.sl; exact this, (h.own.lt (k := qo) rfl).2, hl, hb⟩
theorem ImpW.put {W1 wr : World} {vb ob qo co wd hi dp N qv cv Nv vo vm : Nat} {bs ms' : List Nat} (h : ImpW W1 wr vb ob qo co wd hi dp N qv cv Nv bs vo vm ms') (hl : ms'.length = N) (hvb : vb + 4 ≤ qo) (i d : Nat) (hd : d ≤ 1000) :
    ImpW W1 (wr.setCell ⟨qo, i, none⟩ (.float .f32 (wW d))) vb ob qo co wd hi dp N qv cv Nv bs vo vm (ms'.set i d) := by
  have hg := grown_setCell wr ⟨qo, i, none⟩ (.float .f32 (wW d))
  have hlt : wW d < 4294967296 := fq_lt (g := 0) (k := (d : Int)) (by omega)
  have ho := h.own
  have hn : (ms'.map wW).length = N := by rw [List.length_map, hl]
  have hp := OwnF.put (w := wr) (B := vb + 4) (g := qo) (n := N) (cap := co) (bs := ms'.map wW) ho i hlt
  rw [set_words] at hp
  exact ⟨grown_trans h.gr hg, ⟨h.vol.box.grown hg (by have := h.ovb; simp; omega), ⟨h.vol.sl.1.grown hg (.inr (by have := h.oqv; simp [Value.ownBlock]; omega)), h.vol.sl.2⟩, h.vol.len⟩, h.pri.grown hg (by simp; omega), h.box.grown hg (by have := h.oob; simp; omega), hp, h.ovb, h.oob, h.oqv⟩

theorem setAwayI {W : World} {q c N ob i : Nat} {bs : List Nat} (h : SlF W (.slice (some ⟨q, 0, none⟩) N c) bs) (hne : q ≠ ob) (v : Value) : SlF (W.setCell ⟨ob, i, none⟩ v) (.slice (some ⟨q, 0, none⟩) N c) bs :=
  ⟨h.1.grown (grown_setCell _ _ _) (.inr (by simpa [Value.ownBlock] using hne)), h.2⟩
theorem boxR {W1 wr : World} {vb ob qo co wd hi dp N qv cv Nv vo vm : Nat} {bs ms' : List Nat} {rb : Nat} {cs : Array Value} {T : TypeId} (h : ImpW W1 wr vb ob qo co wd hi dp N qv cv Nv bs vo vm ms') (hb : BoxN W1 rb cs T) (hne : qo ≠ rb) : BoxN wr rb cs T :=
  hb.grown h.gr (by simp; omega)
set_option maxHeartbeats 8000000 in
theorem improve_ok (w : World) (wd hi dp N Nv qv cv q c rounds : Nat) (bs : List Nat) (P : Int → Int → List Int) (ms : List Nat) (one more : Int) (hC : Cst P bs wd hi dp N Nv one more) (hr : rounds ≤ 20)
    (hv : SlF w (.slice (some ⟨qv, 0, none⟩) Nv cv) bs) (hqv : qv < w.heap.size) (hlv : bs.length = wd * hi * dp) (hm : WM w q c N ms dp) :
    Calls Try.prog 24 #[.agg #[.int .i64 wd, .int .i64 hi, .int .i64 dp, .slice (some ⟨qv, 0, none⟩) Nv cv], .agg #[.float .f32 (fq 2 one), .float .f32 (fq 2 more)], .agg #[.int .i64 wd, .int .i64 hi, .slice (some ⟨q, 0, none⟩) N c], .int .i64 rounds] w fun e w' => ∃ (q2 c2 n : Nat) (ms2 : List Nat), e = .returned (.tuple #[.agg #[.int .i64 wd, .int .i64 hi, .slice (some ⟨q2, 0, none⟩) N c2], .int .i64 n, .bool true]) ∧ WM w' q2 c2 N ms2 dp ∧ Impr P ms ms2 wd hi dp N one more n ∧ Below w.heap.size w w' := by
  obtain ⟨d1, d2, d3, d4, d5, d6, d7, d8, d9, d10⟩ := hC.dims
  have HC := Lib.hid hC
  have hin : (decide ((0 : Int) ≤ rounds) && decide ((rounds : Int) ≤ 20)) = true := by simp; omega
  have KVP := Lib.hid (fun w => validPrices_yes w one more hC.o0 hC.o1 (by have := hC.o2; omega))
  have HQ1 := Lib.hid d7
  have HPR := Lib.hid (fun a b => prI_bd hC.o0 hC.o1 a b)
  obtain ⟨vo, hvo⟩ : ∃ vo, vo = fq 2 one := ⟨_, rfl⟩
  obtain ⟨vm, hvm⟩ : ∃ vm, vm = fq 2 more := ⟨_, rfl⟩
  rw [← hvo, ← hvm] at KVP ⊢
  have HVO := Lib.hid hvo
  have HVM := Lib.hid hvm
  obtain ⟨i0, hi0, hz0, hz1, hz2⟩ := info_parts info_f32
  clear hvo hvm hC d7
  have hb0 := ((below_two w (.cells #[.int .i64 wd, .int .i64 hi, .int .i64 dp, .slice (some ⟨qv, 0, none⟩) Nv cv] 26) (.cells #[.float .f32 vo, .float .f32 vm] 30)).alloc (by simp; omega) (.cells #[.int .i64 wd, .int .i64 hi, .slice (some ⟨q, 0, none⟩) N c] 48)).alloc (by simp; omega) (.cells #[.int .i64 0, .int .i64 0, .slice none 0 0] 48)
  have a2 := alb1_ ((w.alloc (.cells #[.int .i64 wd, .int .i64 hi, .int .i64 dp, .slice (some ⟨qv, 0, none⟩) Nv cv] 26)).alloc (.cells #[.float .f32 vo, .float .f32 vm] 30)) (.cells #[.int .i64 wd, .int .i64 hi, .slice (some ⟨q, 0, none⟩) N c] 48)
  have a3 := alb1_ (((w.alloc (.cells #[.int .i64 wd, .int .i64 hi, .int .i64 dp, .slice (some ⟨qv, 0, none⟩) Nv cv] 26)).alloc (.cells #[.float .f32 vo, .float .f32 vm] 30)).alloc (.cells #[.int .i64 wd, .int .i64 hi, .slice (some ⟨q, 0, none⟩) N c] 48)) (.cells #[.int .i64 0, .int .i64 0, .slice none 0 0] 48)
  have BV := ((BoxN.first w #[.int .i64 wd, .int .i64 hi, .int .i64 dp, .slice (some ⟨qv, 0, none⟩) Nv cv] 26 (.cells #[.float .f32 vo, .float .f32 vm] 30)).below a2).below a3
  have BP := ((BoxN.second w #[.float .f32 vo, .float .f32 vm] 30 (.cells #[.int .i64 wd, .int .i64 hi, .int .i64 dp, .slice (some ⟨qv, 0, none⟩) Nv cv] 26)).below a2).below a3
  have BM := (BoxN.second (w.alloc (.cells #[.int .i64 wd, .int .i64 hi, .int .i64 dp, .slice (some ⟨qv, 0, none⟩) Nv cv] 26)) #[.int .i64 wd, .int .i64 hi, .slice (some ⟨q, 0, none⟩) N c] 48 (.cells #[.float .f32 vo, .float .f32 vm] 30)).below a3
  have BR := BoxN.second ((w.alloc (.cells #[.int .i64 wd, .int .i64 hi, .int .i64 dp, .slice (some ⟨qv, 0, none⟩) Nv cv] 26)).alloc (.cells #[.float .f32 vo, .float .f32 vm] 30)) #[.int .i64 0, .int .i64 0, .slice none 0 0] 48 (.cells #[.int .i64 wd, .int .i64 hi, .slice (some ⟨q, 0, none⟩) N c] 48)
  rw [show (w.alloc (.cells #[.int .i64 wd, .int .i64 hi, .int .i64 dp, .slice (some ⟨qv, 0, none⟩) Nv cv] 26)).heap.size + 1 = w.heap.size + 2 by simp] at BM
  rw [show ((w.alloc (.cells #[.int .i64 wd, .int .i64 hi, .int .i64 dp, .slice (some ⟨qv, 0, none⟩) Nv cv] 26)).alloc (.cells #[.float .f32 vo, .float .f32 vm] 30)).heap.size + 1 = w.heap.size + 3 by simp] at BR
  have hv1 := hv.below hb0
  have hm1 := hm.below hb0
  have HB0 := Lib.hid hb0
  have hqm := hm.lt
  clear hv hm hb0 a2 a3
  go_enter Try.func24, Try.ntmps24
  go_wp2_with fail
  refine (isWhole_yes _ wd hi dp N q c Nv _ cv ms HC.out.vv HC.out.vp hm1 d9).mono ?_
  rintro e w1 ⟨rfl, hb1⟩
  replace BV := BV.below hb1
  replace BP := BP.below hb1
  replace BM := BM.below hb1
  replace BR := BR.below hb1
  replace hv1 := hv1.below hb1
  replace hm1 := hm1.below hb1
  have HB1 := Lib.hid (HB0.out.trans (hb1.mono HB0.out.size))
  clear hb1 HB0
  have zp0 := BP.cell 0
  have zp1 := BP.cell 1
  simp only [List.size_toArray, List.length_cons, List.length_nil, List.getElem?_toArray, List.getElem?_cons_zero, List.getElem?_cons_succ] at zp0 zp1
  go_wp2_with fail
  clear zp0 zp1
  refine (KVP.out _).mono ?_
  rintro e w2 ⟨rfl, hb1⟩
  replace BV := BV.below hb1
  replace BP := BP.below hb1
  replace BM := BM.below hb1
  replace BR := BR.below hb1
  replace hv1 := hv1.below hb1
  replace hm1 := hm1.below hb1
  have HB2 := Lib.hid (HB1.out.trans (hb1.mono HB1.out.size))
  clear hb1 HB1
  go_wp2_with fail
  refine (in_any _ _ _ _).mono ?_
  rw [hin]
  rintro e w' ⟨rfl, rfl⟩
  clear hin
  have hne : ms.map wW ≠ [] := by intro e; have := congrArg List.length e; rw [List.length_map, hm1.len] at this; simp at this; omega
  have KCL : ∀ W, Below w2.heap.size w2 W → Calls Try.prog 62 #[.slice (some ⟨q, 0, none⟩) N c] W fun e w' => ∃ qo co, e = .returned (.slice (some ⟨qo, 0, none⟩) N co) ∧ OwnF w' W.heap.size (.slice (some ⟨qo, 0, none⟩) N co) (ms.map wW) ∧ Below W.heap.size W w' := by
    intro W hW
    have hlen : (ms.map wW).length = N := by rw [List.length_map, hm1.len]
    refine (cloneF_any W _ (ms.map wW) (hm1.below hW).sl hne (by rw [hlen]; omega)).mono ?_
    rintro e w' ⟨a, cc, rfl, hown, hb⟩
    rw [hlen] at hown ⊢
    obtain ⟨qo, rfl⟩ := own_ptr hown (by rw [hlen]; omega)
    exact ⟨qo, cc, rfl, hown, hb⟩
  have KCL := Lib.hid KCL
  obtain ⟨z0, z1, z2, -, -, -⟩ := BM.three.cells
  have Z : ∀ W, Below w2.heap.size w2 W → W.cell? ⟨w.heap.size + 1 + 1, 0, none⟩ = some (.int .i64 wd) ∧ W.cell? ⟨w.heap.size + 1 + 1, 1, none⟩ = some (.int .i64 hi) ∧ W.cell? ⟨w.heap.size + 1 + 1, 2, none⟩ = some (.slice (some ⟨q, 0, none⟩) N c) := fun W hW => by
    obtain ⟨y0, y1, y2, -, -, -⟩ := (BM.below hW).three.cells
    exact ⟨y0, y1, y2⟩
  have Z := Lib.hid Z
  have hbd1 : Below w2.heap.size w2 w2.drew := below_drewN (Below.refl _ _) 1
  clear z0 z1 z2
  go_upto_region 3 with fail
  go_cut [11] from 35 to 42 (fun v11 wx => ∃ ob qo co : Nat, v11 = .pointer (some ⟨ob, 0, none⟩) ∧ BoxN wx ob #[.int .i64 wd, .int .i64 hi, .slice (some ⟨qo, 0, none⟩) N co] 48 ∧ OwnF wx w2.heap.size (.slice (some ⟨qo, 0, none⟩) N co) (ms.map wW) ∧ Below w2.heap.size w2 wx ∧ qo ≠ ob)
  case first =>
    have hbd2 : Below w2.heap.size w2 (w2.alloc (.cells #[.int .i64 0, .int .i64 0, .slice none 0 0] 48)).drew := below_drewN (alb1_ _ _) 1
    have hbx0 : BoxN (w2.alloc (.cells #[.int .i64 0, .int .i64 0, .slice none 0 0] 48)).drew w2.heap.size #[.int .i64 0, .int .i64 0, .slice none 0 0] 48 := (BoxN.last w2 #[.int .i64 0, .int .i64 0, .slice none 0 0] 48).drewN 1
    go_region_held3 (fun W => Below w2.heap.size w2 W ∧ W.cell? ⟨w.heap.size + 1 + 1, 0, none⟩ = some (.int .i64 wd) ∧ W.cell? ⟨w.heap.size + 1 + 1, 1, none⟩ = some (.int .i64 hi) ∧ W.cell? ⟨w.heap.size + 1 + 1, 2, none⟩ = some (.slice (some ⟨q, 0, none⟩) N c))
      (first | exact ⟨hbc3, Z.out _ hbc3⟩ | exact ⟨hbd1, Z.out _ hbd1⟩ | exact ⟨hbc4, Z.out _ hbc4⟩ | exact ⟨hbd2, Z.out _ hbd2⟩ | exact ⟨((hbc4.setCell (Nat.le_refl _) _).setCell (Nat.le_refl _) _).setCell (Nat.le_refl _) _, Z.out _ (((hbc4.setCell (Nat.le_refl _) _).setCell (Nat.le_refl _) _).setCell (Nat.le_refl _) _)⟩ | exact ⟨hbc3.alloc hbc3.size _, Z.out _ (hbc3.alloc hbc3.size _)⟩ | go_keep)
      ((first | (go_at_call 62; with_reducible refine (KCL.out _ hbd1).mono ?_; rintro e w3 ⟨qo, co, rfl, hown, hb3⟩; have hbc3 := hbd1.trans (hb3.mono hbd1.size)) | (go_at_call 62; with_reducible refine (KCL.out _ hbd2).mono ?_; rintro e w3 ⟨qo, co, rfl, hown, hb3⟩; have hbc4 := hbd2.trans (hb3.mono hbd2.size); have hbx : BoxN w3 w2.heap.size #[.int .i64 0, .int .i64 0, .slice none 0 0] 48 := hbx0.below hb3; obtain ⟨o0, o1, o2, g0, g1, g2⟩ := hbx.three.cells)))
    all_goals
      go_wp2_with fail
      go_meet
      first
        | exact ⟨w3.heap.size, qo, co, rfl, BoxN.last w3 _ _, (hown.below (alb1_ w3 _)).mono hbd1.size, hbc3.alloc hbc3.size _, by have := (hown.lt (k := qo) rfl).2; omega⟩
        | (have hqb := (hown.lt (k := qo) rfl).1
           have hqn : qo ≠ w2.heap.size := (by simp at hqb; omega)
           refine ⟨w2.heap.size, qo, co, rfl, ?_, ?_, ((hbc4.setCell (Nat.le_refl _) _).setCell (Nat.le_refl _) _).setCell (Nat.le_refl _) _, hqn⟩
           · have := ((hbx.set 0 (.int .i64 wd)).set 1 (.int .i64 hi)).set 2 (.slice (some ⟨qo, 0, none⟩) N co)
             simpa using this
           · exact (((hown.grown (grown_setCell _ _ _) (.inr (by simpa [Value.ownBlock] using hqn))).grown (grown_setCell _ _ _) (.inr (by simpa [Value.ownBlock] using hqn))).grown (grown_setCell _ _ _) (.inr (by simpa [Value.ownBlock] using hqn))).mono (by simp))
  case rest =>
    obtain ⟨ob, qo, co, rfl, hbox, hown, hb3, hne2⟩ := hcut
    have hrl := BR.lt
    have hqo := (hown.lt (k := qo) rfl).1
    have hv2 := hv1.below hb3
    have IMP0 : ImpW wc wc w.heap.size ob qo co wd hi dp N qv cv Nv bs vo vm ms := ⟨grown_below (Below.refl _ _) _, ⟨BV.below hb3, hv2, hlv⟩, BP.below hb3, hbox, hown.mono (by omega), by omega, hne2, by omega⟩
    have HIMP0 := Lib.hid IMP0
    have HI0 := Lib.hid (Impr.start (P := P) (one := one) (more := more) (wd := wd) (hi := hi) hm1.len hm1.bd)
    have BRc := Lib.hid (BR.below hb3)
    have HB3 := Lib.hid (HB2.out.trans (hb3.mono HB2.out.size))
    have hqo4 : w.heap.size + 4 ≤ qo := by omega
    have HQO := Lib.hid hqo4
    have obr := Lib.hid (show qo ≠ w.heap.size + 3 by omega)
    clear IMP0 hbox hown hb3 hne2 hrl hqo hv2 BV BP BM BR hv1 hm1 hqo4 KCL Z hbd1 hne
    have wd24 : (wd : Int) ≤ 24 := by omega
    have hi24 : (hi : Int) ≤ 24 := by omega
    have r20 : (rounds : Int) ≤ 20 := by omega
    go_wp2_with fail
    go_loopw [12, 44] (fun v12 v44 wr => ∃ (r n : Nat) (ms' : List Nat), v44 = .int .i64 r ∧ r ≤ rounds ∧ v12 = .int .i64 n ∧ n ≤ 256 * r ∧ ImpW wc wr w.heap.size ob qo co wd hi dp N qv cv Nv bs vo vm ms' ∧ Impr P ms ms' wd hi dp N one more n) (fun _ v44 _ => rounds - (intOf v44).toNat)
    case atStart => exact ⟨0, 0, ms, rfl, Nat.zero_le _, rfl, Nat.zero_le _, HIMP0.out, HI0.out⟩
    case round =>
      clear HIMP0 HI0
      obtain ⟨r, n, ms1, rfl, hr1, rfl, hn, himp, hI⟩ := hrel
      have HI := Lib.hid hI
      have HIMP := Lib.hid himp
      by_cases hlt : r < rounds
      · obtain ⟨z0, z1, z2, -, -, -⟩ := himp.box.three.cells
        clear hI himp
        go_wp2_with fail
        clear z0 z1 z2
        go_loopw [12, 50] (fun v12 v50 wr => ∃ (i n' : Nat) (ms' : List Nat), v50 = .int .i64 i ∧ i ≤ N ∧ v12 = .int .i64 n' ∧ n' ≤ 256 * r + i ∧ ImpW wc wr w.heap.size ob qo co wd hi dp N qv cv Nv bs vo vm ms' ∧ Impr P ms ms' wd hi dp N one more n') (fun _ v50 _ => N - (intOf v50).toNat)
        case atStart => exact ⟨0, n, ms1, rfl, Nat.zero_le _, rfl, by omega, HIMP.out, HI.out⟩
        case round =>
          clear HIMP HI
          obtain ⟨i, n1, ms2, rfl, hi_, rfl, hn1, himp, hI⟩ := hrel
          have HI := Lib.hid hI
          have HIMP := Lib.hid himp
          by_cases hlti : i < N
          · obtain ⟨z0, z1, z2, -, -, -⟩ := himp.box.three.cells
            obtain ⟨x, y, tx, tx2, ty, hx, hy, hxy⟩ := xy_facts (i := i) HQ1.out (by omega) hlti (by omega)
            have HXY := Lib.hid hxy
            have hwd1 : (1 : Int) ≤ (wd : Int) := by omega
            have hwd0 : ¬ wd = 0 := by omega
            have hb9 : ∀ k, Below wr.heap.size wr (wr.drewN k) := fun k => below_drewN (Below.refl _ _) k
            have HB9 := Lib.hid hb9
            clear hI himp hxy hb9
            go_wp2_with fail
            go_quiet (fail)
            simp only [tx, ty]
            clear tx tx2 ty z0 z1 z2 hwd1 hwd0
            go_upto_region 12 with fail
            generalize hwx : wr.drewN nq = wx at *
            have hbx : Below wr.heap.size wr wx := by rw [← hwx]; exact HB9.out _
            have IMPX := HIMP.out.below hbx
            have ha := alb1_ wx (.cells #[] 28)
            obtain ⟨zv0, zv1, zv2, zv3, -, -, -, -⟩ := (IMPX.below ha).vol.box.four
            have start : OwnF (wx.alloc (.cells #[] 28)) wx.heap.size (.slice (some ⟨wx.heap.size, 0, none⟩) 0 0) ((tabI 0 (locI P ms2 wd hi one more x y)).map (fq 2)) :=
              ⟨⟨rfl, .inr ⟨wx.heap.size, 0, #[], rfl, Nat.le_refl _, heap_alloc_new wx _, Nat.le_refl _, by unfold maxLen; omega, rfl, rfl⟩⟩, by simp [tabI]⟩
            have HST := Lib.hid (And.intro start ha)
            have HIMPX := Lib.hid IMPX
            have hlb : ∀ d, d < dp → 0 ≤ locI P ms2 wd hi one more x y d ∧ locI P ms2 wd hi one more x y d ≤ 600 := fun d hd => loc_bd (ms := ms2) (wd := wd) (hi := hi) HC.out.o0 HC.out.o1 HC.out.o2 (HC.out.hc x y d hx hy hd) 4 (Nat.le_refl _)
            have HLB := Lib.hid hlb
            have hqbx : ∀ d, d ≤ dp → qb (tabI d (locI P ms2 wd hi one more x y)) := fun d hd k hk => by
              obtain ⟨j, hj, rfl⟩ := mem_tabI hk
              have := hlb j (by omega); omega
            have HQB := Lib.hid hqbx
            have dp8 : (dp : Int) ≤ 8 := by omega
            clear hwx hbx IMPX ha start hlb hqbx HB9 HIMP
            go_wp2_with fail
            clear zv0 zv1 zv2 zv3
            go_loopw [17, 64] (fun v17 v64 wr => ∃ d g c' : Nat, v64 = .int .i64 d ∧ d ≤ dp ∧ v17 = .slice (some ⟨g, 0, none⟩) d c' ∧ OwnF wr wx.heap.size (.slice (some ⟨g, 0, none⟩) d c') ((tabI d (locI P ms2 wd hi one more x y)).map (fq 2)) ∧ Below wx.heap.size wx wr) (fun _ v64 _ => dp - (intOf v64).toNat)
            case atStart => exact ⟨0, wx.heap.size, 0, rfl, Nat.zero_le _, rfl, HST.out.1, HST.out.2⟩
            case round =>
              clear HST
              obtain ⟨d, g, c', rfl, hd, rfl, hown, hbq⟩ := hrel
              have HO := Lib.hid hown
              have HBQ := Lib.hid hbq
              have IMPQ := HIMPX.out.below hbq
              by_cases hltd : d < dp
              · have KL := local_any wr w.heap.size ob wd hi dp qv 0 Nv cv qo co N x y d bs P ms2 one more hx hy hltd d2 d4 d5 d6 HQ1.out IMPQ.vol HC.out.qv (IMPQ.mb HI.out.1 HI.out.2.1) HC.out.hc HC.out.o0 HC.out.o1 HC.out.o2
                rw [← HVO.out, ← HVM.out] at KL
                have zp0 := IMPQ.pri.cell 0
                have zp1 := IMPQ.pri.cell 1
                simp only [List.size_toArray, List.length_cons, List.length_nil, List.getElem?_toArray, List.getElem?_cons_zero, List.getElem?_cons_succ] at zp0 zp1
                obtain ⟨vk, hvk⟩ : ∃ vk, fq 2 (locI P ms2 wd hi one more x y d) = vk := ⟨_, rfl⟩
                rw [hvk] at KL
                have KL := Lib.hid KL
                have HVK := Lib.hid hvk
                have hd8 : d ≤ 8 := by omega
                clear hown hbq IMPQ hvk
                go_wp2_with fail
                (with_reducible refine KL.out.mono ?_)
                rintro e w5 ⟨rfl, hb5⟩
                have ho5 := HO.out.below hb5
                have how := ho5.1
                rw [List.length_map, tabI_length] at how
                have HO5 := Lib.hid ho5
                have HB5 := Lib.hid (HBQ.out.trans (hb5.mono HBQ.out.size))
                have hs5 := HB5.out.size
                clear zp0 zp1 ho5 hb5
                go_wp2_with (at_builtin; refine wpList_append_lies _ (by rfl) _ _ _ (by rfl) wx.heap.size 28 i0 _ 1 4 Try.underlying24 hi0 hz0 hz1 hz2 rfl (by omega) (.slice (some ⟨g, 0, none⟩) d c') d _ (by rfl) (World.ownsRow.alloc how _) ⟨w5.heap.size, 0, none⟩ 1 1 [.float .f32 vk] (by rfl) (by rfl) (cell_one_new _ _ _) (by simp [Value.oneCell']) (by omega) (by unfold maxLen; omega) (by omega) (by simp; omega) (w5.heap.size + 1) (by simp) ?_; intro gg cap wz hown2 hgrow hat hlt2)
                go_roundw
                case rel =>
                  refine ⟨d + 1, gg, cap, by go_num, by omega, rfl, ?_, (HB5.out.alloc hs5 (.cells #[.float .f32 vk] 28)).grown hgrow (by simp; omega) (fun k hk => (HO5.out.lt hk).1)⟩
                  have ht : tabI (d + 1) (locI P ms2 wd hi one more x y) = tabI d (locI P ms2 wd hi one more x y) ++ [locI P ms2 wd hi one more x y d] := by unfold tabI; rw [List.range_succ, List.map_append]; rfl
                  rw [ht]
                  exact own_snoc HVK.out hown2 (tabI_length _ _) (HQB.out d (by omega)) (by have := HLB.out d hltd; omega)
                case measure => simp [intOf]; omega
              · obtain rfl : d = dp := by omega
                have KF := Lib.hid (firstLeast_q wr g 0 d c' (tabI d (locI P ms2 wd hi one more x y)) d5 (tabI_length _ _) hown.sl (fun i hi_ => by rw [tabI_get hi_]; have := HLB.out i hi_; omega))
                clear hown hbq IMPQ
                go_wp2_with fail
                (with_reducible refine KF.out.mono ?_)
                rintro e w5 ⟨dd, rfl, hfst, m5, hw5⟩
                have hb5 : Below wr.heap.size wr w5 := by rw [hw5]; exact below_drewN (Below.refl _ _) _
                have hbx5 := HBQ.out.trans (hb5.mono HBQ.out.size)
                have IMP5 := HIMPX.out.below hbx5
                have MB5 := IMP5.mb HI.out.1 HI.out.2.1
                have hddp : dd < d := hfst.1
                have hm0 := MB5.wm.mat HQ1.out hx hy
                have hsl := (HO.out.below hb5).sl
                have cg : ∀ k, k < d → w5.cell? ⟨g, k, none⟩ = some (.float .f32 (fq 2 (locI P ms2 wd hi one more x y k))) := fun k hk => by
                  have := (hsl.at k (by rw [List.length_map, tabI_length]; exact hk)).1
                  rw [Nat.zero_add, List.getD_eq_getElem?_getD, List.getElem?_map, List.getElem?_eq_getElem (by rw [tabI_length]; exact hk)] at this
                  rw [this]
                  congr 2
                  simp [tabI]
                have c1 := cg dd hddp
                have KWQ : ∀ n, Calls Try.prog 65 #[.pointer (some ⟨ob, 0, none⟩), .int .i64 x, .int .i64 y] (w5.drewN n) fun e w' => e = .returned (.int .i64 (mAt ms2 wd x y : Nat)) ∧ ∃ k, w' = w5.drewN k := fun n =>
                  (whole_any (w5.drewN n) ob wd hi qo co N d ms2 x y x y rfl rfl hx hy d2 d4 HQ1.out d6 (MB5.drewN n)).mono fun e w' ⟨h1, k, h2⟩ => ⟨h1, n + k, by rw [h2, World.drewN_drewN]⟩
                have l0 := HLB.out dd hddp
                have l1 := HLB.out _ hm0
                have c2 := cg _ hm0
                have hlt32 := lt32_fq (g := 2) (a := locI P ms2 wd hi one more x y dd) (b := locI P ms2 wd hi one more x y (mAt ms2 wd x y)) (by omega) (by omega)
                obtain ⟨z0, z1, z2, -, -, -⟩ := IMP5.box.three.cells
                have hoi : i < (ms2.map wW).length := by rw [List.length_map, HI.out.1]; exact hlti
                have c3 := (IMP5.own.sl.at i hoi).1
                rw [Nat.zero_add] at c3
                have f3 : w5.frozen? ⟨qo, i, none⟩ = false := World.ownsRow.frozenAt (n := N) (by have := IMP5.own.1; rw [List.length_map, HI.out.1] at this; exact this) i
                have of := fq_ofInt (n := (dd : Int)) (by omega)
                rw [wW_def] at of
                obtain ⟨m0, hm0e⟩ : ∃ m0, m0 = mAt ms2 wd x y := ⟨_, rfl⟩
                rw [← hm0e] at KWQ c2 hlt32 hm0 l1
                have HM0E := Lib.hid hm0e
                obtain ⟨vd, hvd⟩ : ∃ vd, fq 2 (locI P ms2 wd hi one more x y dd) = vd := ⟨_, rfl⟩
                obtain ⟨ve, hve⟩ : ∃ ve, fq 2 (locI P ms2 wd hi one more x y m0) = ve := ⟨_, rfl⟩
                rw [hvd, hve] at hlt32
                rw [hvd] at c1
                rw [hve] at c2
                obtain ⟨wv, hwv⟩ : ∃ wv, (ms2.map wW).getD i 0 = wv := ⟨_, rfl⟩
                rw [hwv] at c3
                obtain ⟨wn, hwn⟩ : ∃ wn, wW dd = wn := ⟨_, rfl⟩
                rw [hwn] at of
                have HWN := Lib.hid hwn
                have KWQ := Lib.hid KWQ
                have HIMP5 := Lib.hid IMP5
                have i256 : (i : Int) < (N : Int) := by omega
                have n256 : (N : Int) ≤ 256 := by omega
                have b1 : (dd : Int) < (d : Int) := by omega
                have b2 : (m0 : Int) < (d : Int) := by omega
                have nb : (n1 : Int) ≤ 6000 := by omega
                by_cases hl : locI P ms2 wd hi one more x y dd < locI P ms2 wd hi one more x y m0
                · rw [decide_eq_true hl] at hlt32
                  have HST2 := Lib.hid (HI.out.step HQ1.out hx hy hddp (by rw [← HM0E.out]; exact hl))
                  clear hfst hw5 hb5 hbx5 IMP5 MB5 hsl cg l0 l1 hoi hm0e hvd hve hwv hwn hl
                  go_wp2_with fail
                  go_quiet (first | with_reducible exact KWQ.out _)
                  go_wp2
                  go_roundw
                  case rel =>
                    refine ⟨i + 1, n1 + 1, ms2.set i dd, by go_num, by omega, by go_num, by omega, ?_, by rw [HXY.out]; exact HST2.out⟩
                    rw [← HWN.out]
                    exact (HIMP5.out.below (below_drewN (Below.refl _ _) _)).put HI.out.1 HQO.out i dd (by omega)
                  case measure => simp [intOf]; omega
                · rw [decide_eq_false hl] at hlt32
                  clear hfst hw5 hb5 hbx5 IMP5 MB5 hsl cg l0 l1 hoi hm0e hvd hve hwv hwn hl
                  go_wp2_with fail
                  go_quiet (first | with_reducible exact KWQ.out _)
                  go_wp2
                  go_roundw
                  case rel => exact ⟨i + 1, n1, ms2, by go_num, by omega, rfl, by omega, HIMP5.out.below (below_drewN (Below.refl _ _) _), HI.out⟩
                  case measure => simp [intOf]; omega
          · obtain rfl : i = N := by omega
            by_cases hnn : n1 = n
            · subst hnn
              have k1 : ((n1 : Int) == (n1 : Int)) = true := by simp
              obtain ⟨z0, z1, z2, -, -, -⟩ := himp.box.three.cells
              have hrb := BRc.out
              have nb : (n1 : Int) ≤ 6000 := by omega
              have hbr := boxR himp BRc.out obr.out
              obtain ⟨y0, y1, y2, g0, g1, g2⟩ := hbr.three.cells
              clear hI himp
              go_wp2_with fail
              have hbel : Below w.heap.size w wr := HB3.out.grown HIMP.out.gr HB3.out.size (fun k hk => by injection hk with e; have := HQO.out; omega)
              have hz := hbr.lt
              refine bodyPost_ret (v := .tuple #[.agg #[.int .i64 wd, .int .i64 hi, .slice (some ⟨qo, 0, none⟩) i co], .int .i64 n1, .bool true]) (by simp [results, Try.results24, go_sem, y0, y1, y2, hz]) rfl ?_
              refine ⟨qo, co, n1, ms2, rfl, ⟨?_, ?_, HI.out.1, HI.out.2.1⟩, HI.out, ((hbel.setCell (by simp; omega) _).setCell (by simp; omega) _).setCell (by simp; omega) _⟩
              · exact setAwayI (setAwayI (setAwayI HIMP.out.own.sl obr.out _) obr.out _) obr.out _
              · simpa using (HIMP.out.own.lt (k := qo) rfl).2
            · have k1 : ((n1 : Int) == (n : Int)) = false := by rw [beq_eq_false_iff_ne]; omega
              clear hI himp
              go_wp2
              go_roundw
              case rel => exact ⟨r + 1, n1, ms2, by go_num, by omega, rfl, by omega, HIMP.out, HI.out⟩
              case measure => simp [intOf]; omega
      · obtain rfl : r = rounds := by omega
        obtain ⟨z0, z1, z2, -, -, -⟩ := himp.box.three.cells
        have hbr := boxR himp BRc.out obr.out
        obtain ⟨y0, y1, y2, g0, g1, g2⟩ := hbr.three.cells
        clear hI himp
        go_wp2_with fail
        have hbel : Below w.heap.size w wr := HB3.out.grown HIMP.out.gr HB3.out.size (fun k hk => by injection hk with e; have := HQO.out; omega)
        have hz := hbr.lt
        refine bodyPost_ret (v := .tuple #[.agg #[.int .i64 wd, .int .i64 hi, .slice (some ⟨qo, 0, none⟩) N co], .int .i64 n, .bool true]) (by simp [results, Try.results24, go_sem, y0, y1, y2, hz]) rfl ?_
        refine ⟨qo, co, n, ms1, rfl, ⟨?_, ?_, HI.out.1, HI.out.2.1⟩, HI.out, ((hbel.setCell (by simp; omega) _).setCell (by simp; omega) _).setCell (by simp; omega) _⟩
        · exact setAwayI (setAwayI (setAwayI HIMP.out.own.sl obr.out _) obr.out _) obr.out _
        · simpa using (HIMP.out.own.lt (k := qo) rfl).2

end Go.Proofs.Ytfhlpabbacopjaa

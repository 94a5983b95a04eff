/- solve: a row with the least cost, by words. -/
import Derived.Test.YtabbjilgpfnacaaGreatEt
import Derived.Deep.CutRange
import Derived.Deep.RegionHeld3
import Derived.StillTactics
namespace Go.Proofs.YtabbjilgpfnacaaGreat
open Go.RowKit Go.Shelf
set_option maxRecDepth 100000
set_option linter.unusedVariables false
set_option linter.unusedSimpArgs false

attribute [local go_sem] Oper.semAt_some

/-- Rows of places in memory, each as T tells. -/
def TakRows (W : World) (f : Nat) (vals : List Value) (T : Nat → Nat → Nat) (dp : Nat) : Prop :=
  ∀ i, i < vals.length → ∃ g c, vals[i]? = some (.slice (some ⟨g, 0, none⟩) dp c) ∧ g < W.heap.size ∧ g ≠ f ∧ ∀ d, d < dp → W.cell? ⟨g, d, none⟩ = some (.int .i64 (T i d : Nat))
theorem TakRows.below {W W' : World} {f : Nat} {vals : List Value} {T : Nat → Nat → Nat} {dp : Nat} (h : TakRows W f vals T dp) (hb : Below W.heap.size W W') : TakRows W' f vals T dp := fun i hi => by
  obtain ⟨g, c, h1, h2, h3, h4⟩ := h i hi
  exact ⟨g, c, h1, Nat.lt_of_lt_of_le h2 hb.size, h3, fun d hd => (hb.cell (p := ⟨g, d, none⟩) h2).trans (h4 d hd)⟩
theorem TakRows.snoc {W W' : World} {f f' : Nat} {vals : List Value} {T : Nat → Nat → Nat} {dp g c : Nat} (h : TakRows W f vals T dp) (hg : W.grownBy W' (some f)) (hf : f' = f ∨ W.heap.size ≤ f')
    (h2 : g < W.heap.size) (h3 : g ≠ f) (h4 : ∀ d, d < dp → W.cell? ⟨g, d, none⟩ = some (.int .i64 (T vals.length d : Nat))) : TakRows W' f' (vals ++ [.slice (some ⟨g, 0, none⟩) dp c]) T dp := fun i hi => by
  have key : ∀ (k : Nat), k < W.heap.size → k ≠ f → W'.heap[k]? = W.heap[k]? := fun k hk hne => hg.block k hk (by intro e; injection e with e; omega)
  by_cases hh : i < vals.length
  · obtain ⟨g1, c1, k1, k2, k3, k4⟩ := h i hh
    exact ⟨g1, c1, by rw [List.getElem?_append_left hh]; exact k1, Nat.lt_of_lt_of_le k2 hg.size, by omega, fun d hd => (World.cell?_of_block (key g1 k2 k3)).trans (k4 d hd)⟩
  · have : i = vals.length := by rw [List.length_append] at hi; simp at hi; omega
    subst this
    exact ⟨g, c, by simp, Nat.lt_of_lt_of_le h2 hg.size, by omega, fun d hd => (World.cell?_of_block (key g h2 h3)).trans (h4 d hd)⟩

/-- The places that are led back. -/
def stp (T : Nat → Nat → Nat) (s : Nat × List Int) (i : Nat) : Nat × List Int := (T i s.1, s.2 ++ [(T i s.1 : Int)])
def outs (T : Nat → Nat → Nat) (d0 : Nat) {n : Nat} (pre : List (Fin n)) : Nat × List Int := (pre.map (·.1)).foldl (stp T) (d0, [(d0 : Int)])
theorem outs_snoc (T : Nat → Nat → Nat) (d0 : Nat) {n : Nat} (pre : List (Fin n)) (x : Fin n) : outs T d0 (pre ++ [x]) = stp T (outs T d0 pre) x.1 := by simp [outs]
theorem outs_lt {T : Nat → Nat → Nat} {dp d0 : Nat} (hT : ∀ i d, d < dp → T i d < dp) (h0 : d0 < dp) {n : Nat} (pre : List (Fin n)) : (outs T d0 pre).1 < dp := by
  suffices H : ∀ (l : List Nat) (s : Nat × List Int), s.1 < dp → (l.foldl (stp T) s).1 < dp from H _ _ h0
  intro l
  induction l with
  | nil => intro s hs; exact hs
  | cons a l ih => intro s hs; exact ih _ (hT _ _ hs)
theorem outs_len {T : Nat → Nat → Nat} {d0 : Nat} {n : Nat} (pre : List (Fin n)) : (outs T d0 pre).2.length = pre.length + 1 := by
  suffices H : ∀ (l : List Nat) (s : Nat × List Int), (l.foldl (stp T) s).2.length = s.2.length + l.length by
    have := H (pre.map (·.1)) (d0, [(d0 : Int)])
    rw [List.length_map] at this
    show (List.foldl (stp T) (d0, [(d0 : Int)]) (pre.map (·.1))).2.length = _
    rw [this]; simp; omega
  intro l
  induction l with
  | nil => intro s; rfl
  | cons a l ih => intro s; show (l.foldl (stp T) (stp T s a)).2.length = _; rw [ih]; simp [stp]; omega

/-- The places of a row, as values. -/
def takV (T : Nat → Nat → Nat) (z d : Nat) : List Value := (List.range d).map fun e => Value.int .i64 (T z e : Nat)
theorem takV_len (T : Nat → Nat → Nat) (z d : Nat) : (takV T z d).length = d := by simp [takV]
theorem takV_succ (T : Nat → Nat → Nat) (z d : Nat) : takV T z (d + 1) = takV T z d ++ [Value.int .i64 (T z d : Nat)] := by simp [takV, List.range_succ]
theorem takV_get {T : Nat → Nat → Nat} {z d e : Nat} (h : e < d) : (takV T z d)[e]? = some (Value.int .i64 (T z e : Nat)) := by
  unfold takV; rw [List.getElem?_map, List.getElem?_range h]; rfl
theorem ownT_snoc {t : TypeId} {W : World} {B gg cap n : Nat} {ks : List Value} {u : Value} (h : W.ownsRow B t 1 (.slice (some ⟨gg, 0, none⟩) (n + 1) cap) (n + 1) (ks ++ [u])) (hl : ks.length = n) : OwnT t W B (.slice (some ⟨gg, 0, none⟩) (n + 1) cap) (ks ++ [u]) := by
  unfold OwnT; rw [List.length_append, hl]; exact h
theorem ownI_one (W : World) (B : Nat) (k : Int) (hB : B ≤ W.heap.size) : OwnI (W.alloc (.cells #[.int .i64 k] 2)) B (.slice (some ⟨W.heap.size, 0, none⟩) 1 1) [k] :=
  ⟨rfl, .inr ⟨W.heap.size, 1, #[.int .i64 k], rfl, hB, heap_alloc_new W _, Nat.le_refl _, by unfold maxLen; omega, rfl, rfl⟩⟩
theorem OwnI.base {w : World} {B B' : Nat} {v : Value} {ks : List Int} (h : w.ownsRow B 2 1 v ks.length (ks.map (Value.int .i64))) (hB : B' ≤ B) : OwnI w B' v ks := by
  obtain ⟨h1, h2⟩ := h
  refine ⟨h1, ?_⟩
  rcases h2 with h | ⟨g, cap, cur, h4, h5, h6⟩
  · exact .inl h
  · exact .inr ⟨g, cap, cur, h4, by omega, h6⟩
theorem tab_cellX {W : World} {b o n c : Nat} {F : Nat → Nat} (h : SlF W (.slice (some ⟨b, o, none⟩) n c) (tab n F)) {i : Nat} (hi : i < n) : W.cell? ⟨b, o + i, none⟩ = some (.float .f32 (F i)) := by
  have := (h.at i (by rw [tab_length]; exact hi)).1
  rw [tab_getD hi] at this
  exact this
theorem rowSl {W : World} {pb wd hi dp b off n c : Nat} {bs : List Nat} (h : VolAt W pb wd hi dp b off n c bs) (hb : b < W.heap.size) {x y : Nat} (hx : x < wd) (hy : y < hi) : SlF W (.slice (some ⟨b, off + ic wd dp x y, none⟩) dp dp) (tab dp (gc bs wd dp x y)) := by
  have hl : (tab dp (gc bs wd dp x y)).length = dp := tab_length _ _
  refine ⟨⟨some ⟨b, off + ic wd dp x y, none⟩, dp, by rw [List.length_map, hl], by rw [List.length_map, hl]; exact Nat.le_refl _, ?_, .inr ⟨b, off + ic wd dp x y, rfl, hb, fun i hi_ => ?_⟩⟩, fun z hz => ?_⟩
  · have h1 := h.sl.leE
    have h2 := h.len
    have h3 := ic_le (dp := dp) hx hy
    omega
  · rw [List.length_map, hl] at hi_
    rw [(h.cost hx hy hi_).1]
    simp [tab]
  · obtain ⟨i, hi_, rfl⟩ := List.mem_map.1 hz
    exact (h.cost hx hy (List.mem_range.1 hi_)).2

set_option maxHeartbeats 8000000 in
theorem solve_w (w : World) (vb wd hi dp qv Nv cv y nb vo vm : Nat) (bs : List Nat) (G : Nat → Nat → Nat) (U : Nat → Nat → Nat → Nat) (T : Nat → Nat → Nat)
    (hV : VolAt w vb wd hi dp qv 0 Nv cv bs) (d1 : 1 ≤ wd) (d2 : wd ≤ 24) (d4 : hi ≤ 24) (d5 : 1 ≤ dp) (d6 : dp ≤ 8) (hy : y < hi) (hqv : qv < w.heap.size) (hnb : nb ≤ wd)
    (hok : ∀ x d, x < nb → d < dp → le32 0 (gc bs wd dp x y d) = true) (hbad : nb < wd → ∃ d, d < dp ∧ le32 0 (gc bs wd dp nb y d) = false)
    (hG0 : ∀ d, d < dp → gc bs wd dp 0 y d = G 0 d) (hGlt : ∀ x d, x < nb → d < dp → G x d < 4294967296)
    (hU : ∀ x d e, x < nb → e < dp → floatBits .add .f32 (G x e) (prW vo vm e d) = some (U x d e) ∧ U x d e < 4294967296)
    (hT : ∀ x d, T x d = fstW (U x d) dp)
    (hS : ∀ x d, x + 1 < nb → d < dp → floatBits .add .f32 (U x d (T x d)) (gc bs wd dp (x + 1) y d) = some (G (x + 1) d)) :
    Calls Tryz.prog 50 #[.pointer (some ⟨vb, 0, none⟩), .agg #[.float .f32 vo, .float .f32 vm], .int .i64 y] w fun e w' => ((nb = wd ∧ ∃ g c, e = .returned (.tuple #[.slice (some ⟨g, 0, none⟩) wd c, .float .f32 (G (wd - 1) (fstW (G (wd - 1)) dp)), .bool true]) ∧ OwnI w' w.heap.size (.slice (some ⟨g, 0, none⟩) wd c) (outs T (fstW (G (wd - 1)) dp) (dn (wd - 1) (wd - 1))).2.reverse) ∨ (nb < wd ∧ e = .returned (.tuple #[.slice none 0 0, .float .f32 0, .bool false]))) ∧ Below w.heap.size w w' := by
  obtain ⟨i0, hi0, hz0, hz1, hz2⟩ := info_parts info_f32
  obtain ⟨i1, hi1, hy0, hy1, hy2⟩ := info_parts info_int
  obtain ⟨i2, hi2, hx0, hx1, hx2⟩ := info_parts info_ints
  have KP := Lib.hid (fun W a b (ha : a < 8) (hb : b < 8) => priceE W vo vm a b (by omega) (by omega))
  have HOK := Lib.hid (And.intro hok (And.intro hbad hnb))
  have HG0 := Lib.hid hG0
  have HGL := Lib.hid hGlt
  have HU := Lib.hid hU
  have HTE := Lib.hid hT
  have HT := Lib.hid (fun (i d : Nat) (hd : d < dp) => (show T i d < dp by rw [hT]; exact fstW_lt _ _ d5))
  have HSS := Lib.hid hS
  have hb0 := (Below.refl w.heap.size w).alloc (Nat.le_refl _) (.cells #[.float .f32 vo, .float .f32 vm] 37)
  have BP := BoxN.last w #[.float .f32 vo, .float .f32 vm] 37
  obtain ⟨W0, hW0⟩ : ∃ W0, W0 = w.alloc (.cells #[.float .f32 vo, .float .f32 vm] 37) := ⟨_, rfl⟩
  have hs0 : W0.heap.size = w.heap.size + 1 := by rw [hW0]; simp
  rw [← hW0] at BP hb0
  have hV0 := hV.below hb0
  have hlv := hV.len
  have VA := Lib.hid (fun W (hW : Below W0.heap.size W0 W) => hV0.below hW)
  have BPA := Lib.hid (fun W (hW : Below W0.heap.size W0 W) => BP.below hW)
  have HB0 := Lib.hid hb0
  have HW0 := Lib.hid hW0
  have CA := Lib.hid (fun W (hW : Below W0.heap.size W0 W) (X Y : Int) (x : Nat) (hX : X = x) (hY : Y = y) (hx : x < wd) => cell_any W vb wd hi dp qv 0 Nv cv bs X Y x y hX hY hx hy d2 d4 d5 d6 (hV0.below hW))
  have SA := Lib.hid (fun W (hW : Below W0.heap.size W0 W) (x : Nat) (hx : x < wd) => rowSl (hV0.below hW) (Nat.lt_of_lt_of_le hqv (Nat.le_trans hb0.size hW.size)) (x := x) (y := y) hx hy)
  have HS0 := Lib.hid hs0
  clear hok hbad hG0 hGlt hU hT hS hb0 BP hV0 hV hlv hs0 hqv
  refine (callsIn_wide (n := 9)).1 ?_
  refine callsIn_of_wp_marks (n := 9) Tryz.func50 rfl trivial ?_ rfl
  refine wpIn_wide.2 ?_
  simp only [Tryz.ntmps50, List.size_toArray, List.length_cons, List.length_nil, Nat.reduceAdd, Nat.reduceSub, Array.replicate_succ, Array.replicate_zero, List.push_toArray, List.append_toArray, List.nil_append, List.cons_append]
  go_wp2_with fail
  rw [← HW0.out]
  have hr0 := Below.refl W0.heap.size W0
  (with_reducible refine (CA.out W0 hr0 0 y 0 rfl rfl (by omega)).mono ?_)
  rintro e w1 ⟨rfl, m1, hw1⟩
  have hb1 : Below W0.heap.size W0 w1 := by rw [hw1]; exact below_drewN hr0 m1
  have SA0 := SA.out w1 hb1 0 (by omega)
  rw [Nat.zero_add] at SA0
  have hne : tab dp (gc bs wd dp 0 y) ≠ [] := by intro e; have := congrArg List.length e; rw [tab_length] at this; simp at this; omega
  have KCL := cloneF_any w1 _ _ SA0 hne (by rw [tab_length]; omega)
  have KCL := Lib.hid KCL
  have HB1 := Lib.hid hb1
  clear hw1 hr0 hb1 hne SA0
  go_wp2_with fail
  refine KCL.out.mono ?_
  rintro e w2 ⟨a2, c2, rfl, hown2, hb2⟩
  rw [tab_length] at hown2 ⊢
  obtain ⟨g2, rfl⟩ := own_ptrE hown2 (by rw [tab_length]; omega)
  have et2 : tab dp (gc bs wd dp 0 y) = tab dp (G (0 - 1)) := by
    unfold tab
    exact List.map_congr_left fun d hd => HG0.out d (List.mem_range.1 hd)
  rw [et2] at hown2
  have hb2' := HB1.out.trans (hb2.mono HB1.out.size)
  have ha2 := hb2'.alloc hb2'.size (.cells #[] 108)
  have hst := OwnT.start 108 w2
  have ho2 := (hown2.below (alE w2 (.cells #[] 108))).mono HB1.out.size
  have HB2 := Lib.hid (And.intro ho2 (And.intro (hst.mono hb2'.size) ha2))
  have hg2 := (hown2.lt (k := g2) rfl).2
  obtain ⟨v0, v1, v2, v3, -, -, -, -⟩ := (VA.out _ ha2).box.four
  clear KCL hb2 hown2 et2 hb2' hst ho2 ha2
  have wd24 : (wd : Int) ≤ 24 := by omega
  have dp8 : (dp : Int) ≤ 8 := by omega
  go_wp2_with fail
  clear v0 v1 v2 v3
  go_loopw [9, 10, 34] (fun v9 v10 v34 wr => ∃ (x g c f fc : Nat) (vals : List Value), v34 = .int .i64 x ∧ x ≤ nb ∧ v9 = .slice (some ⟨g, 0, none⟩) dp c ∧ v10 = .slice (some ⟨f, 0, none⟩) (x - 1) fc ∧ g ≠ f ∧ OwnF wr W0.heap.size (.slice (some ⟨g, 0, none⟩) dp c) (tab dp (G (x - 1))) ∧ OwnT 108 wr W0.heap.size (.slice (some ⟨f, 0, none⟩) (x - 1) fc) vals ∧ TakRows wr f vals T dp ∧ Below W0.heap.size W0 wr) (fun _ _ v34 _ => wd - (intOf v34).toNat)
  case atStart => exact ⟨0, g2, c2, w2.heap.size, 0, [], rfl, Nat.zero_le _, rfl, rfl, by omega, HB2.out.1, HB2.out.2.1, fun i hi => absurd hi (by simp), HB2.out.2.2⟩
  case round =>
    clear HB2 hg2
    obtain ⟨x, g, c, f, fc, vals, rfl, hx, rfl, rfl, hgf, hown, hfrom, htak, hbl⟩ := hrel
    have HOW := Lib.hid hown
    have HFR := Lib.hid hfrom
    have HTK := Lib.hid htak
    have HBL := Lib.hid hbl
    clear hown hfrom htak hbl
    have hnb := HOK.out.2.2
    by_cases hlt : x < wd
    · have hltI : (x : Int) < wd := by omega
      go_wp2_with fail
      (with_reducible refine (CA.out wr HBL.out x y x rfl rfl hlt).mono ?_)
      rintro e w3 ⟨rfl, m3, hw3⟩
      have hb3r : Below wr.heap.size wr w3 := by rw [hw3]; exact below_drewN (Below.refl _ _) m3
      have hb3 := HBL.out.trans (hb3r.mono HBL.out.size)
      have hrow := fun i (hi_ : i < dp) => (tab_cellX (SA.out w3 hb3 x hlt) hi_ : w3.cell? ⟨qv, 0 + ic wd dp x y + i, none⟩ = some (.float .f32 (gc bs wd dp x y i)))
      obtain ⟨bd, hbd⟩ : ∃ bd, decide (x = nb) = bd := ⟨_, rfl⟩
      have KCS := containsSolveE w3 qv (0 + ic wd dp x y) dp dp (gc bs wd dp x y) bd (by omega) (Nat.le_refl _) (by omega) hrow (fun e => by
        have hx : x = nb := by rw [e] at hbd; simpa using hbd
        rw [hx]; exact HOK.out.2.1 (by omega)) (fun e i hi_ => HOK.out.1 x i (by have : x ≠ nb := by (rw [e] at hbd; simpa using hbd)
                                                                                 omega) hi_)
      rw [Nat.zero_add] at KCS
      have KCS := Lib.hid KCS
      have HB3r := Lib.hid hb3r
      have HB3 := Lib.hid hb3
      clear hw3 hb3r hb3 hrow
      have HBD := Lib.hid hbd
      clear hbd
      cases bd
      case true =>
        go_wp2_with fail
        refine KCS.out.mono ?_
        rintro e w4 ⟨rfl, m4, hw4⟩
        have hb4r : Below wr.heap.size wr w4 := by rw [hw4]; exact below_drewN HB3r.out m4
        have HF := Lib.hid (HB0.out.trans ((HBL.out.trans (hb4r.mono HBL.out.size)).mono HB0.out.size))
        have HNB := Lib.hid (show nb < wd by have h := HBD.out; simp at h; omega)
        clear hw4 hb4r
        go_wp2_with fail
        exact ⟨_, results_tmp3 rfl _ _ _, .inr ⟨HNB.out, rfl⟩, HF.out⟩
      case false =>
      have hltn : x < nb := by have h := HBD.out; simp at h; omega
      go_wp2_with fail
      refine KCS.out.mono ?_
      rintro e w4 ⟨rfl, m4, hw4⟩
      have hb4r : Below wr.heap.size wr w4 := by rw [hw4]; exact below_drewN HB3r.out m4
      have HB4r := Lib.hid hb4r
      have HB4 := Lib.hid (HBL.out.trans (hb4r.mono HBL.out.size))
      have OW4 := Lib.hid (HOW.out.below hb4r)
      have FR4 := Lib.hid (HFR.out.below hb4r)
      have TK4 := Lib.hid (HTK.out.below hb4r)
      have hg4 := (OW4.out.lt (k := g) rfl).2
      have hf4 := (FR4.out.lt (k := f) rfl).2
      clear hw4 hb4r KCS HB3r HB3
      by_cases hx0 : x = 0
      · as_aux_lemma =>
        subst hx0
        clear hltI
        go_wp2
        go_roundw
        case rel => exact ⟨1, g, c, f, fc, vals, by go_num, by omega, rfl, rfl, hgf, OW4.out, FR4.out, TK4.out, HB4.out⟩
        case measure => simp [intOf]; omega
      · as_aux_lemma =>
        obtain ⟨z, hz⟩ : ∃ z, x = z + 1 := ⟨x - 1, by omega⟩
        have hzx : x - 1 = z := by omega
        have hx0I : ((x : Int) == 0) = false := by rw [beq_eq_false_iff_ne]; omega
        rw [hzx] at OW4 FR4 ⊢
        have hA := below_two w4 (.cells #[] 25) (.cells #[] 3)
        have CA5 := Lib.hid (CA.out _ (HB4.out.trans (hA.mono HB4.out.size)) x y x rfl rfl hlt)
        have HA := Lib.hid hA
        have HZ := Lib.hid hz
        clear hA hx0 hz hzx HOW HFR HTK
        go_wp2_with fail
        refine CA5.out.mono ?_
        rintro e w5 ⟨rfl, m5, hw5⟩
        have hb5 : Below w4.heap.size w4 w5 := by rw [hw5]; exact below_drewN HA.out m5
        have st1 : OwnF w5 w4.heap.size (.slice (some ⟨w4.heap.size, 0, none⟩) 0 0) (tab 0 (G x)) := by
          rw [hw5]; exact ((ownF_startW w4 (G x)).below (alE _ _)).drewN m5
        have st2 : OwnT 3 w5 w4.heap.size (.slice (some ⟨w4.heap.size + 1, 0, none⟩) 0 0) (takV T z 0) := by
          rw [hw5]
          have := (OwnT.start 3 (w4.alloc (.cells #[] 25))).mono (show w4.heap.size ≤ _ by simp)
          simp only [World.size_alloc] at this
          exact this.grown (grown_drewN _ m5 none) (by simp [Value.ownBlock])
        have ST := Lib.hid (And.intro st1 (And.intro st2 hb5))
        clear hw5 hb5 st1 st2 CA5 HA hx0I
        go_wp2_with fail
        go_loopw [12, 13, 51] (fun v12 v13 v51 wq => ∃ (d n nc t tc : Nat), v51 = .int .i64 d ∧ d ≤ dp ∧ v12 = .slice (some ⟨n, 0, none⟩) d nc ∧ v13 = .slice (some ⟨t, 0, none⟩) d tc ∧ n ≠ t ∧ OwnF wq w4.heap.size (.slice (some ⟨n, 0, none⟩) d nc) (tab d (G x)) ∧ OwnT 3 wq w4.heap.size (.slice (some ⟨t, 0, none⟩) d tc) (takV T z d) ∧ Below w4.heap.size w4 wq) (fun _ _ v51 _ => dp - (intOf v51).toNat)
        case atStart => exact ⟨0, _, _, _, _, rfl, Nat.zero_le _, rfl, rfl, by omega, ST.out.1, ST.out.2.1, ST.out.2.2⟩
        case round =>
          rename World => wq
          clear ST
          obtain ⟨d, n, nc, t, tc, rfl, hd, rfl, rfl, hnt, hnext, htkn, hbq⟩ := hrel
          have HNX := Lib.hid hnext
          have HTN := Lib.hid htkn
          have HBQ := Lib.hid hbq
          clear hnext htkn hbq
          by_cases hltd : d < dp
          · have hbw := HB4.out.trans (HBQ.out.mono HB4.out.size)
            have cc : wq.cell? ⟨qv, ic wd dp x y + d, none⟩ = some (.float .f32 (gc bs wd dp x y d)) := by
              have := tab_cellX (SA.out _ hbw x hlt) hltd
              rw [Nat.zero_add] at this
              exact this
            obtain ⟨vc, hvc⟩ : ∃ vc, gc bs wd dp x y d = vc := ⟨_, rfl⟩
            rw [hvc] at cc
            have HVC := Lib.hid hvc
            have hdI : (d : Int) < dp := by omega
            have sst := ownF_startW wq (U z d)
            have HST := Lib.hid (And.intro sst (alE wq (.cells #[] 25)))
            clear hbw hvc sst
            go_wp2_with fail
            clear cc
            go_loopw [16, 59] (fun v16 v59 wp => ∃ (e u uc : Nat), v59 = .int .i64 e ∧ e ≤ dp ∧ v16 = .slice (some ⟨u, 0, none⟩) e uc ∧ OwnF wp wq.heap.size (.slice (some ⟨u, 0, none⟩) e uc) (tab e (U z d)) ∧ Below wq.heap.size wq wp) (fun _ v59 _ => dp - (intOf v59).toNat)
            case atStart => exact ⟨0, _, _, rfl, Nat.zero_le _, rfl, HST.out.1, HST.out.2⟩
            case round =>
              rename World => wp
              clear HST
              obtain ⟨e, u, uc, rfl, he, rfl, hways, hbp⟩ := hrel
              have HWY := Lib.hid hways
              have HBP := Lib.hid hbp
              have hbpp := HBQ.out.trans (hbp.mono HBQ.out.size)
              have HBPP := Lib.hid hbpp
              by_cases hlte : e < dp
              · as_aux_lemma =>
                have cg := tab_cellW (OW4.out.below hbpp).sl hlte
                have heI : (e : Int) < dp := by omega
                have KPR := Lib.hid (KP.out wp e d (by omega) (by omega))
                obtain ⟨ad, adl⟩ := HU.out z d e (by have := HZ.out; omega) hlte
                have bp := BPA.out wp (HB4.out.trans (hbpp.mono HB4.out.size))
                have zp0 := bp.cell 0
                have zp1 := bp.cell 1
                simp only [List.size_toArray, List.length_cons, List.length_nil, List.getElem?_toArray, List.getElem?_cons_zero, List.getElem?_cons_succ] at zp0 zp1
                obtain ⟨vg, hvg⟩ : ∃ vg, G z e = vg := ⟨_, rfl⟩
                obtain ⟨vp, hvp⟩ : ∃ vp, prW vo vm e d = vp := ⟨_, rfl⟩
                obtain ⟨vs, hvs⟩ : ∃ vs, U z d e = vs := ⟨_, rfl⟩
                rw [hvs] at adl
                rw [hvg, hvp, hvs] at ad
                rw [hvg] at cg
                rw [hvp] at KPR
                have HVS := Lib.hid hvs
                have ar := fres_some ad
                have af := fdr_some ad
                have hd0 : ∀ W : World, W.drewN 0 = W := fun _ => rfl
                have HADL := Lib.hid adl
                clear hways hbp hbpp bp ad hvg hvp hvs adl
                go_wp2_with fail
                (with_reducible refine KPR.out.mono ?_)
                rintro e' w6 ⟨rfl, hb6⟩
                have ho6 := HWY.out.below hb6
                have how := ho6.1
                rw [tab_length] at how
                have HO6 := Lib.hid ho6
                have HB6 := Lib.hid (HBP.out.trans (hb6.mono HBP.out.size))
                have hs6 := HB6.out.size
                clear zp0 zp1 ho6 hb6 cg
                go_wp2_with (at_builtin; refine wpList_append_lies _ (by rfl) _ _ _ (by rfl) wq.heap.size 25 i0 _ 1 4 Tryz.underlying22 hi0 hz0 hz1 hz2 rfl (by omega) (.slice (some ⟨u, 0, none⟩) e uc) e _ (by rfl) (World.ownsRow.alloc how _) ⟨w6.heap.size, 0, none⟩ 1 1 [.float .f32 vs] (by rfl) (by rfl) (cell_one_new _ _ _) (by simp [Value.oneCell']) (by omega) (by unfold maxLen; omega) (by omega) (by simp; omega) (w6.heap.size + 1) (by simp) ?_; intro gg cap wz hown2 hgrow hat hlt2)
                go_roundw
                case rel =>
                  refine ⟨e + 1, gg, cap, by go_num, by omega, rfl, ?_, (HB6.out.alloc hs6 (.cells #[.float .f32 vs] 25)).grown hgrow (by simp; omega) (fun k hk => (HO6.out.lt hk).1)⟩
                  exact own_snocW hown2 HVS.out HADL.out (fun i hi_ => (HU.out z d i (by have := HZ.out; omega) (by omega)).2)
                case measure => simp [intOf]; omega
              · as_aux_lemma =>
                obtain rfl : dp = e := by omega
                have KF := Lib.hid (firstLeastE wp u 0 dp uc (U z d) d5 (by omega) (fun i hi_ => by rw [Nat.zero_add]; exact tab_cellW hways.sl hi_))
                clear hways hbp hbpp
                go_wp2_with fail
                (with_reducible refine KF.out.mono ?_)
                rintro e' w7 ⟨rfl, m7, hw7⟩
                obtain ⟨d', hd'e⟩ : ∃ d', fstW (U z d) dp = d' := ⟨_, rfl⟩
                rw [hd'e]
                have hb7 : Below wp.heap.size wp w7 := by rw [hw7]; exact below_drewN (Below.refl _ _) _
                have hT1 : T z d = d' := by rw [HTE.out]; exact hd'e
                have hd' : d' < dp := by rw [← hd'e]; exact fstW_lt _ _ d5
                have cwy := tab_cellW (HWY.out.below hb7).sl hd'
                have ad := HSS.out z d (by have := HZ.out; omega) hltd
                rw [hT1] at ad
                have ezx : z + 1 = x := HZ.out.symm
                rw [ezx, HVC.out] at ad
                obtain ⟨vy, hvy⟩ : ∃ vy, U z d d' = vy := ⟨_, rfl⟩
                obtain ⟨vs, hvs⟩ : ∃ vs, G x d = vs := ⟨_, rfl⟩
                have hvl := HGL.out x d hltn hltd
                rw [hvs] at hvl
                have HVL2 := Lib.hid hvl
                rw [hvy, hvs] at ad
                rw [hvy] at cwy
                have HVS := Lib.hid hvs
                have HT1 := Lib.hid hT1
                have ar := fres_some ad
                have af := fdr_some ad
                have hd0 : ∀ W : World, W.drewN 0 = W := fun _ => rfl
                have d'I : (d' : Int) < dp := by omega
                have hb7q := HBP.out.trans (hb7.mono HBP.out.size)
                have hb74 := HBQ.out.trans (hb7q.mono HBQ.out.size)
                have hn7 := HNX.out.below hb7q
                have ht7 := HTN.out.below hb7q
                have hs7 := hb74.size
                have tlt := ht7.lt (k := t) rfl
                have nlt := hn7.lt (k := n) rfl
                have how := hn7.1
                rw [tab_length] at how
                have HN7 := Lib.hid hn7
                have HT7 := Lib.hid ht7
                have HB74 := Lib.hid hb74
                clear hw7 hb7 hT1 hd'e ezx hvl ad hvy hvs hb7q hb74 hn7 ht7 KF
                go_wp2_with (first
                  | (at_builtin; refine wpList_append_lies _ (by rfl) _ _ _ (by rfl) w4.heap.size 25 i0 _ 1 4 Tryz.underlying22 hi0 hz0 hz1 hz2 rfl (by omega) (.slice (some ⟨n, 0, none⟩) d nc) d _ (by rfl) (World.ownsRow.alloc how _) ⟨w7.heap.size, 0, none⟩ 1 1 [.float .f32 vs] (by rfl) (by rfl) (cell_one_new _ _ _) (by simp [Value.oneCell']) (by omega) (by unfold maxLen; omega) (by omega) (by simp; omega) (w7.heap.size + 1) (by simp) ?_; intro g1 k1 x1 hown1 hgrow1 hat1 hlt1
                     have hat1' : g1 = n ∨ g1 = w7.heap.size + 1 := by
                       rcases hat1 with h | h
                       · left; simpa [Value.ownBlock] using h.symm
                       · right; exact h
                     have hbx1 := (HB74.out.alloc hs7 (.cells #[.float .f32 vs] 25)).grown hgrow1 (by simp; omega) (fun k hk => by simp [Value.ownBlock] at hk; omega)
                     have hn8 : OwnF x1 w4.heap.size (.slice (some ⟨g1, 0, none⟩) (d + 1) k1) (tab (d + 1) (G x)) := by
                       exact own_snocW hown1 HVS.out HVL2.out (fun i hi_ => HGL.out x i hltn (by omega))
                     have ht8 := (HT7.out.below (alE w7 (.cells #[.float .f32 vs] 25))).grown hgrow1 (.inr (by simp [Value.ownBlock]; omega))
                     have hos := ht8
                     unfold OwnT at hos
                     rw [takV_len] at hos
                     have hs8 := hbx1.size
                     have HN8 := Lib.hid hn8
                     have HT8 := Lib.hid ht8
                     have HB8 := Lib.hid hbx1
                     have HAT := Lib.hid hat1'
                     clear hn8 ht8 hbx1 hown1 hgrow1 hat1 hat1' how cwy ar af)
                  | (at_builtin; refine wpList_append_lies _ (by rfl) _ _ _ (by rfl) w4.heap.size 3 i1 _ 1 8 Tryz.underlying108 hi1 hy0 hy1 hy2 rfl (by omega) (.slice (some ⟨t, 0, none⟩) d tc) d _ (by rfl) (World.ownsRow.alloc hos _) ⟨x1.heap.size, 0, none⟩ 1 1 [.int .i64 d'] (by rfl) (by rfl) (cell_one_new _ _ _) (by simp [Value.oneCell']) (by omega) (by unfold maxLen; omega) (by omega) (by simp; omega) (x1.heap.size + 1) (by simp) ?_; intro g2 k2 x2 hown2 hgrow2 hat2 hlt2))
                go_roundw
                case rel =>
                  have hat2' : g2 = t ∨ g2 = x1.heap.size + 1 := by
                    rcases hat2 with h | h
                    · left; simpa [Value.ownBlock] using h.symm
                    · right; exact h
                  have hx := HAT.out
                  refine ⟨d + 1, g1, k1, g2, k2, by go_num, by omega, rfl, rfl, by omega, (HN8.out.below (alE x1 (.cells #[.int .i64 d'] 3))).grown hgrow2 (.inr (by simp [Value.ownBlock]; omega)), ?_, (HB8.out.alloc hs8 (.cells #[.int .i64 d'] 3)).grown hgrow2 (by simp; omega) (fun k hk => by simp [Value.ownBlock] at hk; omega)⟩
                  rw [takV_succ, HT1.out]
                  exact ownT_snoc hown2 (takV_len _ _ _)
                case measure => simp [intOf]; omega
          · as_aux_lemma =>
            obtain rfl : dp = d := by omega
            have hbw := HB4.out.trans (HBQ.out.mono HB4.out.size)
            have hfw := FR4.out.below HBQ.out
            have htw := TK4.out.below HBQ.out
            have hvl : vals.length = z := FR4.out.len.1
            have hos := hfw
            unfold OwnT at hos
            rw [hvl] at hos
            have hsw := hbw.size
            have hfl := hfw.lt (k := f) rfl
            have htl := HTN.out.lt (k := t) rfl
            have hnl := HNX.out.lt (k := n) rfl
            have z24 : z ≤ 24 := by have := HZ.out; omega
            have HFW := Lib.hid hfw
            have HTW := Lib.hid htw
            have HBW := Lib.hid hbw
            have HVL := Lib.hid hvl
            clear hfw htw hbw hvl hgf
            go_wp2_with (at_builtin; refine wpList_append_lies _ (by rfl) _ _ _ (by rfl) W0.heap.size 108 i2 _ 1 24 Tryz.underlying106 hi2 hx0 hx1 hx2 rfl (by omega) (.slice (some ⟨f, 0, none⟩) z fc) z _ (by rfl) (World.ownsRow.alloc hos _) ⟨wq.heap.size, 0, none⟩ 1 1 [.slice (some ⟨t, 0, none⟩) dp tc] (by rfl) (by rfl) (cell_one_new _ _ _) (by simp [Value.oneCell']) (by omega) (by unfold maxLen; omega) (by omega) (by simp; omega) (wq.heap.size + 1) (by simp) ?_; intro g1 k1 x1 hown1 hgrow1 hat1 hlt1)
            go_roundw
            case rel =>
              have hat1' : g1 = f ∨ g1 = wq.heap.size + 1 := by
                rcases hat1 with h | h
                · left; simpa [Value.ownBlock] using h.symm
                · right; exact h
              have hxz : x + 1 - 1 = z + 1 := by have := HZ.out; omega
              have hxz2 : z + 1 = x := HZ.out.symm
              refine ⟨x + 1, n, nc, g1, k1, vals ++ [.slice (some ⟨t, 0, none⟩) dp tc], by go_num, by omega, rfl, by rw [hxz], by omega, ?_, ?_, ?_, (HBW.out.alloc hsw (.cells #[.slice (some ⟨t, 0, none⟩) dp tc] 108)).grown hgrow1 (by simp; omega) (fun k hk => by simp [Value.ownBlock] at hk; omega)⟩
              · rw [hxz, hxz2]
                exact ((HNX.out.below (alE wq (.cells #[.slice (some ⟨t, 0, none⟩) dp tc] 108))).grown hgrow1 (.inr (by simp [Value.ownBlock]; omega))).mono (by have := HB4.out.size; omega)
              · rw [hxz]
                exact ownT_snoc hown1 HVL.out
              · have hgr : (wq.alloc (.cells #[.slice (some ⟨t, 0, none⟩) dp tc] 108)).grownBy x1 (some f) := hgrow1
                refine (HTW.out.below (alE wq (.cells #[.slice (some ⟨t, 0, none⟩) dp tc] 108))).snoc hgr (by simp; omega) (by simp; omega) (by omega) fun d hd => ?_
                rw [HVL.out]
                exact (HTN.out.below (alE wq (.cells #[.slice (some ⟨t, 0, none⟩) dp tc] 108))).cellAt d (takV_get hd)
            case measure => simp [intOf]; omega
    · obtain rfl : wd = x := by omega
      have hnw : nb = wd := by omega
      have HNW := Lib.hid hnw
      clear hnw
      have KF := Lib.hid (firstLeastE wr g 0 dp c (G (wd - 1)) d5 (by omega) (fun i hi_ => by rw [Nat.zero_add]; exact tab_cellW HOW.out.sl hi_))
      go_wp2_with fail
      (with_reducible refine KF.out.mono ?_)
      rintro e' w8 ⟨rfl, m8, hw8⟩
      obtain ⟨d0, hd0e⟩ : ∃ d0, fstW (G (wd - 1)) dp = d0 := ⟨_, rfl⟩
      rw [hd0e]
      have hb8 : Below wr.heap.size wr w8 := by rw [hw8]; exact below_drewN (Below.refl _ _) _
      have hd0 : d0 < dp := by rw [← hd0e]; exact fstW_lt _ _ d5
      have HFST := Lib.hid hd0e
      have HOW8 := Lib.hid (HOW.out.below hb8)
      have HFR8 := Lib.hid (HFR.out.below hb8)
      have HTK8 := Lib.hid (HTK.out.below hb8)
      have HBL8 := Lib.hid (HBL.out.trans (hb8.mono HBL.out.size))
      clear hw8 hb8 hd0e KF HOW HFR HTK HBL
      go_upto_region 25 with fail
      have hgl := (HOW8.out.lt (k := g) rfl).2
      have cg := tab_cellW (HOW8.out.below (alE w8 (.cells #[.int .i64 d0] 3))).sl hd0
      obtain ⟨vk, hvk⟩ : ∃ vk, G (wd - 1) d0 = vk := ⟨_, rfl⟩
      rw [hvk] at cg
      have HVK := Lib.hid hvk
      have bx := Boxed.new w8 3 (.int .i64 d0)
      have cd := bx.cell
      have ha9 := alE w8 (.cells #[.int .i64 d0] 3)
      obtain ⟨D0, hD0⟩ : ∃ D0, D0 = w8.heap.size := ⟨_, rfl⟩
      obtain ⟨w9, hw9⟩ : ∃ w9, w9 = w8.alloc (.cells #[.int .i64 d0] 3) := ⟨_, rfl⟩
      rw [← hw9] at cg bx cd ha9 ⊢
      rw [← hD0] at bx cd ha9 ⊢
      have hs9 : w9.heap.size = D0 + 1 := by rw [hw9, hD0]; simp
      have hb9 := Below.refl w9.heap.size w9
      have hgD : g < D0 := by omega
      have HW9 := Lib.hid hw9
      have HD0 := Lib.hid hD0
      have HA9 := Lib.hid ha9
      have BX := Lib.hid bx
      have dI : (d0 : Int) < dp := by omega
      clear hvk hw9 hD0 ha9 bx hgl
      go_cut [21, 22] from 98 to 103 (fun v21 v22 wx => ∃ ob ol : Nat, v21 = .float .f32 vk ∧ v22 = .pointer (some ⟨ob, 0, none⟩) ∧ Boxed wx ob 81 (.slice (some ⟨ol, 0, none⟩) 1 1) ∧ OwnI wx w9.heap.size (.slice (some ⟨ol, 0, none⟩) 1 1) [(d0 : Int)] ∧ Below w9.heap.size w9 wx ∧ w9.heap.size ≤ ob)
      case first =>
        go_region_held3 (fun W => W.cell? ⟨D0, 0, none⟩ = some (.int .i64 d0) ∧ W.cell? ⟨g, d0, none⟩ = some (.float .f32 vk))
          (go_keep)
          (fail)
        all_goals
          go_wp2_with fail
          go_meet
          first
            | (refine ⟨D0 + 1, D0 + 1 + 1, rfl, rfl, ?_, ?_, ?_, by omega⟩
               · have := (Boxed.new w9 81 (.slice (some ⟨D0 + 1 + 1, 0, none⟩) 1 1)).alloc (.cells #[.int .i64 d0] 2)
                 rw [hs9] at this
                 exact this
               · have := ownI_one (w9.alloc (.cells #[.slice (some ⟨D0 + 1 + 1, 0, none⟩) 1 1] 81)) w9.heap.size (d0 : Int) (by simp)
                 simp only [World.size_alloc, hs9] at this ⊢
                 exact this
               · exact below_drewN (below_two w9 _ _) 1)
            | (refine ⟨D0 + 1 + 1, D0 + 1, rfl, rfl, ?_, ?_, ?_, by omega⟩
               · have := Boxed.new (w9.alloc (.cells #[.int .i64 d0] 2)) 81 (.slice (some ⟨D0 + 1, 0, none⟩) 1 1)
                 simp only [World.size_alloc, hs9] at this
                 exact this
               · have := (ownI_one w9 w9.heap.size (d0 : Int) (Nat.le_refl _)).below (alE _ (.cells #[.slice (some ⟨D0 + 1, 0, none⟩) 1 1] 81))
                 simp only [hs9] at this ⊢
                 exact this
               · exact below_drewN (below_two w9 _ _) 1)
      case rest =>
        obtain ⟨ob, ol, rfl, rfl, hbo, hown, hb10, hob⟩ := hcut
        have HBO := Lib.hid hbo
        have HOW10 := Lib.hid hown
        have HB10 := Lib.hid hb10
        clear hbo hown hb10 cg cd
        go_wp2_with fail
        refine (backward_any _ _ _ _).mono ?_
        rintro e w11 ⟨rfl, rfl⟩
        go_wp2_with fail
        have hDs : D0 = w8.heap.size := HD0.out
        have hfl := (HFR8.out.lt (k := f) rfl).2
        have hvl := HFR8.out.len.1
        have hex : ∀ j : Nat, ∃ p : Nat × Nat, j < wd - 1 → vals[j]? = some (.slice (some ⟨p.1, 0, none⟩) dp p.2) ∧ p.1 < D0 ∧ ∀ d, d < dp → w8.cell? ⟨p.1, d, none⟩ = some (.int .i64 (T j d : Nat)) := fun j => by
          by_cases hj : j < wd - 1
          · obtain ⟨g1, c1, k1, k2, k3, k4⟩ := HTK8.out j (by omega)
            exact ⟨(g1, c1), fun _ => ⟨k1, by omega, k4⟩⟩
          · exact ⟨(0, 0), fun h => absurd h hj⟩
        obtain ⟨ps, hps⟩ := Classical.axiomOfChoice hex
        obtain ⟨gs, hgs⟩ : ∃ gs : Nat → Nat, gs = fun j => (ps j).1 := ⟨_, rfl⟩
        obtain ⟨cs, hcs⟩ : ∃ cs : Nat → Nat, cs = fun j => (ps j).2 := ⟨_, rfl⟩
        have hrows : ∀ j, j < wd - 1 → vals[j]? = some (.slice (some ⟨gs j, 0, none⟩) dp (cs j)) ∧ gs j < D0 ∧ ∀ d, d < dp → w8.cell? ⟨gs j, d, none⟩ = some (.int .i64 (T j d : Nat)) := fun j hj => by rw [hgs, hcs]; exact hps j hj
        clear hex hps hgs hcs
        have hb8c : Below D0 w8 wc := HA9.out.trans (HB10.out.mono (by omega))
        obtain ⟨wR, hwR⟩ : ∃ wR, wR = wc.alloc (.cells #[.slice (some ⟨f, 0, none⟩) (wd - 1) fc] 106) := ⟨_, rfl⟩
        have hsR : wR.heap.size = wc.heap.size + 1 := by rw [hwR]; simp
        have hcs9 := HB10.out.size
        have hb8R : Below D0 w8 wR := by rw [hwR]; exact hb8c.alloc (by omega) _
        have bB := Boxed.new wc 106 (.slice (some ⟨f, 0, none⟩) (wd - 1) fc)
        rw [← hwR] at bB
        have bO : Boxed wR ob 81 (.slice (some ⟨ol, 0, none⟩) 1 1) := by rw [hwR]; exact HBO.out.alloc _
        have hob2 := HBO.out.lt
        have oR : OwnI wR w9.heap.size (.slice (some ⟨ol, 0, none⟩) 1 1) [(d0 : Int)] := by rw [hwR]; exact HOW10.out.below (alE _ _)
        have bD : Boxed wR D0 3 (.int .i64 d0) := by
          have h1 := HB10.out.block D0 (by omega)
          have h2 : Boxed wc D0 3 (.int .i64 d0) := h1.trans BX.out
          rw [hwR]; exact h2.alloc _
        rw [← hwR]
        obtain ⟨i2_, hi2_, hj0, hj1, hj2⟩ := info_parts info_i64
        have HRW := Lib.hid hrows
        have HB8R := Lib.hid hb8R
        have HFR := Lib.hid HFR8.out
        have hl24 : wd - 1 ≤ 1000 := by omega
        have hcsD : D0 < wc.heap.size := by omega
        have hobD : D0 < ob := by omega
        have hobc : ob < wc.heap.size := by omega
        have hfD : f < D0 := by omega
        have HDS := Lib.hid hDs
        clear hrows hb8R hb8c bB hDs
        refine (wpIn_wide (n := 9)).1 ?_
        refine wpIn_rangeFunc_ownF (F := Fence.wide) (n := 9) rfl (by omega) (gf := 100) (lb := #[.pointer (some ⟨wc.heap.size, 0, none⟩)]) rfl trivial (enters_of Tryz.func100 (by kernel_rfl) rfl)
          (back_seq Fence.wide (9 - 1) trivial rfl (by omega) wc.heap.size D0 f (wd - 1) fc dp gs cs hl24 (by omega) wR (by omega) (by omega) (by rw [hwR]; exact (Boxed.new wc 106 _).cell)
            (fun j hj => (HB8R.out.cell (p := ⟨f, j, none⟩) (by show f < D0; omega)).trans (HFR8.out.cellAt j (HRW.out j hj).1)))
          KpB.trans (KpB.put (by omega) (by omega)) (Below.refl _ _) (fun _ => rfl)
          (fun pre W => (∃ v, Boxed W ob 81 v ∧ W.ownsRow w9.heap.size 2 1 v (outs T d0 pre).2.length ((outs T d0 pre).2.map (Value.int .i64)) ∧ True) ∧ Boxed W D0 3 (.int .i64 (outs T d0 pre).1) ∧ Boxed W wc.heap.size 106 (.slice (some ⟨f, 0, none⟩) (wd - 1) fc) ∧ Below D0 wR W)
          (fun _ _ _ => False)
          (OwnFrom.and (Own.from (holdsRow_own w9.heap.size ob 81 2 1 (fun pre => (outs T d0 pre).2.length) (fun pre => (outs T d0 pre).2.map (Value.int .i64)) (fun _ _ => True)) _) (OwnFrom.and (Own.from (boxed_own D0 3 (fun pre => Value.int .i64 (outs T d0 pre).1)) _) (OwnFrom.and (Own.from (boxed_own wc.heap.size 106 (fun _ => Value.slice (some ⟨f, 0, none⟩) (wd - 1) fc)) _) (ownFrom_below (by omega) (by omega)))))
          (fun _ _ _ _ _ hs _ _ => hs)
          ⟨⟨_, bO, oR, trivial⟩, bD, by rw [hwR]; exact Boxed.new _ _ _, Below.refl _ _⟩
          (fun q : Fin (wd - 1) => { tmps := #[Value.pointer (some { block := vb, off := 0 }), Value.agg #[Value.float FloatKind.f32 vo, Value.float FloatKind.f32 vm], Value.int IntKind.i64 y, undef, Value.pointer (some { block := w.heap.size, off := 0 }), undef, u6, u7, u8, Value.slice (some { block := g, off := 0 }) dp c, Value.slice (some { block := f, off := 0 }) (wd - 1) fc, u11, u12, u13, u14, u15, u16, u17, u18, u19, Value.pointer (some { block := D0, off := 0 }), Value.float FloatKind.f32 vk, Value.pointer (some { block := ob, off := 0 }), undef, Value.slice (some ⟨gs q.1, 0, none⟩) dp (cs q.1), Value.pointer (some { block := vb, off := 0 }), Value.int IntKind.i64 y, Value.slice (some { block := qv, off := ic wd dp 0 y }) dp dp, Value.slice (some { block := g2, off := 0 }) dp c2, Value.slice (some { block := w2.heap.size, off := 0 }) 0 0, Value.pointer (some { block := vb, off := 0 }), Value.pointer (some { block := vb, off := 0 }), Value.pointer (some { block := vb, off := 0 }), Value.int IntKind.i64 wd, Value.int IntKind.i64 wd, Value.bool false, u36, u37, u38, u39, u40, u41, u42, u43, u44, u45, u46, u47, u48, u49, u50, u51, u52, u53, u54, u55, u56, u57, u58, u59, u60, u61, u62, u63, u64, u65, u66, u67, u68, u69, u70, u71, u72, u73, u74, u75, u76, u77, u78, u79, u80, u81, u82, u83, u84, u85, u86, u87, u88, u89, u90, u91, u92, u93, u94, u95, Value.slice (some { block := g, off := 0 }) dp c, Value.int IntKind.i64 d0, u98, u99, u100, u101, u102, u103, Value.slice (some { block := f, off := 0 }) (wd - 1) fc, Value.func (Fn.func 100) #[] #[Value.pointer (some { block := wc.heap.size, off := 0 })], Value.int .i64 (q.1 : Nat), Value.slice (some ⟨gs q.1, 0, none⟩) dp (cs q.1), undef, undef, undef, undef, undef, undef, undef, undef, undef, undef, undef, undef], defers := [] }) ?assign ?body ?done ?stop
        case assign =>
          intro l x W K hK
          gi_wp2
          exact hK
        case body =>
          rintro l pre x W ⟨⟨v, hv, hrow, -⟩, bDW, bBW, hB⟩ hlt
          obtain ⟨dd, hdd⟩ : ∃ dd, dd = (outs T d0 pre).1 := ⟨_, rfl⟩
          obtain ⟨ll, hll⟩ : ∃ ll, ll = (outs T d0 pre).2 := ⟨_, rfl⟩
          have hdl : dd < dp := by rw [hdd]; exact outs_lt (fun i d hd => HT.out i d hd) hd0 pre
          have hlen : ll.length = pre.length + 1 := by rw [hll]; exact outs_len pre
          have hsn : outs T d0 (pre ++ [x]) = (T x.1 dd, ll ++ [(T x.1 dd : Int)]) := by rw [outs_snoc, hdd, hll]; rfl
          rw [← hll] at hrow
          rw [← hdd] at bDW
          have HSN := Lib.hid hsn
          obtain ⟨k1, k2, k3⟩ := HRW.out x.1 x.2
          have hcr : W.cell? ⟨gs x.1, dd, none⟩ = some (.int .i64 (T x.1 dd : Nat)) := (hB.cell (p := ⟨gs x.1, dd, none⟩) k2).trans ((HB8R.out.cell (p := ⟨gs x.1, dd, none⟩) k2).trans (k3 dd hdl))
          have hcd := bDW.cell
          have hfd := bDW.frozen
          have hdI : (dd : Int) < dp := by omega
          obtain ⟨tt, htt⟩ : ∃ tt, tt = T x.1 dd := ⟨_, rfl⟩
          rw [← htt] at hcr
          have hne : ob ≠ D0 := by omega
          have hvA := hv.other hne (.int .i64 tt)
          have hA : W.grownBy (W.setCell ⟨D0, 0, none⟩ (.int .i64 tt)) (some D0) := grownBy_setCell' W D0 _
          have bDA := bDW.set (.int .i64 tt)
          have bBA := bBW.other (show wc.heap.size ≠ D0 by omega) (.int .i64 tt)
          have hrA : (W.setCell ⟨D0, 0, none⟩ (.int .i64 tt)).ownsRow w9.heap.size 2 1 v ll.length (ll.map (Value.int .i64)) := hrow.kept hA (.inr fun e => by have := World.ownsRow.lt hrow D0 e; omega)
          have hsz : W.heap.size = (W.setCell ⟨D0, 0, none⟩ (.int .i64 tt)).heap.size := by simp
          obtain ⟨WA, hWA⟩ : ∃ WA, WA = W.setCell ⟨D0, 0, none⟩ (.int .i64 tt) := ⟨_, rfl⟩
          rw [← hWA] at hvA hA bDA bBA hrA hsz
          have HWA := Lib.hid hWA
          have cA := hvA.cell
          have cD := bDA.cell
          have hk2 : KeepsOthers W WA := by rw [HWA.out]; exact KeepsOthers.setCell _ _ _
          have hbA : Below D0 W WA := by rw [HWA.out]; exact (Below.refl D0 W).setCell (p := ⟨D0, 0, none⟩) (Nat.le_refl _) _
          have HKA := Lib.hid (And.intro hk2 (And.intro hbA (And.intro bDA (And.intro bBA bBW))))
          have hl25 : ll.length ≤ 1001 := by omega
          have HVA := Lib.hid (And.intro hvA hrA)
          have HDD := Lib.hid hdd
          have HLL := Lib.hid hll
          have HTT := Lib.hid htt
          have hBs := hB.size
          have HB := Lib.hid hB
          have hsz2 : D0 < WA.heap.size := by rw [← hsz]; omega
          clear hk2 hbA bDA bBA bDW bBW hv hrow hA hne k1 k3 hdd hll htt hsz hlen hWA hB
          have hcn := cell_one_new WA (.int .i64 tt) 2
          rw [HWA.out] at cA cD hrA hvA hcn
          have hsS : (W.setCell ⟨D0, 0, none⟩ (.int .i64 (tt : Int))).heap.size = W.heap.size := by simp
          rw [hsS] at hcn
          have hsW : w9.heap.size ≤ (W.setCell ⟨D0, 0, none⟩ (.int .i64 (tt : Int))).heap.size := by omega
          have hsW2 : w9.heap.size ≤ ob := by omega
          gi_wp2_with (gi_at_builtin; refine wpListIn_append_own _ rfl _ _ 81 rfl w9.heap.size 2 i2_ (.int .i64 0) 1 8 Tryz.underlying81 hi2_ hj0 hj1 hj2 rfl (by decide) _ _ _ rfl (hrA.alloc _) ⟨W.heap.size, 0, none⟩ 1 1 [.int .i64 tt] rfl rfl hcn (by simp [Value.oneCell']) (by unfold maxLen; omega) (by omega) (by simp; omega) ?_; intro v' w1 hown' hgrow _; obtain ⟨g', cap', rfl⟩ := ownsRow_succ hown'; obtain ⟨hv1, hv2, hr2, hk2, hb2⟩ := hvA.appended (by decide) hrA hsW hsW2 hown' hgrow; have hc1 := hv1.cell; have hf1 := hv1.frozen)
          have hrB := hrA
          rw [← HWA.out] at hrB hk2 hb2 hgrow
          obtain ⟨q1, q2, q3, q4, q5⟩ := HKA.out
          have z1 : Boxed (w1.setCell ⟨ob, 0, none⟩ (.slice (some ⟨g', 0, none⟩) (ll.length + 1) cap')) wc.heap.size 106 (.slice (some ⟨f, 0, none⟩) (wd - 1) fc) := ((q4.alloc _).kept hgrow (q4.not_row (by decide) hrB)).other (by omega) _
          have z2 : Boxed (w1.setCell ⟨ob, 0, none⟩ (.slice (some ⟨g', 0, none⟩) (ll.length + 1) cap')) D0 3 (.int .i64 tt) := (hb2.block D0 (by omega)).trans q3
          have z3 : Below D0 W (w1.setCell ⟨ob, 0, none⟩ (.slice (some ⟨g', 0, none⟩) (ll.length + 1) cap')) := q2.trans (hb2.mono (by omega))
          have e1 : (outs T d0 (pre ++ [x])).1 = tt := by rw [HSN.out, HTT.out]
          have e2 : (outs T d0 (pre ++ [x])).2 = ll ++ [(tt : Int)] := by rw [HSN.out, HTT.out]
          refine ⟨q1.trans hk2, ⟨z3, z1.trans q5.symm⟩, ⟨_, hv2, ?_, trivial⟩, by rw [e1]; exact z2, z1, HB.out.trans z3⟩
          rw [e2, List.length_append, List.map_append]
          exact hr2
        case done =>
          rintro D ys W hD rfl ⟨⟨v, hv, hrow, -⟩, bDW, bBW, hB⟩ hK
          obtain ⟨ll, hll⟩ : ∃ ll, ll = (outs T d0 (dn (wd - 1) (wd - 1))).2 := ⟨_, rfl⟩
          have hlen : ll.length = wd - 1 + 1 := by rw [hll, outs_len, dn_length _ (Nat.le_refl _)]
          rw [← hll] at hrow
          obtain ⟨g', cap', rfl⟩ : ∃ g' cap', v = .slice (some ⟨g', 0, none⟩) wd cap' := by
            rw [hlen] at hrow
            obtain ⟨a, b, h⟩ := ownsRow_succ hrow
            exact ⟨a, b, by rw [h]; congr 1; omega⟩
          have hrv := reverse_any W w9.heap.size g' wd cap' ll hrow d1 (by omega)
          have cO := hv.cell
          have HLL := Lib.hid hll
          have HRV := Lib.hid hrv
          have HBB := Lib.hid hB
          have HVV := Lib.hid hv
          have HRR := Lib.hid hrow
          have HK := Lib.hid hK
          clear hll hrv hB bDW bBW hlen hv hrow hK
          go_wp2_with fail
          refine HRV.out.mono ?_
          rintro e w12 ⟨hown12, hg12, u, rfl⟩
          have hv12 := HVV.out.kept hg12 (HVV.out.not_row (by decide) HRR.out)
          have cO2 := hv12.cell
          have HV12 := Lib.hid hv12
          have HO12 := Lib.hid hown12
          have HG12 := Lib.hid hg12
          clear hv12 hown12 hg12
          go_wp2_with fail
          have hgl := World.ownsRow.lt HRR.out g' rfl
          have hKlt : D < W.heap.size := (Array.getElem?_eq_some_iff.1 HK.out).1
          have hDg : some D ≠ some g' := by
            intro e
            injection e with e
            subst e
            rcases HRR.out.2 with ⟨h, _⟩ | ⟨g2, cap2, cur2, h, _, hgb, _⟩
            · cases h
            · injection h with h1 h2 h3
              injection h1 with h1
              injection h1 with h1
              subst h1
              have hh := HK.out
              rw [hgb] at hh
              cases hh
          have hK12 : w12.heap[D]? = some (.deferred (some [])) := (HG12.out.block D hKlt hDg).trans HK.out
          refine ⟨by simp, .inl ⟨_, _, rfl, run_takeDeferred hK12, ?_⟩⟩
          have hsB0 := HB0.out.size
          have hsBL := HBL8.out.size
          have hsB8 := HB8R.out.size
          have hsBB := HBB.out.size
          have hDs2 := HDS.out
          have hs00 := HS0.out
          have b1 := HB0.out.trans (HBL8.out.mono (by omega))
          have b2 := b1.trans (HB8R.out.mono (by omega))
          have b3 := b2.trans (HBB.out.mono (by omega))
          have b4 := b3.grown HG12.out (by omega) (fun k hk => by injection hk with e; omega)
          have b5 := b4.trans (belowK_b (w := w) (n₀ := w.heap.size) (Nat.le_refl _) w12 D (.deferred (some [])) (.deferred none) (by omega) hK12 rfl rfl)
          refine ⟨_, results_tmp3 rfl _ _ _, .inl ⟨HNW.out, g', cap', by rw [HFST.out, HVK.out]; rfl, ?_⟩, b5⟩
          rw [HFST.out]
          have hO := HO12.out
          rw [HLL.out] at hO
          have hO2 : w12.ownsRow w9.heap.size 2 1 (.slice (some ⟨g', 0, none⟩) wd cap') (outs T d0 (dn (wd - 1) (wd - 1))).2.reverse.length ((outs T d0 (dn (wd - 1) (wd - 1))).2.reverse.map (Value.int .i64)) := hO
          have hO3 := ownsRow_putObj (o := .deferred (some [])) hO2 (.deferred none) hK12 rfl
          exact OwnI.base hO3 (by omega)
        case stop =>
          rintro D c pre W _ _ h _
          exact h.elim

/-- The row with the least cost, from its end. -/
def rowE (C : Nat → Nat → Nat) (o m dp wd : Nat) : List Int := (outs (tW C o m dp) (fstW (vW C o m dp (wd - 1)) dp) (dn (wd - 1) (wd - 1))).2.reverse
theorem solveE (w : World) (vb wd hi dp qv Nv cv y nb o m : Nat) (bs : List Nat) (C : Nat → Nat → Nat)
    (hV : VolAt w vb wd hi dp qv 0 Nv cv bs) (d1 : 1 ≤ wd) (d2 : wd ≤ 24) (d4 : hi ≤ 24) (d5 : 1 ≤ dp) (d6 : dp ≤ 8) (hy : y < hi) (hqv : qv < w.heap.size) (hnb : nb ≤ wd)
    (hc : ∀ x d, x < nb → d < dp → gc bs wd dp x y d = C x d ∧ le32 0 (C x d) = true) (hbad : nb < wd → ∃ d, d < dp ∧ le32 0 (gc bs wd dp nb y d) = false)
    (ho : le32 0 o = true) (hm : le32 0 m = true) :
    Calls Tryz.prog 50 #[.pointer (some ⟨vb, 0, none⟩), .agg #[.float .f32 o, .float .f32 m], .int .i64 y] w fun e w' => ((nb = wd ∧ ∃ g c f, e = .returned (.tuple #[.slice (some ⟨g, 0, none⟩) wd c, .float .f32 f, .bool true]) ∧ OwnI w' w.heap.size (.slice (some ⟨g, 0, none⟩) wd c) (rowE C o m dp wd)) ∨ (nb < wd ∧ e = .returned (.tuple #[.slice none 0 0, .float .f32 0, .bool false]))) ∧ Below w.heap.size w w' := by
  have hco : ∀ x d, x < nb → d < dp → le32 0 (C x d) = true := fun x d h1 h2 => (hc x d h1 h2).2
  rcases Nat.eq_zero_or_pos nb with h0 | h0
  · refine (solve_w w vb wd hi dp qv Nv cv y nb o m bs (fun x d => gc bs wd dp 0 y d) (fun x d e => 0) (fun x d => 0) hV d1 d2 d4 d5 d6 hy hqv hnb (fun x d h => by omega) hbad (fun d _ => rfl) (fun x d h => by omega) (fun x d e h => by omega) (fun x d => ?_) (fun x d h => by omega)).mono ?_
    · have : ∀ n, fstW (fun _ => 0) n = 0 := fun n => by
        induction n with
        | zero => rfl
        | succ n ih =>
          unfold fstW
          have e : lt32 0 0 = false := by decide
          rw [e]; exact ih
      exact (this dp).symm
    · rintro e w' ⟨⟨h1, -⟩ | h2, hb⟩
      · omega
      · exact ⟨.inr h2, hb⟩
  · refine (solve_w w vb wd hi dp qv Nv cv y nb o m bs (vW C o m dp) (uW C o m dp) (tW C o m dp) hV d1 d2 d4 d5 d6 hy hqv hnb (fun x d h1 h2 => by rw [(hc x d h1 h2).1]; exact (hc x d h1 h2).2) hbad (fun d hd => (hc 0 d h0 hd).1) (fun x d h1 h2 => ?_) (fun x d e h1 h2 => ?_) (fun x d => rfl) (fun x d h1 h2 => ?_)).mono ?_
    · cases x with
      | zero =>
        show C 0 d < _
        rw [← (hc 0 d h0 h2).1]
        exact (hV.cost (x := 0) (y := y) (d := d) d1 hy h2).2
      | succ x => rw [vW_succ]; exact (sm32_of (uW_ok C o m dp d5 hco ho hm (show x < nb by omega) d (tW_lt C o m dp d5 x d)).2.2 (hco _ _ h1 h2)).2.1
    · have := uW_ok C o m dp d5 hco ho hm h1 d h2
      exact ⟨this.1, this.2.1⟩
    · rw [(hc _ _ h1 h2).1, vW_succ]
      exact (sm32_of (uW_ok C o m dp d5 hco ho hm (show x < nb by omega) d (tW_lt C o m dp d5 x d)).2.2 (hco _ _ h1 h2)).1
    · rintro e w' ⟨⟨h1, g, c, he, ho⟩ | h2, hb⟩
      · exact ⟨.inl ⟨h1, g, c, _, he, ho⟩, hb⟩
      · exact ⟨.inr h2, hb⟩

end Go.Proofs.YtabbjilgpfnacaaGreat

/- A desk that is drawn. -/
import Derived.Test.YtmcmcppleikajaaDoorCb
namespace Go.Proofs.YtmcmcppleikajaaDoor
open Go.RowKit
set_option maxRecDepth 100000
set_option linter.unusedVariables false
set_option linter.unusedSimpArgs false

def set9 (w : World) (r : Nat) (v0 v1 v2 v3 v4 v5 v6 v7 v8 : Value) : World := ((((((((w.setCell ⟨r, 0, none⟩ v0).setCell ⟨r, 1, none⟩ v1).setCell ⟨r, 2, none⟩ v2).setCell ⟨r, 3, none⟩ v3).setCell ⟨r, 4, none⟩ v4).setCell ⟨r, 5, none⟩ v5).setCell ⟨r, 6, none⟩ v6).setCell ⟨r, 7, none⟩ v7).setCell ⟨r, 8, none⟩ v8
theorem set9_grown (w : World) (r : Nat) (v0 v1 v2 v3 v4 v5 v6 v7 v8 : Value) : w.grownBy (set9 w r v0 v1 v2 v3 v4 v5 v6 v7 v8) (some r) := by
  unfold set9
  exact grown_trans (grown_trans (grown_trans (grown_trans (grown_trans (grown_trans (grown_trans (grown_trans (grown_setCell _ _ _) (grown_setCell _ _ _)) (grown_setCell _ _ _)) (grown_setCell _ _ _)) (grown_setCell _ _ _)) (grown_setCell _ _ _)) (grown_setCell _ _ _)) (grown_setCell _ _ _)) (grown_setCell _ _ _)
theorem SrcOk.set9 {w : World} {L sb U r : Nat} (h : SrcOk w L sb U) (hr : L ≤ r) (hne : sb ≠ r) (v0 v1 v2 v3 v4 v5 v6 v7 v8 : Value) : SrcOk (set9 w r v0 v1 v2 v3 v4 v5 v6 v7 v8) L sb U :=
  h.grown (set9_grown w r v0 v1 v2 v3 v4 v5 v6 v7 v8) (by simpa using hne) (fun k hk => by injection hk with e; omega)
theorem drew_set9 {w W : World} {L sb V V2 : Nat} (hg : w.grownBy W (some sb)) (h : SrcOk W L sb V) (hL : L ≤ w.heap.size) (hs : sb < w.heap.size) (hV : V ≤ V2) (v0 v1 v2 v3 v4 v5 v6 v7 v8 : Value) : Drew L sb V2 w (((((((((W.setCell ⟨w.heap.size, 0, none⟩ v0).setCell ⟨w.heap.size, 1, none⟩ v1).setCell ⟨w.heap.size, 2, none⟩ v2).setCell ⟨w.heap.size, 3, none⟩ v3).setCell ⟨w.heap.size, 4, none⟩ v4).setCell ⟨w.heap.size, 5, none⟩ v5).setCell ⟨w.heap.size, 6, none⟩ v6).setCell ⟨w.heap.size, 7, none⟩ v7).setCell ⟨w.heap.size, 8, none⟩ v8) :=
  ⟨(h.set9 hL (by omega) v0 v1 v2 v3 v4 v5 v6 v7 v8).mono hV, grown_new hg (set9_grown W w.heap.size v0 v1 v2 v3 v4 v5 v6 v7 v8) (fun k hk => by injection hk with e; omega)⟩
/-- A desk of pictures of some size. -/
def MakesDk (L sb U : Nat) (w : World) (e : Ending) (w' : World) : Prop :=
  ∃ (a b : Nat) (s1 s2 s3 : Option Addr) (n1 n2 n3 c1 c2 c3 : Nat), e = .returned (.agg #[.int .i64 a, .int .i64 b, .slice s1 n1 c1, .int .i64 a, .int .i64 b, .slice s2 n2 c2, .int .i64 a, .int .i64 b, .slice s3 n3 c3]) ∧ Drew L sb U w w'
abbrev Z9 : Array Value := #[.int .i64 0, .int .i64 0, .slice none 0 0, .int .i64 0, .int .i64 0, .slice none 0 0, .int .i64 0, .int .i64 0, .slice none 0 0]

theorem z9_cells {w : World} {b : Nat} {T : TypeId} (h : BoxN w b Z9 T) : w.cell? ⟨b, 0, none⟩ = some (.int .i64 0) ∧ w.cell? ⟨b, 1, none⟩ = some (.int .i64 0) ∧ w.cell? ⟨b, 2, none⟩ = some (.slice none 0 0) ∧ w.cell? ⟨b, 3, none⟩ = some (.int .i64 0) ∧ w.cell? ⟨b, 4, none⟩ = some (.int .i64 0) ∧ w.cell? ⟨b, 5, none⟩ = some (.slice none 0 0) ∧ w.cell? ⟨b, 6, none⟩ = some (.int .i64 0) ∧ w.cell? ⟨b, 7, none⟩ = some (.int .i64 0) ∧ w.cell? ⟨b, 8, none⟩ = some (.slice none 0 0) :=
  ⟨h.cell 0, h.cell 1, h.cell 2, h.cell 3, h.cell 4, h.cell 5, h.cell 6, h.cell 7, h.cell 8⟩
theorem z9_free {w : World} {b : Nat} {T : TypeId} (h : BoxN w b Z9 T) : w.frozen? ⟨b, 0, none⟩ = false ∧ w.frozen? ⟨b, 1, none⟩ = false ∧ w.frozen? ⟨b, 2, none⟩ = false ∧ w.frozen? ⟨b, 3, none⟩ = false ∧ w.frozen? ⟨b, 4, none⟩ = false ∧ w.frozen? ⟨b, 5, none⟩ = false ∧ w.frozen? ⟨b, 6, none⟩ = false ∧ w.frozen? ⟨b, 7, none⟩ = false ∧ w.frozen? ⟨b, 8, none⟩ = false :=
  ⟨h.free 0, h.free 1, h.free 2, h.free 3, h.free 4, h.free 5, h.free 6, h.free 7, h.free 8⟩

set_option maxHeartbeats 4000000 in
theorem l08DrawOk_any (w : World) {L : Nat} (sb U : Nat) (hs : SrcOk w L sb U) (hL : L ≤ w.heap.size) (hU : U < 4611686018426000000) :
    Calls Tryd.prog 13 #[.pointer (some ⟨sb, 0, none⟩)] w (MakesDk L sb (U + 10000) w) := by
  have hslt := hs.lt
  obtain ⟨wA, hwA⟩ : ∃ wA, wA = w.alloc (.cells Z9 32) := ⟨_, rfl⟩
  have hbA : Below w.heap.size w wA := by rw [hwA]; exact alb_k _ _
  have BR : BoxN wA w.heap.size Z9 32 := by rw [hwA]; exact BoxN.last w _ _
  have hsz : wA.heap.size = w.heap.size + 1 := by rw [hwA]; simp
  have KD := Lib.hid (l02DrawPair_any wA sb U (hs.below hbA) (by omega) (by omega))
  have HB := Lib.hid (And.intro BR hbA)
  have HWA := Lib.hid hwA
  have hsz2 : w.heap.size + 1 ≤ wA.heap.size := by omega
  clear hs hbA BR hwA
  go_enter Tryd.func13, Tryd.ntmps13
  go_wp2_with fail
  rw [← HWA.out]
  refine KD.out.mono ?_
  rintro e w1 ⟨wd, hi, N, q1, c1, q2, c2, bs1, bs2, rfl, hN, v1, v2, v3, v4, l1, l2, s1, s2, g1, g2, g3, g4, hd⟩
  have hd1s := hd.grown.size
  obtain ⟨W1, hW1⟩ : ∃ W1, W1 = (w1.alloc (.cells #[.int .i64 wd, .int .i64 hi, .slice (some ⟨q1, 0, none⟩) N c1] 28)).alloc (.cells #[.int .i64 wd, .int .i64 hi, .slice (some ⟨q2, 0, none⟩) N c2] 28) := ⟨_, rfl⟩
  have hb1 : Below w1.heap.size w1 W1 := by rw [hW1]; exact below_two w1 _ _
  have A1 : Box3 W1 w1.heap.size (.int .i64 wd) (.int .i64 hi) (.slice (some ⟨q1, 0, none⟩) N c1) 28 := by rw [hW1]; exact box_first w1 _ _ _ _ _
  have A2 : Box3 W1 (w1.heap.size + 1) (.int .i64 wd) (.int .i64 hi) (.slice (some ⟨q2, 0, none⟩) N c2) 28 := by rw [hW1]; exact box_second w1 _ _ _ _ _
  have hok1 := hd.ok.below hb1
  have hw1s := hb1.size
  have KM := Lib.hid (l03DrawMapOf_any W1.drew sb (U + 2000) wd hi (by omega) (by omega) (by omega) (by omega) (hok1.drewN 1) (by show L ≤ W1.heap.size; omega) (by omega))
  have nsb : ∀ k, w.heap.size ≤ k → some k ≠ some sb := fun k hk e => by injection e with e; omega
  have hwA : wA.grownBy W1 (some sb) := grown_trans hd.grown (grown_below hb1 _)
  have R1 := HB.out.1.grown hwA (nsb _ (Nat.le_refl _))
  have HG := Lib.hid (grown_trans (grown_below HB.out.2 _) hwA)
  have HA := Lib.hid (And.intro A1 (And.intro A2 (And.intro R1 hok1)))
  have HW1 := Lib.hid hW1
  obtain ⟨a0, a1, a2, -, -, -⟩ := A1.cells
  obtain ⟨b0, b1, b2, -, -, -⟩ := A2.cells
  clear KD hN hb1 A1 A2 hd s1 s2 hW1 R1 hok1 hwA
  go_upto_region 2 with fail
  rw [← HW1.out]
  have CELLS := Lib.hid (fun (W : World) (x : Option Nat) (hg : W1.grownBy W x) (hx : ∀ k, w1.heap.size ≤ k → some k ≠ x) => (show W.cell? ⟨w1.heap.size, 0, none⟩ = some (.int .i64 wd) ∧ W.cell? ⟨w1.heap.size, 1, none⟩ = some (.int .i64 hi) ∧ W.cell? ⟨w1.heap.size, 2, none⟩ = some (.slice (some ⟨q1, 0, none⟩) N c1) ∧ W.cell? ⟨w1.heap.size + 1, 0, none⟩ = some (.int .i64 wd) ∧ W.cell? ⟨w1.heap.size + 1, 1, none⟩ = some (.int .i64 hi) ∧ W.cell? ⟨w1.heap.size + 1, 2, none⟩ = some (.slice (some ⟨q2, 0, none⟩) N c2) from by
    obtain ⟨p0, p1, p2, -, -, -⟩ := (HA.out.1.grown hg (hx _ (Nat.le_refl _))).cells
    obtain ⟨r0, r1, r2, -, -, -⟩ := (HA.out.2.1.grown hg (hx _ (by omega))).cells
    exact ⟨p0, p1, p2, r0, r1, r2⟩))
  have CELL9 := Lib.hid (fun (W : World) (v0 v1 v2 v3 v4 v5 v6 v7 v8 : Value) (hg : W1.grownBy W (some sb)) => (show (((((((((W.setCell ⟨w.heap.size, 0, none⟩ v0).setCell ⟨w.heap.size, 1, none⟩ v1).setCell ⟨w.heap.size, 2, none⟩ v2).setCell ⟨w.heap.size, 3, none⟩ v3).setCell ⟨w.heap.size, 4, none⟩ v4).setCell ⟨w.heap.size, 5, none⟩ v5).setCell ⟨w.heap.size, 6, none⟩ v6).setCell ⟨w.heap.size, 7, none⟩ v7).setCell ⟨w.heap.size, 8, none⟩ v8).cell? ⟨w1.heap.size, 0, none⟩ = some (.int .i64 wd) ∧ (((((((((W.setCell ⟨w.heap.size, 0, none⟩ v0).setCell ⟨w.heap.size, 1, none⟩ v1).setCell ⟨w.heap.size, 2, none⟩ v2).setCell ⟨w.heap.size, 3, none⟩ v3).setCell ⟨w.heap.size, 4, none⟩ v4).setCell ⟨w.heap.size, 5, none⟩ v5).setCell ⟨w.heap.size, 6, none⟩ v6).setCell ⟨w.heap.size, 7, none⟩ v7).setCell ⟨w.heap.size, 8, none⟩ v8).cell? ⟨w1.heap.size, 1, none⟩ = some (.int .i64 hi) ∧ (((((((((W.setCell ⟨w.heap.size, 0, none⟩ v0).setCell ⟨w.heap.size, 1, none⟩ v1).setCell ⟨w.heap.size, 2, none⟩ v2).setCell ⟨w.heap.size, 3, none⟩ v3).setCell ⟨w.heap.size, 4, none⟩ v4).setCell ⟨w.heap.size, 5, none⟩ v5).setCell ⟨w.heap.size, 6, none⟩ v6).setCell ⟨w.heap.size, 7, none⟩ v7).setCell ⟨w.heap.size, 8, none⟩ v8).cell? ⟨w1.heap.size, 2, none⟩ = some (.slice (some ⟨q1, 0, none⟩) N c1) ∧ (((((((((W.setCell ⟨w.heap.size, 0, none⟩ v0).setCell ⟨w.heap.size, 1, none⟩ v1).setCell ⟨w.heap.size, 2, none⟩ v2).setCell ⟨w.heap.size, 3, none⟩ v3).setCell ⟨w.heap.size, 4, none⟩ v4).setCell ⟨w.heap.size, 5, none⟩ v5).setCell ⟨w.heap.size, 6, none⟩ v6).setCell ⟨w.heap.size, 7, none⟩ v7).setCell ⟨w.heap.size, 8, none⟩ v8).cell? ⟨w1.heap.size + 1, 0, none⟩ = some (.int .i64 wd) ∧ (((((((((W.setCell ⟨w.heap.size, 0, none⟩ v0).setCell ⟨w.heap.size, 1, none⟩ v1).setCell ⟨w.heap.size, 2, none⟩ v2).setCell ⟨w.heap.size, 3, none⟩ v3).setCell ⟨w.heap.size, 4, none⟩ v4).setCell ⟨w.heap.size, 5, none⟩ v5).setCell ⟨w.heap.size, 6, none⟩ v6).setCell ⟨w.heap.size, 7, none⟩ v7).setCell ⟨w.heap.size, 8, none⟩ v8).cell? ⟨w1.heap.size + 1, 1, none⟩ = some (.int .i64 hi) ∧ (((((((((W.setCell ⟨w.heap.size, 0, none⟩ v0).setCell ⟨w.heap.size, 1, none⟩ v1).setCell ⟨w.heap.size, 2, none⟩ v2).setCell ⟨w.heap.size, 3, none⟩ v3).setCell ⟨w.heap.size, 4, none⟩ v4).setCell ⟨w.heap.size, 5, none⟩ v5).setCell ⟨w.heap.size, 6, none⟩ v6).setCell ⟨w.heap.size, 7, none⟩ v7).setCell ⟨w.heap.size, 8, none⟩ v8).cell? ⟨w1.heap.size + 1, 2, none⟩ = some (.slice (some ⟨q2, 0, none⟩) N c2) from by
    have s9 := set9_grown W w.heap.size v0 v1 v2 v3 v4 v5 v6 v7 v8
    obtain ⟨p0, p1, p2, -, -, -⟩ := ((HA.out.1.grown hg (nsb _ (by omega))).grown s9 (fun e => by injection e with e; omega)).cells
    obtain ⟨r0, r1, r2, -, -, -⟩ := ((HA.out.2.1.grown hg (nsb _ (by omega))).grown s9 (fun e => by injection e with e; omega)).cells
    exact ⟨p0, p1, p2, r0, r1, r2⟩))
  have NSB := Lib.hid (fun k (hk : w1.heap.size ≤ k) => nsb k (by omega))
  have NRB := Lib.hid (fun k (hk : w1.heap.size ≤ k) => (show some k ≠ some w.heap.size from fun e => by injection e with e; omega))
  have CWD := CELLS.out W1.drew (some sb) (grown_drewN W1 1 _) NSB.out
  go_region_held3 (fun W => W.cell? ⟨w1.heap.size, 0, none⟩ = some (.int .i64 wd) ∧ W.cell? ⟨w1.heap.size, 1, none⟩ = some (.int .i64 hi) ∧ W.cell? ⟨w1.heap.size, 2, none⟩ = some (.slice (some ⟨q1, 0, none⟩) N c1) ∧ W.cell? ⟨w1.heap.size + 1, 0, none⟩ = some (.int .i64 wd) ∧ W.cell? ⟨w1.heap.size + 1, 1, none⟩ = some (.int .i64 hi) ∧ W.cell? ⟨w1.heap.size + 1, 2, none⟩ = some (.slice (some ⟨q2, 0, none⟩) N c2))
    (first | (with_reducible exact CW) | (with_reducible exact CWD) | (with_reducible exact CELL9.out _ _ _ _ _ _ _ _ _ _ HM.out.1) | go_keep)
    ((go_at_call 29; (with_reducible refine KM.out.mono ?_); rintro e w2 ⟨q3, c3, rfl, hd2⟩; have hg2 := grown_trans (grown_drewN W1 1 (some sb)) hd2.grown; have CW := CELLS.out _ _ hg2 NSB.out; have CX := CW; obtain ⟨CW0, CW1, CW2, CW3, CW4, CW5⟩ := CX; have hres := HA.out.2.2.1.grown hg2 (nsb _ (Nat.le_refl _)); have HM := Lib.hid (And.intro hg2 (And.intro hres hd2)); have rc := hres.lt; obtain ⟨y0, y1, y2, y3, y4, y5, y6, y7, y8⟩ := z9_cells hres; obtain ⟨z0, z1, z2, z3, z4, z5, z6, z7, z8⟩ := z9_free hres; clear hg2))
  all_goals
    go_wp2_with fail
    refine bodyPost_ret (v := .agg #[.int .i64 wd, .int .i64 hi, .slice (some ⟨q1, 0, none⟩) N c1, .int .i64 wd, .int .i64 hi, .slice (some ⟨q2, 0, none⟩) N c2, .int .i64 wd, .int .i64 hi, .slice (some ⟨q3, 0, none⟩) (wd * hi : Nat) c3]) (by simp [results, Tryd.results13, go_sem, y0, y1, y2, y3, y4, y5, y6, y7, y8, rc]) rfl ?_
    have G := grown_trans HG.out HM.out.1
    have hd2 := HM.out.2.2
    have E := drew_set9 G hd2.ok hL hslt (V2 := U + 10000) (by omega)
    exact ⟨wd, hi, _, _, _, _, _, _, _, _, _, rfl, E _ _ _ _ _ _ _ _ _⟩

theorem below_set9C {w W : World} (h : Below w.heap.size w W) (v0 v1 v2 v3 v4 v5 v6 v7 v8 : Value) : Below w.heap.size w (((((((((W.setCell ⟨w.heap.size, 0, none⟩ v0).setCell ⟨w.heap.size, 1, none⟩ v1).setCell ⟨w.heap.size, 2, none⟩ v2).setCell ⟨w.heap.size, 3, none⟩ v3).setCell ⟨w.heap.size, 4, none⟩ v4).setCell ⟨w.heap.size, 5, none⟩ v5).setCell ⟨w.heap.size, 6, none⟩ v6).setCell ⟨w.heap.size, 7, none⟩ v7).setCell ⟨w.heap.size, 8, none⟩ v8) :=
  ((((((((h.setCell (Nat.le_refl _) _).setCell (Nat.le_refl _) _).setCell (Nat.le_refl _) _).setCell (Nat.le_refl _) _).setCell (Nat.le_refl _) _).setCell (Nat.le_refl _) _).setCell (Nat.le_refl _) _).setCell (Nat.le_refl _) _).setCell (Nat.le_refl _) _

def MakesDkB (w : World) (e : Ending) (w' : World) : Prop :=
  ∃ (a b : Nat) (s1 s2 s3 : Option Addr) (n1 n2 n3 c1 c2 c3 : Nat), e = .returned (.agg #[.int .i64 a, .int .i64 b, .slice s1 n1 c1, .int .i64 a, .int .i64 b, .slice s2 n2 c2, .int .i64 a, .int .i64 b, .slice s3 n3 c3]) ∧ Below w.heap.size w w'

set_option maxHeartbeats 2000000 in
theorem b10Desk_any (w : World) (a : Option Addr) (len cap : Nat) (h : BytesIn w a len) :
    Calls Tryd.prog 6 #[.slice a len cap] w (MakesDkB w) := by
  obtain ⟨wA, hwA⟩ : ∃ wA, wA = w.alloc (.cells Z9 32) := ⟨_, rfl⟩
  have hbA : Below w.heap.size w wA := by rw [hwA]; exact alb_k _ _
  have BR : BoxN wA w.heap.size Z9 32 := by rw [hwA]; exact BoxN.last w _ _
  have hsz : wA.heap.size = w.heap.size + 1 := by rw [hwA]; simp
  have hsz2 : w.heap.size + 1 ≤ wA.heap.size := by omega
  have KF := Lib.hid (from_any wA a len cap (h.at.grown (grown_below hbA none) (fun k hk => by cases hk)) (by omega))
  have HB := Lib.hid (And.intro BR hbA)
  have HWA := Lib.hid hwA
  clear hwA hbA BR hsz h
  go_enter Tryd.func6, Tryd.ntmps6
  go_wp2_with fail
  rw [← HWA.out]
  refine KF.out.mono ?_
  rintro e w1 ⟨rfl, hs, hb, hlt⟩
  have h1s := hb.size
  have KD := Lib.hid (l08DrawOk_any w1 wA.heap.size 0 hs (by omega) (by omega))
  have HB1 := Lib.hid hb
  clear hs hb KF
  go_wp2_with fail
  refine KD.out.mono ?_
  rintro e w2 ⟨wd, hi, s1, s2, s3, n1, n2, n3, c1, c2, c3, rfl, hd⟩
  have hres := (HB.out.1.below HB1.out).grown hd.grown (by intro e; injection e with e; omega)
  have hbel : Below w.heap.size w w2 := (HB.out.2.trans (HB1.out.mono HB.out.2.size)).grown hd.grown (by omega) (fun k hk => by injection hk with e; omega)
  have rc := hres.lt
  obtain ⟨y0, y1, y2, y3, y4, y5, y6, y7, y8⟩ := z9_cells hres
  obtain ⟨z0, z1, z2, z3, z4, z5, z6, z7, z8⟩ := z9_free hres
  have HBEL := Lib.hid hbel
  clear hd hres hbel
  go_wp2_with fail
  refine bodyPost_ret (v := .agg #[.int .i64 wd, .int .i64 hi, .slice s1 n1 c1, .int .i64 wd, .int .i64 hi, .slice s2 n2 c2, .int .i64 wd, .int .i64 hi, .slice s3 n3 c3]) (by simp [results, Tryd.results6, go_sem, y0, y1, y2, y3, y4, y5, y6, y7, y8, rc]) rfl ?_
  exact ⟨wd, hi, _, _, _, _, _, _, _, _, _, rfl, below_set9C HBEL.out _ _ _ _ _ _ _ _ _⟩

end Go.Proofs.YtmcmcppleikajaaDoor

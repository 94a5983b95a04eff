/- Points that stand where disparities are: impl.PointsOf, by words. -/
import Derived.Test.YtkhoifgljalfcaaQb
import Derived.Test.YtkhoifgljalfcaaMp
import Derived.Deep.AppendLies
import Derived.Deep.RegionHeld3
import Derived.StillTailTactics
namespace Go.Proofs.Ytkhoifgljalfcaa
open Go.RowKit Ieee
set_option maxRecDepth 100000
set_option linter.unusedVariables false
set_option linter.unusedSimpArgs false

theorem info_vec : (Try.prog.info? 29).map (fun i => (i.zero, i.size, i.bytes)) = some (some (.agg #[.float .f32 0, .float .f32 0, .float .f32 0]), 3, 12) := by kernel_rfl
abbrev Pt3 := Nat × Nat × Nat
def vCells (ps : List Pt3) : List Value := ps.flatMap fun p => [.float .f32 p.1, .float .f32 p.2.1, .float .f32 p.2.2]
theorem vCells_app (ps : List Pt3) (p : Pt3) : vCells (ps ++ [p]) = vCells ps ++ [.float .f32 p.1, .float .f32 p.2.1, .float .f32 p.2.2] := by unfold vCells; rw [List.flatMap_append]; simp
theorem vCells_get : ∀ (ps : List Pt3) (i : Nat) (h : i < ps.length), (vCells ps)[3 * i]? = some (.float .f32 ps[i].1) ∧ (vCells ps)[3 * i + 1]? = some (.float .f32 ps[i].2.1) ∧ (vCells ps)[3 * i + 2]? = some (.float .f32 ps[i].2.2)
  | [], i, h => absurd h (by simp)
  | p :: ps, 0, _ => ⟨rfl, rfl, rfl⟩
  | p :: ps, i + 1, h => by
    have ih := vCells_get ps i (by simpa using h)
    have e : ∀ j, (vCells (p :: ps))[3 * (i + 1) + j]? = (vCells ps)[3 * i + j]? := fun j => by
      show ([Value.float .f32 p.1, .float .f32 p.2.1, .float .f32 p.2.2] ++ vCells ps)[_]? = _
      rw [List.getElem?_append_right (by simp; omega)]
      congr 1
      simp; omega
    exact ⟨by have := e 0; rw [Nat.add_zero, Nat.add_zero] at this; rw [this]; exact ih.1, by rw [e 1]; exact ih.2.1, by rw [e 2]; exact ih.2.2⟩
/-- A slice of vectors of the call's own. -/
def OwnV (w : World) (B : Nat) (v : Value) (ps : List Pt3) : Prop := w.ownsRow B 29 3 v ps.length (vCells ps)
theorem OwnV.grown {w w' : World} {B : Nat} {v : Value} {ps : List Pt3} {r : Option Nat} (h : OwnV w B v ps) (hg : w.grownBy w' r) (hne : v.ownBlock = none ∨ v.ownBlock ≠ r) : OwnV w' B v ps := World.ownsRow.kept h hg hne
theorem OwnV.below {w w' : World} {B : Nat} {v : Value} {ps : List Pt3} (h : OwnV w B v ps) (hb : Below w.heap.size w w') : OwnV w' B v ps := h.grown (grown_below hb none) (by cases v.ownBlock <;> simp)
theorem OwnV.lt {w : World} {B : Nat} {v : Value} {ps : List Pt3} (h : OwnV w B v ps) {k : Nat} (hk : v.ownBlock = some k) : B ≤ k ∧ k < w.heap.size := World.ownsRow.lt h k hk
theorem ownsRow_mono {w : World} {B B' : Nat} {e : TypeId} {size n : Nat} {v : Value} {xs : List Value} (h : w.ownsRow B e size v n xs) (hB : B' ≤ B) : w.ownsRow B' e size v n xs := by
  refine ⟨h.1, ?_⟩
  rcases h.2 with h1 | ⟨g, cap, cur, e, hg, r⟩
  · exact .inl h1
  · exact .inr ⟨g, cap, cur, e, Nat.le_trans hB hg, r⟩
theorem OwnV.mono {w : World} {B B' : Nat} {v : Value} {ps : List Pt3} (h : OwnV w B v ps) (hB : B' ≤ B) : OwnV w B' v ps := ownsRow_mono h hB
theorem OwnI.mono {w : World} {B B' : Nat} {v : Value} {ks : List Int} (h : OwnI w B v ks) (hB : B' ≤ B) : OwnI w B' v ks := ownsRow_mono h hB
theorem OwnV.start (w : World) (B : Nat) (hB : B ≤ w.heap.size) : OwnV (w.alloc (.cells #[] 29)) B (.slice (some ⟨w.heap.size, 0, none⟩) 0 0) [] :=
  ⟨rfl, .inr ⟨w.heap.size, 0, #[], rfl, hB, heap_alloc_new w _, Nat.le_refl _, by unfold maxLen; omega, rfl, rfl⟩⟩
theorem OwnI.start (w : World) (B : Nat) (hB : B ≤ w.heap.size) : OwnI (w.alloc (.cells #[] 2)) B (.slice (some ⟨w.heap.size, 0, none⟩) 0 0) [] :=
  ⟨rfl, .inr ⟨w.heap.size, 0, #[], rfl, hB, heap_alloc_new w _, Nat.le_refl _, by unfold maxLen; omega, rfl, rfl⟩⟩
theorem OwnV.at_ {w : World} {B g n cap : Nat} {ps : List Pt3} (h : OwnV w B (.slice (some ⟨g, 0, none⟩) n cap) ps) (i : Nat) (hi : i < ps.length) : w.cell? ⟨g, i * 3, none⟩ = some (.float .f32 ps[i].1) ∧ w.cell? ⟨g, i * 3 + 1, none⟩ = some (.float .f32 ps[i].2.1) ∧ w.cell? ⟨g, i * 3 + 2, none⟩ = some (.float .f32 ps[i].2.2) := by
  obtain ⟨g0, g1, g2⟩ := vCells_get ps i hi
  rw [Nat.mul_comm 3 i] at g0 g1 g2
  have hc := World.ownsRow.cells (g := g) h rfl
  have z : ∀ j, (⟨g, 0, none⟩ : Addr).add j = ⟨g, j, none⟩ := fun j => by simp [Addr.add]; try omega
  refine ⟨?_, ?_, ?_⟩
  · have := hc _ _ g0; rwa [z] at this
  · have := hc _ _ g1; rwa [z] at this
  · have := hc _ _ g2; rwa [z] at this
theorem cells_new3V (w : World) (a b c : Value) (T : TypeId) : ∀ j u, [a, b, c][j]? = some u → (w.alloc (.cells #[a, b, c] T)).cell? ((⟨w.heap.size, 0, none⟩ : Addr).add j) = some u := by
  intro j u h
  have hb := BoxN.last w #[a, b, c] T
  have z : (⟨w.heap.size, 0, none⟩ : Addr).add j = ⟨w.heap.size, j, none⟩ := by simp [Addr.add]; try omega
  rw [z, hb.cell j]
  rw [← h]; simp
theorem cells_new1V (w : World) (a : Value) (T : TypeId) : ∀ j u, [a][j]? = some u → (w.alloc (.cells #[a] T)).cell? ((⟨w.heap.size, 0, none⟩ : Addr).add j) = some u := by
  intro j u h
  have hb := BoxN.last w #[a] T
  have z : (⟨w.heap.size, 0, none⟩ : Addr).add j = ⟨w.heap.size, j, none⟩ := by simp [Addr.add]; try omega
  rw [z, hb.cell j]
  rw [← h]; simp

/-- The points of the first cells, and the cells. -/
def ptsOf (P : Nat → Option Pt3) (i : Nat) : List Pt3 := (List.range i).filterMap P
def celOf (P : Nat → Option Pt3) (i : Nat) : List Int := (List.range i).filterMap fun j => (P j).map fun _ => (j : Int)
theorem ptsOf_none {P : Nat → Option Pt3} {i : Nat} (h : P i = none) : ptsOf P (i + 1) = ptsOf P i ∧ celOf P (i + 1) = celOf P i := by
  unfold ptsOf celOf
  rw [List.range_succ, List.filterMap_append, List.filterMap_append]
  simp [h]
theorem ptsOf_some {P : Nat → Option Pt3} {i : Nat} {p : Pt3} (h : P i = some p) : ptsOf P (i + 1) = ptsOf P i ++ [p] ∧ celOf P (i + 1) = celOf P i ++ [(i : Int)] := by
  unfold ptsOf celOf
  rw [List.range_succ, List.filterMap_append, List.filterMap_append]
  simp [h]
theorem cel_len (P : Nat → Option Pt3) : ∀ i, (celOf P i).length = (ptsOf P i).length ∧ (ptsOf P i).length ≤ i
  | 0 => ⟨rfl, Nat.le_refl _⟩
  | i + 1 => by
    have ih := cel_len P i
    cases h : P i with
    | none => rw [(ptsOf_none h).1, (ptsOf_none h).2]; exact ⟨ih.1, by omega⟩
    | some p => rw [(ptsOf_some h).1, (ptsOf_some h).2]; simp; omega

/-- What is told of a cell's disparity: no depth, or a depth and a point. -/
def PF (F mx my fb : Nat) (wd i d : Nat) : Option Pt3 → Prop
  | none => plusB d = false
  | some p => plusB d = true ∧ floatBits .quo .f32 fb d = some p.2.2 ∧ plusB p.2.2 = true ∧ ∃ xw yw dx ux dy uy, floatOfInt .f32 ((i % wd : Nat) : Int) = xw ∧ floatOfInt .f32 ((i / wd : Nat) : Int) = yw ∧ PtOk F mx my xw yw p.2.2 dx ux p.1 dy uy p.2.1

/-- The state of the collection. -/
structure PoS (w wr : World) (gv gc k vc cc : Nat) (ps : List Pt3) (cs : List Int) : Prop where
  bel : Below w.heap.size w wr
  v : OwnV wr w.heap.size (.slice (some ⟨gv, 0, none⟩) k vc) ps
  c : OwnI wr w.heap.size (.slice (some ⟨gc, 0, none⟩) k cc) cs
  lv : ps.length = k
  lc : cs.length = k
  ap : gv ≠ gc
theorem PoS.below {w wr w' : World} {gv gc k vc cc : Nat} {ps : List Pt3} {cs : List Int} (h : PoS w wr gv gc k vc cc ps cs) (hb : Below wr.heap.size wr w') : PoS w w' gv gc k vc cc ps cs :=
  ⟨h.bel.trans (hb.mono h.bel.size), h.v.below hb, h.c.below hb, h.lv, h.lc, h.ap⟩
/-- A point is appended. -/
theorem PoS.point {w wr w1 w2 : World} {gv gc k vc cc gg cap : Nat} {ps : List Pt3} {cs : List Int} {T : TypeId} {X Y z : Nat} (h : PoS w wr gv gc k vc cc ps cs) (hb : Below wr.heap.size wr w1)
    (hown : w2.ownsRow w.heap.size 29 3 (.slice (some ⟨gg, 0, none⟩) (k + 1) cap) (k + 1) (vCells ps ++ [.float .f32 X, .float .f32 Y, .float .f32 z]))
    (hg : (w1.alloc (.cells #[.float .f32 X, .float .f32 Y, .float .f32 z] T)).grownBy w2 (some gv)) (hat : some gv = some gg ∨ gg = w1.heap.size + 1) :
    Below w.heap.size w w2 ∧ OwnV w2 w.heap.size (.slice (some ⟨gg, 0, none⟩) (k + 1) cap) (ps ++ [(X, Y, z)]) ∧ OwnI w2 w.heap.size (.slice (some ⟨gc, 0, none⟩) k cc) cs ∧ gg ≠ gc := by
  have hal : Below w1.heap.size w1 (w1.alloc (.cells #[.float .f32 X, .float .f32 Y, .float .f32 z] T)) := (Below.refl _ _).alloc (Nat.le_refl _) _
  have hgv := h.v.lt (k := gv) rfl
  have hgc := h.c.lt (k := gc) rfl
  have s1 := hb.size
  refine ⟨((h.bel.trans (hb.mono h.bel.size)).trans (hal.mono (Nat.le_trans h.bel.size s1))).grown hg (by simp; have := h.bel.size; omega) (fun k hk => by injection hk with e; omega), ?_, ?_, ?_⟩
  · unfold OwnV
    rw [List.length_append, List.length_singleton, h.lv, vCells_app]
    exact hown
  · exact ((h.c.below hb).below hal).grown hg (.inr (by show some gc ≠ some gv; intro e; injection e with e; exact h.ap e.symm))
  · rcases hat with e | e
    · injection e with e; rw [← e]; exact h.ap
    · omega
/-- Its cell is appended. -/
theorem PoS.cell {w w1 w2 : World} {gv gc k vc cc gg cap : Nat} {ps : List Pt3} {cs : List Int} {T : TypeId} {z : Int} (hbel : Below w.heap.size w w1) (hv : OwnV w1 w.heap.size (.slice (some ⟨gv, 0, none⟩) (k + 1) vc) ps) (hc : OwnI w1 w.heap.size (.slice (some ⟨gc, 0, none⟩) k cc) cs) (lv : ps.length = k + 1) (lc : cs.length = k) (ap : gv ≠ gc)
    (hown : w2.ownsRow w.heap.size 2 1 (.slice (some ⟨gg, 0, none⟩) (k + 1) cap) (k + 1) (cs.map (Value.int .i64) ++ [.int .i64 z]))
    (hg : (w1.alloc (.cells #[.int .i64 z] T)).grownBy w2 (some gc)) (hat : some gc = some gg ∨ gg = w1.heap.size + 1) : PoS w w2 gv gg (k + 1) vc cap ps (cs ++ [z]) := by
  have hal : Below w1.heap.size w1 (w1.alloc (.cells #[.int .i64 z] T)) := (Below.refl _ _).alloc (Nat.le_refl _) _
  have hgv := hv.lt (k := gv) rfl
  have hgc := hc.lt (k := gc) rfl
  have s1 := hbel.size
  refine ⟨(hbel.trans (hal.mono hbel.size)).grown hg (by simp; omega) (fun k hk => by injection hk with e; omega), ?_, ?_, lv, by simp [lc], ?_⟩
  · exact (hv.below hal).grown hg (.inr (by show some gv ≠ some gc; intro e; injection e with e; exact ap e))
  · unfold OwnI
    rw [List.length_append, List.length_singleton, lc, List.map_append]
    exact hown
  · rcases hat with e | e
    · injection e with e; rw [← e]; exact ap
    · omega

/-- What is returned. -/
def MakesPts (w : World) (ps : List Pt3) (cs : List Int) (e : Ending) (w' : World) : Prop := ∃ gv gc k vc cc, e = .returned (.tuple #[.slice (some ⟨gv, 0, none⟩) k vc, .slice (some ⟨gc, 0, none⟩) k cc, .bool true]) ∧ OwnV w' w.heap.size (.slice (some ⟨gv, 0, none⟩) k vc) ps ∧ OwnI w' w.heap.size (.slice (some ⟨gc, 0, none⟩) k cc) cs ∧ ps.length = k ∧ cs.length = k ∧ gv ≠ gc ∧ Below w.heap.size w w'

set_option maxHeartbeats 8000000 in
theorem pointsOf_any (w : World) {F B mx my fb : Nat} (wd hi N : Nat) (mb off c : Nat) (ds : List Nat) (P : Nat → Option Pt3) (h : CamOk F B mx my) (e1 : floatBits .mul .f32 F B = some fb) (hv : vPic wd hi N = true) (hN : N ≤ 64) (hwd : 0 < wd) (hwd2 : wd ≤ 64)
    (hs : SlF w (.slice (some ⟨mb, off, none⟩) N c) ds) (hl : ds.length = N) (hP : ∀ i, i < N → PF F mx my fb wd i (ds.getD i 0) (P i)) :
    Calls Try.prog 21 #[.agg (camC F B mx my), .agg #[.int .i64 wd, .int .i64 hi, .slice (some ⟨mb, off, none⟩) N c]] w (MakesPts w (ptsOf P N) (celOf P N)) := by
  obtain ⟨i0, hi0, hz0, hz1, hz2⟩ := info_parts info_vec
  obtain ⟨j0, hj0, hy0, hy1, hy2⟩ := info_parts info_i64
  obtain ⟨W0, hW0⟩ : ∃ W, W = (w.alloc (.cells (camC F B mx my) 37)).alloc (.cells #[.int .i64 wd, .int .i64 hi, .slice (some ⟨mb, off, none⟩) N c] 43) := ⟨_, rfl⟩
  have hb1 : Below w.heap.size w (w.alloc (.cells (camC F B mx my) 37)) := (Below.refl _ _).alloc (Nat.le_refl _) _
  have hb0 : Below w.heap.size w W0 := by rw [hW0]; exact hb1.alloc (by simp) _
  have hsz : W0.heap.size = w.heap.size + 1 + 1 := by rw [hW0]; simp
  have hx1 : BoxN W0 (w.heap.size + 1) #[.int .i64 wd, .int .i64 hi, .slice (some ⟨mb, off, none⟩) N c] 43 := by
    have := BoxN.last (w.alloc (.cells (camC F B mx my) 37)) #[.int .i64 wd, .int .i64 hi, .slice (some ⟨mb, off, none⟩) N c] 43
    rw [show (w.alloc (.cells (camC F B mx my) 37)).heap.size = w.heap.size + 1 by simp] at this
    rw [hW0]; exact this
  have hx0 : BoxN W0 w.heap.size (camC F B mx my) 37 := by
    have := BoxN.last w (camC F B mx my) 37
    rw [hW0]; exact this.below ((Below.refl _ _).alloc (Nat.le_refl _) _)
  have HX := Lib.hid (And.intro hb0 (And.intro hx0 hx1))
  have HW0 := Lib.hid hW0
  have HS := Lib.hid (hs.below hb0)
  have K1 := Lib.hid (validCam_any W0 h)
  have K2 := Lib.hid (fun W => validMap_any (wd : Int) (hi : Int) (some ⟨mb, off, none⟩) N c (by omega) W)
  rw [hv] at K2
  have KN := Lib.hid (fun W d hd => far_no W w.heap.size F B mx my d hd)
  have KY := Lib.hid (fun W d z hbx hd e2 hz => far_yes W (cb := w.heap.size) (F := F) (B := B) (mx := mx) (my := my) (d := d) (fb := fb) (z := z) hbx hd e1 e2 hz)
  have HP := Lib.hid hP
  have HL := Lib.hid hl
  have HSZ := Lib.hid hsz
  clear h e1 hv hb1 hb0 hx0 hx1 hW0 hs hP hl hsz
  unfold camC at *
  go_enter Try.func21, Try.ntmps21
  go_upto_region 1 with fail
  rw [← HW0.out]
  obtain ⟨c0, c1, c2, c3⟩ := cam_cells HX.out.2.1
  obtain ⟨m0, m1, m2, -, -, -⟩ := HX.out.2.2.three.cells
  go_wp2_with fail
  refine K1.out.mono ?_
  rintro e w1 ⟨rfl, hb1⟩
  have HB1 := Lib.hid hb1
  obtain ⟨n0, n1, n2, -, -, -⟩ := (HX.out.2.2.below hb1).three.cells
  clear c0 c1 c2 c3 m0 m1 m2 hb1
  go_wp2_with fail
  refine (K2.out _).mono ?_
  rintro e w2 ⟨rfl, hb2⟩
  have HB2 := Lib.hid (HB1.out.trans (hb2.mono HB1.out.size))
  clear n0 n1 n2 hb2
  obtain ⟨bv, hbv⟩ : ∃ b, w2.heap.size = b := ⟨_, rfl⟩
  obtain ⟨V, hV⟩ : ∃ W, W = (w2.alloc (.cells #[] 29)).alloc (.cells #[] 2) := ⟨_, rfl⟩
  have hva : Below w2.heap.size w2 (w2.alloc (.cells #[] 29)) := (Below.refl _ _).alloc (Nat.le_refl _) _
  have s2 : (w2.alloc (.cells #[] 29)).heap.size = bv + 1 := by rw [← hbv]; simp
  have hS0 : PoS W0 V bv (bv + 1) 0 0 0 [] [] := by
    have hz := HB2.out.size
    rw [hV]
    refine ⟨(HB2.out.alloc hz _).alloc (by rw [s2]; omega) _, ?_, ?_, rfl, rfl, by omega⟩
    · have := OwnV.start w2 W0.heap.size hz
      rw [hbv] at this
      exact this.below ((Below.refl _ _).alloc (Nat.le_refl _) _)
    · have := OwnI.start (w2.alloc (.cells #[] 29)) W0.heap.size (by rw [s2]; omega)
      rwa [s2] at this
  have HS0 := Lib.hid hS0
  have HV := Lib.hid hV
  have HBV := Lib.hid hbv
  obtain ⟨n0, n1, n2, -, -, -⟩ := (HX.out.2.2.below hS0.bel).three.cells
  clear hva s2 hS0 hV hbv
  go_upto_region 4 with fail
  rw [← HV.out, HBV.out]
  go_wp2_with fail
  go_loopw [7, 8, 26] (fun v7 v8 v26 wr => ∃ i gv gc k vc cc : Nat, v26 = .int .i64 i ∧ i ≤ N ∧ v7 = .slice (some ⟨gv, 0, none⟩) k vc ∧ v8 = .slice (some ⟨gc, 0, none⟩) k cc ∧ PoS W0 wr gv gc k vc cc (ptsOf P i) (celOf P i)) (fun _ _ v26 _ => N - (intOf v26).toNat)
  case atStart => exact ⟨0, bv, bv + 1, 0, 0, 0, rfl, Nat.zero_le _, rfl, rfl, HS0.out⟩
  case round =>
    clear HS0
    obtain ⟨i, gv, gc, k, vc, cc, rfl, hi_, rfl, rfl, hS⟩ := hrel
    have HS1 := Lib.hid hS
    obtain ⟨n0', n1', n2', -, -, -⟩ := (HX.out.2.2.below hS.bel).three.cells
    by_cases hlt : i < N
    · have hsl := (HS.out.below hS.bel).cellAt i (by rw [HL.out]; exact hlt)
      have hd1 := hsl.1
      have hpi := HP.out i hlt
      generalize ds.getD i 0 = d at *
      have hk := (cel_len P i).2
      rw [hS.lv] at hk
      have hltI : (i : Int) < (N : Int) := by omega
      cases hPi : P i with
      | none =>
        rw [hPi] at hpi
        have hq := ptsOf_none hPi
        have HQ := Lib.hid hq
        have KF := Lib.hid (KN.out wr d hpi)
        clear hpi hPi hq hsl hS hk
        go_wp2_with fail
        refine KF.out.mono ?_
        rintro e w3 ⟨rfl, n3, hw3⟩
        have HS3 := Lib.hid (HS1.out.below (show Below wr.heap.size wr w3 by rw [hw3]; exact below_drewN (Below.refl _ _) n3))
        clear hw3 KF
        go_wp2_with fail
        go_roundw
        case rel => exact ⟨i + 1, gv, gc, k, vc, cc, by go_num, by omega, rfl, rfl, by rw [HQ.out.1, HQ.out.2]; exact HS3.out⟩
        case measure => simp [intOf]; omega
      | some pt =>
        rw [hPi] at hpi
        obtain ⟨pd, pe2, pz, xw, yw, dx, ux, dy, uy, ox, oy, hpt⟩ := hpi
        obtain ⟨X, Y, z⟩ := pt
        simp only at pe2 pz hpt
        have hq := ptsOf_some hPi
        have HQ := Lib.hid hq
        have KF := Lib.hid (KY.out wr d z (HX.out.2.1.below hS.bel) pd pe2 pz)
        have KP := Lib.hid (fun W hbx => point_any W (cb := w.heap.size) (F := F) (B := B) (mx := mx) (my := my) hbx hpt)
        clear pd pe2 pz hpt hPi hq hsl hS
        go_wp2_with fail
        refine KF.out.mono ?_
        rintro e w3 ⟨rfl, n3, hw3⟩
        have hb3 : Below wr.heap.size wr w3 := by rw [hw3]; exact below_drewN (Below.refl _ _) n3
        have hS3 := HS1.out.below hb3
        have HS3 := Lib.hid hS3
        have hbD : Below w3.heap.size w3 w3.drew := below_drewN (Below.refl _ _) 1
        have hcD : BoxN w3.drew w.heap.size #[.float .f32 F, .float .f32 B, .float .f32 mx, .float .f32 my] 37 := (HX.out.2.1.below hS3.bel).below hbD
        have HCD := Lib.hid hcD
        have hrowV : w3.ownsRow W0.heap.size 29 3 (.slice (some ⟨gv, 0, none⟩) k vc) k (vCells (ptsOf P i)) := by
          have := hS3.v; unfold OwnV at this; rwa [hS3.lv] at this
        have hsz3 : W0.heap.size ≤ w3.heap.size := hS3.bel.size
        obtain ⟨o0, o1, o2, -, -, -⟩ := ((HX.out.2.2.below hS3.bel).below hbD).three.cells
        have hi64 : i < 64 := by omega
        obtain ⟨xi, hxi⟩ : ∃ x, i % wd = x := ⟨_, rfl⟩
        obtain ⟨yi, hyi⟩ : ∃ x, i / wd = x := ⟨_, rfl⟩
        have tm : ((i : Int) % (wd : Int)) = (xi : Int) := by rw [← hxi]; simp
        have td : ((i : Int) / (wd : Int)) = (yi : Int) := by rw [← hyi]; simp
        have tmm : (i : Int).tmod (wd : Int) = (xi : Int) := by rw [Int.tmod_eq_emod_of_nonneg (by omega)]; exact tm
        have hyle : yi ≤ i := by rw [← hyi]; exact Nat.div_le_self i wd
        have tyw : IntKind.i64.wrap (yi : Int) = (yi : Int) := wrap_small (yi : Int) (by omega) (by omega)
        have wd0 : ¬ (wd : Int) = 0 := by omega
        have wd0' : ¬ wd = 0 := by omega
        have hx64 : xi < 64 := by rw [← hxi]; exact Nat.lt_of_le_of_lt (Nat.mod_le _ _) hi64
        have hy64 : yi < 64 := by rw [← hyi]; exact Nat.lt_of_le_of_lt (Nat.div_le_self _ _) hi64
        rw [hxi] at ox
        rw [hyi] at oy
        clear hxi hyi hyle
        clear hw3 KF hS3 n0 n1 n2 n0' n1' n2' hd1 hb3 hcD
        go_upto_region 9 with fail
        have hdum := True.intro
        refine wp_region_noPanic ?_
        refine wp_region_any (by kernel_rfl) ?_
        change wpAny _ _ _ _ _ _ _ (World.drew _)
        refine wpAny_take (i := 0) (v := ?v0) rfl (by kernel_rfl) (by kernel_rfl) (by kernel_rfl) (fun _ _ _ h => h) (Or.inl ⟨by rfl, ?y0⟩) ?r0
        case y0 => (intro w; go_simp; try with_reducible rfl)
        try simp only [Act.put, List.setIfInBounds_toArray, List.set_cons_zero, List.set_cons_succ]
        refine wpAny_take (i := 1) (v := ?v1) rfl (by kernel_rfl) (by kernel_rfl) (by kernel_rfl) (fun _ _ _ h => h) (Or.inl ⟨by rfl, ?y1⟩) ?r1
        case y1 => (intro w; go_simp; try with_reducible rfl)
        try simp only [Act.put, List.setIfInBounds_toArray, List.set_cons_zero, List.set_cons_succ]
        refine wpAny_take (i := 2) (v := ?v2) rfl (by kernel_rfl) (by kernel_rfl) (by kernel_rfl) (fun _ _ _ h => h) (Or.inl ⟨by rfl, ?y2⟩) ?r2
        case y2 => (intro w; go_simp; try with_reducible rfl)
        try simp only [Act.put, List.setIfInBounds_toArray, List.set_cons_zero, List.set_cons_succ]
        refine wpAny_take (i := 6) (v := ?v6) rfl (by kernel_rfl) (by kernel_rfl) (by kernel_rfl) (fun _ _ _ h => h) (Or.inl ⟨by rfl, ?y6⟩) ?r6
        case y6 => (intro w; go_simp; try with_reducible rfl)
        try simp only [Act.put, List.setIfInBounds_toArray, List.set_cons_zero, List.set_cons_succ]
        refine wpAny_take (i := 7) (v := ?v7) rfl (by kernel_rfl) (by kernel_rfl) (by kernel_rfl) (fun _ _ _ h => h) (Or.inl ⟨by rfl, ?y7⟩) ?r7
        case y7 => (intro w; go_simp; try with_reducible rfl)
        try simp only [Act.put, List.setIfInBounds_toArray, List.set_cons_zero, List.set_cons_succ]
        refine wpAny_take (i := 11) (v := ?v11) rfl (by kernel_rfl) (by kernel_rfl) (by kernel_rfl) (fun _ _ _ h => h) (Or.inl ⟨by rfl, ?y11⟩) ?r11
        case y11 => (intro w; go_simp; try with_reducible rfl)
        try simp only [Act.put, List.setIfInBounds_toArray, List.set_cons_zero, List.set_cons_succ]
        refine wpAny_ready (rs := [3, 8]) (by decide +kernel) (by simp) ?_
        refine AllReady.cons (by rfl) ?_ ?_
        · intro K hK
          clear hdum
          have hdum := True.intro
          go_simp
          refine hK _ _ ?_
          clear hK K
          try simp only [Act.put, List.setIfInBounds_toArray, List.set_cons_zero, List.set_cons_succ]
          refine wpAny_take (i := 4) (v := ?v4a3) rfl (by kernel_rfl) (by kernel_rfl) (by kernel_rfl) (fun _ _ _ h => h) (Or.inl ⟨by rfl, ?y4a3⟩) ?r4a3
          case y4a3 => (intro w; go_simp; try with_reducible rfl)
          try simp only [Act.put, List.setIfInBounds_toArray, List.set_cons_zero, List.set_cons_succ]
          refine wpAny_take (i := 5) (v := ?v5a3) rfl (by kernel_rfl) (by kernel_rfl) (by kernel_rfl) (fun _ _ _ h => h) (Or.inl ⟨by rfl, ?y5a3⟩) ?r5a3
          case y5a3 => (intro w; go_simp; try with_reducible rfl)
          try simp only [Act.put, List.setIfInBounds_toArray, List.set_cons_zero, List.set_cons_succ]
          refine wpAny_ready (rs := [8]) (by decide +kernel) (by simp) ?_
          refine AllReady.cons (by rfl) ?_ AllReady.nil
          intro K hK
          clear hdum
          have hdum := True.intro
          go_simp
          refine hK _ _ ?_
          clear hK K
          try simp only [Act.put, List.setIfInBounds_toArray, List.set_cons_zero, List.set_cons_succ]
          refine wpAny_take (i := 9) (v := ?v9b3) rfl (by kernel_rfl) (by kernel_rfl) (by kernel_rfl) (fun _ _ _ h => h) (Or.inl ⟨by rfl, ?y9b3⟩) ?r9b3
          case y9b3 => (intro w; go_simp; try with_reducible rfl)
          try simp only [Act.put, List.setIfInBounds_toArray, List.set_cons_zero, List.set_cons_succ]
          refine wpAny_take (i := 10) (v := ?v10b3) rfl (by kernel_rfl) (by kernel_rfl) (by kernel_rfl) (fun _ _ _ h => h) (Or.inl ⟨by rfl, ?y10b3⟩) ?r10b3
          case y10b3 => (intro w; go_simp; try with_reducible rfl)
          try simp only [Act.put, List.setIfInBounds_toArray, List.set_cons_zero, List.set_cons_succ]
          refine wpAny_ready (rs := [12]) (by decide +kernel) (by simp) ?_
          refine AllReady.cons (by rfl) ?_ AllReady.nil
          intro K hK
          clear hdum
          have hdum := True.intro
          go_simp
          refine (KP.out _ HCD.out).mono ?_
          rintro e w4 ⟨rfl, hb4⟩
          unfold vecV vecC
          (try dsimp only)
          have hb4' : Below w3.heap.size w3 w4 := hbD.trans (hb4.mono hbD.size)
          have hown1 := hrowV.kept (grown_below hb4' none) (by simp [Value.ownBlock])
          have hz2' : W0.heap.size ≤ w4.heap.size := (by have := hb4'.size; omega)
          refine hK _ _ ?_
          clear hK K
          try simp only [Act.put, List.setIfInBounds_toArray, List.set_cons_zero, List.set_cons_succ]
          refine wpAny_ready (rs := [13]) (by decide +kernel) (by simp) ?_
          refine AllReady.cons (by rfl) ?_ AllReady.nil
          intro K hK
          clear hdum
          have hdum := True.intro
          go_simp
          refine hK _ _ ?_
          clear hK K
          try simp only [Act.put, List.setIfInBounds_toArray, List.set_cons_zero, List.set_cons_succ]
          refine wpAny_ready (rs := [14]) (by decide +kernel) (by simp) ?_
          refine AllReady.cons (by rfl) ?_ AllReady.nil
          intro K hK
          clear hdum
          have hdum := True.intro
          refine step_append_lies _ (by rfl) _ _ _ (by rfl) W0.heap.size 29 i0 _ 3 12 Try.underlying46 hi0 hz0 hz1 hz2 rfl (by omega) (.slice (some ⟨gv, 0, none⟩) k vc) k _ (by rfl) (World.ownsRow.alloc hown1 _) ⟨w4.heap.size, 0, none⟩ 1 1 [.float .f32 X, .float .f32 Y, .float .f32 z] (by rfl) (by rfl) (cells_new3V _ _ _ _ _) (by simp [Value.oneCell']) (by omega) (by unfold maxLen; omega) (by omega) (by simp; omega) (w4.heap.size + 1) (by simp) ?_
          intro gg cap w5 hown2 hgrow hat hlt2
          try go_simp
          refine hK _ _ ?_
          clear hK K
          try simp only [Act.put, List.setIfInBounds_toArray, List.set_cons_zero, List.set_cons_succ]
          refine wpAny_ready (rs := [15]) (by decide +kernel) (by simp) ?_
          refine AllReady.cons (by rfl) ?_ AllReady.nil
          intro K hK
          clear hdum
          have hdum := True.intro
          go_simp
          refine hK _ _ ?_
          clear hK K
          try simp only [Act.put, List.setIfInBounds_toArray, List.set_cons_zero, List.set_cons_succ]
          refine wpAny_done (by kernel_rfl) ?_ _
          refine NoPanic.normal ?_
          obtain ⟨b5, v5, c5, a5⟩ := HS3.out.point hb4' hown2 hgrow hat
          have HV5 := Lib.hid v5
          have HC5 := Lib.hid (And.intro c5 a5)
          have HB5 := Lib.hid b5
          have hz5 := b5.size
          have hrowI : w5.ownsRow W0.heap.size 2 1 (.slice (some ⟨gc, 0, none⟩) k cc) k ((celOf P i).map (Value.int .i64)) := by
            have := c5; unfold OwnI at this; rwa [HS3.out.lc] at this
          clear b5 v5 c5 a5 hown2 hgrow hat hlt2 hown1 hrowV hb4 hb4' hz2'
          go_wp2_with (at_builtin; refine wpList_append_lies _ (by rfl) _ _ _ (by rfl) W0.heap.size 2 j0 _ 1 8 Try.underlying47 hj0 hy0 hy1 hy2 rfl (by omega) (.slice (some ⟨gc, 0, none⟩) k cc) k _ (by rfl) (World.ownsRow.alloc hrowI _) ⟨w5.heap.size, 0, none⟩ 1 1 [.int .i64 (i : Int)] (by rfl) (by rfl) (cells_new1V _ _ _) (by simp [Value.oneCell']) (by omega) (by unfold maxLen; omega) (by omega) (by simp; omega) (w5.heap.size + 1) (by simp) ?_; intro g6 cap6 w6 hown6 hgrow6 hat6 hlt6)
          have hfin := PoS.cell HB5.out HV5.out HC5.out.1 (by simp [HS3.out.lv]) HS3.out.lc HC5.out.2 hown6 hgrow6 hat6
          have HFIN := Lib.hid hfin
          clear hfin hown6 hgrow6 hat6 hlt6
          go_wp2_with fail
          go_roundw
          case rel => exact ⟨i + 1, gg, g6, k + 1, cap, cap6, by go_num, by omega, rfl, rfl, by rw [HQ.out.1, HQ.out.2]; exact HFIN.out⟩
          case measure => simp [intOf]; omega
        refine AllReady.cons (by rfl) ?_ ?_
        · intro K hK
          clear hdum
          have hdum := True.intro
          go_simp
          refine hK _ _ ?_
          clear hK K
          try simp only [Act.put, List.setIfInBounds_toArray, List.set_cons_zero, List.set_cons_succ]
          refine wpAny_take (i := 9) (v := ?v9a8) rfl (by kernel_rfl) (by kernel_rfl) (by kernel_rfl) (fun _ _ _ h => h) (Or.inl ⟨by rfl, ?y9a8⟩) ?r9a8
          case y9a8 => (intro w; go_simp; try with_reducible rfl)
          try simp only [Act.put, List.setIfInBounds_toArray, List.set_cons_zero, List.set_cons_succ]
          refine wpAny_take (i := 10) (v := ?v10a8) rfl (by kernel_rfl) (by kernel_rfl) (by kernel_rfl) (fun _ _ _ h => h) (Or.inl ⟨by rfl, ?y10a8⟩) ?r10a8
          case y10a8 => (intro w; go_simp; try with_reducible rfl)
          try simp only [Act.put, List.setIfInBounds_toArray, List.set_cons_zero, List.set_cons_succ]
          refine wpAny_ready (rs := [3]) (by decide +kernel) (by simp) ?_
          refine AllReady.cons (by rfl) ?_ AllReady.nil
          intro K hK
          clear hdum
          have hdum := True.intro
          go_simp
          refine hK _ _ ?_
          clear hK K
          try simp only [Act.put, List.setIfInBounds_toArray, List.set_cons_zero, List.set_cons_succ]
          refine wpAny_take (i := 4) (v := ?v4b8) rfl (by kernel_rfl) (by kernel_rfl) (by kernel_rfl) (fun _ _ _ h => h) (Or.inl ⟨by rfl, ?y4b8⟩) ?r4b8
          case y4b8 => (intro w; go_simp; try with_reducible rfl)
          try simp only [Act.put, List.setIfInBounds_toArray, List.set_cons_zero, List.set_cons_succ]
          refine wpAny_take (i := 5) (v := ?v5b8) rfl (by kernel_rfl) (by kernel_rfl) (by kernel_rfl) (fun _ _ _ h => h) (Or.inl ⟨by rfl, ?y5b8⟩) ?r5b8
          case y5b8 => (intro w; go_simp; try with_reducible rfl)
          try simp only [Act.put, List.setIfInBounds_toArray, List.set_cons_zero, List.set_cons_succ]
          refine wpAny_ready (rs := [12]) (by decide +kernel) (by simp) ?_
          refine AllReady.cons (by rfl) ?_ AllReady.nil
          intro K hK
          clear hdum
          have hdum := True.intro
          go_simp
          refine (KP.out _ HCD.out).mono ?_
          rintro e w4 ⟨rfl, hb4⟩
          unfold vecV vecC
          (try dsimp only)
          have hb4' : Below w3.heap.size w3 w4 := hbD.trans (hb4.mono hbD.size)
          have hown1 := hrowV.kept (grown_below hb4' none) (by simp [Value.ownBlock])
          have hz2' : W0.heap.size ≤ w4.heap.size := (by have := hb4'.size; omega)
          refine hK _ _ ?_
          clear hK K
          try simp only [Act.put, List.setIfInBounds_toArray, List.set_cons_zero, List.set_cons_succ]
          refine wpAny_ready (rs := [13]) (by decide +kernel) (by simp) ?_
          refine AllReady.cons (by rfl) ?_ AllReady.nil
          intro K hK
          clear hdum
          have hdum := True.intro
          go_simp
          refine hK _ _ ?_
          clear hK K
          try simp only [Act.put, List.setIfInBounds_toArray, List.set_cons_zero, List.set_cons_succ]
          refine wpAny_ready (rs := [14]) (by decide +kernel) (by simp) ?_
          refine AllReady.cons (by rfl) ?_ AllReady.nil
          intro K hK
          clear hdum
          have hdum := True.intro
          refine step_append_lies _ (by rfl) _ _ _ (by rfl) W0.heap.size 29 i0 _ 3 12 Try.underlying46 hi0 hz0 hz1 hz2 rfl (by omega) (.slice (some ⟨gv, 0, none⟩) k vc) k _ (by rfl) (World.ownsRow.alloc hown1 _) ⟨w4.heap.size, 0, none⟩ 1 1 [.float .f32 X, .float .f32 Y, .float .f32 z] (by rfl) (by rfl) (cells_new3V _ _ _ _ _) (by simp [Value.oneCell']) (by omega) (by unfold maxLen; omega) (by omega) (by simp; omega) (w4.heap.size + 1) (by simp) ?_
          intro gg cap w5 hown2 hgrow hat hlt2
          try go_simp
          refine hK _ _ ?_
          clear hK K
          try simp only [Act.put, List.setIfInBounds_toArray, List.set_cons_zero, List.set_cons_succ]
          refine wpAny_ready (rs := [15]) (by decide +kernel) (by simp) ?_
          refine AllReady.cons (by rfl) ?_ AllReady.nil
          intro K hK
          clear hdum
          have hdum := True.intro
          go_simp
          refine hK _ _ ?_
          clear hK K
          try simp only [Act.put, List.setIfInBounds_toArray, List.set_cons_zero, List.set_cons_succ]
          refine wpAny_done (by kernel_rfl) ?_ _
          refine NoPanic.normal ?_
          obtain ⟨b5, v5, c5, a5⟩ := HS3.out.point hb4' hown2 hgrow hat
          have HV5 := Lib.hid v5
          have HC5 := Lib.hid (And.intro c5 a5)
          have HB5 := Lib.hid b5
          have hz5 := b5.size
          have hrowI : w5.ownsRow W0.heap.size 2 1 (.slice (some ⟨gc, 0, none⟩) k cc) k ((celOf P i).map (Value.int .i64)) := by
            have := c5; unfold OwnI at this; rwa [HS3.out.lc] at this
          clear b5 v5 c5 a5 hown2 hgrow hat hlt2 hown1 hrowV hb4 hb4' hz2'
          go_wp2_with (at_builtin; refine wpList_append_lies _ (by rfl) _ _ _ (by rfl) W0.heap.size 2 j0 _ 1 8 Try.underlying47 hj0 hy0 hy1 hy2 rfl (by omega) (.slice (some ⟨gc, 0, none⟩) k cc) k _ (by rfl) (World.ownsRow.alloc hrowI _) ⟨w5.heap.size, 0, none⟩ 1 1 [.int .i64 (i : Int)] (by rfl) (by rfl) (cells_new1V _ _ _) (by simp [Value.oneCell']) (by omega) (by unfold maxLen; omega) (by omega) (by simp; omega) (w5.heap.size + 1) (by simp) ?_; intro g6 cap6 w6 hown6 hgrow6 hat6 hlt6)
          have hfin := PoS.cell HB5.out HV5.out HC5.out.1 (by simp [HS3.out.lv]) HS3.out.lc HC5.out.2 hown6 hgrow6 hat6
          have HFIN := Lib.hid hfin
          clear hfin hown6 hgrow6 hat6 hlt6
          go_wp2_with fail
          go_roundw
          case rel => exact ⟨i + 1, gg, g6, k + 1, cap, cap6, by go_num, by omega, rfl, rfl, by rw [HQ.out.1, HQ.out.2]; exact HFIN.out⟩
          case measure => simp [intOf]; omega
        exact AllReady.nil
    · obtain rfl : i = N := by omega
      have hfin : MakesPts w (ptsOf P i) (celOf P i) (.returned (.tuple #[.slice (some ⟨gv, 0, none⟩) k vc, .slice (some ⟨gc, 0, none⟩) k cc, .bool true])) wr :=
        ⟨gv, gc, k, vc, cc, rfl, hS.v.mono HX.out.1.size, hS.c.mono HX.out.1.size, hS.lv, hS.lc, hS.ap, HX.out.1.trans (hS.bel.mono HX.out.1.size)⟩
      have HFIN := Lib.hid hfin
      clear hfin hS HS1 n0 n1 n2 n0' n1' n2'
      go_wp2_with fail
      go_ret3
      exact HFIN.out

end Go.Proofs.Ytkhoifgljalfcaa

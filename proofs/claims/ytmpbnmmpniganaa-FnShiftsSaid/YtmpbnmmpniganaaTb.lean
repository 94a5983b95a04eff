/- B10Shifted: the walk. -/
import Derived.Test.YtmpbnmmpniganaaTa
namespace Go.Proofs.Ytmpbnmmpniganaa
open Go.RowKit
set_option maxRecDepth 100000
set_option linter.unusedVariables false
set_option linter.unusedSimpArgs false

/-- Two pictures of which one is the other one, shifted. -/
def MakesShift (b : Nat) (w : World) (e : Ending) (w' : World) : Prop :=
  ∃ (wd hi N q1 c1 q2 c2 : Nat) (R : List (List Int)), e = .returned (.tuple #[.agg #[.int .i64 wd, .int .i64 hi, .slice (some ⟨q1, 0, none⟩) N c1], .agg #[.int .i64 wd, .int .i64 hi, .slice (some ⟨q2, 0, none⟩) N c2]]) ∧ N = wd * hi ∧ 5 ≤ wd ∧ wd ≤ 8 ∧ 1 ≤ hi ∧ hi ≤ 3 ∧ R.length = hi ∧ (∀ r ∈ R, RowOk wd b r) ∧
    MQ w' q1 c1 N (ShA wd R) ∧ MQ w' q2 c2 N (ShB wd b R) ∧ Below w.heap.size w w'
theorem half_up : ∀ p : Int, 0 ≤ p → p ≤ 3 → floatBits .quo .f32 (floatOfInt .f32 (1 + p)) 1073741824 = some (fq 2 (2 * (1 + p))) := by
  have h : ∀ k : Fin 4, floatBits .quo .f32 (floatOfInt .f32 (1 + (k.val : Int))) 1073741824 = some (fq 2 (2 * (1 + (k.val : Int)))) := by decide +kernel
  intro p h0 h1
  obtain ⟨k, rfl⟩ := Int.eq_ofNat_of_zero_le h0
  exact h ⟨k, by omega⟩
theorem four_up : ∀ p : Int, 0 ≤ p → p ≤ 3 → floatOfInt .f32 p = fq 2 (4 * p) := by
  have h : ∀ k : Fin 4, floatOfInt .f32 (k.val : Int) = fq 2 (4 * (k.val : Int)) := by decide +kernel
  intro p h0 h1
  obtain ⟨k, rfl⟩ := Int.eq_ofNat_of_zero_le h0
  exact h ⟨k, by omega⟩

theorem MQ.setK {W : World} {q c N : Nat} {ks : List Int} (h : MQ W q c N ks) {b i : Nat} (hb : b ≠ q) (v : Value) : MQ (W.setCell ⟨b, i, none⟩ v) q c N ks :=
  ⟨⟨h.sl.1.grown (grown_setCell W ⟨b, i, none⟩ v) (.inr (fun e => hb (by injection e with e; exact e.symm))), h.sl.2⟩, by simpa using h.qlt, h.bd⟩
set_option maxHeartbeats 4000000 in
theorem b10Shifted_any (w : World) (a : Option Addr) (len cap b : Nat) (hb3 : b ≤ 3) (h : BytesIn w a len) :
    Calls Try.prog 18 #[.slice a len cap, .int .i64 b] w (MakesShift b w) := by
  obtain ⟨i0, hi0, hz0, hz1, hz2⟩ := info_parts info_f32
  obtain ⟨wA, hwA⟩ : ∃ wA, wA = (w.alloc (.cells #[.int .i64 0, .int .i64 0, .slice none 0 0] 37)).alloc (.cells #[.int .i64 0, .int .i64 0, .slice none 0 0] 37) := ⟨_, rfl⟩
  have hbA : Below w.heap.size w wA := by rw [hwA]; exact below_two w _ _
  have B1 : Box3 wA w.heap.size (.int .i64 0) (.int .i64 0) (.slice none 0 0) 37 := by rw [hwA]; exact box_first w _ _ _ _ _
  have B2 : Box3 wA (w.heap.size + 1) (.int .i64 0) (.int .i64 0) (.slice none 0 0) 37 := by rw [hwA]; exact box_second w _ _ _ _ _
  have hsz : wA.heap.size = w.heap.size + 2 := by rw [hwA]; simp
  have KF := Lib.hid (from_any wA a len cap (h.at.grown (grown_below hbA none) (fun k hk => by cases hk)) (by omega))
  have HWA := Lib.hid hwA
  have HB := Lib.hid (And.intro B1 (And.intro B2 (And.intro hbA hsz)))
  clear hwA hbA B1 B2 hsz h
  go_enter Try.func18, Try.ntmps18
  go_wp2_with fail
  rw [← HWA.out]
  refine KF.out.mono ?_
  rintro e w1 ⟨rfl, hs, hb, hlt⟩
  obtain ⟨B1, B2, hbA, hsz⟩ := HB.out
  obtain ⟨sb, hsb⟩ : ∃ sb, sb = wA.heap.size := ⟨_, rfl⟩
  rw [← hsb] at hs hlt ⊢
  have h1s := hb.size
  have HB1 := Lib.hid hb
  have HSB := Lib.hid hsb
  have HSZ := Lib.hid hsz
  clear hb hsb hsz KF B1 B2 hbA
  go_wp2_with fail
  refine (pick_any _ _ _ 4 (by omega) (by omega) hs (by omega)).mono ?_
  rintro e w2 ⟨x, rfl, x0, x1, hd2⟩
  have HS2 := Lib.hid hd2
  clear hd2
  go_wp2_with fail
  refine (pick_any _ _ _ 3 (by omega) (by omega) HS2.out.ok (by omega)).mono ?_
  rintro e w3 ⟨y, rfl, y0, y1, hd3⟩
  have HS3 := Lib.hid (Drew.trans HS2.out hd3)
  clear hd3 hs
  obtain ⟨wd, hwd⟩ : ∃ n : Nat, (5 : Int) + x = n := ⟨(5 + x).toNat, by omega⟩
  obtain ⟨hi, hhi⟩ : ∃ n : Nat, (1 : Int) + y = n := ⟨(1 + y).toNat, by omega⟩
  have v1 : 5 ≤ wd := by omega
  have v2 : wd ≤ 8 := by omega
  have v3 : 1 ≤ hi := by omega
  have v4 : hi ≤ 3 := by omega
  have HWD := Lib.hid hwd
  have HHI := Lib.hid hhi
  go_wp2_with fail
  have g3 := HS3.out.grown
  have g3s := g3.size
  have nsb : ∀ k, k ≠ sb → some k ≠ some sb := fun k hk e => by injection e with e; exact hk e
  obtain ⟨W4, hW4⟩ : ∃ W4, W4 = (w3.alloc (.cells #[.int .i64 wd, .int .i64 hi, .slice none 0 0] 37)).alloc (.cells #[.int .i64 wd, .int .i64 hi, .slice none 0 0] 37) := ⟨_, rfl⟩
  have hb4 : Below w3.heap.size w3 W4 := by rw [hW4]; exact below_two w3 _ _
  have s4 : W4.heap.size = w3.heap.size + 2 := by rw [hW4]; simp
  have start : ShSt w W4 sb 4 w3.heap.size (w3.heap.size + 1) wd hi W4.heap.size (.slice none 0 0) (.slice none 0 0) (ShA wd []) (ShB wd b []) := by
    obtain ⟨B1, B2, hbA, hsz⟩ := HB.out
    have e1 := HSB.out
    exact ⟨((hbA.trans (HB1.out.mono hbA.size)).grown g3 (by omega) (fun k hk => by injection hk with hk; omega)).trans (hb4.mono (by omega)),
      HS3.out.ok.below hb4, ((B1.below HB1.out).grown g3 (nsb _ (by omega))).below hb4, ((B2.below HB1.out).grown g3 (nsb _ (by omega))).below hb4,
      by rw [hW4]; exact box_first w3 _ _ _ _ _, by rw [hW4]; exact box_second w3 _ _ _ _ _, OwnF.nil _ _, OwnF.nil _ _, fun k hk => (by cases hk), fun k hk => (by cases hk), fun k hk => (by cases hk), by omega⟩
  obtain ⟨oa, hoa⟩ : ∃ oa, oa = w3.heap.size := ⟨_, rfl⟩
  rw [← hW4, ← hoa]
  rw [← hoa] at start
  have HST := Lib.hid start
  clear start hW4 hb4 s4 g3 g3s hoa x0 x1 y0 y1 hwd hhi HB HB1 HS2 HS3
  go_loopw [11] (fun v11 wr => ∃ (y K : Nat) (va vb : Value) (R : List (List Int)), v11 = .int .i64 y ∧ y ≤ hi ∧ R.length = y ∧ (∀ r ∈ R, RowOk wd b r) ∧ ShSt w wr sb (4 + 40 * y) oa (oa + 1) wd hi K va vb (ShA wd R) (ShB wd b R)) (fun v11 _ => hi - (intOf v11).toNat)
  case atStart => exact ⟨0, _, _, _, [], rfl, Nat.zero_le _, rfl, fun r hr => (by cases hr), HST.out⟩
  case round =>
    clear HST
    obtain ⟨y, K, va, vb, R, rfl, hy, hR, hrow, hst⟩ := hrel
    have HSA := Lib.hid hst.atSize
    have HR := Lib.hid hR
    have HROW := Lib.hid hrow
    clear hst hR hrow
    by_cases hlt : y < hi
    · obtain ⟨K1, hK1⟩ : ∃ K1, K1 = wr.heap.size := ⟨_, rfl⟩
      rw [← hK1] at HSA
      have hw5 := alb1 wr (.cells #[] 33)
      have HS5 := Lib.hid (HSA.out.far (grown_below hw5 none) (fun k hk => by cases hk))
      have own0 : OwnF (wr.alloc (.cells #[] 33)) K1 (.slice (some ⟨wr.heap.size, 0, none⟩) 0 0) (([] : List Int).map (fq 2)) :=
        ⟨⟨rfl, .inr ⟨wr.heap.size, 0, #[], rfl, by omega, heap_alloc_new wr _, Nat.le_refl _, by unfold maxLen; omega, rfl, rfl⟩⟩, fun x hx => by cases hx⟩
      have HO5 := Lib.hid own0
      clear hw5 own0
      go_wp2_with fail
      refine (pick_any _ _ _ 4 (by omega) (by omega) HS5.out.src (by omega)).mono ?_
      rintro e w6 ⟨p, rfl, p0, p1, hd6⟩
      have HS6 := Lib.hid (HS5.out.draw hd6)
      have HO6 := Lib.hid (HO5.out.grown hd6.grown (.inr (by have := HS5.out.pl; simp [Value.ownBlock]; omega)))
      have cv := four_up p p0 (by omega)
      have hk1 := hK1
      clear hd6 HS5 HO5
      go_wp2_with fail
      go_loopw [12, 13, 14] (fun v12 v13 v14 wz => ∃ (k : Nat) (kx : Int) (rs : List Int) (vr : Value), v14 = .int .i64 k ∧ vr = v12 ∧ k ≤ wd + b ∧ rs.length = k ∧ v13 = .float .f32 (fq 2 kx) ∧ 0 ≤ kx ∧ kx ≤ 12 + 8 * (k : Int) ∧ rs.Pairwise (· < ·) ∧ (∀ z ∈ rs, 0 ≤ z ∧ z < kx) ∧ ShSt w wz sb (4 + 40 * y + 2 + 2 * k) oa (oa + 1) wd hi K1 va vb (ShA wd R) (ShB wd b R) ∧ OwnF wz K1 vr (rs.map (fq 2))) (fun _ _ v14 _ => wd + b - (intOf v14).toNat)
      case atStart => exact ⟨0, 4 * p, [], _, rfl, rfl, Nat.zero_le _, rfl, rfl, by omega, by omega, List.Pairwise.nil, fun z hz => (by cases hz), HS6.out, HO6.out⟩
      case round =>
        clear HS6 HO6
        obtain ⟨k, kx, rs, vr, rfl, rfl, hk, hrl, rfl, kx0, kx1, hinc, hrs, hst, hown⟩ := hrel
        have HST := Lib.hid hst
        have HOW := Lib.hid hown
        have HINC := Lib.hid hinc
        have HRS := Lib.hid hrs
        have HRL := Lib.hid hrl
        have own1 : wr.ownsRow K1 33 1 vr k (rs.map fun z => Value.float .f32 (fq 2 z)) := by
          have := hown.1
          rw [List.length_map, hrl, List.map_map] at this
          exact this
        have hpl := hst.pl
        clear hst hown hinc hrs hrl
        by_cases hkl : k < wd + b
        · have hkI : (k : Int) < (wd : Int) + (b : Int) := by omega
          have hvl : fq 2 kx < 4294967296 := fq_lt (by omega)
          obtain ⟨vk, hvk⟩ : ∃ vk, fq 2 kx = vk := ⟨_, rfl⟩
          rw [hvk] at hvl ⊢
          have HVK := Lib.hid hvk
          clear hvk
          go_wp2_with (at_builtin; refine wpList_append_lies _ (by rfl) _ _ _ (by rfl) K1 33 i0 _ 1 4 Try.underlying25 hi0 hz0 hz1 hz2 rfl (by omega) vr k _ (by rfl) (World.ownsRow.alloc own1 _) ⟨wr.heap.size, 0, none⟩ 1 1 [.float .f32 vk] (by rfl) (by rfl) (cell_one_new _ _ _) (by simp [Value.oneCell']) (by omega) (by unfold maxLen; omega) (by omega) (by simp; omega) (wr.heap.size + 1) (by simp) ?_; intro g cap w2 hown2 hgrow hat hlt2)
          have HS2 := Lib.hid ((HST.out.far (grown_below (alb1 wr _) none) (fun k e => (by cases e))).far hgrow (fun k e => (HOW.out.lt e).1))
          clear hgrow hat
          refine (pick_any _ _ _ 4 (by omega) (by omega) HS2.out.src (by omega)).mono ?_
          rintro e w8 ⟨p, rfl, p0, p1, hd8⟩
          have HS8 := Lib.hid (HS2.out.draw hd8)
          have hown8 := hown2.kept hd8.grown (.inr (by have := (hown2.lt g rfl).1; simp [Value.ownBlock]; omega))
          have q1 := half_up p p0 (by omega)
          have q2 := fq_add (g := 2) (a := kx) (b := 2 * (1 + p)) (by omega) (by omega) (by omega)
          rw [HVK.out] at q2
          have ar1 := fres_some q1
          have af1 := fdr_some q1
          have ar2 := fres_some q2
          have af2 := fdr_some q2
          have hd0 : ∀ W : World, W.drewN 0 = W := fun _ => rfl
          clear q1 q2 hown2 hd8 own1
          go_wp2_with fail
          go_roundw
          case rel =>
            refine ⟨k + 1, kx + 2 * (1 + p), rs ++ [kx], _, by go_num, rfl, by omega, by simp [HRL.out], rfl, by omega, by omega, ?_, ?_, HS8.out.mono (by omega), ?_⟩
            · rw [List.pairwise_append]
              refine ⟨HINC.out, by simp, ?_⟩
              intro z hz u hu
              rw [List.mem_singleton] at hu
              rw [hu]
              exact (HRS.out z hz).2
            · intro z hz
              rcases List.mem_append.1 hz with h | h
              · have := HRS.out z h; omega
              · rw [List.mem_singleton] at h; omega
            · refine ⟨?_, ?_⟩
              · rw [List.length_map, List.length_append, HRL.out, List.map_append, List.map_append, List.map_map, List.map_cons, List.map_nil, List.map_cons, List.map_nil, HVK.out]
                exact hown8
              · intro x hx
                obtain ⟨z, hz, rfl⟩ := List.mem_map.1 hx
                rcases List.mem_append.1 hz with h | h
                · exact fq_lt (by have := HRS.out z h; omega)
                · rw [List.mem_singleton] at h
                  exact fq_lt (by omega)
          case measure => simp [intOf]; omega
        · have hk2 : k = wd + b := by omega
          obtain ⟨g, cap, hvr, hgK, hgl, hncap, hmax⟩ : ∃ g cap, vr = .slice (some ⟨g, 0, none⟩) k cap ∧ K1 ≤ g ∧ g < wr.heap.size ∧ k ≤ cap ∧ cap ≤ maxLen := by
            rcases own1.2 with ⟨_, h0⟩ | ⟨g, cap, cur, h1, h2, h3, h4, h5, _⟩
            · omega
            · exact ⟨g, cap, h1, h2, lt_of_block h3, h4, h5⟩
          subst hvr
          have hmax2 : cap ≤ 9223372036854775807 := by unfold maxLen at hmax; omega
          have hAl : (ShA wd R).length = wd * y := by rw [ShA_len HROW.out, HR.out]
          have hBl : (ShB wd b R).length = wd * y := by rw [ShB_len HROW.out, HR.out]
          have ownA : wr.ownsRow (oa + 1 + 1) 33 1 va (wd * y) ((ShA wd R).map fun z => Value.float .f32 (fq 2 z)) := by
            have := HST.out.oA.1
            rw [List.length_map, hAl, List.map_map] at this
            exact this
          have ownB : wr.ownsRow (oa + 1 + 1) 33 1 vb (wd * y) ((ShB wd b R).map fun z => Value.float .f32 (fq 2 z)) := by
            have := HST.out.oB.1
            rw [List.length_map, hBl, List.map_map] at this
            exact this
          have hwy := Nat.mul_le_mul v2 (show y ≤ 3 by omega)
          obtain ⟨P, hP⟩ : ∃ P, P = wd * y := ⟨_, rfl⟩
          rw [← hP] at ownA ownB hAl hBl hwy
          obtain ⟨nA, hnA⟩ : ∃ nA, nA = (rs.take wd).map fun z => Value.float .f32 (fq 2 z) := ⟨_, rfl⟩
          obtain ⟨nB, hnB⟩ : ∃ nB, nB = ((rs.drop b).take wd).map fun z => Value.float .f32 (fq 2 z) := ⟨_, rfl⟩
          have hnAl : nA.length = wd * 1 := by rw [hnA, List.length_map, List.length_take, HRL.out]; omega
          have hnBl : nB.length = wd * 1 := by rw [hnB, List.length_map, List.length_take, List.length_drop, HRL.out]; omega
          have hone : ∀ (l : List Int), ∀ u ∈ l.map (fun z => Value.float .f32 (fq 2 z)), u.oneCell' = true := by
            intro l u hu
            obtain ⟨z, _, rfl⟩ := List.mem_map.1 hu
            rfl
          have hoA : ∀ u ∈ nA, u.oneCell' = true := by rw [hnA]; exact hone _
          have hoB : ∀ u ∈ nB, u.oneCell' = true := by rw [hnB]; exact hone _
          have hcell : ∀ (W : World), W.ownsRow K1 33 1 (.slice (some ⟨g, 0, none⟩) k cap) k (rs.map fun z => Value.float .f32 (fq 2 z)) → ∀ j z, rs[j]? = some z → W.cell? ⟨g, j, none⟩ = some (.float .f32 (fq 2 z)) := by
            intro W hW j z hz
            have := World.ownsRow.cells (g := g) hW rfl j (.float .f32 (fq 2 z)) (by rw [List.getElem?_map, hz]; rfl)
            rw [Addr.add_lit, Nat.zero_add] at this
            exact this
          have hcA : ∀ (W : World), W.ownsRow K1 33 1 (.slice (some ⟨g, 0, none⟩) k cap) k (rs.map fun z => Value.float .f32 (fq 2 z)) → ∀ j u, nA[j]? = some u → W.cell? ((⟨g, 0, none⟩ : Addr).add j) = some u := by
            intro W hW j u hu
            rw [hnA, List.getElem?_map] at hu
            obtain ⟨z, hz, rfl⟩ := Option.map_eq_some_iff.1 hu
            rw [Addr.add_lit, Nat.zero_add]
            rw [List.getElem?_take] at hz
            split at hz
            · exact hcell W hW j z hz
            · cases hz
          have hcB : ∀ (W : World), W.ownsRow K1 33 1 (.slice (some ⟨g, 0, none⟩) k cap) k (rs.map fun z => Value.float .f32 (fq 2 z)) → ∀ j u, nB[j]? = some u → W.cell? ((⟨g, b, none⟩ : Addr).add j) = some u := by
            intro W hW j u hu
            rw [hnB, List.getElem?_map] at hu
            obtain ⟨z, hz, rfl⟩ := Option.map_eq_some_iff.1 hu
            rw [Addr.add_lit]
            rw [List.getElem?_take] at hz
            split at hz
            · rw [List.getElem?_drop] at hz
              exact hcell W hW (b + j) z hz
            · cases hz
          have hbx := HST.out.ba
          have hpl2 := HST.out.pl
          have hnea : some oa ≠ va.ownBlock := fun e => by have := (HST.out.oA.lt e.symm).1; omega
          obtain ⟨c0, c1, c2, f0, f1, f2⟩ := hbx.cells
          have HNA := Lib.hid hnA
          have HNB := Lib.hid hnB
          have HAL := Lib.hid hAl
          have HBL := Lib.hid hBl
          have HCB := Lib.hid hcB
          have HOB := Lib.hid hoB
          have HNBL := Lib.hid hnBl
          have hcA1 := hcA wr own1
          have HPY := Lib.hid hP
          have bw0 : 0 ≤ (b : Int) + (wd : Int) := by omega
          have wdc : (wd : Int) ≤ (cap : Int) := by omega
          have hwd0 : 0 < wd := by omega
          clear hnA hnB hAl hBl hcA hcB hcell hone hoB hnBl hP hk2
          go_upto_region 16 with fail
          go_region_law (refine step_append_lies _ (by rfl) _ _ _ (by rfl) (oa + 1 + 1) 33 i0 _ 1 4 Try.underlying25 hi0 hz0 hz1 hz2 rfl (by omega) va P _ (by rfl) ownA ⟨g, 0, none⟩ wd cap nA (by rfl) hnAl hcA1 hoA (by omega) (by unfold maxLen; omega) (by omega) (by simp; omega) wr.heap.size (by rfl) ?_; intro gg cc w2 hown2 hgrow hat hlt2; obtain ⟨q0, q1, q2, g0, g1, g2⟩ := (Box3.grown (w := wr.drew) hbx hgrow hnea).cells)
          have hbA : ∀ z ∈ ShA wd R, z.natAbs ≤ 1000 := fun z hz => by have := ShA_bd HROW.out z hz; omega
          have hbB : ∀ z ∈ ShB wd b R, z.natAbs ≤ 1000 := fun z hz => by have := ShB_bd HROW.out z hz; omega
          have hbR : ∀ z ∈ rs, z.natAbs ≤ 1000 := fun z hz => by have := HRS.out z hz; omega
          obtain ⟨K2, hs6⟩ := HST.out.putA (w1 := wr.drew) (news := rs.take wd) (below_drewN (Below.refl _ _) 1) (by rw [← HNA.out]; exact hown2) (by rw [HAL.out, List.length_take, HRL.out]; omega) hbA (fun z hz => hbR z (List.mem_of_mem_take hz)) hgrow hat
          have hnv : (Value.slice (some ⟨g, 0, none⟩) k cap).ownBlock ≠ va.ownBlock := fun e => by have e2 : va.ownBlock = some g := e.symm; have := HST.out.ltA g e2; omega
          have own6 := (World.ownsRow.kept (w := wr.drew) own1 hgrow (.inr hnv)).kept (grown_setCell w2 ⟨oa, 2, none⟩ (.slice (some ⟨gg, 0, none⟩) (P + wd) cc)) (.inr (by simp [Value.ownBlock]; omega))
          have hnvB : vb.ownBlock = none ∨ vb.ownBlock ≠ va.ownBlock := by
            cases hvo : va.ownBlock with
            | none => cases vb.ownBlock <;> simp
            | some j => exact .inr (HST.out.ne j hvo)
          have hnvo : vb.ownBlock = none ∨ vb.ownBlock ≠ some oa := by
            cases hvo : vb.ownBlock with
            | none => exact .inl rfl
            | some j => exact .inr (fun e => by injection e with e; have := (HST.out.oB.lt hvo).1; omega)
          have ownB6 := (World.ownsRow.kept (w := wr.drew) ownB hgrow hnvB).kept (grown_setCell w2 ⟨oa, 2, none⟩ (.slice (some ⟨gg, 0, none⟩) (P + wd) cc)) hnvo
          obtain ⟨w6, hw6⟩ : ∃ w6, w6 = w2.setCell ⟨oa, 2, none⟩ (.slice (some ⟨gg, 0, none⟩) (P + wd) cc) := ⟨_, rfl⟩
          rw [← hw6] at hs6 own6 ownB6 ⊢
          have hbx6 := hs6.bb
          have hpl6 := hs6.pl
          have hneb : some (oa + 1) ≠ vb.ownBlock := fun e => by have := (hs6.oB.lt e.symm).1; omega
          have HS6 := Lib.hid hs6
          have hcB1 := HCB.out w6 own6
          have hnBl := HNBL.out
          have hoB := HOB.out
          clear hw6 hown2 hgrow hat hlt2 q0 q1 q2 g0 g1 g2 hs6 c0 c1 c2 f0 f1 f2 hbx hcA1 own1 ownA ownB hnvB hnvo hnv hnea
          obtain ⟨c0, c1, c2, f0, f1, f2⟩ := hbx6.cells
          have eb : IntKind.i64.wrap ((b : Int) + (wd : Int)) = (b : Int) + (wd : Int) := IntWalk.i64_in _ (by omega)
          have eb2 : ((b : Int) + (wd : Int)).toNat = b + wd := by omega
          have ecb : ¬ cap = b := by omega
          have eb3 : (b : Int) + (wd : Int) ≤ (cap : Int) := by omega
          go_upto_region 17 with fail
          go_region_law (refine step_append_lies _ (by rfl) _ _ _ (by rfl) (oa + 1 + 1) 33 i0 _ 1 4 Try.underlying25 hi0 hz0 hz1 hz2 rfl (by omega) vb P _ (by rfl) ownB6 ⟨g, b, none⟩ wd (cap - b) nB (by rfl) hnBl hcB1 hoB (by omega) (by unfold maxLen; omega) (by omega) (by simp; omega) w6.heap.size (by rfl) ?_; intro gb cb w7 hown7 hgrow7 hat7 hlt7; obtain ⟨q0, q1, q2, g0, g1, g2⟩ := (Box3.grown (w := w6.drew) hbx6 hgrow7 hneb).cells)
          obtain ⟨K3, hs8⟩ := HS6.out.putB (w1 := w6.drew) (news := (rs.drop b).take wd) (below_drewN (Below.refl _ _) 1) (by rw [← HNB.out]; exact hown7) (by rw [HBL.out, List.length_take, List.length_drop, HRL.out]; omega) hbB (fun z hz => hbR z (List.mem_of_mem_drop (List.mem_of_mem_take hz))) hgrow7 hat7
          have HS8 := Lib.hid hs8
          clear hs8 hown7 hgrow7 hat7 hlt7 q0 q1 q2 g0 g1 g2 c0 c1 c2 f0 f1 f2 hbx6 hcB1 ownB6 own6 hneb
          go_wp2_with fail
          go_roundw
          case rel =>
            refine ⟨y + 1, K3, .slice (some ⟨gg, 0, none⟩) (P + wd) cc, .slice (some ⟨gb, 0, none⟩) (P + wd) cb, R ++ [rs], by go_num, by omega, by simp [HR.out], ?_, ?_⟩
            · intro r hr
              rcases List.mem_append.1 hr with h | h
              · exact HROW.out r h
              · rw [List.mem_singleton] at h
                rw [h]
                exact ⟨by rw [HRL.out]; omega, HINC.out, fun z hz => by have := HRS.out z hz; omega⟩
            · rw [ShA_add, ShB_add]
              exact HS8.out.mono (by omega)
          case measure => simp [intOf]; omega
    · obtain rfl : y = hi := by omega
      obtain ⟨x0, x1, x2, x3, x4, x5⟩ := HSA.out.r1.cells
      obtain ⟨y0, y1, y2, y3, y4, y5⟩ := HSA.out.r2.cells
      obtain ⟨a0, a1, a2, -, -, -⟩ := HSA.out.ba.cells
      obtain ⟨b0, b1, b2, -, -, -⟩ := HSA.out.bb.cells
      have r1l := HSA.out.r1.lt
      have r2l := HSA.out.r2.lt
      have hAl : (ShA wd R).length = wd * y := by rw [ShA_len HROW.out, HR.out]
      have hBl : (ShB wd b R).length = wd * y := by rw [ShB_len HROW.out, HR.out]
      have hpos : 0 < wd * y := Nat.mul_pos (by omega) v3
      obtain ⟨q1, c1, e1⟩ : ∃ q c, va = .slice (some ⟨q, 0, none⟩) (wd * y) c := by
        rcases HSA.out.oA.form with ⟨_, h2⟩ | ⟨q, c, h1, _⟩
        · have := congrArg List.length h2; rw [List.length_map, hAl] at this; simp at this; omega
        · exact ⟨q, c, by rw [h1, List.length_map, hAl]⟩
      obtain ⟨q2, c2, e2⟩ : ∃ q c, vb = .slice (some ⟨q, 0, none⟩) (wd * y) c := by
        rcases HSA.out.oB.form with ⟨_, h2⟩ | ⟨q, c, h1, _⟩
        · have := congrArg List.length h2; rw [List.length_map, hBl] at this; simp at this; omega
        · exact ⟨q, c, by rw [h1, List.length_map, hBl]⟩
      subst e1
      subst e2
      have hq1 := HSA.out.oA.lt (k := q1) rfl
      have hq2 := HSA.out.oB.lt (k := q2) rfl
      have hpl := HSA.out.pl
      have m1 : MQ wr q1 c1 (wd * y) (ShA wd R) := ⟨HSA.out.oA.sl, hq1.2, fun z hz => by have := ShA_bd HROW.out z hz; omega⟩
      have m2 : MQ wr q2 c2 (wd * y) (ShB wd b R) := ⟨HSA.out.oB.sl, hq2.2, fun z hz => by have := ShB_bd HROW.out z hz; omega⟩
      obtain ⟨N, hN⟩ : ∃ N, N = wd * y := ⟨_, rfl⟩
      rw [← hN] at m1 m2 a2 b2
      have HN := Lib.hid hN
      have HMM := Lib.hid (And.intro m1 (And.intro m2 HSA.out.bel))
      clear m1 m2 hN hAl hBl
      go_upto_region 18 with fail
      go_region
      all_goals
        go_wp2_with fail
        refine bodyPost_ret (v := .tuple #[.agg #[.int .i64 wd, .int .i64 y, .slice (some ⟨q1, 0, none⟩) N c1], .agg #[.int .i64 wd, .int .i64 y, .slice (some ⟨q2, 0, none⟩) N c2]]) (by simp [results, Try.results18, go_sem, x0, x1, x2, y0, y1, y2, r1l, r2l]) rfl ?_
        obtain ⟨m1, m2, hbl⟩ := HMM.out
        have n1 := ((((((m1.setK (show w.heap.size ≠ q1 by omega) (.int .i64 wd) (i := 0)).setK (show w.heap.size ≠ q1 by omega) (.int .i64 y) (i := 1)).setK (show w.heap.size ≠ q1 by omega) (.slice (some ⟨q1, 0, none⟩) N c1) (i := 2)).setK (show w.heap.size + 1 ≠ q1 by omega) (.int .i64 wd) (i := 0)).setK (show w.heap.size + 1 ≠ q1 by omega) (.int .i64 y) (i := 1)).setK (show w.heap.size + 1 ≠ q1 by omega) (.slice (some ⟨q2, 0, none⟩) N c2) (i := 2)).below (below_drewN (Below.refl _ _) 1)
        have n2 := ((((((m2.setK (show w.heap.size ≠ q2 by omega) (.int .i64 wd) (i := 0)).setK (show w.heap.size ≠ q2 by omega) (.int .i64 y) (i := 1)).setK (show w.heap.size ≠ q2 by omega) (.slice (some ⟨q1, 0, none⟩) N c1) (i := 2)).setK (show w.heap.size + 1 ≠ q2 by omega) (.int .i64 wd) (i := 0)).setK (show w.heap.size + 1 ≠ q2 by omega) (.int .i64 y) (i := 1)).setK (show w.heap.size + 1 ≠ q2 by omega) (.slice (some ⟨q2, 0, none⟩) N c2) (i := 2)).below (below_drewN (Below.refl _ _) 1)
        have n3 := below_drewN ((((((hbl.setCell (p := ⟨w.heap.size, 0, none⟩) (Nat.le_refl _) (.int .i64 wd)).setCell (p := ⟨w.heap.size, 1, none⟩) (Nat.le_refl _) (.int .i64 y)).setCell (p := ⟨w.heap.size, 2, none⟩) (Nat.le_refl _) (.slice (some ⟨q1, 0, none⟩) N c1)).setCell (p := ⟨w.heap.size + 1, 0, none⟩) (Nat.le_succ _) (.int .i64 wd)).setCell (p := ⟨w.heap.size + 1, 1, none⟩) (Nat.le_succ _) (.int .i64 y)).setCell (p := ⟨w.heap.size + 1, 2, none⟩) (Nat.le_succ _) (.slice (some ⟨q2, 0, none⟩) N c2)) 1
        clear x0 x1 x2 x3 x4 x5 y0 y1 y2 y3 y4 y5 a0 a1 a2 b0 b1 b2
        generalize hwz : (((((wr.setCell ⟨w.heap.size, 0, none⟩ (.int .i64 wd)).setCell ⟨w.heap.size, 1, none⟩ (.int .i64 y)).setCell ⟨w.heap.size, 2, none⟩ (.slice (some ⟨q1, 0, none⟩) N c1)).setCell ⟨w.heap.size + 1, 0, none⟩ (.int .i64 wd)).setCell ⟨w.heap.size + 1, 1, none⟩ (.int .i64 y)).setCell ⟨w.heap.size + 1, 2, none⟩ (.slice (some ⟨q2, 0, none⟩) N c2) = wz at *
        exact ⟨wd, y, N, q1, c1, q2, c2, R, rfl, HN.out, v1, v2, v3, v4, HR.out, HROW.out, n1, n2, n3⟩

end Go.Proofs.Ytmpbnmmpniganaa

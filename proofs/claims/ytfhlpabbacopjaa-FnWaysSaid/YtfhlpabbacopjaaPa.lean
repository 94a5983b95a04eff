/- Volumes that are told along a direction: a path's cell. -/
import Derived.Test.YtfhlpabbacopjaaWy
import Derived.Test.YtfhlpabbacopjaaPq
namespace Go.Proofs.Ytfhlpabbacopjaa
open Go.RowKit
set_option maxRecDepth 100000
set_option linter.unusedVariables false
set_option linter.unusedSimpArgs false

/-- A function value that tells the prices of a cell behind another one. -/
def GivesP (w0 : World) (fv : Value) (wd hi : Nat) (pr : Int → Int → Int → Int → Int × Int) : Prop :=
  ∃ fid recv caps, fv = .func (.func fid) recv caps ∧ (∀ args w, (callFunc fid args).run Try.prog w = .ok (.enter fid args) w) ∧
    ∀ (x y u t : Int) (W : World), insI x y wd hi → insI u t wd hi → Below w0.heap.size w0 W →
      Calls Try.prog fid (recv ++ (#[.int .i64 x, .int .i64 y, .int .i64 u, .int .i64 t] ++ caps)) W fun e w' => e = .returned (.agg #[.float .f32 (fq 2 (pr x y u t).1), .float .f32 (fq 2 (pr x y u t).2)]) ∧ Below W.heap.size W w'

/-- Half done: the first d costs are those of the path. -/
def pathD (one more : Int) (own b : List Int) (d : Nat) : List Int := (List.range own.length).map fun k => if k < d then own.getD k 0 + (jumpAt b one more k - minL b) else jumpAt b one more k
theorem pathD_zero (one more : Int) (own b : List Int) (h : own.length = b.length) : pathD one more own b 0 = jumpI b one more := by
  unfold pathD jumpI; rw [h]; exact List.map_congr_left fun k _ => if_neg (Nat.not_lt_zero _)
theorem pathD_all (one more : Int) (own b : List Int) : pathD one more own b own.length = pathF one more own b := by
  unfold pathD pathF; exact List.map_congr_left fun k hk => if_pos (List.mem_range.1 hk)
theorem pathD_length (one more : Int) (own b : List Int) (d : Nat) : (pathD one more own b d).length = own.length := by simp [pathD]
theorem pathD_get (one more : Int) (own b : List Int) (d k : Nat) (h : k < own.length) : (pathD one more own b d).getD k 0 = if k < d then own.getD k 0 + (jumpAt b one more k - minL b) else jumpAt b one more k := getD_range_map _ _ _ h
theorem pathD_step (one more : Int) (own b : List Int) (d : Nat) (h : d < own.length) : pathD one more own b (d + 1) = (pathD one more own b d).set d (own.getD d 0 + (jumpAt b one more d - minL b)) := by
  apply ext_getD
  · simp [pathD_length]
  · intro k hk
    rw [pathD_length] at hk
    rw [pathD_get _ _ _ _ _ _ hk]
    by_cases e : k = d
    · subst e
      rw [getD_set_self _ _ (by rw [pathD_length]; exact hk), if_pos (by omega)]
    · rw [getD_set_ne _ _ (Ne.symm e), pathD_get _ _ _ _ _ _ hk]
      by_cases h1 : k < d
      · rw [if_pos h1, if_pos (by omega)]
      · rw [if_neg h1, if_neg (by omega)]

/-- Bounds of a cell's own costs. -/
def qb2 (ks : List Int) : Prop := ∀ k ∈ ks, k.natAbs ≤ 1000000
theorem qb2.get {ks : List Int} (h : qb2 ks) (i : Nat) : (ks.getD i 0).natAbs ≤ 1000000 := by
  rw [List.getD_eq_getElem?_getD]
  cases e : ks[i]? with
  | none => show (0 : Int).natAbs ≤ _; omega
  | some z => exact h z (List.mem_of_getElem? e)

set_option maxHeartbeats 2000000 in
theorem path1_any (w : World) (b1 o1 c1 b2 o2 c2 n pb wd hi : Nat) (own ks : List Int) (fv : Value) (pr : Int → Int → Int → Int → Int × Int) (x y u t : Int)
    (h1 : SlF w (.slice (some ⟨b1, o1, none⟩) n c1) (own.map (fq 2))) (l1 : b1 < w.heap.size) (hn1 : own.length = n) (hb1 : qb2 own)
    (h2 : SlF w (.slice (some ⟨b2, o2, none⟩) n c2) (ks.map (fq 2))) (l2 : b2 < w.heap.size) (hn2 : ks.length = n) (hb2 : qb3 ks)
    (hp : w.cell? ⟨pb, 0, none⟩ = some fv) (hf : GivesP w fv wd hi pr) (hxy : insI x y wd hi) (hut : insI u t wd hi)
    (hpr : 0 ≤ (pr x y u t).1 ∧ 0 ≤ (pr x y u t).2 ∧ (pr x y u t).1 ≤ 1000000 ∧ (pr x y u t).2 ≤ 1000000) (hn : 1 ≤ n) (hn8 : n ≤ 8) :
    Calls Try.prog 88 #[.slice (some ⟨b1, o1, none⟩) n c1, .slice (some ⟨b2, o2, none⟩) n c2, .int .i64 x, .int .i64 y, .int .i64 u, .int .i64 t, .pointer (some ⟨pb, 0, none⟩)] w (MakesQ w (pathF (pr x y u t).1 (pr x y u t).2 own ks)) := by
  obtain ⟨fid, recv, caps, rfl, hcall, hof⟩ := hf
  have K := Lib.hid (hof x y u t w hxy hut (Below.refl _ _))
  obtain ⟨p1, p2, p3, p4⟩ := hpr
  generalize hone : (pr x y u t).1 = one at *
  generalize hmore : (pr x y u t).2 = more at *
  clear hof hone hmore
  have H1 := Lib.hid h1
  have H2 := Lib.hid h2
  have HN1 := Lib.hid hn1
  have HN2 := Lib.hid hn2
  clear h1 h2 hn1 hn2
  go_enter Try.func88, Try.ntmps88
  go_wp2_with fail
  refine K.out.mono ?_
  rintro e w1 ⟨rfl, bw1⟩
  have s1 := H1.out.below bw1
  have s2 := H2.out.below bw1
  have z1 := bw1.size
  go_wp2_with fail
  refine (jump_any w1 b2 o2 n c2 ks one more s2 HN2.out (by omega) hb2 p1 p2 p3 p4 hn hn8).mono ?_
  rintro e w2 ⟨g, c, rfl, hown, bw2⟩
  have hjl : (jumpI ks one more).length = n := by unfold jumpI; rw [List.length_map, List.length_range, HN2.out]
  rw [hjl] at hown ⊢
  have t1 := s1.below bw2
  have t2 := s2.below bw2
  have z2 := bw2.size
  have hmb : (minL ks).natAbs ≤ 3000000 := hb2 _ (minL_mem (List.ne_nil_of_length_pos (by rw [HN2.out]; omega)))
  have BW1 := Lib.hid bw1
  have BW2 := Lib.hid bw2
  have T1 := Lib.hid t1
  have HO := Lib.hid hown
  clear s1 s2 t1 hjl bw1 bw2 hown
  go_wp2_with fail
  refine (leastOf_any w2 _ ks t2 hb2.qb (by rw [HN2.out]; omega) (by rw [HN2.out]; omega)).mono ?_
  rintro e w3 ⟨rfl, rfl⟩
  clear t2
  have hgB := (HO.out.lt (k := g) rfl)
  have start : OwnF w2 w1.heap.size (.slice (some ⟨g, 0, none⟩) n c) ((pathD one more own ks 0).map (fq 2)) := by rw [pathD_zero _ _ _ _ (by rw [HN1.out, HN2.out])]; exact HO.out
  generalize hVL : fq 2 (minL ks) = vL at *
  have HVL := Lib.hid hVL
  clear hVL
  go_wp2_with fail
  go_loopw [29] (fun v29 wr => ∃ d : Nat, v29 = .int .i64 d ∧ d ≤ n ∧ OwnF wr w1.heap.size (.slice (some ⟨g, 0, none⟩) n c) ((pathD one more own ks d).map (fq 2)) ∧ w2.grownBy wr (some g)) (fun v29 _ => n - (intOf v29).toNat)
  case atStart => exact ⟨0, rfl, Nat.zero_le _, start, grown_refl _ _⟩
  case round =>
    clear start
    obtain ⟨d, rfl, hd, hown, hg⟩ := hrel
    by_cases hlt : d < n
    · have k1 := (hown.sl.at d (by rw [List.length_map, pathD_length, HN1.out]; exact hlt)).1
      rw [getD_map_fq 2 _ d (by rw [pathD_length, HN1.out]; exact hlt), pathD_get _ _ _ _ _ _ (by rw [HN1.out]; exact hlt), if_neg (by omega), Nat.zero_add] at k1
      have hs2 : SlF wr (.slice (some ⟨b1, o1, none⟩) n c1) (own.map (fq 2)) := ⟨T1.out.1.grown hg (.inr (by simp [Value.ownBlock]; omega)), T1.out.2⟩
      have k2 := (hs2.at d (by rw [List.length_map, HN1.out]; exact hlt)).1
      rw [getD_map_fq 2 _ d (by rw [HN1.out]; exact hlt)] at k2
      have kf : wr.frozen? ⟨g, d, none⟩ = false := World.ownsRow.frozenAt (n := n) (by have := hown.1; rw [List.length_map, pathD_length, HN1.out] at this; exact this) d
      have go := hb1.get d
      have jl := jumpAt_ge (b := ks) (d := d) p1 p2 (by rw [HN2.out]; exact hlt)
      have jh := jumpAt_le_more ks one more d
      have hst := pathD_step one more own ks d (by rw [HN1.out]; exact hlt)
      have HST := Lib.hid hst
      clear hst
      generalize own.getD d 0 = z at *
      generalize jumpAt ks one more d = j at *
      generalize minL ks = m at *
      have a1 := fq_sub (g := 2) (a := j) (b := m) (by omega) (by omega) (by omega)
      have a2 := fq_add (g := 2) (a := z) (b := j - m) (by omega) (by omega) (by omega)
      rw [HVL.out] at a1
      have hput := hown.put d (r := fq 2 (z + (j - m))) (fq_lt (by omega))
      have HPUT := Lib.hid hput
      clear hput
      generalize hvz : fq 2 z = vz at *
      generalize hvj : fq 2 j = vj at *
      generalize hvd : fq 2 (j - m) = vd at *
      generalize hvs : fq 2 (z + (j - m)) = vs at *
      have HVS := Lib.hid hvs
      have r1 := fres_some a1
      have r2 := fdr_some a1
      have r3 := fres_some a2
      have r4 := fdr_some a2
      have hd0 : ∀ W : World, W.drewN 0 = W := fun _ => rfl
      have HG := Lib.hid hg
      clear a1 a2 hvz hvj hvd hvs hown hs2 hg go jl jh
      go_wp2
      go_region
      all_goals
        go_wp2
        go_roundw
        case rel =>
          refine ⟨d + 1, by go_num, by omega, ?_, grown_trans HG.out (grown_trans (grown_setCell _ _ _) (grown_drewN _ 1 _))⟩
          rw [HST.out, List.map_set, HVS.out]
          exact HPUT.out
        case measure => simp [intOf]; omega
    · have : d = n := by omega
      subst this
      have hfin : pathD one more own ks d = pathF one more own ks := by rw [← HN1.out]; exact pathD_all _ _ _ _
      rw [hfin] at hown
      have HO2 := Lib.hid hown
      have HG := Lib.hid hg
      clear hfin hown hg
      go_wp2
      go_ret
      have hl : (pathF one more own ks).length = d := by rw [pathF_length, HN1.out]
      refine ⟨g, c, ?_, ?_, ?_⟩
      · show Ending.returned (Value.slice _ d c) = _
        rw [hl]
      · rw [hl]; exact HO2.out.mono z1
      · exact ((BW1.out.trans (BW2.out.mono z1)).grown HG.out (by omega) (fun k hk => by injection hk with e; omega))

end Go.Proofs.Ytfhlpabbacopjaa

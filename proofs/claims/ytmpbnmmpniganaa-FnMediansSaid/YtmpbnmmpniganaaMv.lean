/- What the laws of maps draw. -/
import Derived.Test.YtmpbnmmpniganaaMu
namespace Go.Proofs.Ytmpbnmmpniganaa
open Go.RowKit
set_option maxRecDepth 100000
set_option linter.unusedVariables false
set_option linter.unusedSimpArgs false

theorem b10At_any (w : World) (a : Option Addr) (len cap : Nat) (k : Nat) (n : Int) (hn : 1 ≤ n) (hn2 : n ≤ 1000000) (hk : k ≤ 1000) (h : BytesIn w a len) :
    Calls Try.prog 8 #[.slice a len cap, .int .i64 k, .int .i64 n] w (SomeBelow w 0 (n - 1)) := by
  have hl := h.1
  by_cases h1 : n = 1
  · subst h1
    go_enter Try.func8, Try.ntmps8
    go_wp2
    go_ret
    exact ⟨0, rfl, by omega, by omega, rfl⟩
  · have d1 : decide (n ≤ 1) = false := by simp; omega
    have d3 : ¬ n = 0 := by omega
    by_cases h2 : k < len
    · rcases h.2 with h0 | ⟨b, off, rfl, hb, hc⟩
      · omega
      · obtain ⟨z, hz, hz0, hz1⟩ := hc k h2
        have d2 : decide (len ≤ k) = false := by simp; omega
        clear hc h
        go_enter Try.func8, Try.ntmps8
        go_wp2
        go_ret
        exact ⟨_, rfl, Int.emod_nonneg _ (by omega), by have := Int.emod_lt_of_pos z (show 0 < n by omega); omega, rfl⟩
    · have d2 : decide (len ≤ k) = true := by simp; omega
      have d4 : (0 : Int) ≤ (k : Int) * 37 + 11 := by omega
      go_enter Try.func8, Try.ntmps8
      go_wp2
      go_ret
      exact ⟨_, rfl, Int.emod_nonneg _ (by omega), by have := Int.emod_lt_of_pos ((k : Int) * 37 + 11) (show 0 < n by omega); omega, rfl⟩

theorem qt_fqm : ∀ k : Nat, k ≤ 64 → qt k = fq 2 k := by
  have h : ∀ k : Fin 65, qt k.val = fq 2 k.val := by decide +kernel
  intro k hk; exact h ⟨k, by omega⟩
theorem quo4m (k : Nat) (hk : k ≤ 64) : floatBits .quo .f32 (floatOfInt .f32 k) 1082130432 = some (fq 2 k) := by rw [qt_some k hk, qt_fqm k hk]

/-- A map of quarters that a law draws: holes, and values from 0 to 19 quarters. -/
def DrawsMQ (w : World) (wd hi N : Nat) (e : Ending) (w' : World) : Prop :=
  ∃ q c, ∃ ks : List Int, e = .returned (.agg #[.int .i64 wd, .int .i64 hi, .slice (some ⟨q, 0, none⟩) N c]) ∧ MQ w' q c N ks ∧ w.heap.size ≤ q ∧ (∀ k ∈ ks, k = -4 ∨ 0 ≤ k ∧ k ≤ 19) ∧ Below w.heap.size w w'

set_option maxHeartbeats 2000000 in
theorem b10Quarters_any (w : World) (a : Option Addr) (len cap wd hi : Nat) (h : BytesIn w a len) (hw1 : 1 ≤ wd) (hw2 : wd ≤ 24) (hh1 : 1 ≤ hi) (hh2 : hi ≤ 24) (hwh : wd * hi ≤ 256) :
    Calls Try.prog 9 #[.slice a len cap, .int .i64 wd, .int .i64 hi] w (DrawsMQ w wd hi (wd * hi)) := by
  obtain ⟨i0, hi0, hz0, hz1, hz2⟩ := info_parts info_f32
  obtain ⟨N, hN⟩ : ∃ N, N = wd * hi := ⟨_, rfl⟩
  have hp : (wd : Int) * (hi : Int) = (N : Int) := by rw [hN]; simp
  have HP := Lib.hid hp
  have hN1 : 1 ≤ N := by rw [hN]; exact Nat.mul_pos hw1 hh1
  have hN2 : N ≤ 256 := by omega
  rw [← hN]
  have b0 : 0 ≤ (wd : Int) * (hi : Int) := by omega
  have b1 : (wd : Int) * (hi : Int) ≤ 256 := by omega
  clear hN hp hwh
  go_enter Try.func9, Try.ntmps9
  go_wp2_with fail
  have ha0 : Below w.heap.size w (w.alloc (.cells #[.int .i64 0, .int .i64 0, .slice none 0 0] 27)) := (Below.refl _ _).alloc (Nat.le_refl _) _
  have hres := BoxN.last w #[.int .i64 0, .int .i64 0, .slice none 0 0] 27
  refine (from_any _ _ _ _ (h.at.grown (grown_below ha0 none) (fun k hk => by cases hk)) (by simp)).mono ?_
  rintro e w1 ⟨rfl, hs, hb, hlt⟩
  have hres := hres.below hb
  have hbel := ha0.trans (hb.mono ha0.size)
  have hsz : w.heap.size + 1 < w1.heap.size := by simpa using hlt
  have hs : SrcOk w1 w.heap.size (w.heap.size + 1) 0 := by simpa using hs
  clear ha0 hb hlt h
  have ha3 : Below w1.heap.size w1 (w1.alloc (.cells #[.int .i64 wd, .int .i64 hi, .slice none 0 0] 27)) := (Below.refl _ _).alloc (Nat.le_refl _) _
  have hbox := BoxN.last w1 #[.int .i64 wd, .int .i64 hi, .slice none 0 0] 27
  have start : GenSt w (w1.alloc (.cells #[.int .i64 wd, .int .i64 hi, .slice none 0 0] 27)) w.heap.size w.heap.size (w.heap.size + 1) w1.heap.size 6 2 #[.int .i64 0, .int .i64 0, .slice none 0 0] #[.int .i64 wd, .int .i64 hi, .slice none 0 0] 27 (.slice none 0 0) [] := by
    refine ⟨grown_trans (grown_below hbel _) (grown_below ha3 _), (hs.below ha3).mono (by omega), Nat.le_refl _, hres.below ha3, hbox, rfl, OwnF.nil _ _, fun g hg => by simp [Value.ownBlock] at hg, by omega, by omega, by omega, by omega, by omega⟩
  have HS0 := Lib.hid start
  clear hbox ha3 hs hbel hres start
  go_wp2_with fail
  generalize hob : w1.heap.size = ob at *
  generalize hwa : w1.alloc (.cells #[.int .i64 wd, .int .i64 hi, .slice none 0 0] 27) = wa at *
  clear hob hwa
  go_loopw [9] (fun v9 wr => ∃ (i : Nat) (v : Value) (ks : List Int), v9 = .int .i64 ((N : Int) - i) ∧ i ≤ N ∧ ks.length = i ∧ (∀ k ∈ ks, k = -4 ∨ 0 ≤ k ∧ k ≤ 19) ∧ GenSt w wr w.heap.size w.heap.size (w.heap.size + 1) ob (6 + 4 * i) 2 #[.int .i64 0, .int .i64 0, .slice none 0 0] #[.int .i64 wd, .int .i64 hi, v] 27 v (ks.map (fq 2))) (fun v9 _ => (intOf v9).toNat)
  case atStart => exact ⟨0, _, [], by rw [← HP.out]; simp, Nat.zero_le _, rfl, by simp, HS0.out⟩
  case round =>
    clear HS0
    obtain ⟨i, v, ks, rfl, hiN, hbl, hq, hst⟩ := hrel
    obtain ⟨c0, c1, c2, f0, f1, f2⟩ := hst.box.three.cells
    by_cases hlt : i < N
    · have hlt' : 0 < (N : Int) - i := by omega
      have hsrc := hst.src
      have HS := Lib.hid hst
      have HL := Lib.hid hbl
      have HQ := Lib.hid hq
      have hL : (ks.map (fq 2)).length ≤ 256 := by rw [List.length_map]; omega
      have hne : some ob ≠ v.ownBlock := fun e => (hst.far _ e.symm).2.2 rfl
      have hne3 := hst.ne3
      have hown := hst.own
      generalize hbs : ks.map (fq 2) = bs at *
      have HBS := Lib.hid hbs
      clear hst hbl hq hbs c0 c1 c2 f0 f1 f2
      have hd0 : ∀ w : World, w.drewN 0 = w := fun _ => rfl
      go_wp2_with fail
      refine (one_any _ _ _ 4 (by omega) (by omega) hsrc (by omega)).mono ?_
      rintro e w2 ⟨b, rfl, hd⟩
      have hbox1 := HS.out.box.grown hd.grown (by simpa using Ne.symm hne3)
      obtain ⟨c0, c1, c2, f0, f1, f2⟩ := hbox1.three.cells
      have hown1 := hown.grown hd.grown HS.out.fars
      have hz2' : w.heap.size ≤ w2.heap.size := (by have := hd.grown.size; have := HS.out.bel.size; omega)
      cases b
      · have HD1 := Lib.hid hd
        have hsrc2 := hd.ok
        clear hd
        go_wp2_with fail
        go_region_law (first
          | (refine step_append_lies _ (by rfl) _ _ _ (by rfl) w.heap.size 33 i0 _ 1 4 Try.underlying25 hi0 hz0 hz1 hz2 rfl (by omega) v bs.length _ (by rfl) (World.ownsRow.alloc hown2.1 _) ⟨w3.heap.size, 0, none⟩ 1 1 [.float .f32 vk] (by rfl) (by rfl) (cell_one_new _ _ _) (by simp [Value.oneCell']) (by omega) (by unfold maxLen; omega) (by omega) (by simp; omega) (w3.heap.size + 1) (by simp) ?_; intro gg cap w4 hown3 hgrow hat hlt2; obtain ⟨q0, q1, q2, g0, g1, g2⟩ := ((hbox2.below ((Below.refl w3.heap.size w3).alloc (Nat.le_refl _) _)).grown hgrow hne).three.cells)
          | (go_simp; refine (pick_any _ _ _ 20 (by omega) (by omega) (by exact hsrc2) (by omega)).mono ?_; rintro e w3 ⟨n, rfl, hn0, hn1, hd⟩; obtain ⟨k, rfl⟩ := Int.eq_ofNat_of_zero_le hn0; have hk16 : k ≤ 19 := (by omega); have hdd : Drew w.heap.size (w.heap.size + 1) (6 + 4 * (i + 1)) wr w3 := ⟨hd.1.mono (by omega), grown_trans HD1.out.grown ⟨hd.2.os, hd.2.tape, hd.2.output, hd.2.size, hd.2.block⟩⟩; have hq4 := quo4m k (by omega); have hvlt : fq 2 (k : Int) < 4294967296 := fq_lt (by omega); generalize hvk : fq 2 (k : Int) = vk at hq4 hvlt; have HVK := Lib.hid hvk; clear hvk; have p1 := fres_some hq4; have p0 := fdr_some hq4; clear hq4; have hbox2 := HS.out.box.grown hdd.grown (by simpa using Ne.symm HS.out.ne3); have c2' := hbox2.three.cells.2.2.1; have c4 : ∀ o, (w3.alloc o).cell? ⟨ob, 2, none⟩ = some v := (fun o => (hbox2.below ((Below.refl w3.heap.size w3).alloc (Nat.le_refl _) o)).three.cells.2.2.1); have hown2 := hown.grown hdd.grown HS.out.fars; have hz3' : w.heap.size ≤ w3.heap.size := (by have := hdd.grown.size; have := HS.out.bel.size; omega)))
        all_goals
          go_wp2
          go_roundw
          case rel =>
            refine ⟨i + 1, .slice (some ⟨gg, 0, none⟩) (bs.length + 1) cap, ks ++ [(k : Int)], by go_num, by omega, by simp [HL.out], fun z hz => ?_, ?_⟩
            · rcases List.mem_append.1 hz with h1 | h1
              · exact HQ.out z h1
              · simp at h1; omega
            · rw [List.map_append, HBS.out, List.map_cons, List.map_nil, HVK.out]
              exact HS.out.step hdd hvlt hown3 hgrow hat
          case measure => simp [intOf]; omega
      · have hdd : Drew w.heap.size (w.heap.size + 1) (6 + 4 * (i + 1)) wr w2 := ⟨hd.1.mono (by omega), hd.2⟩
        have HDD := Lib.hid hdd
        have HB1 := Lib.hid hbox1
        clear hd hdd hbox1
        go_wp2_with (at_builtin; refine wpList_append_lies _ (by rfl) _ _ _ (by rfl) w.heap.size 33 i0 _ 1 4 Try.underlying25 hi0 hz0 hz1 hz2 rfl (by omega) v bs.length _ (by rfl) (World.ownsRow.alloc hown1.1 _) ⟨w2.heap.size, 0, none⟩ 1 1 [.float .f32 3212836864] (by rfl) (by rfl) (cell_one_new _ _ _) (by simp [Value.oneCell']) (by omega) (by unfold maxLen; omega) (by omega) (by simp; omega) (w2.heap.size + 1) (by simp) ?_; intro gg cap wz hown2 hgrow hat hlt2; obtain ⟨q0, q1, q2, g0, g1, g2⟩ := ((HB1.out.below ((Below.refl w2.heap.size w2).alloc (Nat.le_refl _) _)).grown hgrow hne).three.cells)
        go_roundw
        case rel =>
          refine ⟨i + 1, .slice (some ⟨gg, 0, none⟩) (bs.length + 1) cap, ks ++ [-4], by go_num, by omega, by simp [HL.out], fun z hz => ?_, ?_⟩
          · rcases List.mem_append.1 hz with h1 | h1
            · exact HQ.out z h1
            · simp at h1; omega
          · have cm : fq 2 (-4) = 3212836864 := by decide +kernel
            rw [List.map_append, HBS.out, List.map_cons, List.map_nil, cm]
            exact HS.out.step HDD.out (by decide) hown2 hgrow hat
        case measure => simp [intOf]; omega
    · obtain rfl : i = N := by omega
      obtain ⟨q, vc, rfl⟩ : ∃ q vc, v = .slice (some ⟨q, 0, none⟩) i vc := by
        rcases hst.own.form with ⟨h1, h2⟩ | ⟨q, vc, h1, h2⟩
        · have := congrArg List.length h2; simp at this; rw [this] at hbl; simp at hbl; omega
        · exact ⟨q, vc, by rw [h1, List.length_map, hbl]⟩
      obtain ⟨d0, d1, d2, e0, e1, e2⟩ := hst.res.three.cells
      have hlt' : ¬ 0 < (i : Int) - (i : Int) := by omega
      have HS := Lib.hid hst
      have HL := Lib.hid hbl
      have HQ := Lib.hid hq
      clear hst hbl hlt hq
      go_wp2
      refine bodyPost_ret (v := .agg #[.int .i64 wd, .int .i64 hi, .slice (some ⟨q, 0, none⟩) i vc]) (by simp [results, Try.results9, go_sem, d0, d1, d2]) rfl ?_
      have hst := HS.out
      have hfb := hst.farb
      have hq1 := (hst.own.lt (k := q) rfl).1
      have ho := (((hst.own.grown (grown_setCell _ ⟨w.heap.size, 0, none⟩ (.int .i64 wd)) hfb).grown (grown_setCell _ ⟨w.heap.size, 1, none⟩ (.int .i64 hi)) hfb).grown (grown_setCell _ ⟨w.heap.size, 2, none⟩ (.slice (some ⟨q, 0, none⟩) i vc)) hfb)
      refine ⟨q, vc, ks, rfl, ⟨?_, (ho.lt (k := q) rfl).2, ?_⟩, hq1, HQ.out, (((below_of_grown hst.bel (by omega)).setCell (by simp) _).setCell (by simp) _).setCell (by simp) _⟩
      · have := ho.sl
        simpa using this
      · intro k hk
        rcases HQ.out k hk with h1 | h1 <;> omega

end Go.Proofs.Ytmpbnmmpniganaa

/- R8Volume, R8Prices, R8Whole: what the laws of paths draw. -/
import Derived.Test.YtmncihhdkcmmmaaGen
import Derived.Test.YtmncihhdkcmmmaaQf
namespace Go.Proofs.Ytmncihhdkcmmmaa
open Go.RowKit
set_option maxRecDepth 100000
set_option linter.unusedVariables false
set_option linter.unusedSimpArgs false

theorem qt_fq : ∀ k : Nat, k ≤ 64 → qt k = fq 2 k := by
  have h : ∀ k : Fin 65, qt k.val = fq 2 k.val := by decide +kernel
  intro k hk; exact h ⟨k, by omega⟩
theorem quo4 (k : Nat) (hk : k ≤ 64) : floatBits .quo .f32 (floatOfInt .f32 k) 1082130432 = some (fq 2 k) := by rw [qt_some k hk, qt_fq k hk]

theorem BoxN.four' {w : World} {b : Nat} {x y z u : Value} {T : TypeId} (h : BoxN w b #[x, y, z, u] T) : w.cell? ⟨b, 0, none⟩ = some x ∧ w.cell? ⟨b, 1, none⟩ = some y ∧ w.cell? ⟨b, 2, none⟩ = some z ∧ w.cell? ⟨b, 3, none⟩ = some u ∧ w.frozen? ⟨b, 0, none⟩ = false ∧ w.frozen? ⟨b, 1, none⟩ = false ∧ w.frozen? ⟨b, 2, none⟩ = false ∧ w.frozen? ⟨b, 3, none⟩ = false :=
  ⟨h.cell 0, h.cell 1, h.cell 2, h.cell 3, h.free 0, h.free 1, h.free 2, h.free 3⟩

/-- A volume of quarters. -/
def QuartVol (w : World) (e : Ending) (w' : World) : Prop :=
  ∃ (wd hi dp : Nat) (g c : Nat), ∃ ks : List Int, e = .returned (.agg #[.int .i64 wd, .int .i64 hi, .int .i64 dp, .slice (some ⟨g, 0, none⟩) (List.length ks) c]) ∧ 1 ≤ wd ∧ wd ≤ 4 ∧ 1 ≤ hi ∧ hi ≤ 3 ∧ 1 ≤ dp ∧ dp ≤ 4 ∧ ks.length = wd * hi * dp ∧ OwnF w' w.heap.size (.slice (some ⟨g, 0, none⟩) (List.length ks) c) (ks.map (fq 2)) ∧ (∀ k ∈ ks, 0 ≤ k ∧ k ≤ 16) ∧ Below w.heap.size w w'

set_option maxHeartbeats 2000000 in
theorem r8Volume_any (w : World) (a : Option Addr) (len cap : Nat) (h : BytesIn w a len) :
    Calls Try.prog 15 #[.slice a len cap] w (QuartVol w) := by
  obtain ⟨i0, hi0, hz0, hz1, hz2⟩ := info_parts info_f32
  go_enter Try.func15, Try.ntmps15
  go_wp2_with fail
  have ha0 : Below w.heap.size w (w.alloc (.cells #[.int .i64 0, .int .i64 0, .int .i64 0, .slice none 0 0] 43)) := (Below.refl _ _).alloc (Nat.le_refl _) _
  have hres := BoxN.last w #[.int .i64 0, .int .i64 0, .int .i64 0, .slice none 0 0] 43
  refine (from_any _ _ _ _ (h.at.grown (grown_below ha0 none) (fun k hk => by cases hk)) (by simp)).mono ?_
  rintro e w1 ⟨rfl, hs, hb, hlt⟩
  have hres := hres.below hb
  have hbel := ha0.trans (hb.mono ha0.size)
  have hsz : w.heap.size + 1 < w1.heap.size := by simpa using hlt
  have hs : SrcOk w1 w.heap.size (w.heap.size + 1) 0 := by simpa using hs
  clear ha0 hb hlt h
  go_wp2_with fail
  refine (pick_any _ _ _ 4 (by omega) (by omega) hs (by omega)).mono ?_
  rintro e w2 ⟨x, rfl, hx0, hx1, hd⟩
  obtain ⟨x, rfl⟩ := Int.eq_ofNat_of_zero_le hx0
  have hx3 : (x : Int) ≤ 3 := by omega
  have hz2' := hd.grown.size
  have ha3 : Below w2.heap.size w2 (w2.alloc (.cells #[.int .i64 (1 + (x : Int)), .int .i64 0, .int .i64 0, .slice none 0 0] 43)) := (Below.refl _ _).alloc (Nat.le_refl _) _
  have hbox := BoxN.last w2 #[.int .i64 (1 + (x : Int)), .int .i64 0, .int .i64 0, .slice none 0 0] 43
  have hres := (hres.grown hd.grown (by simp)).below ha3
  have hs2 := hd.ok.below ha3
  have hg2 : w.grownBy (w2.alloc (.cells #[.int .i64 (1 + (x : Int)), .int .i64 0, .int .i64 0, .slice none 0 0] 43)) (some (w.heap.size + 1)) := grown_trans (grown_trans (grown_below hbel _) hd.grown) (grown_below ha3 _)
  clear hd ha3 hs hbel
  go_wp2_with fail
  generalize hob : w2.heap.size = ob at *
  generalize hwa : w2.alloc (.cells #[.int .i64 (1 + (x : Int)), .int .i64 0, .int .i64 0, .slice none 0 0] 43) = wa at *
  have HOB := Lib.hid hob
  clear hob hwa
  refine (pick_any _ _ _ 3 (by omega) (by omega) hs2 (by omega)).mono ?_
  rintro e w3 ⟨y, rfl, hy0, hy1, hd⟩
  obtain ⟨y, rfl⟩ := Int.eq_ofNat_of_zero_le hy0
  have hy2 : (y : Int) ≤ 2 := by omega
  have hbox := hbox.grown hd.grown (by simp; omega)
  have hres := hres.grown hd.grown (by simp)
  have hg3 := grown_trans hg2 hd.grown
  have hs3 := hd.ok
  obtain ⟨c0, c1, c2, c3, f0, f1, f2, f3⟩ := hbox.four'
  clear hd hs2 hg2
  go_wp2_with fail
  have g4 := grown_setCell w3 ⟨ob, 1, none⟩ (.int .i64 (1 + (y : Int)))
  have hbox := hbox.set 1 (.int .i64 (1 + (y : Int)))
  have hres := hres.grown g4 (by simp; omega)
  have hs4 := hs3.grown g4 (by simp; omega) (fun k hk => by injection hk with e; simp at e; omega)
  have hg4 := grown_new hg3 g4 (fun k hk => by injection hk with e; simp at e; omega)
  have hbox : BoxN (w3.setCell ⟨ob, 1, none⟩ (.int .i64 (1 + (y : Int)))) ob #[.int .i64 (1 + (x : Int)), .int .i64 (1 + (y : Int)), .int .i64 0, .slice none 0 0] 43 := hbox
  generalize w3.setCell ⟨ob, 1, none⟩ (.int .i64 (1 + (y : Int))) = w4 at *
  clear g4 hs3 hg3 c0 c1 c2 c3 f0 f1 f2 f3
  refine (pick_any _ _ _ 4 (by omega) (by omega) hs4 (by omega)).mono ?_
  rintro e w5 ⟨z, rfl, hz0', hz1', hd⟩
  obtain ⟨z, rfl⟩ := Int.eq_ofNat_of_zero_le hz0'
  have hz3 : (z : Int) ≤ 3 := by omega
  have hbox := hbox.grown hd.grown (by simp; omega)
  have hres := hres.grown hd.grown (by simp)
  have hg5 := grown_trans hg4 hd.grown
  have hs5 := hd.ok
  obtain ⟨c0, c1, c2, c3, f0, f1, f2, f3⟩ := hbox.four'
  clear hd hs4 hg4
  have hNle : (1 + x) * (1 + y) * (1 + z) ≤ 48 := by
    have h1 := Nat.mul_le_mul (show 1 + x ≤ 4 by omega) (show 1 + y ≤ 3 by omega)
    have h2 := Nat.mul_le_mul h1 (show 1 + z ≤ 4 by omega)
    omega
  have hMle : (1 + x) * (1 + y) ≤ 12 := Nat.mul_le_mul (show 1 + x ≤ 4 by omega) (show 1 + y ≤ 3 by omega)
  have hp0 : (1 + (x : Int)) * (1 + (y : Int)) = (((1 + x) * (1 + y) : Nat) : Int) := by simp
  have hp1 : (((1 + x) * (1 + y) : Nat) : Int) * (1 + (z : Int)) = (((1 + x) * (1 + y) * (1 + z) : Nat) : Int) := by simp
  generalize hM : (1 + x) * (1 + y) = M at *
  generalize hN : M * (1 + z) = N at *
  have b0 : 0 ≤ (1 + (x : Int)) * (1 + (y : Int)) := by omega
  have b1 : (1 + (x : Int)) * (1 + (y : Int)) ≤ 12 := by omega
  have hp2 : (1 + (x : Int)) * (1 + (y : Int)) * (1 + (z : Int)) = (N : Int) := by rw [hp0, hp1]
  have b2 : 0 ≤ (1 + (x : Int)) * (1 + (y : Int)) * (1 + (z : Int)) := by omega
  have b3 : (1 + (x : Int)) * (1 + (y : Int)) * (1 + (z : Int)) ≤ 48 := by omega
  have HP := Lib.hid hp2
  have HM := Lib.hid hM
  have HN := Lib.hid hN
  clear hp0 hp1 hp2 hM hN
  go_wp2_with fail
  have g6 := grown_setCell w5 ⟨ob, 2, none⟩ (.int .i64 (1 + (z : Int)))
  have hbox := hbox.set 2 (.int .i64 (1 + (z : Int)))
  have hbox : BoxN (w5.setCell ⟨ob, 2, none⟩ (.int .i64 (1 + (z : Int)))) ob #[.int .i64 (1 + (x : Int)), .int .i64 (1 + (y : Int)), .int .i64 (1 + (z : Int)), .slice none 0 0] 43 := hbox
  have start : GenSt w (w5.setCell ⟨ob, 2, none⟩ (.int .i64 (1 + (z : Int)))) w.heap.size w.heap.size (w.heap.size + 1) ob 6 3 #[.int .i64 0, .int .i64 0, .int .i64 0, .slice none 0 0] #[.int .i64 (1 + (x : Int)), .int .i64 (1 + (y : Int)), .int .i64 (1 + (z : Int)), .slice none 0 0] 43 (.slice none 0 0) [] := by
    refine ⟨grown_new hg5 g6 (fun k hk => by injection hk with e; simp at e; omega), hs5.grown g6 (by simp; omega) (fun k hk => by injection hk with e; simp at e; omega), Nat.le_refl _, hres.grown g6 (by simp; omega), hbox, rfl, OwnF.nil _ _, fun g hg => by simp [Value.ownBlock] at hg, by omega, by omega, by omega, by omega, by omega⟩
  generalize w5.setCell ⟨ob, 2, none⟩ (.int .i64 (1 + (z : Int))) = w6 at *
  clear g6 hbox hres hg5 hs5 c0 c1 c2 c3 f0 f1 f2 f3
  go_loopw [5] (fun v5 wr => ∃ (i : Nat) (v : Value) (ks : List Int), v5 = .int .i64 i ∧ i ≤ N ∧ ks.length = i ∧ (∀ k ∈ ks, 0 ≤ k ∧ k ≤ 16) ∧ GenSt w wr w.heap.size w.heap.size (w.heap.size + 1) ob (6 + 2 * i) 3 #[.int .i64 0, .int .i64 0, .int .i64 0, .slice none 0 0] #[.int .i64 (1 + (x : Int)), .int .i64 (1 + (y : Int)), .int .i64 (1 + (z : Int)), v] 43 v (ks.map (fq 2))) (fun v5 _ => N - (intOf v5).toNat)
  case atStart => exact ⟨0, _, [], rfl, Nat.zero_le _, rfl, by simp, start⟩
  case round =>
    clear start
    obtain ⟨i, v, ks, rfl, hi, hbl, hq, hst⟩ := hrel
    obtain ⟨c0, c1, c2, c3, f0, f1, f2, f3⟩ := hst.box.four'
    by_cases hlt : i < N
    · have hlt' : (i : Int) < (1 + (x : Int)) * (1 + (y : Int)) * (1 + (z : Int)) := by rw [HP.out]; omega
      have hown := hst.own
      have hsrc := hst.src
      have hbox := hst.box
      have hL : (ks.map (fq 2)).length ≤ 48 := by rw [List.length_map]; omega
      have hne : some ob ≠ v.ownBlock := fun e => (hst.far _ e.symm).2.2 rfl
      have HS := Lib.hid hst
      have HL := Lib.hid hbl
      have HQ := Lib.hid hq
      generalize hbs : ks.map (fq 2) = bs at *
      have HBS := Lib.hid hbs
      clear hst hbl hq hbs
      have hd0 : ∀ w : World, w.drewN 0 = w := fun _ => rfl
      go_wp2_with fail
      go_region_law (first
        | (refine step_append_lies _ (by rfl) _ _ _ (by rfl) w.heap.size 74 i0 _ 1 4 Try.underlying39 hi0 hz0 hz1 hz2 rfl (by omega) v bs.length _ (by rfl) (World.ownsRow.alloc hown1.1 _) ⟨w1.heap.size, 0, none⟩ 1 1 [.float .f32 vk] (by rfl) (by rfl) (cell_one_new _ _ _) (by simp [Value.oneCell']) (by omega) (by unfold maxLen; omega) (by omega) (by simp; omega) (w1.heap.size + 1) (by simp) ?_; intro gg cap w2 hown2 hgrow hat hlt2; obtain ⟨q0, q1, q2, q3, g0, g1, g2, g3⟩ := ((hbox1.below ((Below.refl w1.heap.size w1).alloc (Nat.le_refl _) _)).grown hgrow hne).four')
        | (go_simp; refine (pick_any _ _ _ 17 (by omega) (by omega) (by exact hsrc) (by omega)).mono ?_; rintro e w1 ⟨n, rfl, hn0, hn1, hd⟩; obtain ⟨k, rfl⟩ := Int.eq_ofNat_of_zero_le hn0; have hk16 : k ≤ 16 := (by omega); have hdd : Drew w.heap.size (w.heap.size + 1) (6 + 2 * (i + 1)) wr w1 := ⟨hd.1.mono (by omega), ⟨hd.2.os, hd.2.tape, hd.2.output, hd.2.size, hd.2.block⟩⟩; have hq4 := quo4 k (by omega); have hvlt : fq 2 (k : Int) < 4294967296 := fq_lt (by omega); generalize hvk : fq 2 (k : Int) = vk at hq4 hvlt; have HVK := Lib.hid hvk; clear hvk; have p1 := fres_some hq4; have p0 := fdr_some hq4; clear hq4; have hbox1 := hbox.grown hdd.grown (by simpa using Ne.symm HS.out.ne3); have c3' := hbox1.four'.2.2.2.1; have c4 : ∀ o, (w1.alloc o).cell? ⟨ob, 3, none⟩ = some v := (fun o => (hbox1.below ((Below.refl w1.heap.size w1).alloc (Nat.le_refl _) o)).four'.2.2.2.1); have hown1 := hown.grown hdd.grown HS.out.fars; have hz2' : w.heap.size ≤ w1.heap.size := (by have := hdd.grown.size; have := HS.out.bel.size; omega)))
      all_goals
        go_wp2
        go_roundw
        case rel =>
          refine ⟨i + 1, .slice (some ⟨gg, 0, none⟩) (bs.length + 1) cap, ks ++ [(k : Int)], by go_num, by omega, by simp [HL.out], fun z hz => ?_, ?_⟩
          · rcases List.mem_append.1 hz with h1 | h1
            · exact HQ.out z h1
            · simp at h1; omega
          · rw [List.map_append, HBS.out, List.map_cons, List.map_nil, HVK.out]
            exact HS.out.step hdd hvlt hown2 hgrow hat
        case measure => simp [intOf]; omega
    · have hlt' : ¬ (i : Int) < (1 + (x : Int)) * (1 + (y : Int)) * (1 + (z : Int)) := by rw [HP.out]; omega
      have hpos : 0 < i := by
        have h1 := HM.out
        have h2 := HN.out
        have : 0 < (1 + x) * (1 + y) * (1 + z) := Nat.mul_pos (Nat.mul_pos (by omega) (by omega)) (by omega)
        rw [h1, h2] at this; omega
      obtain ⟨q, vc, rfl⟩ : ∃ q vc, v = .slice (some ⟨q, 0, none⟩) ks.length vc := by
        rcases hst.own.form with ⟨h1, h2⟩ | ⟨q, vc, h1, h2⟩
        · have := congrArg List.length h2; simp at this; rw [this] at hbl; simp at hbl; omega
        · exact ⟨q, vc, by rw [h1, List.length_map]⟩
      obtain ⟨d0, d1, d2, d3, e0, e1, e2, e3⟩ := hst.res.four'
      have HS := Lib.hid hst
      have HL := Lib.hid hbl
      have HQ := Lib.hid hq
      clear hst hbl hlt hq
      go_wp2
      refine bodyPost_ret (v := .agg #[.int .i64 ((1 + x : Nat) : Int), .int .i64 ((1 + y : Nat) : Int), .int .i64 ((1 + z : Nat) : Int), .slice (some ⟨q, 0, none⟩) ks.length vc]) (by simp [results, Try.results15, go_sem, d0, d1, d2, d3]) rfl ?_
      have hst := HS.out
      have hN2 : i = (1 + x) * (1 + y) * (1 + z) := by rw [HM.out, HN.out]; have := HP.out; omega
      have hfb := hst.farb
      refine ⟨1 + x, 1 + y, 1 + z, q, vc, ks, rfl, by omega, by omega, by omega, by omega, by omega, by omega, by rw [HL.out, hN2], ?_, HQ.out, ((((below_of_grown hst.bel (by omega)).setCell (by simp) _).setCell (by simp) _).setCell (by simp) _).setCell (by simp) _⟩
      exact (((hst.own.grown (grown_setCell _ _ _) hfb).grown (grown_setCell _ _ _) hfb).grown (grown_setCell _ _ _) hfb).grown (grown_setCell _ _ _) hfb

end Go.Proofs.Ytmncihhdkcmmmaa

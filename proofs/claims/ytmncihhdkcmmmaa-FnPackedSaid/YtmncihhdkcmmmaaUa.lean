/- Whole maps that the laws draw; nothing else. -/
import Derived.Test.YtmncihhdkcmmmaaRv
import Derived.Deep.RegionHeld3
namespace Go.Proofs.Ytmncihhdkcmmmaa
open Go.RowKit
set_option maxRecDepth 100000
set_option linter.unusedVariables false
set_option linter.unusedSimpArgs false

def wW (m : Nat) : Nat := fq 0 (m : Int)
theorem wW_def (m : Nat) : fq 0 (m : Int) = wW m := rfl
theorem wW_q (m : Nat) : wW m = fq 2 (4 * (m : Int)) := by
  have := fq_shift (g := 0) (j := 2) (by decide) (m : Int)
  unfold wW
  rw [← this]
  congr 1
  rw [Int.mul_comm]; rfl
/-- A slice of whole numbers. -/
structure WM (W : World) (q c N : Nat) (ms : List Nat) (dp : Nat) : Prop where
  sl : SlF W (.slice (some ⟨q, 0, none⟩) N c) (ms.map wW)
  lt : q < W.heap.size
  len : ms.length = N
  bd : ∀ m ∈ ms, m < dp
theorem WM.below {W W' : World} {q c N dp : Nat} {ms : List Nat} (h : WM W q c N ms dp) (hb : Below W.heap.size W W') : WM W' q c N ms dp := ⟨h.sl.below hb, Nat.lt_of_lt_of_le h.lt hb.size, h.len, h.bd⟩
theorem WM.drewN {W : World} {q c N dp : Nat} {ms : List Nat} (h : WM W q c N ms dp) (k : Nat) : WM (W.drewN k) q c N ms dp := ⟨⟨h.sl.1.drewN k, h.sl.2⟩, h.lt, h.len, h.bd⟩
theorem alb1_ (w : World) (o : Obj) : Below w.heap.size w (w.alloc o) := (Below.refl _ _).alloc (Nat.le_refl _) _

/-- A whole map that is drawn. -/
def DrawsWM (w : World) (wd hi dp N : Nat) (e : Ending) (w' : World) : Prop :=
  ∃ q c, ∃ ms : List Nat, e = .returned (.agg #[.int .i64 wd, .int .i64 hi, .slice (some ⟨q, 0, none⟩) N c]) ∧ WM w' q c N ms dp ∧ Below w.heap.size w w'

set_option maxHeartbeats 2000000 in
theorem r8Whole_any (w : World) (a : Option Addr) (len cap wd hi dp N : Nat) (sa : Option Addr) (pn pc : Nat) (h : BytesIn w a len) (hw1 : 1 ≤ wd) (hw2 : wd ≤ 24) (hh1 : 1 ≤ hi) (hh2 : hi ≤ 24) (hN : N = wd * hi) (hwh : N ≤ 256) (hd1 : 1 ≤ dp) (hd2 : dp ≤ 8) :
    Calls Try.prog 16 #[.slice a len cap, .agg #[.int .i64 wd, .int .i64 hi, .int .i64 dp, .slice sa pn pc]] w (DrawsWM w wd hi dp N) := by
  obtain ⟨i0, hi0, hz0, hz1, hz2⟩ := info_parts info_f32
  have hp : (wd : Int) * (hi : Int) = (N : Int) := by rw [hN]; simp
  have HP := Lib.hid hp
  have hN1 : 1 ≤ N := by rw [hN]; exact Nat.mul_pos hw1 hh1
  have b0 : 0 ≤ (wd : Int) * (hi : Int) := by omega
  have b1 : (wd : Int) * (hi : Int) ≤ 256 := by omega
  clear hN hp
  have ha0 := below_two w (.cells #[.int .i64 wd, .int .i64 hi, .int .i64 dp, .slice sa pn pc] 43) (.cells #[.int .i64 0, .int .i64 0, .slice none 0 0] 46)
  have hpb := BoxN.first w #[.int .i64 wd, .int .i64 hi, .int .i64 dp, .slice sa pn pc] 43 (.cells #[.int .i64 0, .int .i64 0, .slice none 0 0] 46)
  have hres := BoxN.second w #[.int .i64 0, .int .i64 0, .slice none 0 0] 46 (.cells #[.int .i64 wd, .int .i64 hi, .int .i64 dp, .slice sa pn pc] 43)
  go_enter Try.func16, Try.ntmps16
  go_wp2_with fail
  refine (from_any _ _ _ _ (h.at.grown (grown_below ha0 none) (fun k hk => by cases hk)) (by simp; omega)).mono ?_
  rintro e w1 ⟨rfl, hs, hb, hlt⟩
  have hres := hres.below hb
  have hpb := hpb.below hb
  have hbel := ha0.trans (hb.mono ha0.size)
  have hsz : w.heap.size + 2 < w1.heap.size := by simpa using hlt
  have hs : SrcOk w1 w.heap.size (w.heap.size + 2) 0 := by simpa using hs
  obtain ⟨z0, z1, z2, z3, -, -, -, -⟩ := hpb.four
  clear ha0 hb hlt h
  have ha4 := alb1_ w1 (.cells #[] 74)
  have hown : OwnF (w1.alloc (.cells #[] 74)) w1.heap.size (.slice (some ⟨w1.heap.size, 0, none⟩) 0 0) [] :=
    ⟨⟨rfl, .inr ⟨w1.heap.size, 0, #[], rfl, Nat.le_refl _, heap_alloc_new w1 _, Nat.le_refl _, by unfold maxLen; omega, rfl, rfl⟩⟩, by simp⟩
  have hres4 := hres.below ha4
  have hpb4 := hpb.below ha4
  have hs4 := hs.below ha4
  have hbel4 := hbel.trans (ha4.mono hbel.size)
  have ha5 := alb1_ (w1.alloc (.cells #[] 74)) (.cells #[.int .i64 wd, .int .i64 hi, .slice (some ⟨w1.heap.size, 0, none⟩) 0 0] 46)
  have hsz4 : (w1.alloc (.cells #[] 74)).heap.size = w1.heap.size + 1 := by simp
  have start : GenSt w ((w1.alloc (.cells #[] 74)).alloc (.cells #[.int .i64 wd, .int .i64 hi, .slice (some ⟨w1.heap.size, 0, none⟩) 0 0] 46)) w.heap.size (w.heap.size + 1) (w.heap.size + 2) (w1.heap.size + 1) 4 2 #[.int .i64 0, .int .i64 0, .slice none 0 0] #[.int .i64 wd, .int .i64 hi, .slice (some ⟨w1.heap.size, 0, none⟩) 0 0] 46 (.slice (some ⟨w1.heap.size, 0, none⟩) 0 0) [] := by
    refine ⟨grown_trans (grown_below hbel4 _) (grown_below ha5 _), (hs4.below ha5).mono (by omega), Nat.le_refl _, hres4.below ha5, by have := BoxN.last (w1.alloc (.cells #[] 74)) #[.int .i64 wd, .int .i64 hi, .slice (some ⟨w1.heap.size, 0, none⟩) 0 0] 46; rw [hsz4] at this; exact this, rfl, (hown.below ha5).mono (by omega), ?_, by omega, by omega, by omega, by omega, by omega⟩
    intro g hg
    have : w1.heap.size = g := by simpa [Value.ownBlock] using hg
    omega
  have hpb5 := hpb4.below ha5
  have HS0 := Lib.hid start
  have HPB := Lib.hid hpb5
  have HW1 := Lib.hid (Nat.le_of_lt hsz)
  clear hres hres4 hs hs4 hbel hbel4 ha5 ha4 hown hpb hpb4 hpb5 start hsz4
  go_wp2_with fail
  clear z0 z1 z2 z3
  generalize ho : w1.heap.size + 1 = ob at *
  generalize hwa : (w1.alloc (.cells #[] 74)).alloc (.cells #[.int .i64 wd, .int .i64 hi, .slice (some ⟨w1.heap.size, 0, none⟩) 0 0] 46) = wa at *
  have hobn : w.heap.size + 2 < ob := by omega
  clear ho hwa
  go_loopw [7] (fun v7 wr => ∃ (i : Nat) (v : Value) (ks : List Nat), v7 = .int .i64 i ∧ i ≤ N ∧ ks.length = i ∧ (∀ k ∈ ks, k < dp) ∧ GenSt w wr w.heap.size (w.heap.size + 1) (w.heap.size + 2) ob (4 + 2 * i) 2 #[.int .i64 0, .int .i64 0, .slice none 0 0] #[.int .i64 wd, .int .i64 hi, v] 46 v (ks.map wW) ∧ BoxN wr w.heap.size #[.int .i64 wd, .int .i64 hi, .int .i64 dp, .slice sa pn pc] 43 ∧ v.ownBlock ≠ some w.heap.size) (fun v7 _ => N - (intOf v7).toNat)
  case atStart => exact ⟨0, _, [], rfl, Nat.zero_le _, rfl, by simp, HS0.out, HPB.out, by simp [Value.ownBlock]; have := HW1.out; omega⟩
  case round =>
    clear HS0 HPB
    obtain ⟨i, v, ks, rfl, hiN, hbl, hq, hst, hpb, hvp⟩ := hrel
    obtain ⟨c0, c1, c2, f0, f1, f2⟩ := hst.box.three.cells
    obtain ⟨z0, z1, z2, z3, -, -, -, -⟩ := hpb.four
    by_cases hlt : i < N
    · have hlt' : (i : Int) < (wd : Int) * (hi : Int) := by rw [HP.out]; omega
      have hown := hst.own
      have hsrc := hst.src
      have hbox := hst.box
      have hL : (ks.map wW).length ≤ 256 := by rw [List.length_map]; omega
      have hne : some ob ≠ v.ownBlock := fun e => (hst.far _ e.symm).2.2 rfl
      have HS := Lib.hid hst
      have HL := Lib.hid hbl
      have HQ := Lib.hid hq
      have HPB := Lib.hid hpb
      generalize hbs : ks.map wW = bs at *
      have HBS := Lib.hid hbs
      clear hst hbl hq hbs hpb
      have hd0 : ∀ w : World, w.drewN 0 = w := fun _ => rfl
      go_wp2_with fail
      go_region_law (first
        | (refine step_append_lies _ (by rfl) _ _ _ (by rfl) w.heap.size 74 i0 _ 1 4 Try.underlying39 hi0 hz0 hz1 hz2 rfl (by omega) v bs.length _ (by rfl) (World.ownsRow.alloc hown1.1 _) ⟨w2.heap.size, 0, none⟩ 1 1 [.float .f32 vk] (by rfl) (by rfl) (cell_one_new _ _ _) (by simp [Value.oneCell']) (by omega) (by unfold maxLen; omega) (by omega) (by simp; omega) (w2.heap.size + 1) (by simp) ?_; intro gg cap w3 hown2 hgrow hat hlt2; obtain ⟨q0, q1, q2, g0, g1, g2⟩ := ((hbox1.below ((Below.refl w2.heap.size w2).alloc (Nat.le_refl _) _)).grown hgrow hne).three.cells)
        | (go_simp; refine (pick_any _ _ _ (dp : Int) (by omega) (by omega) (by exact hsrc) (by omega)).mono ?_; rintro e w2 ⟨n, rfl, hn0, hn1, hd⟩; obtain ⟨k, rfl⟩ := Int.eq_ofNat_of_zero_le hn0; have hk16 : k < dp := (by omega); have hdd : Drew w.heap.size (w.heap.size + 2) (4 + 2 * (i + 1)) wr w2 := ⟨hd.1.mono (by omega), ⟨hd.2.os, hd.2.tape, hd.2.output, hd.2.size, hd.2.block⟩⟩; have hq4 := fq_ofInt (n := (k : Int)) (by omega); have hvlt : fq 0 (k : Int) < 4294967296 := fq_lt (by omega); rw [wW_def] at hq4 hvlt; generalize hvk : wW k = vk at hq4 hvlt; have HVK := Lib.hid hvk; clear hvk; have hbox1 := hbox.grown hdd.grown (by simpa using Ne.symm HS.out.ne3); have c2' := hbox1.three.cells.2.2.1; have c4 : ∀ o, (w2.alloc o).cell? ⟨ob, 2, none⟩ = some v := (fun o => (hbox1.below ((Below.refl w2.heap.size w2).alloc (Nat.le_refl _) o)).three.cells.2.2.1); have hown1 := hown.grown hdd.grown HS.out.fars; have hz3' : w.heap.size ≤ w2.heap.size := (by have := hdd.grown.size; have := HS.out.bel.size; omega)))
      all_goals
        go_wp2
        go_roundw
        case rel =>
          refine ⟨i + 1, .slice (some ⟨gg, 0, none⟩) (bs.length + 1) cap, ks ++ [k], by go_num, by omega, by simp [HL.out], fun z hz => ?_, ?_, ?_, ?_⟩
          · rcases List.mem_append.1 hz with h1 | h1
            · exact HQ.out z h1
            · simp at h1; omega
          · rw [List.map_append, HBS.out, List.map_cons, List.map_nil, HVK.out]
            exact HS.out.step hdd hvlt hown2 hgrow hat
          · exact (((HPB.out.grown hdd.grown (by simp)).below (alb1_ _ _)).grown hgrow (fun e => hvp e.symm)).grown (grown_setCell _ _ _) (by simp; omega)
          · rcases hat with e | e
            · simp only [Value.ownBlock]; rw [← e]; exact hvp
            · simp only [Value.ownBlock, ne_eq, Option.some.injEq]; have := HPB.out.lt; have := hdd.grown.size; omega
        case measure => simp [intOf]; omega
    · obtain rfl : N = i := by omega
      have hlt' : ¬ (N : Int) < (wd : Int) * (hi : Int) := by rw [HP.out]; omega
      obtain ⟨q, vc, rfl⟩ : ∃ q vc, v = .slice (some ⟨q, 0, none⟩) N vc := by
        rcases hst.own.form with ⟨h1, h2⟩ | ⟨q, vc, h1, h2⟩
        · have := congrArg List.length h2; simp at this; rw [this] at hbl; simp at hbl; omega
        · exact ⟨q, vc, by rw [h1, List.length_map, hbl]⟩
      obtain ⟨d0, d1, d2, e0, e1, e2⟩ := hst.res.three.cells
      have HS := Lib.hid hst
      have HL := Lib.hid hbl
      have HQ := Lib.hid hq
      clear hst hbl hlt hq
      go_wp2
      refine bodyPost_ret (v := .agg #[.int .i64 wd, .int .i64 hi, .slice (some ⟨q, 0, none⟩) N vc]) (by simp [results, Try.results16, go_sem, d0, d1, d2]) rfl ?_
      have hst := HS.out
      have hfb := hst.farb
      have ho := (((hst.own.grown (grown_setCell _ ⟨w.heap.size + 1, 0, none⟩ (.int .i64 wd)) hfb).grown (grown_setCell _ ⟨w.heap.size + 1, 1, none⟩ (.int .i64 hi)) hfb).grown (grown_setCell _ ⟨w.heap.size + 1, 2, none⟩ (.slice (some ⟨q, 0, none⟩) N vc)) hfb)
      refine ⟨q, vc, ks, rfl, ⟨?_, (ho.lt (k := q) rfl).2, HL.out, HQ.out⟩, (((below_of_grown hst.bel (by omega)).setCell (by simp) _).setCell (by simp) _).setCell (by simp) _⟩
      have := ho.sl
      simpa using this


end Go.Proofs.Ytmncihhdkcmmmaa

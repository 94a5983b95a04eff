/- R8Like; offsets of rows. -/
import Derived.Test.YtialajgobpokmaaPh
namespace Go.Proofs.Ytialajgobpokmaa
open Go.RowKit
set_option maxRecDepth 100000
set_option linter.unusedVariables false
set_option linter.unusedSimpArgs false

/-- A picture of quarters of sizes that are told. -/
def DrawsPQ (w : World) (wd hi N : Nat) (e : Ending) (w' : World) : Prop :=
  ∃ q c, ∃ ks : List Int, e = .returned (.agg #[.int .i64 wd, .int .i64 hi, .slice (some ⟨q, 0, none⟩) N c]) ∧ PW w' q c N (ks.map (fq 2)) ∧ (∀ k ∈ ks, 0 ≤ k ∧ k ≤ 16) ∧ Below w.heap.size w w'
theorem quo4p (k : Nat) (hk : k ≤ 64) : floatBits .quo .f32 (floatOfInt .f32 k) 1082130432 = some (fq 2 k) := by
  rw [qt_some k hk]
  have h : ∀ k : Fin 65, qt k.val = fq 2 k.val := by decide +kernel
  rw [h ⟨k, by omega⟩]

set_option maxHeartbeats 2000000 in
theorem r8Like_any (w : World) (a : Option Addr) (len cap wd hi N : Nat) (sa : Option Addr) (pn pc : Nat) (h : BytesIn w a len) (hw1 : 1 ≤ wd) (hw2 : wd ≤ 24) (hh1 : 1 ≤ hi) (hh2 : hi ≤ 24) (hN : N = wd * hi) (hwh : N ≤ 256) :
    Calls Try.prog 28 #[.slice a len cap, .agg #[.int .i64 wd, .int .i64 hi, .slice sa pn pc]] w (DrawsPQ w wd hi N) := by
  obtain ⟨i0, hi0, hz0, hz1, hz2⟩ := info_parts info_f32
  have hp : (wd : Int) * (hi : Int) = (N : Int) := by rw [hN]; simp
  have HP := Lib.hid hp
  have hN1 : 1 ≤ N := by rw [hN]; exact Nat.mul_pos hw1 hh1
  have b0 : 0 ≤ (wd : Int) * (hi : Int) := by omega
  have b1 : (wd : Int) * (hi : Int) ≤ 256 := by omega
  clear hN hp
  have ha0 := below_two w (.cells #[.int .i64 wd, .int .i64 hi, .slice sa pn pc] 26) (.cells #[.int .i64 0, .int .i64 0, .slice none 0 0] 26)
  have hpb := BoxN.first w #[.int .i64 wd, .int .i64 hi, .slice sa pn pc] 26 (.cells #[.int .i64 0, .int .i64 0, .slice none 0 0] 26)
  have hres := BoxN.second w #[.int .i64 0, .int .i64 0, .slice none 0 0] 26 (.cells #[.int .i64 wd, .int .i64 hi, .slice sa pn pc] 26)
  go_enter Try.func28, Try.ntmps28
  go_wp2_with fail
  refine (from_any _ _ _ _ (h.at.grown (grown_below ha0 none) (fun k hk => by cases hk)) (by simp; omega)).mono ?_
  rintro e w1 ⟨rfl, hs, hb, hlt⟩
  have hres := hres.below hb
  have hpb := hpb.below hb
  have hbel := ha0.trans (hb.mono ha0.size)
  have hsz : w.heap.size + 2 < w1.heap.size := by simpa using hlt
  have hs : SrcOk w1 w.heap.size (w.heap.size + 2) 0 := by simpa using hs
  obtain ⟨z0, z1, z2, -, -, -⟩ := hpb.three.cells
  clear ha0 hb hlt h
  go_wp2_with fail
  refine (l02New_any _ _ _).mono ?_
  rintro e w4 ⟨rfl, hown, hb4, hlt4⟩
  have hres4 := hres.below hb4
  have hpb4 := hpb.below hb4
  have hs4 := hs.below hb4
  have hbel4 := hbel.trans (hb4.mono hbel.size)
  have ha5 : Below w4.heap.size w4 (w4.alloc (.cells #[.int .i64 wd, .int .i64 hi, .slice (some ⟨w1.heap.size + 1, 0, none⟩) 0 0] 26)) := (Below.refl _ _).alloc (Nat.le_refl _) _
  have start : GenSt w (w4.alloc (.cells #[.int .i64 wd, .int .i64 hi, .slice (some ⟨w1.heap.size + 1, 0, none⟩) 0 0] 26)) w.heap.size (w.heap.size + 1) (w.heap.size + 2) w4.heap.size 4 2 #[.int .i64 0, .int .i64 0, .slice none 0 0] #[.int .i64 wd, .int .i64 hi, .slice (some ⟨w1.heap.size + 1, 0, none⟩) 0 0] 26 (.slice (some ⟨w1.heap.size + 1, 0, none⟩) 0 0) [] := by
    refine ⟨grown_trans (grown_below hbel4 _) (grown_below ha5 _), (hs4.below ha5).mono (by omega), Nat.le_refl _, hres4.below ha5, BoxN.last w4 _ _, rfl, (hown.below ha5).mono (by omega), ?_, by omega, by omega, by omega, by omega, by omega⟩
    intro g hg
    have : w1.heap.size + 1 = g := by simpa [Value.ownBlock] using hg
    omega
  have hpb5 := hpb4.below ha5
  have HS0 := Lib.hid start
  have HPB := Lib.hid hpb5
  have hob : w.heap.size + 2 < w4.heap.size := by omega
  have HW1 := Lib.hid (Nat.le_of_lt hsz)
  clear hres hres4 hs hs4 hbel hbel4 ha5 hown hb4 hpb hpb4 hpb5 start z0 z1 z2
  go_wp2_with fail
  generalize ho : w4.heap.size = ob at *
  generalize hwa : w4.alloc (.cells #[.int .i64 wd, .int .i64 hi, .slice (some ⟨w1.heap.size + 1, 0, none⟩) 0 0] 26) = wa at *
  clear ho hwa
  go_loopw [7] (fun v7 wr => ∃ (i : Nat) (v : Value) (ks : List Int), v7 = .int .i64 i ∧ i ≤ N ∧ ks.length = i ∧ (∀ k ∈ ks, 0 ≤ k ∧ k ≤ 16) ∧ GenSt w wr w.heap.size (w.heap.size + 1) (w.heap.size + 2) ob (4 + 2 * i) 2 #[.int .i64 0, .int .i64 0, .slice none 0 0] #[.int .i64 wd, .int .i64 hi, v] 26 v (ks.map (fq 2)) ∧ BoxN wr w.heap.size #[.int .i64 wd, .int .i64 hi, .slice sa pn pc] 26 ∧ v.ownBlock ≠ some w.heap.size) (fun v7 _ => N - (intOf v7).toNat)
  case atStart => exact ⟨0, _, [], rfl, Nat.zero_le _, rfl, by simp, HS0.out, HPB.out, by simp [Value.ownBlock]; have := HW1.out; omega⟩
  case round =>
    clear HS0 HPB
    obtain ⟨i, v, ks, rfl, hiN, hbl, hq, hst, hpb, hvp⟩ := hrel
    obtain ⟨c0, c1, c2, f0, f1, f2⟩ := hst.box.three.cells
    obtain ⟨z0, z1, z2, -, -, -⟩ := hpb.three.cells
    by_cases hlt : i < N
    · have hlt' : (i : Int) < (wd : Int) * (hi : Int) := by rw [HP.out]; omega
      have hown := hst.own
      have hsrc := hst.src
      have hbox := hst.box
      have hL : (ks.map (fq 2)).length ≤ 256 := by rw [List.length_map]; omega
      have hne : some ob ≠ v.ownBlock := fun e => (hst.far _ e.symm).2.2 rfl
      have HS := Lib.hid hst
      have HL := Lib.hid hbl
      have HQ := Lib.hid hq
      have HPB := Lib.hid hpb
      generalize hbs : ks.map (fq 2) = bs at *
      have HBS := Lib.hid hbs
      clear hst hbl hq hbs hpb
      have hd0 : ∀ w : World, w.drewN 0 = w := fun _ => rfl
      go_wp2_with fail
      go_region_law (first
        | (refine step_append_lies _ (by rfl) _ _ _ (by rfl) w.heap.size 32 i0 _ 1 4 Try.underlying24 hi0 hz0 hz1 hz2 rfl (by omega) v bs.length _ (by rfl) (World.ownsRow.alloc hown1.1 _) ⟨w2.heap.size, 0, none⟩ 1 1 [.float .f32 vk] (by rfl) (by rfl) (cell_one_new _ _ _) (by simp [Value.oneCell']) (by omega) (by unfold maxLen; omega) (by omega) (by simp; omega) (w2.heap.size + 1) (by simp) ?_; intro gg cap w3 hown2 hgrow hat hlt2; obtain ⟨q0, q1, q2, g0, g1, g2⟩ := ((hbox1.below ((Below.refl w2.heap.size w2).alloc (Nat.le_refl _) _)).grown hgrow hne).three.cells)
        | (go_simp; refine (pick_any _ _ _ 17 (by omega) (by omega) (by exact hsrc) (by omega)).mono ?_; rintro e w2 ⟨n, rfl, hn0, hn1, hd⟩; obtain ⟨k, rfl⟩ := Int.eq_ofNat_of_zero_le hn0; have hk16 : k ≤ 16 := (by omega); have hdd : Drew w.heap.size (w.heap.size + 2) (4 + 2 * (i + 1)) wr w2 := ⟨hd.1.mono (by omega), ⟨hd.2.os, hd.2.tape, hd.2.output, hd.2.size, hd.2.block⟩⟩; have hq4 := quo4p k (by omega); have hvlt : fq 2 (k : Int) < 4294967296 := fq_lt (by omega); generalize hvk : fq 2 (k : Int) = vk at hq4 hvlt; have HVK := Lib.hid hvk; clear hvk; have p1 := fres_some hq4; have p0 := fdr_some hq4; clear hq4; have hbox1 := hbox.grown hdd.grown (by simpa using Ne.symm HS.out.ne3); have c2' := hbox1.three.cells.2.2.1; have c4 : ∀ o, (w2.alloc o).cell? ⟨ob, 2, none⟩ = some v := (fun o => (hbox1.below ((Below.refl w2.heap.size w2).alloc (Nat.le_refl _) o)).three.cells.2.2.1); have hown1 := hown.grown hdd.grown HS.out.fars; have hz3' : w.heap.size ≤ w2.heap.size := (by have := hdd.grown.size; have := HS.out.bel.size; omega)))
      all_goals
        go_wp2
        go_roundw
        case rel =>
          refine ⟨i + 1, .slice (some ⟨gg, 0, none⟩) (bs.length + 1) cap, ks ++ [(k : Int)], by go_num, by omega, by simp [HL.out], fun z hz => ?_, ?_, ?_, ?_⟩
          · rcases List.mem_append.1 hz with h1 | h1
            · exact HQ.out z h1
            · simp at h1; omega
          · rw [List.map_append, HBS.out, List.map_cons, List.map_nil, HVK.out]
            exact HS.out.step hdd hvlt hown2 hgrow hat
          · exact (((HPB.out.grown hdd.grown (by simp)).below (alb1 _ _)).grown hgrow (fun e => hvp e.symm)).grown (grown_setCell _ _ _) (by simp; omega)
          · rcases hat with e | e
            · simp only [Value.ownBlock]; rw [← e]; exact hvp
            · simp only [Value.ownBlock, ne_eq, Option.some.injEq]; have := HPB.out.lt; have := hdd.grown.size; omega
        case measure => simp [intOf]; omega
    · obtain rfl : N = i := by omega
      have hlt' : ¬ (N : Int) < (wd : Int) * (hi : Int) := by rw [HP.out]; omega
      obtain ⟨q, vc, rfl⟩ : ∃ q vc, v = .slice (some ⟨q, 0, none⟩) N vc := by
        rcases hst.own.form with ⟨h1, h2⟩ | ⟨q, vc, h1, h2⟩
        · have := congrArg List.length h2; simp at this; rw [this] at hbl; simp at hbl; omega
        · exact ⟨q, vc, by rw [h1, List.length_map, hbl]⟩
      obtain ⟨d0, d1, d2, e0, e1, e2⟩ := hst.res.three.cells
      have HS := Lib.hid hst
      have HL := Lib.hid hbl
      have HQ := Lib.hid hq
      clear hst hbl hlt hq
      go_wp2
      refine bodyPost_ret (v := .agg #[.int .i64 wd, .int .i64 hi, .slice (some ⟨q, 0, none⟩) N vc]) (by simp [results, Try.results28, go_sem, d0, d1, d2]) rfl ?_
      have hst := HS.out
      have hfb := hst.farb
      have ho := (((hst.own.grown (grown_setCell _ ⟨w.heap.size + 1, 0, none⟩ (.int .i64 wd)) hfb).grown (grown_setCell _ ⟨w.heap.size + 1, 1, none⟩ (.int .i64 hi)) hfb).grown (grown_setCell _ ⟨w.heap.size + 1, 2, none⟩ (.slice (some ⟨q, 0, none⟩) N vc)) hfb)
      refine ⟨q, vc, ks, rfl, ⟨?_, (ho.lt (k := q) rfl).2, by rw [List.length_map, HL.out]⟩, HQ.out, (((below_of_grown hst.bel (by omega)).setCell (by simp) _).setCell (by simp) _).setCell (by simp) _⟩
      have := ho.sl
      simpa using this

/-- The words of absolute values. -/
theorem fq_abs {z : Int} (h : z.natAbs ≤ 16777216) : fq 2 z % 2147483648 = fq 2 (z.natAbs : Nat) := by
  obtain ⟨r, h1, h2, h3⟩ := (few32 (g := 2) (k := z) h).rung f1
  obtain ⟨s, g1, g2, g3⟩ := (few32 (g := 2) (k := (z.natAbs : Nat)) (by omega)).rung f1
  have e : r = s := unit_inj Ieee.single (by rw [h2, g2]; simp)
  have hr : r < 2139095040 := by have := h1; rw [sg_inf] at this; exact this
  unfold fq
  rw [h3, g3, ← e]
  unfold Ieee.Format.word
  rw [sg_sw, decide_eq_false (show ¬ ((z.natAbs : Nat) : Int) < 0 by omega)]
  by_cases hz : z < 0
  · rw [decide_eq_true hz]; simp; omega
  · rw [decide_eq_false hz]; simp; omega

/-- How much two pictures differ, one moved by k rows. -/
def offF (xs bs : List Int) (wd hi : Nat) (k : Int) (y x : Nat) : Int := ((xs.getD (ix (x : Int) (y : Int) wd hi) 0 - bs.getD (ix (x : Int) ((y : Int) + k) wd hi) 0).natAbs : Nat)
def offS (xs bs : List Int) (wd hi : Nat) (k : Int) : Int := sumN hi fun y => sumN wd (offF xs bs wd hi k y)

theorem offF_bd {xs bs : List Int} (ha : ∀ k ∈ xs, 0 ≤ k ∧ k ≤ 16) (hb : ∀ k ∈ bs, 0 ≤ k ∧ k ≤ 16) (wd hi : Nat) (k : Int) (y x : Nat) : 0 ≤ offF xs bs wd hi k y x ∧ offF xs bs wd hi k y x ≤ 16 := by
  have g : ∀ (l : List Int), (∀ k ∈ l, 0 ≤ k ∧ k ≤ 16) → ∀ i, 0 ≤ l.getD i 0 ∧ l.getD i 0 ≤ 16 := by
    intro l hl i
    rw [List.getD_eq_getElem?_getD]
    cases e : l[i]? with
    | none => exact ⟨Int.le_refl _, by decide⟩
    | some z => exact hl z (List.mem_of_getElem? e)
  have h1 := g xs ha (ix (x : Int) (y : Int) wd hi)
  have h2 := g bs hb (ix (x : Int) ((y : Int) + k) wd hi)
  unfold offF; omega

/-- The best offset so far. -/
def BestTo (S : Int → Int) (n : Nat) (m : Nat) (best low : Int) (fd : Bool) : Prop :=
  (fd = false ∧ m = 0 ∧ best = 0 ∧ low = 0) ∨ (fd = true ∧ -(n : Int) ≤ best ∧ best < -(n : Int) + m ∧ low = S best ∧ ∀ j, -(n : Int) ≤ j → j < -(n : Int) + m → S best ≤ S j ∧ (j < best → S best < S j))
theorem BestTo.step {S : Int → Int} {n m : Nat} {best low : Int} {fd : Bool} (h : BestTo S n m best low fd) :
    (fd = false ∨ S (-(n : Int) + m) < low → BestTo S n (m + 1) (-(n : Int) + m) (S (-(n : Int) + m)) true) ∧ (¬ (fd = false ∨ S (-(n : Int) + m) < low) → BestTo S n (m + 1) best low fd) := by
  rcases h with ⟨rfl, rfl, rfl, rfl⟩ | ⟨rfl, h1, h2, h3, h4⟩
  · refine ⟨fun _ => .inr ⟨rfl, by omega, by omega, rfl, fun j a b => ?_⟩, fun e => absurd (.inl rfl) e⟩
    have : j = -(n : Int) + (0 : Nat) := by omega
    rw [this]; exact ⟨Int.le_refl _, fun g => by omega⟩
  · subst h3
    refine ⟨fun e => .inr ⟨rfl, by omega, by omega, rfl, fun j a b => ?_⟩, fun e => .inr ⟨rfl, h1, by omega, rfl, fun j a b => ?_⟩⟩
    · have e : S (-(n : Int) + m) < S best := by rcases e with e | e; cases e; exact e
      by_cases g : j = -(n : Int) + m
      · rw [g]; exact ⟨Int.le_refl _, fun g => by omega⟩
      · have := h4 j a (by omega)
        exact ⟨by omega, fun _ => by omega⟩
    · have e : ¬ S (-(n : Int) + m) < S best := fun g => e (.inr g)
      by_cases g : j = -(n : Int) + m
      · rw [g]; exact ⟨by omega, fun g => by omega⟩
      · exact h4 j a (by omega)

set_option maxHeartbeats 4000000 in
theorem rowOffset_q (w : World) (wd hi N qa ca qb cb n : Nat) (xs bs : List Int) (hv : vPic wd hi N = true) (h : PW w qa ca N (xs.map (fq 2))) (h2 : PW w qb cb N (bs.map (fq 2))) (ha : ∀ k ∈ xs, 0 ≤ k ∧ k ≤ 16) (hb : ∀ k ∈ bs, 0 ≤ k ∧ k ≤ 16) (hn : n ≤ 8) :
    Calls Try.prog 27 #[.agg #[.int .i64 wd, .int .i64 hi, .slice (some ⟨qa, 0, none⟩) N ca], .agg #[.int .i64 wd, .int .i64 hi, .slice (some ⟨qb, 0, none⟩) N cb], .int .i64 n] w fun e w' =>
      ∃ best : Int, e = .returned (.tuple #[.int .i64 best, .float .f32 (fq 2 (offS xs bs wd hi best)), .bool true]) ∧ -(n : Int) ≤ best ∧ best ≤ n ∧ (∀ j, -(n : Int) ≤ j → j ≤ n → offS xs bs wd hi best ≤ offS xs bs wd hi j ∧ (j < best → offS xs bs wd hi best < offS xs bs wd hi j)) ∧ Below w.heap.size w w' := by
  obtain ⟨e1, e2, d1, d2, d3, d4, e7⟩ := vN hv
  have hin : (decide ((0 : Int) ≤ n) && decide ((n : Int) ≤ 8)) = true := by simp; omega
  have hb0 := below_two w (.cells #[.int .i64 wd, .int .i64 hi, .slice (some ⟨qa, 0, none⟩) N ca] 26) (.cells #[.int .i64 wd, .int .i64 hi, .slice (some ⟨qb, 0, none⟩) N cb] 26)
  have B1 := box_first w (.int .i64 wd) (.int .i64 hi) (.slice (some ⟨qa, 0, none⟩) N ca) 26 (.cells #[.int .i64 wd, .int .i64 hi, .slice (some ⟨qb, 0, none⟩) N cb] 26)
  have B2 := box_second w (.int .i64 wd) (.int .i64 hi) (.slice (some ⟨qb, 0, none⟩) N cb) 26 (.cells #[.int .i64 wd, .int .i64 hi, .slice (some ⟨qa, 0, none⟩) N ca] 26)
  have p1 := h.below hb0
  have p2 := h2.below hb0
  have HE1 := Lib.hid e1
  have hbd := fun k y x => offF_bd ha hb wd hi k y x
  have HBD := Lib.hid hbd
  have hrow : ∀ k y m, 0 ≤ sumN m (offF xs bs wd hi k y) ∧ sumN m (offF xs bs wd hi k y) ≤ 16 * m := fun k y m => sumN_bd m (fun x _ => hbd k y x)
  have hall : ∀ k m, 0 ≤ sumN m (fun y => sumN wd (offF xs bs wd hi k y)) ∧ sumN m (fun y => sumN wd (offF xs bs wd hi k y)) ≤ 384 * m := fun k m => sumN_bd m (fun y _ => by have := hrow k y wd; omega)
  have HROW := Lib.hid hrow
  have HALL := Lib.hid hall
  have hga : ∀ i, 0 ≤ xs.getD i 0 ∧ xs.getD i 0 ≤ 16 := fun i => by
    rw [List.getD_eq_getElem?_getD]
    cases e : xs[i]? with
    | none => exact ⟨Int.le_refl _, by decide⟩
    | some z => exact ha z (List.mem_of_getElem? e)
  have hgb : ∀ i, 0 ≤ bs.getD i 0 ∧ bs.getD i 0 ≤ 16 := fun i => by
    rw [List.getD_eq_getElem?_getD]
    cases e : bs[i]? with
    | none => exact ⟨Int.le_refl _, by decide⟩
    | some z => exact hb z (List.mem_of_getElem? e)
  have HGA := Lib.hid hga
  have HGB := Lib.hid hgb
  have HB0 := Lib.hid hb0
  clear hbd hrow hall hga hgb ha hb h h2 e1 hb0
  go_enter Try.func27, Try.ntmps27
  go_wp2_with fail
  refine (pairOk_yes _ wd hi N _ _ ca cb hv).mono ?_
  rintro e w1 ⟨rfl, hb1⟩
  have X1 := B1.below hb1
  have X2 := B2.below hb1
  have q1 := p1.below hb1
  have q2 := p2.below hb1
  have HBB := Lib.hid (HB0.out.trans (hb1.mono HB0.out.size))
  have P1 : PicAt w1 w.heap.size wd hi (.slice (some ⟨qa, 0, none⟩) N ca) (xs.map (fq 2)) 26 := ⟨X1, q1.sl, by rw [q1.len]; exact HE1.out⟩
  have P2 : PicAt w1 (w.heap.size + 1) wd hi (.slice (some ⟨qb, 0, none⟩) N cb) (bs.map (fq 2)) 26 := ⟨X2, q2.sl, by rw [q2.len]; exact HE1.out⟩
  have KA := Lib.hid (fun m X Y => about_q (w1.drewN m) w.heap.size wd hi _ xs X Y d1 d2 (by omega) (by omega) (P1.drewN m))
  have KB := Lib.hid (fun m X Y => about_q (w1.drewN m) (w.heap.size + 1) wd hi _ bs X Y d1 d2 (by omega) (by omega) (P2.drewN m))
  obtain ⟨z0, z1, z2, -, -, -⟩ := X1.cells
  have Z0 : ∀ m, (w1.drewN m).cell? ⟨w.heap.size, 0, none⟩ = some (.int .i64 wd) := fun _ => z0
  have Z1 : ∀ m, (w1.drewN m).cell? ⟨w.heap.size, 1, none⟩ = some (.int .i64 hi) := fun _ => z1
  clear hb1 X1 X2 q1 q2 P1 P2 B1 B2 p1 p2 z2 HB0
  have n2 : (n : Int) ≤ 8 := by omega
  have w2' : (wd : Int) ≤ 24 := by omega
  have h2' : (hi : Int) ≤ 24 := by omega
  go_wp2_with fail
  refine (in_any _ _ _ _).mono ?_
  rw [hin]
  rintro e w' ⟨rfl, rfl⟩
  clear hin
  go_wp2_with fail
  go_loopw [9, 10, 11, 12] (fun v9 v10 v11 v12 wr => ∃ (m c : Nat) (best low : Int) (fd : Bool), v9 = .int .i64 best ∧ v10 = .float .f32 (fq 2 low) ∧ v11 = .bool fd ∧ v12 = .int .i64 (-(n : Int) + m) ∧ m ≤ 2 * n + 1 ∧ BestTo (offS xs bs wd hi) n m best low fd ∧ wr = w1.drewN c) (fun _ _ _ v12 _ => ((n : Int) + 1 - intOf v12).toNat)
  case atStart => exact ⟨0, 0, 0, 0, false, rfl, by simp [fq_zero], rfl, by simp, Nat.zero_le _, .inl ⟨rfl, rfl, rfl, rfl⟩, rfl⟩
  case round =>
    obtain ⟨m, c, best, low, fd, rfl, rfl, rfl, rfl, hm, hbest, rfl⟩ := hrel
    by_cases hlt : m < 2 * n + 1
    · have c1 : -(n : Int) + m ≤ (n : Int) := by omega
      have HBEST := Lib.hid hbest
      have z1 := Z1 c
      obtain ⟨K, hK⟩ : ∃ K, K = -(n : Int) + m := ⟨_, rfl⟩
      have HK := Lib.hid hK
      have k1 : -8 ≤ K := by omega
      have k2 : K ≤ 8 := by omega
      rw [← hK] at c1 ⊢
      clear hK hbest
      go_wp2_with fail
      go_loopw [13, 34] (fun v13 v34 wr => ∃ y c : Nat, v13 = .float .f32 (fq 2 (sumN y (fun y => sumN wd (offF xs bs wd hi K y)))) ∧ v34 = .int .i64 y ∧ y ≤ hi ∧ wr = w1.drewN c) (fun _ v34 _ => hi - (intOf v34).toNat)
      case atStart => exact ⟨0, c, by simp [sumN, fq_zero], rfl, Nat.zero_le _, rfl⟩
      case round =>
        clear z0 z1
        obtain ⟨y, c, rfl, rfl, hy, rfl⟩ := hrel
        by_cases hly : y < hi
        · have z0 := Z0 c
          have hS := HALL.out K y
          obtain ⟨S, hSS⟩ : ∃ S, S = sumN y (fun y => sumN wd (offF xs bs wd hi K y)) := ⟨_, rfl⟩
          rw [← hSS] at hS ⊢
          have HSS := Lib.hid hSS
          clear hSS
          have yl : (y : Int) < (hi : Int) := by omega
          go_wp2_with fail
          go_loopw [13, 39] (fun v13 v39 wr => ∃ x c : Nat, v13 = .float .f32 (fq 2 (S + sumN x (offF xs bs wd hi K y))) ∧ v39 = .int .i64 x ∧ x ≤ wd ∧ wr = w1.drewN c) (fun _ v39 _ => wd - (intOf v39).toNat)
          case atStart => exact ⟨0, c, by simp [sumN], rfl, Nat.zero_le _, rfl⟩
          case round =>
            clear z0
            obtain ⟨x, c, rfl, rfl, hx, rfl⟩ := hrel
            by_cases hlx : x < wd
            · have hr := HROW.out K y x
              have xl : (x : Int) < (wd : Int) := by omega
              have ga := HGA.out (ix (x : Int) (y : Int) wd hi)
              have gb := HGB.out (ix (x : Int) ((y : Int) + K) wd hi)
              have KA1 := Lib.hid (KA.out c x y)
              have KB1 := Lib.hid (fun c => KB.out c x ((y : Int) + K))
              have hoff : offF xs bs wd hi K y x = ((xs.getD (ix (x : Int) (y : Int) wd hi) 0 - bs.getD (ix (x : Int) ((y : Int) + K) wd hi) 0).natAbs : Nat) := rfl
              have HOFF := Lib.hid hoff
              have hsum : S + sumN (x + 1) (offF xs bs wd hi K y) = S + sumN x (offF xs bs wd hi K y) + offF xs bs wd hi K y x := by show S + (sumN x _ + _) = _; omega
              have HSUM := Lib.hid hsum
              clear hoff hsum
              generalize xs.getD (ix (x : Int) (y : Int) wd hi) 0 = av at *
              generalize bs.getD (ix (x : Int) ((y : Int) + K) wd hi) 0 = bv at *
              generalize sumN x (offF xs bs wd hi K y) = T at *
              have sb := fq_sub (g := 2) (a := av) (b := bv) (by omega) (by omega) (by omega)
              have ab := fq_abs (z := av - bv) (by omega)
              have hlt32 := fq_lt (g := 2) (k := av - bv) (by omega)
              have ad := fq_add (g := 2) (a := S + T) (b := ((av - bv).natAbs : Nat)) (by omega) (by omega) (by omega)
              obtain ⟨zz, hzz⟩ : ∃ zz, zz = fq 2 (S + T + ((av - bv).natAbs : Nat)) := ⟨_, rfl⟩
              rw [← hzz, ← ab] at ad
              have HZZ := Lib.hid hzz
              generalize fq 2 (av - bv) = dv at *
              generalize fq 2 av = fa at *
              generalize fq 2 bv = fb at *
              generalize fq 2 (S + T) = fs at *
              have a1 := fres_some sb
              have a2 := fdr_some sb
              have a3 := fres_some ad
              have a4 := fdr_some ad
              have hd0 : ∀ W : World, W.drewN 0 = W := fun _ => rfl
              clear hzz sb ad ab ga gb hr hS
              go_wp2_with fail
              refine KA1.out.mono ?_
              rintro e w' ⟨rfl, m1, rfl⟩
              go_wp2_with fail
              refine (KB1.out _).mono ?_
              rintro e w' ⟨rfl, m2, rfl⟩
              go_wp2_with fail
              refine (abs_any _ hlt32 _).mono ?_
              rintro e w' ⟨rfl, rfl⟩
              go_wp2
              go_roundw
              case rel => exact ⟨x + 1, _, by rw [HZZ.out, HSUM.out, HOFF.out], by go_num, by omega, rfl⟩
              case measure => simp [intOf]; omega
            · obtain rfl : x = wd := by omega
              have z0 := Z0 c
              go_wp2
              go_roundw
              case rel => exact ⟨y + 1, c, by rw [HSS.out]; rfl, by go_num, by omega, rfl⟩
              case measure => simp [intOf]; omega
        · obtain rfl : y = hi := by omega
          have z1 := Z1 c
          have hS := HALL.out K y
          have hoe : sumN y (fun y' => sumN wd (offF xs bs wd y K y')) = offS xs bs wd y K := rfl
          rw [hoe] at hS
          rw [hoe]
          have hst := HBEST.out.step
          rw [← HK.out] at hst
          have hlow : 0 ≤ low ∧ low ≤ 384 * y := by
            rcases HBEST.out with ⟨_, _, _, e⟩ | ⟨_, _, _, e, _⟩
            · omega
            · rw [e]; exact HALL.out best y
          have HST := Lib.hid hst
          have HSUMK := Lib.hid hoe
          clear hst hoe
          have l1 := lt32_fq (g := 2) (a := offS xs bs wd y K) (b := low) (by omega) (by omega)
          have hnn := fq_nan (g := 2) (k := offS xs bs wd y K) (by omega)
          obtain ⟨sk, hsk⟩ : ∃ sk, sk = fq 2 (offS xs bs wd y K) := ⟨_, rfl⟩
          obtain ⟨lw, hlw⟩ : ∃ lw, lw = fq 2 low := ⟨_, rfl⟩
          rw [← hsk] at l1 hnn ⊢
          rw [← hlw] at l1 ⊢
          have HSK := Lib.hid hsk
          have HLW := Lib.hid hlw
          clear hsk hlw hS hlow
          cases fd
          · have hup := HST.out.1 (.inl rfl)
            have HUP := Lib.hid hup
            clear hup l1
            go_wp2_with fail
            refine (isNumber_any _ _).mono ?_
            rw [hnn]
            rintro e w' ⟨rfl, rfl⟩
            go_wp2
            go_roundw
            case rel => exact ⟨m + 1, c, K, offS xs bs wd y K, true, rfl, by rw [HSK.out], rfl, by rw [HK.out]; go_num, by omega, HUP.out, rfl⟩
            case measure => simp [intOf]; omega
          · by_cases hl : offS xs bs wd y K < low
            · have hup := HST.out.1 (.inr hl)
              have HUP := Lib.hid hup
              simp only [hl, decide_true] at l1
              clear hup hl
              go_wp2_with fail
              refine (isNumber_any _ _).mono ?_
              rw [hnn]
              rintro e w' ⟨rfl, rfl⟩
              go_wp2
              go_roundw
              case rel => exact ⟨m + 1, c, K, offS xs bs wd y K, true, rfl, by rw [HSK.out], rfl, by rw [HK.out]; go_num, by omega, HUP.out, rfl⟩
              case measure => simp [intOf]; omega
            · have hup := HST.out.2 (by simp; omega)
              have HUP := Lib.hid hup
              simp only [hl, decide_false] at l1
              clear hup hl
              go_wp2_with fail
              refine (isNumber_any _ _).mono ?_
              rw [hnn]
              rintro e w' ⟨rfl, rfl⟩
              go_wp2
              go_roundw
              case rel => exact ⟨m + 1, c, best, low, true, rfl, by rw [HLW.out], rfl, by rw [HK.out]; go_num, by omega, HUP.out, rfl⟩
              case measure => simp [intOf]; omega
    · obtain rfl : m = 2 * n + 1 := by omega
      have c2 : ¬ -(n : Int) + ((2 * n + 1 : Nat) : Int) ≤ (n : Int) := by omega
      rcases hbest with ⟨_, e, _⟩ | ⟨rfl, g1, g2, rfl, g4⟩
      · omega
      · have G4 := Lib.hid g4
        clear g4
        go_wp2
        go_ret3
        exact ⟨best, rfl, g1, by omega, fun j a b => G4.out j a (by omega), below_drewN HBB.out _⟩

end Go.Proofs.Ytialajgobpokmaa

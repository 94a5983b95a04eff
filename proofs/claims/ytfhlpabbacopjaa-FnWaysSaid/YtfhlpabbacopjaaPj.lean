/- impl.jump: what it costs to come to each disparity. Printed by genjump.py. -/
import Derived.Test.YtfhlpabbacopjaaPw
import Derived.Deep.RegionHeld3
import Derived.StillTactics

namespace Go.Proofs.Ytfhlpabbacopjaa
open Go.RowKit
set_option maxRecDepth 100000
set_option linter.unusedVariables false
set_option linter.unusedSimpArgs false

theorem OwnF.made1 (w : World) (r : Nat) (h : r < 4294967296) : OwnF (w.alloc (.cells #[.float .f32 r] 28)) w.heap.size (.slice (some ⟨w.heap.size, 0, none⟩) 1 1) [r] :=
  ⟨⟨rfl, .inr ⟨w.heap.size, 1, #[.float .f32 r], rfl, Nat.le_refl _, heap_alloc_new w _, Nat.le_refl _, by unfold maxLen; omega, rfl, rfl⟩⟩, by simpa using h⟩
theorem cell_one_drew (w : World) (x : Value) (t : TypeId) : ∀ j u, [x][j]? = some u → ((w.alloc (.cells #[x] t)).drew).cell? ((⟨w.heap.size, 0, none⟩ : Addr).add j) = some u := fun j u h => cell_one_new w x t j u h
theorem own_snoc {w2 : World} {B gg cap n v : Nat} {ks : List Int} {k : Int} (hv : fq 2 k = v) (hown : w2.ownsRow B 28 1 (.slice (some ⟨gg, 0, none⟩) (n + 1) cap) (n + 1) ((ks.map (fq 2)).map (Value.float .f32) ++ [.float .f32 v])) (hl : ks.length = n) (hb : qb ks) (hk : k.natAbs ≤ 4000000) :
    OwnF w2 B (.slice (some ⟨gg, 0, none⟩) (n + 1) cap) ((ks ++ [k]).map (fq 2)) := by
  subst hl hv
  refine ⟨by simpa using hown, fun b hb' => ?_⟩
  obtain ⟨z, hz, rfl⟩ := List.mem_map.1 hb'
  rcases List.mem_append.1 hz with h | h
  · exact fq_lt (by have := hb z h; omega)
  · simp at h; subst h; exact fq_lt (by omega)

/-- A narrower bound. -/
def qb3 (ks : List Int) : Prop := ∀ k ∈ ks, k.natAbs ≤ 3000000
theorem qb3.get {ks : List Int} (h : qb3 ks) (i : Nat) : (ks.getD i 0).natAbs ≤ 3000000 := by
  rw [List.getD_eq_getElem?_getD]
  cases e : ks[i]? with
  | none => show (0 : Int).natAbs ≤ _; omega
  | some z => exact h z (List.mem_of_getElem? e)
theorem qb3.qb {ks : List Int} (h : qb3 ks) : qb ks := fun k hk => by have := h k hk; omega
theorem jumpI_take (b : List Int) (one more : Int) (d : Nat) : (List.range (d + 1)).map (jumpAt b one more) = (List.range d).map (jumpAt b one more) ++ [jumpAt b one more d] := by rw [List.range_succ]; simp
theorem jumpAt_bound {b : List Int} {one more : Int} {d : Nat} (h1 : 0 ≤ one) (h2 : 0 ≤ more) (hb : qb3 b) (hd : d < b.length) : (jumpAt b one more d).natAbs ≤ 3000000 := by
  have a := jumpAt_le_own b one more d
  have c := jumpAt_ge (b := b) h1 h2 hd
  have e := hb.get d
  have f := hb _ (minL_mem (List.ne_nil_of_length_pos (show 0 < b.length by omega)))
  omega

/-- What a call that makes a list of quarters gives. -/
def MakesQ (w : World) (ks : List Int) (e : Ending) (w' : World) : Prop :=
  ∃ g c, e = .returned (.slice (some ⟨g, 0, none⟩) ks.length c) ∧ OwnF w' w.heap.size (.slice (some ⟨g, 0, none⟩) ks.length c) (ks.map (fq 2)) ∧ Below w.heap.size w w'

set_option maxHeartbeats 4000000 in
theorem jump_any (w : World) (b off n cap : Nat) (ks : List Int) (one more : Int) (h : SlF w (.slice (some ⟨b, off, none⟩) n cap) (ks.map (fq 2))) (hl : ks.length = n) (hlt : b < w.heap.size) (hb : qb3 ks) (h1 : 0 ≤ one) (h2 : 0 ≤ more) (h3 : one ≤ 1000000) (h4 : more ≤ 1000000) (hn : 1 ≤ n) (hn2 : n ≤ 8) :
    Calls Try.prog 85 #[.slice (some ⟨b, off, none⟩) n cap, .agg #[.float .f32 (fq 2 one), .float .f32 (fq 2 more)]] w (MakesQ w (jumpI ks one more)) := by
  obtain ⟨i0, hi0, hz0, hz1, hz2⟩ := info_parts info_f32
  have hbel1 : Below w.heap.size w (w.alloc (.cells #[.float .f32 (fq 2 one), .float .f32 (fq 2 more)] 30)) := (Below.refl _ _).alloc (Nat.le_refl _) _
  generalize hw1 : w.alloc (.cells #[.float .f32 (fq 2 one), .float .f32 (fq 2 more)] 30) = w1 at *
  have hs1 : w1.heap.size = w.heap.size + 1 := by rw [← hw1]; simp
  have hsl1 := h.below hbel1
  have KB : ∀ W, Below w1.heap.size w1 W → (∀ i, i < n → W.cell? ⟨b, off + i, none⟩ = some (.float .f32 (fq 2 (ks.getD i 0)))) ∧ W.cell? ⟨w.heap.size, 0, none⟩ = some (.float .f32 (fq 2 one)) ∧ W.cell? ⟨w.heap.size, 1, none⟩ = some (.float .f32 (fq 2 more)) := by
    intro W hW
    refine ⟨fun i hi => ?_, ?_, ?_⟩
    · have := ((hsl1.below hW).at i (by simpa using (by omega : i < ks.length))).1
      rwa [getD_map_fq 2 ks i (by omega)] at this
    · rw [hW.cell (p := ⟨w.heap.size, 0, none⟩) (by show w.heap.size < _; omega), ← hw1]; simp [go_sem]
    · rw [hW.cell (p := ⟨w.heap.size, 1, none⟩) (by show w.heap.size < _; omega), ← hw1]; simp [go_sem]
  have KB := Lib.hid KB
  have hmb : (minL ks).natAbs ≤ 3000000 := hb _ (minL_mem (List.ne_nil_of_length_pos (by omega)))
  have KL := Lib.hid (leastOf_any w1 _ ks hsl1 hb.qb (by omega) (by omega))
  have ha0 : Below w1.heap.size w1 (w1.alloc (.cells #[] 28)) := (Below.refl _ _).alloc (Nat.le_refl _) _
  have KL2 := Lib.hid (leastOf_any (w1.alloc (.cells #[] 28)) _ ks (hsl1.below ha0) hb.qb (by omega) (by omega))
  have HK := Lib.hid hl
  have HW1 := Lib.hid hw1
  have HS1 := Lib.hid hs1
  have hs1le : w.heap.size < w1.heap.size := by omega
  have HBEL := Lib.hid hbel1
  have HB := Lib.hid hb
  have start : OwnF (w1.alloc (.cells #[] 28)) w1.heap.size (.slice (some ⟨w1.heap.size, 0, none⟩) 0 0) (((List.range 0).map (jumpAt ks one more)).map (fq 2)) :=
    ⟨⟨rfl, .inr ⟨w1.heap.size, 0, #[], rfl, Nat.le_refl _, heap_alloc_new w1 _, Nat.le_refl _, by unfold maxLen; omega, rfl, rfl⟩⟩, by simp⟩
  have hmb1 : minL ks ≤ 3000000 := by omega
  have hmb2 : -3000000 ≤ minL ks := by omega
  generalize hA : minL ks = mL at *
  have HA := Lib.hid hA
  generalize hVo : fq 2 one = vo at *
  generalize hVm : fq 2 more = vm at *
  generalize hVL : fq 2 mL = vL at *
  have HVO := Lib.hid hVo
  have HVM := Lib.hid hVm
  have HVL := Lib.hid hVL
  clear hsl1 hmb hl hb hbel1 hs1 hA hVo hVm hVL
  go_enter Try.func85, Try.ntmps85
  go_wp2_with fail
  clear hw1
  refine KL2.out.mono ?_
  rintro e w' ⟨rfl, rfl⟩
  go_wp2_with fail
  go_loopw [5, 15] (fun v5 v15 wr => ∃ d g c : Nat, v5 = .slice (some ⟨g, 0, none⟩) d c ∧ v15 = .int .i64 d ∧ d ≤ n ∧ OwnF wr w1.heap.size (.slice (some ⟨g, 0, none⟩) d c) (((List.range d).map (jumpAt ks one more)).map (fq 2)) ∧ Below w1.heap.size w1 wr) (fun v5 v15 _ => n - (intOf v15).toNat)
  case atStart => exact ⟨0, _, _, rfl, rfl, Nat.zero_le _, start, ha0⟩
  case round =>
    clear start ha0 KL KL2
    obtain ⟨d, g, c, rfl, rfl, hd, hown, hbl⟩ := hrel
    by_cases hlt : d < n
    · have hsz := hbl.size
      have hgB := hown.lt (k := g) rfl
      have hjb := jumpAt_bound h1 h2 HB.out (show d < ks.length by rw [HK.out]; exact hlt)
      obtain ⟨kc, k1, k2⟩ := KB.out wr hbl
      have kd := kc d hlt
      have gd := HB.out.get d
      generalize hz : ks.getD d 0 = z at *
      have HZ := Lib.hid hz
      generalize hVz : fq 2 z = vz at *
      have HVZ := Lib.hid hVz
      have l0 : OwnF (wr.alloc (.cells #[.float .f32 vz] 28)) wr.heap.size (.slice (some ⟨wr.heap.size, 0, none⟩) 1 1) [vz] := OwnF.made1 wr vz (by rw [← hVz]; exact fq_lt (by omega))
      have bl0 : Below w1.heap.size w1 (wr.alloc (.cells #[.float .f32 vz] 28)) := hbl.alloc hsz _
      have o0 := hown.below ((Below.refl wr.heap.size wr).alloc (Nat.le_refl _) (.cells #[.float .f32 vz] 28))
      have HO := Lib.hid hown
      have HBL := Lib.hid hbl
      have L0 := Lib.hid l0
      have O0 := Lib.hid o0
      have BL0 := Lib.hid bl0
      clear hown hbl l0 o0 bl0 kc k1 k2 hz hVz
      by_cases hd0 : 0 < d
      · by_cases hd1 : d + 1 < n
        · as_aux_lemma =>
          obtain ⟨e, rfl⟩ : ∃ e, d = e + 1 := ⟨d - 1, by omega⟩
          have t1 : (e : Int) + 1 + 1 < n := by omega
          go_wp2_with fail
          generalize hwx : wr.alloc (.cells #[.float .f32 vz] 28) = wx0 at *
          obtain ⟨kc1, p01, p11⟩ := KB.out wx0 BL0.out
          have kx1 := kc1 (e) (by omega)
          have gx1 := HB.out.get (e)
          generalize hx1 : ks.getD (e) 0 = x1 at kx1 gx1
          have HX1 := Lib.hid hx1
          have ad1 := fq_add (g := 2) (a := x1) (b := one) (by omega) (by omega) (by omega)
          rw [HVO.out] at ad1
          generalize hvx1 : fq 2 x1 = vx1 at *
          generalize hvs1 : fq 2 (x1 + one) = vs1 at *
          have HVS1 := Lib.hid hvs1
          have ar1 := fres_some ad1
          have af1 := fdr_some ad1
          have hd0 : ∀ W : World, W.drewN 0 = W := fun _ => rfl
          have hsz1 := BL0.out.size
          have ow1 := L0.out.1
          have wr1 : IntKind.i64.wrap (((e : Nat)) : Int) = (((e : Nat)) : Int) := IntWalk.i64_in _ (by omega)
          have wi1 : (((e : Nat)) : Int) < n := by omega
          clear kc1 p11 hx1 ad1 hvx1 hvs1
          have hlk1 := L0.out.lt (k := wr.heap.size) rfl
          go_region_held3 (fun w' => w'.cell? ⟨b, off + (e), none⟩ = some (.float .f32 vx1) ∧ w'.cell? ⟨w.heap.size, 0, none⟩ = some (.float .f32 vo))
            (first
              | go_keep
              | (go_split_ands
                 refine ⟨?_, ?_⟩
                 · (rw [hg1.cell_far _ (by simp; omega) (by simp [Value.ownBlock]; omega)]; assumption)
                 · (rw [hg1.cell_far _ (by simp; omega) (by simp [Value.ownBlock]; omega)]; assumption)))
            ((refine step_append_lies _ (by rfl) _ _ _ (by rfl) (wr.heap.size) 28 i0 _ 1 4 Try.underlying24 hi0 hz0 hz1 hz2 rfl (by omega) (.slice (some ⟨wr.heap.size, 0, none⟩) 1 1) (1) _ (by rfl) (World.ownsRow.drew (World.ownsRow.alloc ow1 _)) ⟨wx0.heap.size, 0, none⟩ 1 1 [.float .f32 vs1] (by rfl) (by rfl) (cell_one_drew _ _ _) (by simp [Value.oneCell']) (by omega) (by unfold maxLen; omega) (by omega) (by simp; omega) (wx0.heap.size + 1) (by simp) ?_; intro g1 c1 wx1 hw1 hg1 hat1 hlt1))
          have hg1 : (wx0.alloc (.cells #[.float .f32 vs1] 28)).grownBy wx1 (Value.ownBlock (.slice (some ⟨wr.heap.size, 0, none⟩) 1 1)) := ⟨hg1.os, hg1.tape, hg1.output, hg1.size, hg1.block⟩
          have bl1 : Below w1.heap.size w1 wx1 := (BL0.out.alloc hsz1 (.cells #[.float .f32 vs1] 28)).grown hg1 (by simp; omega) (fun k hk => by have := (L0.out.lt hk).1; omega)
          have lo1 : OwnF wx1 wr.heap.size (.slice (some ⟨g1, 0, none⟩) (1 + 1) c1) (([z] ++ [x1 + one]).map (fq 2)) := own_snoc HVS1.out (by have := HVZ.out; subst this; simpa using hw1) (by simp) (by intro k hk; simp at hk; omega) (by omega)
          have oo1 : OwnF wx1 w1.heap.size (.slice (some ⟨g, 0, none⟩) (e + 1) c) (((List.range (e + 1)).map (jumpAt ks one more)).map (fq 2)) := (O0.out.below ((Below.refl wx0.heap.size wx0).alloc (Nat.le_refl _) (.cells #[.float .f32 vs1] 28))).grown hg1 (.inr (by simp [Value.ownBlock]; have := L0.out.lt (k := wr.heap.size) rfl; omega))
          have LO1 := Lib.hid lo1
          have OO1 := Lib.hid oo1
          have BB1 := Lib.hid bl1
          clear lo1 oo1 bl1 hw1 hg1 hat1 ow1 kx1 p01 ar1 af1
          go_wp2_with fail
          obtain ⟨kc2, p02, p12⟩ := KB.out wx1 BB1.out
          have kx2 := kc2 (e + 1 + 1) (by omega)
          have gx2 := HB.out.get (e + 1 + 1)
          generalize hx2 : ks.getD (e + 1 + 1) 0 = x2 at kx2 gx2
          have HX2 := Lib.hid hx2
          have ad2 := fq_add (g := 2) (a := x2) (b := one) (by omega) (by omega) (by omega)
          rw [HVO.out] at ad2
          generalize hvx2 : fq 2 x2 = vx2 at *
          generalize hvs2 : fq 2 (x2 + one) = vs2 at *
          have HVS2 := Lib.hid hvs2
          have ar2 := fres_some ad2
          have af2 := fdr_some ad2
          have hd0 : ∀ W : World, W.drewN 0 = W := fun _ => rfl
          have hsz2 := BB1.out.size
          have ow2 := LO1.out.1
          have wr2 : IntKind.i64.wrap (((e + 1 + 1 : Nat)) : Int) = (((e + 1 + 1 : Nat)) : Int) := IntWalk.i64_in _ (by omega)
          have wi2 : (((e + 1 + 1 : Nat)) : Int) < n := by omega
          have wo2 : (0 : Int) ≤ (((e + 1 + 1 : Nat)) : Int) := by omega
          have wt2 : ((((e + 1 + 1 : Nat)) : Int)).toNat = e + 1 + 1 := by omega
          simp only [Int.natCast_add, Int.natCast_one] at wr2 wi2 wo2 wt2
          clear kc2 p12 hx2 ad2 hvx2 hvs2
          have hlk2 := LO1.out.lt (k := g1) rfl
          go_region_held3 (fun w' => w'.cell? ⟨b, off + (e + 1 + 1), none⟩ = some (.float .f32 vx2) ∧ w'.cell? ⟨w.heap.size, 0, none⟩ = some (.float .f32 vo))
            (first
              | go_keep
              | (go_split_ands
                 refine ⟨?_, ?_⟩
                 · (rw [hg2.cell_far _ (by simp; omega) (by simp [Value.ownBlock]; omega)]; assumption)
                 · (rw [hg2.cell_far _ (by simp; omega) (by simp [Value.ownBlock]; omega)]; assumption)))
            ((refine step_append_lies _ (by rfl) _ _ _ (by rfl) (wr.heap.size) 28 i0 _ 1 4 Try.underlying24 hi0 hz0 hz1 hz2 rfl (by omega) (.slice (some ⟨g1, 0, none⟩) 2 c1) (2) _ (by rfl) (World.ownsRow.drew (World.ownsRow.alloc ow2 _)) ⟨wx1.heap.size, 0, none⟩ 1 1 [.float .f32 vs2] (by rfl) (by rfl) (cell_one_drew _ _ _) (by simp [Value.oneCell']) (by omega) (by unfold maxLen; omega) (by omega) (by simp; omega) (wx1.heap.size + 1) (by simp) ?_; intro g2 c2 wx2 hw2 hg2 hat2 hlt2))
          have hg2 : (wx1.alloc (.cells #[.float .f32 vs2] 28)).grownBy wx2 (Value.ownBlock (.slice (some ⟨g1, 0, none⟩) 2 c1)) := ⟨hg2.os, hg2.tape, hg2.output, hg2.size, hg2.block⟩
          have bl2 : Below w1.heap.size w1 wx2 := (BB1.out.alloc hsz2 (.cells #[.float .f32 vs2] 28)).grown hg2 (by simp; omega) (fun k hk => by have := (LO1.out.lt hk).1; omega)
          have lo2 : OwnF wx2 wr.heap.size (.slice (some ⟨g2, 0, none⟩) (2 + 1) c2) ((([z] ++ [x1 + one]) ++ [x2 + one]).map (fq 2)) := own_snoc HVS2.out (by have := HVZ.out; subst this; simpa [HVS1.out] using hw2) (by simp) (by intro k hk; simp at hk; omega) (by omega)
          have oo2 : OwnF wx2 w1.heap.size (.slice (some ⟨g, 0, none⟩) (e + 1) c) (((List.range (e + 1)).map (jumpAt ks one more)).map (fq 2)) := (OO1.out.below ((Below.refl wx1.heap.size wx1).alloc (Nat.le_refl _) (.cells #[.float .f32 vs2] 28))).grown hg2 (.inr (by simp [Value.ownBlock]; have := LO1.out.lt (k := g1) rfl; omega))
          have LO2 := Lib.hid lo2
          have OO2 := Lib.hid oo2
          have BB2 := Lib.hid bl2
          clear lo2 oo2 bl2 hw2 hg2 hat2 ow2 kx2 p02 ar2 af2
          obtain ⟨kc9, p09, p19⟩ := KB.out wx2 BB2.out
          have ad9 := fq_add (g := 2) (a := more) (b := mL) (by omega) (by omega) (by omega)
          rw [HVM.out, HVL.out] at ad9
          generalize hvs9 : fq 2 (more + mL) = vs9 at *
          have HVS9 := Lib.hid hvs9
          have ar9 := fres_some ad9
          have af9 := fdr_some ad9
          have hd0 : ∀ W : World, W.drewN 0 = W := fun _ => rfl
          have hsz9 := BB2.out.size
          have ow9 := LO2.out.1
          clear kc9 p09 ad9 hvs9
          have hlk9 := LO2.out.lt (k := g2) rfl
          go_wp2_with (at_builtin; refine wpList_append_lies _ (by rfl) _ _ _ (by rfl) (wr.heap.size) 28 i0 _ 1 4 Try.underlying24 hi0 hz0 hz1 hz2 rfl (by omega) (.slice (some ⟨g2, 0, none⟩) 3 c2) (3) _ (by rfl) (by exact World.ownsRow.alloc ow9 _) ⟨wx2.heap.size, 0, none⟩ 1 1 [.float .f32 vs9] (by rfl) (by rfl) (cell_one_new _ _ _) (by simp [Value.oneCell']) (by omega) (by unfold maxLen; omega) (by omega) (by simp; omega) (wx2.heap.size + 1) (by simp) ?_; intro g9 c9 wx9 hw9 hg9 hat9 hlt9)
          have bl9 : Below w1.heap.size w1 wx9 := (BB2.out.alloc hsz9 (.cells #[.float .f32 vs9] 28)).grown hg9 (by simp; omega) (fun k hk => by have := (LO2.out.lt hk).1; omega)
          have lo9 : OwnF wx9 wr.heap.size (.slice (some ⟨g9, 0, none⟩) (3 + 1) c9) (((([z] ++ [x1 + one]) ++ [x2 + one]) ++ [more + mL]).map (fq 2)) := own_snoc HVS9.out (by have := HVZ.out; subst this; simpa [HVS1.out, HVS2.out] using hw9) (by simp) (by intro k hk; simp at hk; omega) (by omega)
          have oo9 : OwnF wx9 w1.heap.size (.slice (some ⟨g, 0, none⟩) (e + 1) c) (((List.range (e + 1)).map (jumpAt ks one more)).map (fq 2)) := (OO2.out.below ((Below.refl wx2.heap.size wx2).alloc (Nat.le_refl _) (.cells #[.float .f32 vs9] 28))).grown hg9 (.inr (by simp [Value.ownBlock]; have := LO2.out.lt (k := g2) rfl; omega))
          have hJ : minL ((([z] ++ [x1 + one]) ++ [x2 + one]) ++ [more + mL]) = jumpAt ks one more (e + 1) := by
            unfold jumpAt jumpC
            rw [HZ.out, HA.out, HK.out, if_pos (show 0 < e + 1 by omega), if_pos (show e + 1 + 1 < n by omega)]
            rw [Nat.add_sub_cancel]
            rw [HX1.out, HX2.out]
          have HJ := Lib.hid hJ
          have hsz0 := bl9.size
          refine (leastOf_any wx9 _ ((([z] ++ [x1 + one]) ++ [x2 + one]) ++ [more + mL]) lo9.sl (by intro k hk; simp at hk; omega) (by simp) (by simp)).mono ?_
          rintro e' w' ⟨rfl, rfl⟩
          rw [HJ.out]
          have ow0 := oo9.1
          rw [List.length_map, List.length_map, List.length_range] at ow0
          have HBL9 := Lib.hid bl9
          have HO9 := Lib.hid oo9
          clear bl9 lo9 oo9 hJ hw9 hg9 hat9 ow9 ar9 af9 p19
          generalize hjv : jumpAt ks one more (e + 1) = jv at *
          generalize hvj : fq 2 jv = vj at *
          have HJV := Lib.hid hjv
          have HVJ := Lib.hid hvj
          clear hjv hvj
          go_wp2_with (at_builtin; refine wpList_append_lies _ (by rfl) _ _ _ (by rfl) (w1.heap.size) 28 i0 _ 1 4 Try.underlying24 hi0 hz0 hz1 hz2 rfl (by omega) (.slice (some ⟨g, 0, none⟩) (e + 1) c) ((e + 1)) _ (by rfl) (by exact World.ownsRow.alloc ow0 _) ⟨wx9.heap.size, 0, none⟩ 1 1 [.float .f32 vj] (by rfl) (by rfl) (cell_one_new _ _ _) (by simp [Value.oneCell']) (by omega) (by unfold maxLen; omega) (by omega) (by simp; omega) (wx9.heap.size + 1) (by simp) ?_; intro gA cA wA hwA hgA hatA hltA)
          go_roundw
          case rel =>
            refine ⟨e + 1 + 1, gA, cA, rfl, by go_num, by omega, ?_, (HBL9.out.alloc hsz0 (.cells #[.float .f32 vj] 28)).grown hgA (by simp; omega) (fun k hk => by have := (HO9.out.lt hk).1; omega)⟩
            rw [jumpI_take, HJV.out]
            exact own_snoc HVJ.out hwA (by simp) (fun k hk => by obtain ⟨i, hi, rfl⟩ := List.mem_map.1 hk; have := jumpAt_bound (more := more) h1 h2 HB.out (show i < ks.length by rw [HK.out]; have := List.mem_range.1 hi; omega); omega) (by omega)
          case measure => simp [intOf]; omega
        · as_aux_lemma =>
          obtain ⟨e, rfl⟩ : ∃ e, d = e + 1 := ⟨d - 1, by omega⟩
          have t1 : ¬ (e : Int) + 1 + 1 < n := by omega
          go_wp2_with fail
          generalize hwx : wr.alloc (.cells #[.float .f32 vz] 28) = wx0 at *
          obtain ⟨kc1, p01, p11⟩ := KB.out wx0 BL0.out
          have kx1 := kc1 (e) (by omega)
          have gx1 := HB.out.get (e)
          generalize hx1 : ks.getD (e) 0 = x1 at kx1 gx1
          have HX1 := Lib.hid hx1
          have ad1 := fq_add (g := 2) (a := x1) (b := one) (by omega) (by omega) (by omega)
          rw [HVO.out] at ad1
          generalize hvx1 : fq 2 x1 = vx1 at *
          generalize hvs1 : fq 2 (x1 + one) = vs1 at *
          have HVS1 := Lib.hid hvs1
          have ar1 := fres_some ad1
          have af1 := fdr_some ad1
          have hd0 : ∀ W : World, W.drewN 0 = W := fun _ => rfl
          have hsz1 := BL0.out.size
          have ow1 := L0.out.1
          have wr1 : IntKind.i64.wrap (((e : Nat)) : Int) = (((e : Nat)) : Int) := IntWalk.i64_in _ (by omega)
          have wi1 : (((e : Nat)) : Int) < n := by omega
          clear kc1 p11 hx1 ad1 hvx1 hvs1
          have hlk1 := L0.out.lt (k := wr.heap.size) rfl
          go_region_held3 (fun w' => w'.cell? ⟨b, off + (e), none⟩ = some (.float .f32 vx1) ∧ w'.cell? ⟨w.heap.size, 0, none⟩ = some (.float .f32 vo))
            (first
              | go_keep
              | (go_split_ands
                 refine ⟨?_, ?_⟩
                 · (rw [hg1.cell_far _ (by simp; omega) (by simp [Value.ownBlock]; omega)]; assumption)
                 · (rw [hg1.cell_far _ (by simp; omega) (by simp [Value.ownBlock]; omega)]; assumption)))
            ((refine step_append_lies _ (by rfl) _ _ _ (by rfl) (wr.heap.size) 28 i0 _ 1 4 Try.underlying24 hi0 hz0 hz1 hz2 rfl (by omega) (.slice (some ⟨wr.heap.size, 0, none⟩) 1 1) (1) _ (by rfl) (World.ownsRow.drew (World.ownsRow.alloc ow1 _)) ⟨wx0.heap.size, 0, none⟩ 1 1 [.float .f32 vs1] (by rfl) (by rfl) (cell_one_drew _ _ _) (by simp [Value.oneCell']) (by omega) (by unfold maxLen; omega) (by omega) (by simp; omega) (wx0.heap.size + 1) (by simp) ?_; intro g1 c1 wx1 hw1 hg1 hat1 hlt1))
          have hg1 : (wx0.alloc (.cells #[.float .f32 vs1] 28)).grownBy wx1 (Value.ownBlock (.slice (some ⟨wr.heap.size, 0, none⟩) 1 1)) := ⟨hg1.os, hg1.tape, hg1.output, hg1.size, hg1.block⟩
          have bl1 : Below w1.heap.size w1 wx1 := (BL0.out.alloc hsz1 (.cells #[.float .f32 vs1] 28)).grown hg1 (by simp; omega) (fun k hk => by have := (L0.out.lt hk).1; omega)
          have lo1 : OwnF wx1 wr.heap.size (.slice (some ⟨g1, 0, none⟩) (1 + 1) c1) (([z] ++ [x1 + one]).map (fq 2)) := own_snoc HVS1.out (by have := HVZ.out; subst this; simpa using hw1) (by simp) (by intro k hk; simp at hk; omega) (by omega)
          have oo1 : OwnF wx1 w1.heap.size (.slice (some ⟨g, 0, none⟩) (e + 1) c) (((List.range (e + 1)).map (jumpAt ks one more)).map (fq 2)) := (O0.out.below ((Below.refl wx0.heap.size wx0).alloc (Nat.le_refl _) (.cells #[.float .f32 vs1] 28))).grown hg1 (.inr (by simp [Value.ownBlock]; have := L0.out.lt (k := wr.heap.size) rfl; omega))
          have LO1 := Lib.hid lo1
          have OO1 := Lib.hid oo1
          have BB1 := Lib.hid bl1
          clear lo1 oo1 bl1 hw1 hg1 hat1 ow1 kx1 p01 ar1 af1
          obtain ⟨kc9, p09, p19⟩ := KB.out wx1 BB1.out
          have ad9 := fq_add (g := 2) (a := more) (b := mL) (by omega) (by omega) (by omega)
          rw [HVM.out, HVL.out] at ad9
          generalize hvs9 : fq 2 (more + mL) = vs9 at *
          have HVS9 := Lib.hid hvs9
          have ar9 := fres_some ad9
          have af9 := fdr_some ad9
          have hd0 : ∀ W : World, W.drewN 0 = W := fun _ => rfl
          have hsz9 := BB1.out.size
          have ow9 := LO1.out.1
          clear kc9 p09 ad9 hvs9
          have hlk9 := LO1.out.lt (k := g1) rfl
          go_wp2_with (at_builtin; refine wpList_append_lies _ (by rfl) _ _ _ (by rfl) (wr.heap.size) 28 i0 _ 1 4 Try.underlying24 hi0 hz0 hz1 hz2 rfl (by omega) (.slice (some ⟨g1, 0, none⟩) 2 c1) (2) _ (by rfl) (by exact World.ownsRow.alloc ow9 _) ⟨wx1.heap.size, 0, none⟩ 1 1 [.float .f32 vs9] (by rfl) (by rfl) (cell_one_new _ _ _) (by simp [Value.oneCell']) (by omega) (by unfold maxLen; omega) (by omega) (by simp; omega) (wx1.heap.size + 1) (by simp) ?_; intro g9 c9 wx9 hw9 hg9 hat9 hlt9)
          have bl9 : Below w1.heap.size w1 wx9 := (BB1.out.alloc hsz9 (.cells #[.float .f32 vs9] 28)).grown hg9 (by simp; omega) (fun k hk => by have := (LO1.out.lt hk).1; omega)
          have lo9 : OwnF wx9 wr.heap.size (.slice (some ⟨g9, 0, none⟩) (2 + 1) c9) ((([z] ++ [x1 + one]) ++ [more + mL]).map (fq 2)) := own_snoc HVS9.out (by have := HVZ.out; subst this; simpa [HVS1.out] using hw9) (by simp) (by intro k hk; simp at hk; omega) (by omega)
          have oo9 : OwnF wx9 w1.heap.size (.slice (some ⟨g, 0, none⟩) (e + 1) c) (((List.range (e + 1)).map (jumpAt ks one more)).map (fq 2)) := (OO1.out.below ((Below.refl wx1.heap.size wx1).alloc (Nat.le_refl _) (.cells #[.float .f32 vs9] 28))).grown hg9 (.inr (by simp [Value.ownBlock]; have := LO1.out.lt (k := g1) rfl; omega))
          have hJ : minL (([z] ++ [x1 + one]) ++ [more + mL]) = jumpAt ks one more (e + 1) := by
            unfold jumpAt jumpC
            rw [HZ.out, HA.out, HK.out, if_pos (show 0 < e + 1 by omega), if_neg (show ¬ e + 1 + 1 < n by omega)]
            simp only [List.append_nil]
            rw [Nat.add_sub_cancel]
            rw [HX1.out]
          have HJ := Lib.hid hJ
          have hsz0 := bl9.size
          refine (leastOf_any wx9 _ (([z] ++ [x1 + one]) ++ [more + mL]) lo9.sl (by intro k hk; simp at hk; omega) (by simp) (by simp)).mono ?_
          rintro e' w' ⟨rfl, rfl⟩
          rw [HJ.out]
          have ow0 := oo9.1
          rw [List.length_map, List.length_map, List.length_range] at ow0
          have HBL9 := Lib.hid bl9
          have HO9 := Lib.hid oo9
          clear bl9 lo9 oo9 hJ hw9 hg9 hat9 ow9 ar9 af9 p19
          generalize hjv : jumpAt ks one more (e + 1) = jv at *
          generalize hvj : fq 2 jv = vj at *
          have HJV := Lib.hid hjv
          have HVJ := Lib.hid hvj
          clear hjv hvj
          go_wp2_with (at_builtin; refine wpList_append_lies _ (by rfl) _ _ _ (by rfl) (w1.heap.size) 28 i0 _ 1 4 Try.underlying24 hi0 hz0 hz1 hz2 rfl (by omega) (.slice (some ⟨g, 0, none⟩) (e + 1) c) ((e + 1)) _ (by rfl) (by exact World.ownsRow.alloc ow0 _) ⟨wx9.heap.size, 0, none⟩ 1 1 [.float .f32 vj] (by rfl) (by rfl) (cell_one_new _ _ _) (by simp [Value.oneCell']) (by omega) (by unfold maxLen; omega) (by omega) (by simp; omega) (wx9.heap.size + 1) (by simp) ?_; intro gA cA wA hwA hgA hatA hltA)
          go_roundw
          case rel =>
            refine ⟨e + 1 + 1, gA, cA, rfl, by go_num, by omega, ?_, (HBL9.out.alloc hsz0 (.cells #[.float .f32 vj] 28)).grown hgA (by simp; omega) (fun k hk => by have := (HO9.out.lt hk).1; omega)⟩
            rw [jumpI_take, HJV.out]
            exact own_snoc HVJ.out hwA (by simp) (fun k hk => by obtain ⟨i, hi, rfl⟩ := List.mem_map.1 hk; have := jumpAt_bound (more := more) h1 h2 HB.out (show i < ks.length by rw [HK.out]; have := List.mem_range.1 hi; omega); omega) (by omega)
          case measure => simp [intOf]; omega
      · by_cases hd1 : d + 1 < n
        · as_aux_lemma =>
          have hdn : ¬ 0 < d := by omega
          obtain rfl : d = 0 := by omega
          simp only [Nat.add_zero] at kd
          have t3 : 1 < n := by omega
          have t2 : (1 : Int) < n := by omega
          have t1 : (0 : Int) + 1 < n := by omega
          go_wp2_with fail
          generalize hwx : wr.alloc (.cells #[.float .f32 vz] 28) = wx0 at *
          obtain ⟨kc1, p01, p11⟩ := KB.out wx0 BL0.out
          have kx1 := kc1 (1) (by omega)
          have gx1 := HB.out.get (1)
          generalize hx1 : ks.getD (1) 0 = x1 at kx1 gx1
          have HX1 := Lib.hid hx1
          have ad1 := fq_add (g := 2) (a := x1) (b := one) (by omega) (by omega) (by omega)
          rw [HVO.out] at ad1
          generalize hvx1 : fq 2 x1 = vx1 at *
          generalize hvs1 : fq 2 (x1 + one) = vs1 at *
          have HVS1 := Lib.hid hvs1
          have ar1 := fres_some ad1
          have af1 := fdr_some ad1
          have hd0 : ∀ W : World, W.drewN 0 = W := fun _ => rfl
          have hsz1 := BL0.out.size
          have ow1 := L0.out.1
          have wr1 : IntKind.i64.wrap (((1 : Nat)) : Int) = (((1 : Nat)) : Int) := IntWalk.i64_in _ (by omega)
          have wi1 : (((1 : Nat)) : Int) < n := by omega
          have w11 : IntKind.i64.wrap (1 : Int) = 1 := IntWalk.i64_in _ (by omega)
          have w12 : IntKind.i64.wrap ((0 : Int) + 1) = 1 := IntWalk.i64_in _ (by omega)
          clear kc1 p11 hx1 ad1 hvx1 hvs1
          have hlk1 := L0.out.lt (k := wr.heap.size) rfl
          go_region_held3 (fun w' => w'.cell? ⟨b, off + (1), none⟩ = some (.float .f32 vx1) ∧ w'.cell? ⟨w.heap.size, 0, none⟩ = some (.float .f32 vo))
            (first
              | go_keep
              | (go_split_ands
                 refine ⟨?_, ?_⟩
                 · (rw [hg1.cell_far _ (by simp; omega) (by simp [Value.ownBlock]; omega)]; assumption)
                 · (rw [hg1.cell_far _ (by simp; omega) (by simp [Value.ownBlock]; omega)]; assumption)))
            ((refine step_append_lies _ (by rfl) _ _ _ (by rfl) (wr.heap.size) 28 i0 _ 1 4 Try.underlying24 hi0 hz0 hz1 hz2 rfl (by omega) (.slice (some ⟨wr.heap.size, 0, none⟩) 1 1) (1) _ (by rfl) (World.ownsRow.drew (World.ownsRow.alloc ow1 _)) ⟨wx0.heap.size, 0, none⟩ 1 1 [.float .f32 vs1] (by rfl) (by rfl) (cell_one_drew _ _ _) (by simp [Value.oneCell']) (by omega) (by unfold maxLen; omega) (by omega) (by simp; omega) (wx0.heap.size + 1) (by simp) ?_; intro g1 c1 wx1 hw1 hg1 hat1 hlt1))
          have hg1 : (wx0.alloc (.cells #[.float .f32 vs1] 28)).grownBy wx1 (Value.ownBlock (.slice (some ⟨wr.heap.size, 0, none⟩) 1 1)) := ⟨hg1.os, hg1.tape, hg1.output, hg1.size, hg1.block⟩
          have bl1 : Below w1.heap.size w1 wx1 := (BL0.out.alloc hsz1 (.cells #[.float .f32 vs1] 28)).grown hg1 (by simp; omega) (fun k hk => by have := (L0.out.lt hk).1; omega)
          have lo1 : OwnF wx1 wr.heap.size (.slice (some ⟨g1, 0, none⟩) (1 + 1) c1) (([z] ++ [x1 + one]).map (fq 2)) := own_snoc HVS1.out (by have := HVZ.out; subst this; simpa using hw1) (by simp) (by intro k hk; simp at hk; omega) (by omega)
          have oo1 : OwnF wx1 w1.heap.size (.slice (some ⟨g, 0, none⟩) (0) c) (((List.range (0)).map (jumpAt ks one more)).map (fq 2)) := (O0.out.below ((Below.refl wx0.heap.size wx0).alloc (Nat.le_refl _) (.cells #[.float .f32 vs1] 28))).grown hg1 (.inr (by simp [Value.ownBlock]; have := L0.out.lt (k := wr.heap.size) rfl; omega))
          have LO1 := Lib.hid lo1
          have OO1 := Lib.hid oo1
          have BB1 := Lib.hid bl1
          clear lo1 oo1 bl1 hw1 hg1 hat1 ow1 kx1 p01 ar1 af1
          obtain ⟨kc9, p09, p19⟩ := KB.out wx1 BB1.out
          have ad9 := fq_add (g := 2) (a := more) (b := mL) (by omega) (by omega) (by omega)
          rw [HVM.out, HVL.out] at ad9
          generalize hvs9 : fq 2 (more + mL) = vs9 at *
          have HVS9 := Lib.hid hvs9
          have ar9 := fres_some ad9
          have af9 := fdr_some ad9
          have hd0 : ∀ W : World, W.drewN 0 = W := fun _ => rfl
          have hsz9 := BB1.out.size
          have ow9 := LO1.out.1
          clear kc9 p09 ad9 hvs9
          have hlk9 := LO1.out.lt (k := g1) rfl
          go_wp2_with (at_builtin; refine wpList_append_lies _ (by rfl) _ _ _ (by rfl) (wr.heap.size) 28 i0 _ 1 4 Try.underlying24 hi0 hz0 hz1 hz2 rfl (by omega) (.slice (some ⟨g1, 0, none⟩) 2 c1) (2) _ (by rfl) (by exact World.ownsRow.alloc ow9 _) ⟨wx1.heap.size, 0, none⟩ 1 1 [.float .f32 vs9] (by rfl) (by rfl) (cell_one_new _ _ _) (by simp [Value.oneCell']) (by omega) (by unfold maxLen; omega) (by omega) (by simp; omega) (wx1.heap.size + 1) (by simp) ?_; intro g9 c9 wx9 hw9 hg9 hat9 hlt9)
          have bl9 : Below w1.heap.size w1 wx9 := (BB1.out.alloc hsz9 (.cells #[.float .f32 vs9] 28)).grown hg9 (by simp; omega) (fun k hk => by have := (LO1.out.lt hk).1; omega)
          have lo9 : OwnF wx9 wr.heap.size (.slice (some ⟨g9, 0, none⟩) (2 + 1) c9) ((([z] ++ [x1 + one]) ++ [more + mL]).map (fq 2)) := own_snoc HVS9.out (by have := HVZ.out; subst this; simpa [HVS1.out] using hw9) (by simp) (by intro k hk; simp at hk; omega) (by omega)
          have oo9 : OwnF wx9 w1.heap.size (.slice (some ⟨g, 0, none⟩) (0) c) (((List.range (0)).map (jumpAt ks one more)).map (fq 2)) := (OO1.out.below ((Below.refl wx1.heap.size wx1).alloc (Nat.le_refl _) (.cells #[.float .f32 vs9] 28))).grown hg9 (.inr (by simp [Value.ownBlock]; have := LO1.out.lt (k := g1) rfl; omega))
          have hJ : minL (([z] ++ [x1 + one]) ++ [more + mL]) = jumpAt ks one more (0) := by
            unfold jumpAt jumpC
            rw [HZ.out, HA.out, HK.out, if_neg (show ¬ 0 < 0 by omega), if_pos (show 0 + 1 < n by omega)]
            simp only [List.append_nil]
            rw [HX1.out]
          have HJ := Lib.hid hJ
          have hsz0 := bl9.size
          refine (leastOf_any wx9 _ (([z] ++ [x1 + one]) ++ [more + mL]) lo9.sl (by intro k hk; simp at hk; omega) (by simp) (by simp)).mono ?_
          rintro e' w' ⟨rfl, rfl⟩
          rw [HJ.out]
          have ow0 := oo9.1
          rw [List.length_map, List.length_map, List.length_range] at ow0
          have HBL9 := Lib.hid bl9
          have HO9 := Lib.hid oo9
          clear bl9 lo9 oo9 hJ hw9 hg9 hat9 ow9 ar9 af9 p19
          generalize hjv : jumpAt ks one more (0) = jv at *
          generalize hvj : fq 2 jv = vj at *
          have HJV := Lib.hid hjv
          have HVJ := Lib.hid hvj
          clear hjv hvj
          go_wp2_with (at_builtin; refine wpList_append_lies _ (by rfl) _ _ _ (by rfl) (w1.heap.size) 28 i0 _ 1 4 Try.underlying24 hi0 hz0 hz1 hz2 rfl (by omega) (.slice (some ⟨g, 0, none⟩) (0) c) ((0)) _ (by rfl) (by exact World.ownsRow.alloc ow0 _) ⟨wx9.heap.size, 0, none⟩ 1 1 [.float .f32 vj] (by rfl) (by rfl) (cell_one_new _ _ _) (by simp [Value.oneCell']) (by omega) (by unfold maxLen; omega) (by omega) (by simp; omega) (wx9.heap.size + 1) (by simp) ?_; intro gA cA wA hwA hgA hatA hltA)
          go_roundw
          case rel =>
            refine ⟨0 + 1, gA, cA, rfl, by go_num, by omega, ?_, (HBL9.out.alloc hsz0 (.cells #[.float .f32 vj] 28)).grown hgA (by simp; omega) (fun k hk => by have := (HO9.out.lt hk).1; omega)⟩
            rw [jumpI_take, HJV.out]
            exact own_snoc HVJ.out hwA (by simp) (fun k hk => by obtain ⟨i, hi, rfl⟩ := List.mem_map.1 hk; have := jumpAt_bound (more := more) h1 h2 HB.out (show i < ks.length by rw [HK.out]; have := List.mem_range.1 hi; omega); omega) (by omega)
          case measure => simp [intOf]; omega
        · as_aux_lemma =>
          have hdn : ¬ 0 < d := by omega
          obtain rfl : d = 0 := by omega
          simp only [Nat.add_zero] at kd
          have t3 : ¬ 1 < n := by omega
          have t2 : ¬ (1 : Int) < n := by omega
          have t1 : ¬ (0 : Int) + 1 < n := by omega
          obtain ⟨kc9, p09, p19⟩ := KB.out _ BL0.out
          have ad9 := fq_add (g := 2) (a := more) (b := mL) (by omega) (by omega) (by omega)
          rw [HVM.out, HVL.out] at ad9
          generalize hvs9 : fq 2 (more + mL) = vs9 at *
          have HVS9 := Lib.hid hvs9
          have ar9 := fres_some ad9
          have af9 := fdr_some ad9
          have hd0 : ∀ W : World, W.drewN 0 = W := fun _ => rfl
          have hsz9 := BL0.out.size
          have ow9 := L0.out.1
          clear kc9 p09 ad9 hvs9
          have hlk9 := L0.out.lt (k := wr.heap.size) rfl
          have hcn : ∀ x j u, [x][j]? = some u → ((wr.alloc (.cells #[.float .f32 vz] 28)).alloc (.cells #[x] 28)).cell? ((⟨wr.heap.size + 1, 0, none⟩ : Addr).add j) = some u := fun x j u h => by have := cell_one_new (wr.alloc (.cells #[.float .f32 vz] 28)) x 28 j u h; simpa using this
          go_wp2_with (at_builtin; refine wpList_append_lies _ (by rfl) _ _ _ (by rfl) (wr.heap.size) 28 i0 _ 1 4 Try.underlying24 hi0 hz0 hz1 hz2 rfl (by omega) (.slice (some ⟨wr.heap.size, 0, none⟩) 1 1) (1) _ (by rfl) (World.ownsRow.alloc ow9 _) ⟨wr.heap.size + 1, 0, none⟩ 1 1 [.float .f32 vs9] (by rfl) (by rfl) (hcn _) (by simp [Value.oneCell']) (by omega) (by unfold maxLen; omega) (by omega) (by simp; omega) (wr.heap.size + 1 + 1) (by simp) ?_; intro g9 c9 wx9 hw9 hg9 hat9 hlt9)
          have bl9 : Below w1.heap.size w1 wx9 := (BL0.out.alloc hsz9 (.cells #[.float .f32 vs9] 28)).grown hg9 (by simp; omega) (fun k hk => by have := (L0.out.lt hk).1; omega)
          have lo9 : OwnF wx9 wr.heap.size (.slice (some ⟨g9, 0, none⟩) (1 + 1) c9) (([z] ++ [more + mL]).map (fq 2)) := own_snoc HVS9.out (by have := HVZ.out; subst this; simpa using hw9) (by simp) (by intro k hk; simp at hk; omega) (by omega)
          have oo9 : OwnF wx9 w1.heap.size (.slice (some ⟨g, 0, none⟩) (0) c) (((List.range (0)).map (jumpAt ks one more)).map (fq 2)) := (O0.out.below ((Below.refl (wr.alloc (.cells #[.float .f32 vz] 28)).heap.size (wr.alloc (.cells #[.float .f32 vz] 28))).alloc (Nat.le_refl _) (.cells #[.float .f32 vs9] 28))).grown hg9 (.inr (by simp [Value.ownBlock]; have := L0.out.lt (k := wr.heap.size) rfl; omega))
          have hJ : minL ([z] ++ [more + mL]) = jumpAt ks one more (0) := by
            unfold jumpAt jumpC
            rw [HZ.out, HA.out, HK.out, if_neg (show ¬ 0 < 0 by omega), if_neg (show ¬ 0 + 1 < n by omega)]
            simp only [List.append_nil]
          have HJ := Lib.hid hJ
          have hsz0 := bl9.size
          refine (leastOf_any wx9 _ ([z] ++ [more + mL]) lo9.sl (by intro k hk; simp at hk; omega) (by simp) (by simp)).mono ?_
          rintro e' w' ⟨rfl, rfl⟩
          rw [HJ.out]
          have ow0 := oo9.1
          rw [List.length_map, List.length_map, List.length_range] at ow0
          have HBL9 := Lib.hid bl9
          have HO9 := Lib.hid oo9
          clear bl9 lo9 oo9 hJ hw9 hg9 hat9 ow9 ar9 af9 p19
          generalize hjv : jumpAt ks one more (0) = jv at *
          generalize hvj : fq 2 jv = vj at *
          have HJV := Lib.hid hjv
          have HVJ := Lib.hid hvj
          clear hjv hvj
          go_wp2_with (at_builtin; refine wpList_append_lies _ (by rfl) _ _ _ (by rfl) (w1.heap.size) 28 i0 _ 1 4 Try.underlying24 hi0 hz0 hz1 hz2 rfl (by omega) (.slice (some ⟨g, 0, none⟩) (0) c) ((0)) _ (by rfl) (by exact World.ownsRow.alloc ow0 _) ⟨wx9.heap.size, 0, none⟩ 1 1 [.float .f32 vj] (by rfl) (by rfl) (cell_one_new _ _ _) (by simp [Value.oneCell']) (by omega) (by unfold maxLen; omega) (by omega) (by simp; omega) (wx9.heap.size + 1) (by simp) ?_; intro gA cA wA hwA hgA hatA hltA)
          go_roundw
          case rel =>
            refine ⟨0 + 1, gA, cA, rfl, by go_num, by omega, ?_, (HBL9.out.alloc hsz0 (.cells #[.float .f32 vj] 28)).grown hgA (by simp; omega) (fun k hk => by have := (HO9.out.lt hk).1; omega)⟩
            rw [jumpI_take, HJV.out]
            exact own_snoc HVJ.out hwA (by simp) (fun k hk => by obtain ⟨i, hi, rfl⟩ := List.mem_map.1 hk; have := jumpAt_bound (more := more) h1 h2 HB.out (show i < ks.length by rw [HK.out]; have := List.mem_range.1 hi; omega); omega) (by omega)
          case measure => simp [intOf]; omega
    · have : d = n := by omega
      subst this
      have HO := Lib.hid hown
      have HBL := Lib.hid hbl
      clear hown hbl
      go_wp2
      go_ret
      refine ⟨g, c, ?_, ?_, ?_⟩
      · show Ending.returned _ = _
        simp [jumpI, HK.out]
      · have := HO.out.mono (show w.heap.size ≤ w1.heap.size by have := HS1.out; omega)
        unfold jumpI
        rw [List.length_map, List.length_range, HK.out]
        exact this
      · exact HBEL.out.trans (HBL.out.mono (by have := HS1.out; omega))

end Go.Proofs.Ytfhlpabbacopjaa

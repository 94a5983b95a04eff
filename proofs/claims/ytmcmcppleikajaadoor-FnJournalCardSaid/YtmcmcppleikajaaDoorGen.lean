/- Data that the laws draw: loops that append what a source gives. -/
import Derived.Test.YtmcmcppleikajaaDoorPic
import Derived.Test.YtmcmcppleikajaaDoorBox
namespace Go.Proofs.YtmcmcppleikajaaDoor
open Go.RowKit
set_option maxRecDepth 100000
set_option linter.unusedVariables false
set_option linter.unusedSimpArgs false

/-- A loop that appends numbers, drawn from the source in block sb, to the slice in place k of the block ob; rb holds the result. -/
structure GenSt (w wr : World) (L rb sb ob U k : Nat) (rc : Array Value) (cs : Array Value) (T : TypeId) (v : Value) (bs : List Nat) : Prop where
  bel : w.grownBy wr (some sb)
  src : SrcOk wr L sb U
  hL : L ≤ w.heap.size
  res : BoxN wr rb rc T
  box : BoxN wr ob cs T
  slot : cs[k]? = some v
  own : OwnF wr w.heap.size v bs
  far : ∀ g, v.ownBlock = some g → g ≠ rb ∧ g ≠ sb ∧ g ≠ ob
  obf : w.heap.size ≤ ob
  rbf : w.heap.size ≤ rb
  ne1 : rb ≠ sb
  ne2 : rb ≠ ob
  ne3 : sb ≠ ob

/-- What was there is as it was, if the source is one's own. -/
theorem below_of_grown {w wr : World} {sb : Nat} (h : w.grownBy wr (some sb)) (hs : w.heap.size ≤ sb) : Below w.heap.size w wr :=
  ⟨h.os, h.tape, h.output, h.size, fun k hk => h.block k hk (by simp; omega)⟩
theorem grown_new {w w1 w2 : World} {sb : Nat} {r : Option Nat} (h : w.grownBy w1 (some sb)) (hg : w1.grownBy w2 r) (hr : ∀ k, r = some k → w.heap.size ≤ k) : w.grownBy w2 (some sb) :=
  ⟨hg.os.trans h.os, hg.tape.trans h.tape, hg.output.trans h.output, Nat.le_trans h.size hg.size, fun i hi hn => (hg.block i (Nat.lt_of_lt_of_le hi h.size) (fun e => by have := hr i e.symm; omega)).trans (h.block i hi hn)⟩
theorem GenSt.farb {w wr : World} {L rb sb ob U k : Nat} {rc : Array Value} {cs : Array Value} {T : TypeId} {v : Value} {bs : List Nat} (h : GenSt w wr L rb sb ob U k rc cs T v bs) : v.ownBlock = none ∨ v.ownBlock ≠ some rb := by
  cases hv : v.ownBlock with
  | none => exact .inl rfl
  | some g => exact .inr (fun e => by injection e with e; exact (h.far g hv).1 e)
/-- One element more: the source has drawn (w1), the element has been laid, appended (w2) and stored back. -/
theorem GenSt.fars {w wr : World} {L rb sb ob U k : Nat} {rc : Array Value} {cs : Array Value} {T : TypeId} {v : Value} {bs : List Nat} (h : GenSt w wr L rb sb ob U k rc cs T v bs) : v.ownBlock = none ∨ v.ownBlock ≠ some sb := by
  cases hv : v.ownBlock with
  | none => exact .inl rfl
  | some g => exact .inr (fun e => by injection e with e; exact (h.far g hv).2.1 e)
theorem GenSt.step {w wr w1 w2 : World} {L rb sb ob U V k r : Nat} {rc cs : Array Value} {T E : TypeId} {v : Value} {bs : List Nat} {gg cap : Nat} (h : GenSt w wr L rb sb ob U k rc cs T v bs)
    (hd : Drew L sb V wr w1) (hr : r < 4294967296)
    (hown : w2.ownsRow w.heap.size 66 1 (.slice (some ⟨gg, 0, none⟩) (bs.length + 1) cap) (bs.length + 1) (bs.map (Value.float .f32) ++ [.float .f32 r]))
    (hg : (w1.alloc (.cells #[.float .f32 r] E)).grownBy w2 v.ownBlock) (hat : v.ownBlock = some gg ∨ gg = w1.heap.size + 1) :
    GenSt w (w2.setCell ⟨ob, k, none⟩ (.slice (some ⟨gg, 0, none⟩) (bs.length + 1) cap)) L rb sb ob V k rc (cs.setIfInBounds k (.slice (some ⟨gg, 0, none⟩) (bs.length + 1) cap)) T (.slice (some ⟨gg, 0, none⟩) (bs.length + 1) cap) (bs ++ [r]) := by
  have hal : Below w1.heap.size w1 (w1.alloc (.cells #[.float .f32 r] E)) := (Below.refl _ _).alloc (Nat.le_refl _) _
  have s0 := h.bel.size
  have s1 : wr.heap.size ≤ w1.heap.size := hd.grown.size
  have l1 := h.res.lt
  have l2 := h.src.lt
  have l3 := h.box.lt
  have hL := h.hL
  have hobf := h.obf
  have far' : gg ≠ rb ∧ gg ≠ sb ∧ gg ≠ ob := by
    rcases hat with e | e
    · exact h.far gg e
    · omega
  have b1 : w.grownBy w1 (some sb) := grown_trans h.bel hd.grown
  have b2 : w.grownBy (w1.alloc (.cells #[.float .f32 r] E)) (some sb) := grown_trans b1 (grown_below hal _)
  have b3 : w.grownBy w2 (some sb) := grown_new b2 hg (fun k hk => (h.own.lt hk).1)
  have k1 : some rb ≠ v.ownBlock := fun e => (h.far rb e.symm).1 rfl
  have k2 : some sb ≠ v.ownBlock := fun e => (h.far sb e.symm).2.1 rfl
  have k3 : some ob ≠ v.ownBlock := fun e => (h.far ob e.symm).2.2 rfl
  have src2 : SrcOk w2 L sb V := (hd.ok.below hal).grown hg k2 (fun k hk => Nat.le_trans hL (h.own.lt hk).1)
  have res2 : BoxN w2 rb rc T := ((h.res.grown hd.grown (by simpa using h.ne1)).below hal).grown hg k1
  have box2 : BoxN w2 ob cs T := ((h.box.grown hd.grown (by simpa using Ne.symm h.ne3)).below hal).grown hg k3
  have hk : k < cs.size := by
    rcases Nat.lt_or_ge k cs.size with g | g
    · exact g
    · have := h.slot; rw [Array.getElem?_eq_none g] at this; cases this
  have gs := grown_setCell w2 ⟨ob, k, none⟩ (.slice (some ⟨gg, 0, none⟩) (bs.length + 1) cap)
  refine ⟨grown_new b3 gs (fun k hk => by injection hk with e; simp at e; omega), src2.grown gs (by simpa using h.ne3) (fun k hk => by injection hk with e; simp at e; omega), hL, res2.grown gs (by simpa using h.ne2), box2.set k _, by simp [hk], ⟨?_, ?_⟩, ?_, h.obf, h.rbf, h.ne1, h.ne2, h.ne3⟩
  · have q := hown.kept gs (.inr (by simp [Value.ownBlock]; exact far'.2.2))
    simpa using q
  · intro b hb'
    rcases List.mem_append.1 hb' with h1 | h1
    · exact h.own.2 b h1
    · simp at h1; omega
  · intro g hg2
    have : gg = g := by simpa [Value.ownBlock] using hg2
    subst this; exact far'

/-- The word of k quarters. -/
def qt (k : Nat) : Nat := (floatBits .quo .f32 (floatOfInt .f32 k) 1082130432).getD 0
theorem qt_some : ∀ k : Nat, k ≤ 64 → floatBits .quo .f32 (floatOfInt .f32 k) 1082130432 = some (qt k) := by
  have h : ∀ k : Fin 65, (floatBits .quo .f32 (floatOfInt .f32 (k.val : Int)) 1082130432) = some (qt k.val) := by decide +kernel
  intro k hk; exact h ⟨k, by omega⟩
theorem qt_lt : ∀ k : Nat, k ≤ 64 → qt k < 4294967296 := by
  have h : ∀ k : Fin 65, qt k.val < 4294967296 := by decide +kernel
  intro k hk; exact h ⟨k, by omega⟩

def SomeBelow (w : World) (lo hi : Int) (e : Ending) (w' : World) : Prop := ∃ n, e = .returned (.int .i64 n) ∧ lo ≤ n ∧ n ≤ hi ∧ w = w'

theorem l02New_any (w : World) (a b : Int) : Calls Tryd.prog 47 #[.int .i64 a, .int .i64 b] w fun e w' => e = .returned (.agg #[.int .i64 a, .int .i64 b, .slice (some ⟨w.heap.size + 1, 0, none⟩) 0 0]) ∧ OwnF w' (w.heap.size + 1) (.slice (some ⟨w.heap.size + 1, 0, none⟩) 0 0) [] ∧ Below w.heap.size w w' ∧ w.heap.size + 1 < w'.heap.size := by
  go_enter Tryd.func47, Tryd.ntmps47
  go_wp2
  refine bodyPost_ret (v := .agg #[.int .i64 a, .int .i64 b, .slice (some ⟨w.heap.size + 1, 0, none⟩) 0 0]) (by simp [results, Tryd.results47, go_sem]) rfl ?_
  refine ⟨rfl, ⟨⟨rfl, .inr ⟨w.heap.size + 1, 0, #[], rfl, Nat.le_refl _, ?_, Nat.le_refl _, by unfold maxLen; omega, rfl, rfl⟩⟩, by simp⟩, below_two w _ _, by simp⟩
  have := heap_alloc_new (w.alloc (.cells #[.int .i64 a, .int .i64 b, .slice (some ⟨w.heap.size + 1, 0, none⟩) 0 0] 28)) (.cells #[] 66)
  simpa using this

/-- A picture of quarters. -/
def QuartPic (w : World) (e : Ending) (w' : World) : Prop :=
  ∃ (wd hi : Nat) (a : Option Addr) (c : Nat) (bs : List Nat), e = .returned (.agg #[.int .i64 wd, .int .i64 hi, .slice a (List.length bs) c]) ∧ 2 ≤ wd ∧ wd ≤ 6 ∧ 1 ≤ hi ∧ hi ≤ 4 ∧ bs.length = wd * hi ∧ OwnF w' w.heap.size (.slice a (List.length bs) c) bs ∧ (∀ b ∈ bs, ∃ k, k ≤ 16 ∧ b = qt k) ∧ Below w.heap.size w w'

/-- Any right picture. -/
def WildPic (L sb U : Nat) (w : World) (e : Ending) (w' : World) : Prop :=
  ∃ (wd hi : Nat) (a : Option Addr) (c : Nat) (bs : List Nat), e = .returned (.agg #[.int .i64 wd, .int .i64 hi, .slice a (List.length bs) c]) ∧ 2 ≤ wd ∧ wd ≤ 6 ∧ 1 ≤ hi ∧ hi ≤ 4 ∧ bs.length = wd * hi ∧ OwnF w' w.heap.size (.slice a (List.length bs) c) bs ∧ Drew L sb U w w'

theorem l02DrawOk_any (w : World) {L : Nat} (sb U : Nat) (hs : SrcOk w L sb U) (hL : L ≤ w.heap.size) (hU : U < 4611686018427300000) :
    Calls Tryd.prog 37 #[.pointer (some ⟨sb, 0, none⟩)] w (WildPic L sb (U + 1000) w) := by
  obtain ⟨i0, hi0, hz0, hz1, hz2⟩ := info_parts info_f32
  have hslt := hs.lt
  go_enter Tryd.func37, Tryd.ntmps37
  go_wp2_with fail
  have ha0 : Below w.heap.size w (w.alloc (.cells #[.int .i64 0, .int .i64 0, .slice none 0 0] 28)) := (Below.refl _ _).alloc (Nat.le_refl _) _
  have hres := BoxN.last w #[.int .i64 0, .int .i64 0, .slice none 0 0] 28
  refine (pick_any _ _ _ 5 (by omega) (by omega) (hs.below ha0) (by omega)).mono ?_
  rintro e w2 ⟨x, rfl, hx0, hx1, hd⟩
  obtain ⟨x, rfl⟩ := Int.eq_ofNat_of_zero_le hx0
  go_wp2_with fail
  refine (pick_any _ _ _ 4 (by omega) (by omega) hd.ok (by omega)).mono ?_
  rintro e w3 ⟨y, rfl, hy0, hy1, hd2⟩
  obtain ⟨y, rfl⟩ := Int.eq_ofNat_of_zero_le hy0
  have hd3 := hd.trans hd2
  have hsz3 := hd3.grown.size
  have hsz3 : w.heap.size + 1 ≤ w3.heap.size := by simpa using hsz3
  have hres3 := hres.grown hd3.grown (by simp; omega)
  have hbel3 : w.grownBy w3 (some sb) := grown_trans (grown_below ha0 _) hd3.grown
  clear hd hd2 hs ha0 hres
  go_wp2_with fail
  refine (l02New_any _ _ _).mono ?_
  rintro e w4 ⟨rfl, hown, hb4, hlt4⟩
  have hres4 := hres3.below hb4
  have hs4 := hd3.ok.below hb4
  have hbel4 := grown_trans hbel3 (grown_below hb4 _)
  clear hd3 hb4 hbel3 hres3
  have hx5 : (x : Int) ≤ 4 := by omega
  have hy4 : (y : Int) ≤ 3 := by omega
  have ha5 : Below w4.heap.size w4 (w4.alloc (.cells #[.int .i64 (2 + (x : Int)), .int .i64 (1 + (y : Int)), .slice (some ⟨w3.heap.size + 1, 0, none⟩) 0 0] 28)) := (Below.refl _ _).alloc (Nat.le_refl _) _
  have start : GenSt w (w4.alloc (.cells #[.int .i64 (2 + (x : Int)), .int .i64 (1 + (y : Int)), .slice (some ⟨w3.heap.size + 1, 0, none⟩) 0 0] 28)) L w.heap.size sb w4.heap.size (U + 4) 2 #[.int .i64 0, .int .i64 0, .slice none 0 0] #[.int .i64 (2 + (x : Int)), .int .i64 (1 + (y : Int)), .slice (some ⟨w3.heap.size + 1, 0, none⟩) 0 0] 28 (.slice (some ⟨w3.heap.size + 1, 0, none⟩) 0 0) [] := by
    refine ⟨grown_trans hbel4 (grown_below ha5 _), (hs4.below ha5).mono (by omega), hL, hres4.below ha5, BoxN.last w4 _ _, rfl, (hown.below ha5).mono (by omega), ?_, by omega, by omega, by omega, by omega, by omega⟩
    intro g hg
    have : w3.heap.size + 1 = g := by simpa [Value.ownBlock] using hg
    omega
  have hprod : (2 + (x : Int)) * (1 + (y : Int)) = (((2 + x) * (1 + y) : Nat) : Int) := by simp
  have hle : (2 + x) * (1 + y) ≤ 24 := by
    have := Nat.mul_le_mul (show 2 + x ≤ 6 by omega) (show 1 + y ≤ 4 by omega)
    omega
  generalize hN : (2 + x) * (1 + y) = N at *
  have hp0 : 0 ≤ (2 + (x : Int)) * (1 + (y : Int)) := by omega
  have hp1 : (2 + (x : Int)) * (1 + (y : Int)) ≤ 24 := by omega
  have HP := Lib.hid hprod
  have HN := Lib.hid hN
  clear hprod hN hres4 hs4 hbel4 ha5 hown
  go_wp2_with fail
  refine (pick_any _ _ _ 3 (by omega) (by omega) start.src (by omega)).mono ?_
  rintro e w5 ⟨z, rfl, hz0', hz1', hd5⟩
  have start5 : GenSt w w5 L w.heap.size sb w4.heap.size (U + 6) 2 #[.int .i64 0, .int .i64 0, .slice none 0 0] #[.int .i64 (2 + (x : Int)), .int .i64 (1 + (y : Int)), .slice (some ⟨w3.heap.size + 1, 0, none⟩) 0 0] 28 (.slice (some ⟨w3.heap.size + 1, 0, none⟩) 0 0) [] :=
    ⟨grown_trans start.bel hd5.grown, hd5.ok, hL, start.res.grown hd5.grown (by simpa using start.ne1), start.box.grown hd5.grown (by simpa using Ne.symm start.ne3), rfl, start.own.grown hd5.grown start.fars, start.far, start.obf, start.rbf, start.ne1, start.ne2, start.ne3⟩
  clear start hd5
  have hzz : (z == 0) = true ∨ (z == 0) = false := by cases (z == 0) <;> simp
  go_wp2_with fail
  go_loopw [7] (fun v7 wr => ∃ (i : Nat) (v : Value) (bs : List Nat), v7 = .int .i64 i ∧ i ≤ N ∧ bs.length = i ∧ GenSt w wr L w.heap.size sb w4.heap.size (U + 6 + 30 * i) 2 #[.int .i64 0, .int .i64 0, .slice none 0 0] #[.int .i64 (2 + (x : Int)), .int .i64 (1 + (y : Int)), v] 28 v bs) (fun v7 _ => N - (intOf v7).toNat)
  case atStart => exact ⟨0, _, [], rfl, Nat.zero_le _, rfl, start5⟩
  case round =>
    clear start5
    obtain ⟨i, v, bs, rfl, hi, hbl, hst⟩ := hrel
    obtain ⟨c0, c1, c2, f0, f1, f2⟩ := hst.box.three.cells
    by_cases hlt : i < N
    · have hlt' : (i : Int) < (2 + (x : Int)) * (1 + (y : Int)) := by rw [HP.out]; omega
      have hown := hst.own
      have hsrc := hst.src
      have hbox := hst.box
      have hL : bs.length ≤ 24 := by omega
      have hne : some w4.heap.size ≠ v.ownBlock := fun e => (hst.far _ e.symm).2.2 rfl
      have HS := Lib.hid hst
      have HL := Lib.hid hbl
      clear hst hbl
      have hd0 : ∀ w : World, w.drewN 0 = w := fun _ => rfl
      go_wp2_with fail
      refine (pick_any _ _ _ 17 (by omega) (by omega) hsrc (by omega)).mono ?_
      rintro e w6 ⟨n, rfl, hn0, hn1, hd⟩
      obtain ⟨k, rfl⟩ := Int.eq_ofNat_of_zero_le hn0
      have p1 := fres_some (qt_some k (by omega))
      have p0 := fdr_some (qt_some k (by omega))
      rcases hzz with hz | hz
      · go_wp2_with fail
        refine (one_any _ _ _ 6 (by omega) (by omega) hd.ok (by omega)).mono ?_
        rintro e w7 ⟨b, rfl, hd7⟩
        have hd67 := hd.trans hd7
        clear hd hd7
        cases b
        · have hdd : Drew L sb (U + 6 + 30 * (i + 1)) wr w7 := hd67.mono (by omega)
          have hbox1 := hbox.grown hdd.grown (by simpa using Ne.symm HS.out.ne3)
          have c2' := hbox1.three.cells.2.2.1
          have c4 : ∀ o, (w7.alloc o).cell? ⟨w4.heap.size, 2, none⟩ = some v := fun o => (hbox1.below ((Below.refl w7.heap.size w7).alloc (Nat.le_refl _) o)).three.cells.2.2.1
          have hown1 := hown.grown hdd.grown HS.out.fars
          have hz2' : w.heap.size ≤ w7.heap.size := by have := hdd.grown.size; have := HS.out.bel.size; omega
          go_wp2_with (at_builtin; refine wpList_append_lies _ (by rfl) _ _ _ (by rfl) w.heap.size 66 i0 _ 1 4 Tryd.underlying26 hi0 hz0 hz1 hz2 rfl (by omega) v bs.length _ (by rfl) (World.ownsRow.alloc hown1.1 _) ⟨w7.heap.size, 0, none⟩ 1 1 [.float .f32 (qt k)] (by rfl) (by rfl) (cell_one_new _ _ _) (by simp [Value.oneCell']) (by omega) (by unfold maxLen; omega) (by omega) (by simp; omega) (w7.heap.size + 1) (by simp) ?_; intro gg cap wz hown2 hgrow hat hlt2; obtain ⟨q0, q1, q2, g0, g1, g2⟩ := ((hbox1.below ((Below.refl w7.heap.size w7).alloc (Nat.le_refl _) _)).grown hgrow hne).three.cells)
          go_roundw
          case rel => exact ⟨i + 1, _, bs ++ [(qt k)], by go_num, by omega, by simp [HL.out], HS.out.step hdd (qt_lt k (by omega)) hown2 hgrow hat⟩
          case measure => simp [intOf]; omega
        · go_wp2_with fail
          refine (drawFloat_any _ _ _ hd67.ok (by omega)).mono ?_
          rintro e w8 ⟨r, rfl, hr, hd8⟩
          have hdd : Drew L sb (U + 6 + 30 * (i + 1)) wr w8 := (hd67.trans hd8).mono (by omega)
          have hbox1 := hbox.grown hdd.grown (by simpa using Ne.symm HS.out.ne3)
          have c2' := hbox1.three.cells.2.2.1
          have c4 : ∀ o, (w8.alloc o).cell? ⟨w4.heap.size, 2, none⟩ = some v := fun o => (hbox1.below ((Below.refl w8.heap.size w8).alloc (Nat.le_refl _) o)).three.cells.2.2.1
          have hown1 := hown.grown hdd.grown HS.out.fars
          have hz2' : w.heap.size ≤ w8.heap.size := by have := hdd.grown.size; have := HS.out.bel.size; omega
          go_wp2_with (at_builtin; refine wpList_append_lies _ (by rfl) _ _ _ (by rfl) w.heap.size 66 i0 _ 1 4 Tryd.underlying26 hi0 hz0 hz1 hz2 rfl (by omega) v bs.length _ (by rfl) (World.ownsRow.alloc hown1.1 _) ⟨w8.heap.size, 0, none⟩ 1 1 [.float .f32 r] (by rfl) (by rfl) (cell_one_new _ _ _) (by simp [Value.oneCell']) (by omega) (by unfold maxLen; omega) (by omega) (by simp; omega) (w8.heap.size + 1) (by simp) ?_; intro gg cap wz hown2 hgrow hat hlt2; obtain ⟨q0, q1, q2, g0, g1, g2⟩ := ((hbox1.below ((Below.refl w8.heap.size w8).alloc (Nat.le_refl _) _)).grown hgrow hne).three.cells)
          go_roundw
          case rel => exact ⟨i + 1, _, bs ++ [r], by go_num, by omega, by simp [HL.out], HS.out.step hdd hr hown2 hgrow hat⟩
          case measure => simp [intOf]; omega
      · have hdd : Drew L sb (U + 6 + 30 * (i + 1)) wr w6 := hd.mono (by omega)
        have hbox1 := hbox.grown hdd.grown (by simpa using Ne.symm HS.out.ne3)
        have c2' := hbox1.three.cells.2.2.1
        have c4 : ∀ o, (w6.alloc o).cell? ⟨w4.heap.size, 2, none⟩ = some v := fun o => (hbox1.below ((Below.refl w6.heap.size w6).alloc (Nat.le_refl _) o)).three.cells.2.2.1
        have hown1 := hown.grown hdd.grown HS.out.fars
        have hz2' : w.heap.size ≤ w6.heap.size := by have := hdd.grown.size; have := HS.out.bel.size; omega
        go_wp2_with (at_builtin; refine wpList_append_lies _ (by rfl) _ _ _ (by rfl) w.heap.size 66 i0 _ 1 4 Tryd.underlying26 hi0 hz0 hz1 hz2 rfl (by omega) v bs.length _ (by rfl) (World.ownsRow.alloc hown1.1 _) ⟨w6.heap.size, 0, none⟩ 1 1 [.float .f32 (qt k)] (by rfl) (by rfl) (cell_one_new _ _ _) (by simp [Value.oneCell']) (by omega) (by unfold maxLen; omega) (by omega) (by simp; omega) (w6.heap.size + 1) (by simp) ?_; intro gg cap wz hown2 hgrow hat hlt2; obtain ⟨q0, q1, q2, g0, g1, g2⟩ := ((hbox1.below ((Below.refl w6.heap.size w6).alloc (Nat.le_refl _) _)).grown hgrow hne).three.cells)
        go_roundw
        case rel => exact ⟨i + 1, _, bs ++ [(qt k)], by go_num, by omega, by simp [HL.out], HS.out.step hdd (qt_lt k (by omega)) hown2 hgrow hat⟩
        case measure => simp [intOf]; omega
    · have hlt' : ¬ (i : Int) < (2 + (x : Int)) * (1 + (y : Int)) := by rw [HP.out]; omega
      obtain ⟨va, vc, rfl⟩ := hst.own.sl.len
      obtain ⟨d0, d1, d2, e0, e1, e2⟩ := hst.res.three.cells
      have HS := Lib.hid hst
      have HL := Lib.hid hbl
      clear hst hbl hlt
      go_wp2
      refine bodyPost_ret (v := .agg #[.int .i64 ((2 + x : Nat) : Int), .int .i64 ((1 + y : Nat) : Int), .slice va bs.length vc]) (by simp [results, Tryd.results37, go_sem, d0, d1, d2]) rfl ?_
      have hst := HS.out
      have hN2 : i = (2 + x) * (1 + y) := by rw [HN.out]; have := HP.out; omega
      have g3 : ∀ k, some w.heap.size = some k → w.heap.size ≤ k := fun k hk => by injection hk with e; omega
      refine ⟨2 + x, 1 + y, va, vc, bs, rfl, by omega, by omega, by omega, by omega, by rw [HL.out, hN2], (((hst.own.grown (grown_setCell _ _ _) hst.farb).grown (grown_setCell _ _ _) hst.farb).grown (grown_setCell _ _ _) hst.farb), ?_, ?_⟩
      · exact ((((hst.src.grown (grown_setCell _ _ _) (by simpa using Ne.symm hst.ne1) (fun k hk => Nat.le_trans hL (g3 k hk))).grown (grown_setCell _ _ _) (by simpa using Ne.symm hst.ne1) (fun k hk => Nat.le_trans hL (g3 k hk))).grown (grown_setCell _ _ _) (by simpa using Ne.symm hst.ne1) (fun k hk => Nat.le_trans hL (g3 k hk)))).mono (by omega)
      · exact grown_new (grown_new (grown_new hst.bel (grown_setCell _ _ _) g3) (grown_setCell _ _ _) g3) (grown_setCell _ _ _) g3

end Go.Proofs.YtmcmcppleikajaaDoor

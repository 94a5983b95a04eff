/- Data that the laws draw: loops that append what a source gives. -/
import Derived.Test.YtkhoifgljalfcaaPic
import Derived.Test.YtkhoifgljalfcaaBox
namespace Go.Proofs.Ytkhoifgljalfcaa
open Go.RowKit
set_option maxRecDepth 100000
set_option linter.unusedVariables false
set_option linter.unusedSimpArgs false

/-- A loop that appends numbers, drawn from the source in block sb, to the slice in place k of the block ob; rb holds the result. -/
structure GenSt (w wr : World) (L rb sb ob U k : Nat) (rc : Array Value) (cs : Array Value) (T : TypeId) (v : Value) (bs : List Nat) : Prop where
  bel : w.grownBy wr (some sb)
  src : SrcOk wr L sb U
  hL : L ≤ w.heap.size
  res : BoxN wr rb rc T
  box : BoxN wr ob cs T
  slot : cs[k]? = some v
  own : OwnF wr w.heap.size v bs
  far : ∀ g, v.ownBlock = some g → g ≠ rb ∧ g ≠ sb ∧ g ≠ ob
  obf : w.heap.size ≤ ob
  rbf : w.heap.size ≤ rb
  ne1 : rb ≠ sb
  ne2 : rb ≠ ob
  ne3 : sb ≠ ob

/-- What was there is as it was, if the source is one's own. -/
theorem below_of_grown {w wr : World} {sb : Nat} (h : w.grownBy wr (some sb)) (hs : w.heap.size ≤ sb) : Below w.heap.size w wr :=
  ⟨h.os, h.tape, h.output, h.size, fun k hk => h.block k hk (by simp; omega)⟩
theorem grown_new {w w1 w2 : World} {sb : Nat} {r : Option Nat} (h : w.grownBy w1 (some sb)) (hg : w1.grownBy w2 r) (hr : ∀ k, r = some k → w.heap.size ≤ k) : w.grownBy w2 (some sb) :=
  ⟨hg.os.trans h.os, hg.tape.trans h.tape, hg.output.trans h.output, Nat.le_trans h.size hg.size, fun i hi hn => (hg.block i (Nat.lt_of_lt_of_le hi h.size) (fun e => by have := hr i e.symm; omega)).trans (h.block i hi hn)⟩
theorem GenSt.farb {w wr : World} {L rb sb ob U k : Nat} {rc : Array Value} {cs : Array Value} {T : TypeId} {v : Value} {bs : List Nat} (h : GenSt w wr L rb sb ob U k rc cs T v bs) : v.ownBlock = none ∨ v.ownBlock ≠ some rb := by
  cases hv : v.ownBlock with
  | none => exact .inl rfl
  | some g => exact .inr (fun e => by injection e with e; exact (h.far g hv).1 e)
/-- One element more: the source has drawn (w1), the element has been laid, appended (w2) and stored back. -/
theorem GenSt.fars {w wr : World} {L rb sb ob U k : Nat} {rc : Array Value} {cs : Array Value} {T : TypeId} {v : Value} {bs : List Nat} (h : GenSt w wr L rb sb ob U k rc cs T v bs) : v.ownBlock = none ∨ v.ownBlock ≠ some sb := by
  cases hv : v.ownBlock with
  | none => exact .inl rfl
  | some g => exact .inr (fun e => by injection e with e; exact (h.far g hv).2.1 e)
theorem GenSt.step {w wr w1 w2 : World} {L rb sb ob U V k r : Nat} {rc cs : Array Value} {T E : TypeId} {v : Value} {bs : List Nat} {gg cap : Nat} (h : GenSt w wr L rb sb ob U k rc cs T v bs)
    (hd : Drew L sb V wr w1) (hr : r < 4294967296)
    (hown : w2.ownsRow w.heap.size 24 1 (.slice (some ⟨gg, 0, none⟩) (bs.length + 1) cap) (bs.length + 1) (bs.map (Value.float .f32) ++ [.float .f32 r]))
    (hg : (w1.alloc (.cells #[.float .f32 r] E)).grownBy w2 v.ownBlock) (hat : v.ownBlock = some gg ∨ gg = w1.heap.size + 1) :
    GenSt w (w2.setCell ⟨ob, k, none⟩ (.slice (some ⟨gg, 0, none⟩) (bs.length + 1) cap)) L rb sb ob V k rc (cs.setIfInBounds k (.slice (some ⟨gg, 0, none⟩) (bs.length + 1) cap)) T (.slice (some ⟨gg, 0, none⟩) (bs.length + 1) cap) (bs ++ [r]) := by
  have hal : Below w1.heap.size w1 (w1.alloc (.cells #[.float .f32 r] E)) := (Below.refl _ _).alloc (Nat.le_refl _) _
  have s0 := h.bel.size
  have s1 : wr.heap.size ≤ w1.heap.size := hd.grown.size
  have l1 := h.res.lt
  have l2 := h.src.lt
  have l3 := h.box.lt
  have hL := h.hL
  have hobf := h.obf
  have far' : gg ≠ rb ∧ gg ≠ sb ∧ gg ≠ ob := by
    rcases hat with e | e
    · exact h.far gg e
    · omega
  have b1 : w.grownBy w1 (some sb) := grown_trans h.bel hd.grown
  have b2 : w.grownBy (w1.alloc (.cells #[.float .f32 r] E)) (some sb) := grown_trans b1 (grown_below hal _)
  have b3 : w.grownBy w2 (some sb) := grown_new b2 hg (fun k hk => (h.own.lt hk).1)
  have k1 : some rb ≠ v.ownBlock := fun e => (h.far rb e.symm).1 rfl
  have k2 : some sb ≠ v.ownBlock := fun e => (h.far sb e.symm).2.1 rfl
  have k3 : some ob ≠ v.ownBlock := fun e => (h.far ob e.symm).2.2 rfl
  have src2 : SrcOk w2 L sb V := (hd.ok.below hal).grown hg k2 (fun k hk => Nat.le_trans hL (h.own.lt hk).1)
  have res2 : BoxN w2 rb rc T := ((h.res.grown hd.grown (by simpa using h.ne1)).below hal).grown hg k1
  have box2 : BoxN w2 ob cs T := ((h.box.grown hd.grown (by simpa using Ne.symm h.ne3)).below hal).grown hg k3
  have hk : k < cs.size := by
    rcases Nat.lt_or_ge k cs.size with g | g
    · exact g
    · have := h.slot; rw [Array.getElem?_eq_none g] at this; cases this
  have gs := grown_setCell w2 ⟨ob, k, none⟩ (.slice (some ⟨gg, 0, none⟩) (bs.length + 1) cap)
  refine ⟨grown_new b3 gs (fun k hk => by injection hk with e; simp at e; omega), src2.grown gs (by simpa using h.ne3) (fun k hk => by injection hk with e; simp at e; omega), hL, res2.grown gs (by simpa using h.ne2), box2.set k _, by simp [hk], ⟨?_, ?_⟩, ?_, h.obf, h.rbf, h.ne1, h.ne2, h.ne3⟩
  · have q := hown.kept gs (.inr (by simp [Value.ownBlock]; exact far'.2.2))
    simpa using q
  · intro b hb'
    rcases List.mem_append.1 hb' with h1 | h1
    · exact h.own.2 b h1
    · simp at h1; omega
  · intro g hg2
    have : gg = g := by simpa [Value.ownBlock] using hg2
    subst this; exact far'

/-- The word of k quarters. -/
def qt (k : Nat) : Nat := (floatBits .quo .f32 (floatOfInt .f32 k) 1082130432).getD 0
theorem qt_some : ∀ k : Nat, k ≤ 64 → floatBits .quo .f32 (floatOfInt .f32 k) 1082130432 = some (qt k) := by
  have h : ∀ k : Fin 65, (floatBits .quo .f32 (floatOfInt .f32 (k.val : Int)) 1082130432) = some (qt k.val) := by decide +kernel
  intro k hk; exact h ⟨k, by omega⟩
theorem qt_lt : ∀ k : Nat, k ≤ 64 → qt k < 4294967296 := by
  have h : ∀ k : Fin 65, qt k.val < 4294967296 := by decide +kernel
  intro k hk; exact h ⟨k, by omega⟩

theorem r8Long_no (w : World) (a0 a1 : Option Addr) (l0 c0 l1 c1 : Nat) (h0 : l0 ≤ 48) (h1 : l1 ≤ 48) :
    Calls Try.prog 17 #[.slice a0 l0 c0, .slice a1 l1 c1] w fun e w' => e = .returned (.bool false) ∧ w = w' := by
  go_enter Try.func17, Try.ntmps17
  go_wp2
  all_goals (go_ret; simp [*]; try omega)

theorem r8Long_yes (w : World) (a0 a1 : Option Addr) (l0 c0 l1 c1 : Nat) (m0 : l0 ≤ 9223372036854775807) (m1 : l1 ≤ 9223372036854775807) (h : ¬ (l0 ≤ 48 ∧ l1 ≤ 48)) :
    Calls Try.prog 17 #[.slice a0 l0 c0, .slice a1 l1 c1] w fun e w' => e = .returned (.bool true) ∧ w = w' := by
  by_cases h0 : l0 ≤ 48
  · have h1 : ¬ l1 ≤ 48 := fun h1 => h ⟨h0, h1⟩
    clear h
    go_enter Try.func17, Try.ntmps17
    go_wp2
    all_goals (go_ret; simp [*]; try omega)
  · clear h
    go_enter Try.func17, Try.ntmps17
    go_wp2
    all_goals (go_ret; simp [*]; try omega)

def SomeBelow (w : World) (lo hi : Int) (e : Ending) (w' : World) : Prop := ∃ n, e = .returned (.int .i64 n) ∧ lo ≤ n ∧ n ≤ hi ∧ w = w'

theorem r8At_any (w : World) (a : Option Addr) (len cap : Nat) (k : Nat) (n : Int) (hn : 1 ≤ n) (hn2 : n ≤ 1000000) (hk : k ≤ 1000) (h : BytesIn w a len) :
    Calls Try.prog 19 #[.slice a len cap, .int .i64 k, .int .i64 n] w (SomeBelow w 0 (n - 1)) := by
  have hl := h.1
  by_cases h1 : n = 1
  · subst h1
    go_enter Try.func19, Try.ntmps19
    go_wp2
    go_ret
    exact ⟨0, rfl, by omega, by omega, rfl⟩
  · have d1 : decide (n ≤ 1) = false := by simp; omega
    by_cases h2 : k < len
    · rcases h.2 with h0 | ⟨b, off, rfl, hb, hc⟩
      · omega
      · obtain ⟨z, hz, hz0, hz1⟩ := hc k h2
        have d2 : decide (len ≤ k) = false := by simp; omega
        clear hc h
        go_enter Try.func19, Try.ntmps19
        go_wp2
        go_ret
        exact ⟨_, rfl, Int.emod_nonneg _ (by omega), by have := Int.emod_lt_of_pos z (show 0 < n by omega); omega, rfl⟩
    · have d2 : decide (len ≤ k) = true := by simp; omega
      go_enter Try.func19, Try.ntmps19
      go_wp2
      go_ret
      exact ⟨0, rfl, by omega, by omega, rfl⟩

theorem l02New_any (w : World) (a b : Int) : Calls Try.prog 78 #[.int .i64 a, .int .i64 b] w fun e w' => e = .returned (.agg #[.int .i64 a, .int .i64 b, .slice (some ⟨w.heap.size + 1, 0, none⟩) 0 0]) ∧ OwnF w' (w.heap.size + 1) (.slice (some ⟨w.heap.size + 1, 0, none⟩) 0 0) [] ∧ Below w.heap.size w w' ∧ w.heap.size + 1 < w'.heap.size := by
  go_enter Try.func78, Try.ntmps78
  go_wp2
  refine bodyPost_ret (v := .agg #[.int .i64 a, .int .i64 b, .slice (some ⟨w.heap.size + 1, 0, none⟩) 0 0]) (by simp [results, Try.results78, go_sem]) rfl ?_
  refine ⟨rfl, ⟨⟨rfl, .inr ⟨w.heap.size + 1, 0, #[], rfl, Nat.le_refl _, ?_, Nat.le_refl _, by unfold maxLen; omega, rfl, rfl⟩⟩, by simp⟩, below_two w _ _, by simp⟩
  have := heap_alloc_new (w.alloc (.cells #[.int .i64 a, .int .i64 b, .slice (some ⟨w.heap.size + 1, 0, none⟩) 0 0] 66)) (.cells #[] 24)
  simpa using this

/-- A picture of quarters. -/
def QuartPic (w : World) (e : Ending) (w' : World) : Prop :=
  ∃ (wd hi : Nat) (a : Option Addr) (c : Nat) (bs : List Nat), e = .returned (.agg #[.int .i64 wd, .int .i64 hi, .slice a (List.length bs) c]) ∧ 2 ≤ wd ∧ wd ≤ 6 ∧ 1 ≤ hi ∧ hi ≤ 4 ∧ bs.length = wd * hi ∧ OwnF w' w.heap.size (.slice a (List.length bs) c) bs ∧ (∀ b ∈ bs, ∃ k, k ≤ 16 ∧ b = qt k) ∧ Below w.heap.size w w'

theorem r8Picture_any (w : World) (a : Option Addr) (len cap : Nat) (h : BytesIn w a len) :
    Calls Try.prog 34 #[.slice a len cap] w (QuartPic w) := by
  obtain ⟨i0, hi0, hz0, hz1, hz2⟩ := info_parts info_f32
  go_enter Try.func34, Try.ntmps34
  go_wp2_with fail
  have ha0 : Below w.heap.size w (w.alloc (.cells #[.int .i64 0, .int .i64 0, .slice none 0 0] 66)) := (Below.refl _ _).alloc (Nat.le_refl _) _
  have hres := BoxN.last w #[.int .i64 0, .int .i64 0, .slice none 0 0] 66
  refine (from_any _ _ _ _ (h.at.grown (grown_below ha0 none) (fun k hk => by cases hk)) (by simp)).mono ?_
  rintro e w1 ⟨rfl, hs, hb, hlt⟩
  have hres := hres.below hb
  have hbel := ha0.trans (hb.mono ha0.size)
  have hsz : w.heap.size + 1 < w1.heap.size := by simpa using hlt
  have hs : SrcOk w1 w.heap.size (w.heap.size + 1) 0 := by simpa using hs
  clear ha0 hb hlt h
  go_wp2_with fail
  refine (pick_any _ _ _ 5 (by omega) (by omega) hs (by omega)).mono ?_
  rintro e w2 ⟨x, rfl, hx0, hx1, hd⟩
  obtain ⟨x, rfl⟩ := Int.eq_ofNat_of_zero_le hx0
  go_wp2_with fail
  refine (pick_any _ _ _ 4 (by omega) (by omega) hd.ok (by omega)).mono ?_
  rintro e w3 ⟨y, rfl, hy0, hy1, hd2⟩
  obtain ⟨y, rfl⟩ := Int.eq_ofNat_of_zero_le hy0
  have hd3 := hd.trans hd2
  clear hd hd2 hs
  go_wp2_with fail
  refine (l02New_any _ _ _).mono ?_
  rintro e w4 ⟨rfl, hown, hb4, hlt4⟩
  have hsz3 := hd3.grown.size
  have hres4 := (hres.grown hd3.grown (by simp)).below hb4
  have hs4 := hd3.ok.below hb4
  have hbel4 := (hbel.grown hd3.grown (by omega) (fun k hk => by injection hk with e; omega)).trans (hb4.mono (by omega))
  have hx5 : (x : Int) ≤ 4 := by omega
  have hy4 : (y : Int) ≤ 3 := by omega
  have ha5 : Below w4.heap.size w4 (w4.alloc (.cells #[.int .i64 (2 + (x : Int)), .int .i64 (1 + (y : Int)), .slice (some ⟨w3.heap.size + 1, 0, none⟩) 0 0] 66)) := (Below.refl _ _).alloc (Nat.le_refl _) _
  have hbel5 := grown_below hbel4 (some (w.heap.size + 1))
  have start : GenSt w (w4.alloc (.cells #[.int .i64 (2 + (x : Int)), .int .i64 (1 + (y : Int)), .slice (some ⟨w3.heap.size + 1, 0, none⟩) 0 0] 66)) w.heap.size w.heap.size (w.heap.size + 1) w4.heap.size 4 2 #[.int .i64 0, .int .i64 0, .slice none 0 0] #[.int .i64 (2 + (x : Int)), .int .i64 (1 + (y : Int)), .slice (some ⟨w3.heap.size + 1, 0, none⟩) 0 0] 66 (.slice (some ⟨w3.heap.size + 1, 0, none⟩) 0 0) [] := by
    refine ⟨grown_trans hbel5 (grown_below ha5 _), hs4.below ha5, Nat.le_refl _, hres4.below ha5, BoxN.last w4 _ _, rfl, (hown.below ha5).mono (by omega), ?_, by omega, by omega, by omega, by omega, by omega⟩
    intro g hg
    have : w3.heap.size + 1 = g := by simpa [Value.ownBlock] using hg
    omega
  have hprod : (2 + (x : Int)) * (1 + (y : Int)) = (((2 + x) * (1 + y) : Nat) : Int) := by simp
  have hle : (2 + x) * (1 + y) ≤ 24 := by
    have := Nat.mul_le_mul (show 2 + x ≤ 6 by omega) (show 1 + y ≤ 4 by omega)
    omega
  generalize hN : (2 + x) * (1 + y) = N at *
  have hp0 : 0 ≤ (2 + (x : Int)) * (1 + (y : Int)) := by omega
  have hp1 : (2 + (x : Int)) * (1 + (y : Int)) ≤ 24 := by omega
  have HP := Lib.hid hprod
  have HN := Lib.hid hN
  clear hprod hN hres hres4 hs4 hbel hbel4 ha5 hown hd3 hb4
  go_wp2_with fail
  go_loopw [7] (fun v7 wr => ∃ (i : Nat) (v : Value) (bs : List Nat), v7 = .int .i64 i ∧ i ≤ N ∧ bs.length = i ∧ (∀ b ∈ bs, ∃ k, k ≤ 16 ∧ b = qt k) ∧ GenSt w wr w.heap.size w.heap.size (w.heap.size + 1) w4.heap.size (4 + 2 * i) 2 #[.int .i64 0, .int .i64 0, .slice none 0 0] #[.int .i64 (2 + (x : Int)), .int .i64 (1 + (y : Int)), v] 66 v bs) (fun v7 _ => N - (intOf v7).toNat)
  case atStart => exact ⟨0, _, [], rfl, Nat.zero_le _, rfl, by simp, start⟩
  case round =>
    clear start
    obtain ⟨i, v, bs, rfl, hi, hbl, hq, hst⟩ := hrel
    obtain ⟨c0, c1, c2, f0, f1, f2⟩ := hst.box.three.cells
    by_cases hlt : i < N
    · have hlt' : (i : Int) < (2 + (x : Int)) * (1 + (y : Int)) := by rw [HP.out]; omega
      have hown := hst.own
      have hsrc := hst.src
      have hbox := hst.box
      have hL : bs.length ≤ 24 := by omega
      have hne : some w4.heap.size ≠ v.ownBlock := fun e => (hst.far _ e.symm).2.2 rfl
      have HS := Lib.hid hst
      have HL := Lib.hid hbl
      clear hst hbl
      have hd0 : ∀ w : World, w.drewN 0 = w := fun _ => rfl
      go_wp2_with fail
      go_region_law (first
        | (refine step_append_lies _ (by rfl) _ _ _ (by rfl) w.heap.size 24 i0 _ 1 4 Try.underlying41 hi0 hz0 hz1 hz2 rfl (by omega) v bs.length _ (by rfl) (World.ownsRow.alloc hown1.1 _) ⟨w1.heap.size, 0, none⟩ 1 1 [.float .f32 (qt k)] (by rfl) (by rfl) (cell_one_new _ _ _) (by simp [Value.oneCell']) (by omega) (by unfold maxLen; omega) (by omega) (by simp; omega) (w1.heap.size + 1) (by simp) ?_; intro gg cap w2 hown2 hgrow hat hlt2; obtain ⟨q0, q1, q2, g0, g1, g2⟩ := ((hbox1.below ((Below.refl w1.heap.size w1).alloc (Nat.le_refl _) _)).grown hgrow hne).three.cells)
        | (go_simp; refine (pick_any _ _ _ 17 (by omega) (by omega) (by exact hsrc) (by omega)).mono ?_; rintro e w1 ⟨n, rfl, hn0, hn1, hd⟩; obtain ⟨k, rfl⟩ := Int.eq_ofNat_of_zero_le hn0; have hk16 : k ≤ 16 := (by omega); have hdd : Drew w.heap.size (w.heap.size + 1) (4 + 2 * (i + 1)) wr w1 := ⟨hd.1.mono (by omega), ⟨hd.2.os, hd.2.tape, hd.2.output, hd.2.size, hd.2.block⟩⟩; have p1 := fres_some (qt_some k (by omega)); have p0 := fdr_some (qt_some k (by omega)); have hbox1 := hbox.grown hdd.grown (by simpa using Ne.symm HS.out.ne3); have c2' := hbox1.three.cells.2.2.1; have c4 : ∀ o, (w1.alloc o).cell? ⟨w4.heap.size, 2, none⟩ = some v := (fun o => (hbox1.below ((Below.refl w1.heap.size w1).alloc (Nat.le_refl _) o)).three.cells.2.2.1); have hown1 := hown.grown hdd.grown HS.out.fars; have hz2' : w.heap.size ≤ w1.heap.size := (by have := hdd.grown.size; have := HS.out.bel.size; omega)))
      all_goals
        go_wp2
        go_roundw
        case rel => exact ⟨i + 1, _, bs ++ [qt k], by go_num, by omega, by simp [HL.out], fun b hb => by
          rcases List.mem_append.1 hb with h1 | h1
          · exact hq b h1
          · exact ⟨k, hk16, by simpa using h1⟩, HS.out.step hdd (qt_lt k (by omega)) hown2 hgrow hat⟩
        case measure => simp [intOf]; omega
    · have hlt' : ¬ (i : Int) < (2 + (x : Int)) * (1 + (y : Int)) := by rw [HP.out]; omega
      obtain ⟨va, vc, rfl⟩ := hst.own.sl.len
      obtain ⟨d0, d1, d2, e0, e1, e2⟩ := hst.res.three.cells
      have HS := Lib.hid hst
      have HL := Lib.hid hbl
      clear hst hbl hlt
      go_wp2
      refine bodyPost_ret (v := .agg #[.int .i64 ((2 + x : Nat) : Int), .int .i64 ((1 + y : Nat) : Int), .slice va bs.length vc]) (by simp [results, Try.results34, go_sem, d0, d1, d2]) rfl ?_
      have hst := HS.out
      have hN2 : i = (2 + x) * (1 + y) := by rw [HN.out]; have := HP.out; omega
      exact ⟨2 + x, 1 + y, va, vc, bs, rfl, by omega, by omega, by omega, by omega, by rw [HL.out, hN2], (((hst.own.grown (grown_setCell _ _ _) hst.farb).grown (grown_setCell _ _ _) hst.farb).grown (grown_setCell _ _ _) hst.farb), hq, (((below_of_grown hst.bel (by omega)).setCell (by simp) _).setCell (by simp) _).setCell (by simp) _⟩

/-- Any right picture. -/
def WildPic (L sb U : Nat) (w : World) (e : Ending) (w' : World) : Prop :=
  ∃ (wd hi : Nat) (a : Option Addr) (c : Nat) (bs : List Nat), e = .returned (.agg #[.int .i64 wd, .int .i64 hi, .slice a (List.length bs) c]) ∧ 2 ≤ wd ∧ wd ≤ 6 ∧ 1 ≤ hi ∧ hi ≤ 4 ∧ bs.length = wd * hi ∧ OwnF w' w.heap.size (.slice a (List.length bs) c) bs ∧ Drew L sb U w w'

end Go.Proofs.Ytkhoifgljalfcaa

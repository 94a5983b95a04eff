/- Winners of a volume that is told by its words: the program's. -/
import Derived.Test.YtabbjilgpfnacaaGreatEy
import Derived.Deep.QuietTactic
import Derived.BigQuiet
namespace Go.Proofs.YtabbjilgpfnacaaGreat
open Go.RowKit Ieee
set_option maxRecDepth 100000
set_option linter.unusedVariables false
set_option linter.unusedSimpArgs false

/-- Cells of a slice, told by a function. -/
def Row (W : World) (b off n : Nat) (f : Nat → Nat) : Prop := ∀ i, i < n → W.cell? ⟨b, off + i, none⟩ = some (.float .f32 (f i)) ∧ f i < 4294967296
theorem Row.drewN {W : World} {b off n : Nat} {f : Nat → Nat} (h : Row W b off n f) (k : Nat) : Row (W.drewN k) b off n f := h
theorem Row.below {W W' : World} {b off n : Nat} {f : Nat → Nat} (h : Row W b off n f) (hb : Below W.heap.size W W') : Row W' b off n f := fun i hi => by
  obtain ⟨h1, h2⟩ := h i hi
  have hlt := World.block_lt_of_cell? _ _ h1
  exact ⟨by rw [hb.cell (p := ⟨b, off + i, none⟩) hlt]; exact h1, h2⟩

def wnrS (f : Nat → Nat) (but best : Int) (d : Nat) : Int := if (d : Int) ≠ but ∧ nan32 (f d) = false ∧ (best < 0 ∨ lt32 (f d) (f best.toNat) = true) then d else best
def winW (f : Nat → Nat) (but : Int) : Nat → Int
  | 0 => -1
  | d + 1 => wnrS f but (winW f but d) d
theorem winW_bd (f : Nat → Nat) (but : Int) : ∀ n, -1 ≤ winW f but n ∧ winW f but n < n := by
  intro n
  induction n with
  | zero => exact ⟨Int.le_refl _, by show (-1 : Int) < 0; decide⟩
  | succ n ih =>
    show -1 ≤ wnrS f but (winW f but n) n ∧ wnrS f but (winW f but n) n < ((n + 1 : Nat) : Int)
    unfold wnrS
    split <;> omega

theorem isNaN_quiet {b : Nat} {v : Bool} (h : nan32 b = v) {w : World} (n : Nat) : Calls Tryz.prog 85 #[.float .f32 b] (w.drewN n) fun e w'' => e = .returned (.bool v) ∧ ∃ m, w'' = w.drewN m := by
  refine quiet_same ((isNaN_any b (w.drewN n)).mono ?_)
  rintro e w' ⟨rfl, rfl⟩
  rw [h]; exact ⟨rfl, rfl⟩

set_option maxHeartbeats 1000000 in
theorem winner_any (W : World) (b off n c : Nat) (f : Nat → Nat) (but : Int) (hn : n ≤ 4096) (hb1 : -1 ≤ but) (hb2 : but ≤ 4096) (h : Row W b off n f) :
    Calls Tryz.prog 55 #[.slice (some ⟨b, off, none⟩) n c, .int .i64 but] W fun e w' => e = .returned (.int .i64 (winW f but n)) ∧ ∃ m, w' = W.drewN m := by
  have HR := Lib.hid h
  have HB := Lib.hid (winW_bd f but)
  clear h
  go_enter Tryz.func55, Tryz.ntmps55
  go_wp2
  go_loopw [5, 10] (fun v5 v10 wr => ∃ d m : Nat, v10 = .int .i64 d ∧ d ≤ n ∧ v5 = .int .i64 (winW f but d) ∧ wr = W.drewN m) (fun _ v10 _ => n - (intOf v10).toNat)
  case atStart => exact ⟨0, 0, rfl, Nat.zero_le _, rfl, rfl⟩
  case round =>
    obtain ⟨d, m, rfl, hd, rfl, rfl⟩ := hrel
    by_cases hlt : d < n
    · obtain ⟨k0, kl⟩ := HR.out d hlt
      have k1 : ∀ q, (W.drewN q).cell? ⟨b, off + d, none⟩ = some (.float .f32 (f d)) := fun _ => k0
      obtain ⟨w1, w2⟩ := HB.out d
      have hst : winW f but (d + 1) = wnrS f but (winW f but d) d := rfl
      unfold wnrS at hst
      have hlt2 : (d : Int) < (n : Int) := by omega
      have HD := Lib.hid hd
      have HST := Lib.hid hst
      clear hst k0 hd
      obtain ⟨best, hbest⟩ : ∃ best, best = winW f but d := ⟨_, rfl⟩
      rw [← hbest] at w1 w2 HST ⊢
      by_cases e1 : (d : Int) = but
      · have hst2 : winW f but (d + 1) = best := by rw [HST.out, if_neg (fun h => h.1 e1)]
        have HS2 := Lib.hid hst2
        obtain rfl : but = (d : Int) := e1.symm
        clear hst2 HST kl
        generalize f d = x at *
        go_wp2
        go_roundw
        case rel => exact ⟨d + 1, _, by go_num, by omega, by rw [HS2.out, hbest], rfl⟩
        case measure => simp [intOf]; omega
      · have e1a : ((d : Int) == but) = false := by rw [beq_eq_false_iff_ne]; exact e1
        have e1b : ((d : Int) != but) = true := by rw [bne, e1a]; rfl
        cases e2 : nan32 (f d)
        · by_cases hbn : best < 0
          · obtain rfl : best = -1 := by omega
            have hst2 : winW f but (d + 1) = d := by rw [HST.out, if_pos ⟨e1, e2, .inl (by decide)⟩]
            have HS2 := Lib.hid hst2
            clear hst2 HST hbest w1 w2 hbn
            generalize f d = x at *
            go_wp2_with fail
            refine (isNaN_any _ _).mono ?_
            rw [e2]
            rintro e w' ⟨rfl, rfl⟩
            go_wp2
            go_roundw
            case rel => exact ⟨d + 1, _, by go_num, by omega, by rw [HS2.out], rfl⟩
            case measure => simp [intOf]; omega
          · obtain ⟨j, rfl⟩ := Int.eq_ofNat_of_zero_le (show 0 ≤ best by omega)
            obtain ⟨k2, -⟩ := HR.out j (by omega)
            have k3 : ∀ q, (W.drewN q).cell? ⟨b, off + j, none⟩ = some (.float .f32 (f j)) := fun _ => k2
            have hj1 : (j : Int) < n := by omega
            have HBE := Lib.hid hbest
            clear hbest k2
            cases e4 : lt32 (f d) (f j)
            all_goals
              have hst2 : winW f but (d + 1) = if lt32 (f d) (f j) = true then (d : Int) else (j : Int) := by
                rw [HST.out, e4]
                simp [e1, e2, e4, hbn]
              rw [e4] at hst2
              have HS2 := Lib.hid hst2
              clear hst2 HST hbn w1 w2
              generalize f d = x at *
              generalize f j = y at *
              go_wp2_with fail
              refine (isNaN_any _ _).mono ?_
              rw [e2]
              rintro e w' ⟨rfl, rfl⟩
              go_wp2
              go_roundw
              case rel => exact ⟨d + 1, _, by go_num, by omega, by rw [HS2.out]; rfl, rfl⟩
              case measure => simp [intOf]; omega
        · have hst2 : winW f but (d + 1) = best := by rw [HST.out, if_neg (fun h => by rw [e2] at h; cases h.2.1)]
          have HS2 := Lib.hid hst2
          clear hst2 HST
          generalize f d = x at *
          go_wp2_with fail
          refine (isNaN_any _ _).mono ?_
          rw [e2]
          rintro e w' ⟨rfl, rfl⟩
          go_wp2
          go_roundw
          case rel => exact ⟨d + 1, _, by go_num, by omega, by rw [HS2.out, hbest], rfl⟩
          case measure => simp [intOf]; omega
    · obtain rfl : n = d := by omega
      go_wp2
      go_ret
      exact ⟨rfl, _, rfl⟩

/-- A function value that tells a number of a list of costs. -/
def GivesL (w0 : World) (ov : Value) (n : Nat) (h : (Nat → Nat) → Nat) : Prop :=
  ∃ fid caps, ov = .func (.func fid) #[] caps ∧ (∀ args w, (callFunc fid args).run Tryz.prog w = .ok (.enter fid args) w) ∧
    ∀ (W : World) (b off : Nat) (f : Nat → Nat), Below w0.heap.size w0 W → Row W b off n f →
      Calls Tryz.prog fid (#[.slice (some ⟨b, off, none⟩) n n] ++ caps) W fun e w' => ∃ r, e = .returned (.float .f32 r) ∧ r < 4294967296 ∧ fl r = h f ∧ ∃ m, w' = W.drewN m
theorem GivesL.below {w0 w1 : World} {ov : Value} {n : Nat} {h : (Nat → Nat) → Nat} (k : GivesL w0 ov n h) (hb : Below w0.heap.size w0 w1) : GivesL w1 ov n h := by
  obtain ⟨fid, caps, h1, h2, h3⟩ := k
  exact ⟨fid, caps, h1, h2, fun W b off f hW hR => h3 W b off f (hb.trans (hW.mono hb.size)) hR⟩

theorem VolAt.row {W : World} {pb wd hi dp b off n c : Nat} {bs : List Nat} (h : VolAt W pb wd hi dp b off n c bs) {x y : Nat} (hx : x < wd) (hy : y < hi) : Row W b (off + ic wd dp x y) dp (gc bs wd dp x y) := fun d hd => h.cost hx hy hd

theorem cellMap1_gives {W0 : World} {ob pb wd hi dp b off n c : Nat} {bs : List Nat} {ov : Value} {h : (Nat → Nat) → Nat} (ho : W0.cell? ⟨ob, 0, none⟩ = some ov) (hob : ob < W0.heap.size) (hL : GivesL W0 ov dp h) (hp : VolAt W0 pb wd hi dp b off n c bs) (hw : wd ≤ 24) (hh : hi ≤ 24) (hd1 : 1 ≤ dp) (hd2 : dp ≤ 8) :
    Gives2 W0 (.func (.func 84) #[] #[.pointer (some ⟨ob, 0, none⟩), .pointer (some ⟨pb, 0, none⟩)]) wd hi (fun x y => h (gc bs wd dp x y)) := by
  refine ⟨84, _, rfl, Tryz.call84, fun x y W hx hy hbW => ?_⟩
  obtain ⟨fid, caps, rfl, hcall, hof⟩ := hL
  have hp2 := hp.below hbW
  have ho2 : W.cell? ⟨ob, 0, none⟩ = some (.func (.func fid) #[] caps) := by rw [hbW.cell (p := ⟨ob, 0, none⟩) hob]; exact ho
  have K := Lib.hid (cell_quiet W pb wd hi dp b off n c bs x y x y rfl rfl hx hy hw hh hd1 hd2 hp2)
  have K0 := Lib.hid (cell_drew W pb wd hi dp b off n c bs x y x y rfl rfl hx hy hw hh hd1 hd2 hp2)
  have KV := Lib.hid (fun m => hof (W.drewN m) b (off + ic wd dp x y) (gc bs wd dp x y) (below_drewN hbW m) ((hp2.row hx hy).drewN m))
  generalize hf : gc bs wd dp x y = f at *
  have HF := Lib.hid hf
  generalize ic wd dp x y = k at *
  clear ho hp hp2 hof hbW hf
  show Calls _ _ #[.int .i64 x, .int .i64 y, .pointer (some ⟨ob, 0, none⟩), .pointer (some ⟨pb, 0, none⟩)] _ _
  go_enter Tryz.func84, Tryz.ntmps84
  go_wp2_with fail
  go_region_law (first
    | (go_simp; (with_reducible refine K0.out.mono ?_); rintro e w' ⟨rfl, m, rfl⟩)
    | (go_simp; (with_reducible refine (K.out _).mono ?_); rintro e w' ⟨rfl, m, rfl⟩)
    | (go_simp; (with_reducible refine (KV.out _).mono ?_); rintro e w' ⟨r, rfl, hr1, hr2, m3, rfl⟩))
  all_goals
    go_wp2
    go_ret
    exact ⟨_, rfl, hr1, by show _ = h (gc bs wd dp x y); rw [HF.out]; exact hr2, below_drewN (Below.refl _ _) _⟩

theorem vVol_picG {wd hi dp N : Nat} (h : vVol wd hi dp N = true) : vPic wd hi (wd * hi) = true := by
  obtain ⟨x1, x2, x3, e1, e2, e3, e4, b1, b2, b3, b4, b5, b6, b7, b8⟩ := vVol_spec h
  have : x1 = wd := by omega
  have : x2 = hi := by omega
  subst_vars
  exact vPic_of b1 b2 b3 b4 b5

set_option maxHeartbeats 1000000 in
theorem cellMap_w (w : World) (wd hi dp M q c : Nat) (bs : List Nat) (ov : Value) (h : (Nat → Nat) → Nat) (hv : vVol wd hi dp M = true) (hp : SlF w (.slice (some ⟨q, 0, none⟩) M c) bs) (hL : GivesL w ov dp h) :
    Calls Tryz.prog 53 #[.agg #[.int .i64 wd, .int .i64 hi, .int .i64 dp, .slice (some ⟨q, 0, none⟩) M c], ov] w (MRes ⟨true, wd, hi, tab (hi * wd) fun i => h (gc bs wd dp (i % wd) (i / wd))⟩ w) := by
  obtain ⟨hM, d1, d2, d3, d4, d5, d6, d7, d8⟩ := vVol_picE hv
  have hN0 : 0 < wd * hi := Nat.mul_pos d1 d3
  obtain ⟨fid, caps, hov, k2, k3⟩ := hL
  subst hov
  have hL : GivesL w (.func (.func fid) #[] caps) dp h := ⟨fid, caps, rfl, k2, k3⟩
  clear k2 k3
  have hb0 := (below_two w (.cells #[.int .i64 wd, .int .i64 hi, .int .i64 dp, .slice (some ⟨q, 0, none⟩) M c] 62) (.cells #[.func (.func fid) #[] caps] 87)).alloc (by simp; omega) (.cells #[.int .i64 0, .int .i64 0, .slice none 0 0] 32)
  have hb1 := alE ((w.alloc (.cells #[.int .i64 wd, .int .i64 hi, .int .i64 dp, .slice (some ⟨q, 0, none⟩) M c] 62)).alloc (.cells #[.func (.func fid) #[] caps] 87)) (.cells #[.int .i64 0, .int .i64 0, .slice none 0 0] 32)
  have B1 := (BoxN.first w #[.int .i64 wd, .int .i64 hi, .int .i64 dp, .slice (some ⟨q, 0, none⟩) M c] 62 (.cells #[.func (.func fid) #[] caps] 87)).below hb1
  have B2 := (BoxN.second w #[.func (.func fid) #[] caps] 87 (.cells #[.int .i64 wd, .int .i64 hi, .int .i64 dp, .slice (some ⟨q, 0, none⟩) M c] 62)).below hb1
  have B3 := BoxN.last ((w.alloc (.cells #[.int .i64 wd, .int .i64 hi, .int .i64 dp, .slice (some ⟨q, 0, none⟩) M c] 62)).alloc (.cells #[.func (.func fid) #[] caps] 87)) #[.int .i64 0, .int .i64 0, .slice none 0 0] 32
  have hsz : ((w.alloc (.cells #[.int .i64 wd, .int .i64 hi, .int .i64 dp, .slice (some ⟨q, 0, none⟩) M c] 62)).alloc (.cells #[.func (.func fid) #[] caps] 87)).heap.size = w.heap.size + 2 := by simp
  rw [hsz] at B3
  have HP := Lib.hid hp
  have HL := Lib.hid hL
  have HB0 := Lib.hid hb0
  have HB1 := Lib.hid B1
  have HB2 := Lib.hid B2
  have HB3 := Lib.hid B3
  have HHM := Lib.hid hM
  clear hb0 hb1 B1 B2 B3 hsz hp hL hM
  go_enter Tryz.func53, Tryz.ntmps53
  go_wp2_with fail
  refine (validVolume_any _ _ _ _ _ _ (by omega) _).mono ?_
  rw [hv]
  rintro e w1 ⟨rfl, hbv⟩
  have hbx := HB0.out.trans (hbv.mono HB0.out.size)
  have C1 := HB1.out.below hbv
  have C2 := HB2.out.below hbv
  have C3 := HB3.out.below hbv
  have hlt3 := C3.lt
  have hp1 : VolAt w1 w.heap.size wd hi dp q 0 M c bs := ⟨C1, HP.out.below hbx, by have := HP.out.size.1; have := HHM.out; omega⟩
  have hG := cellMap1_gives (ob := w.heap.size + 1) (by have := C2.cell 0; simpa using this) C2.lt (HL.out.below hbx) hp1 d2 d4 d6 d7
  obtain ⟨c0, c1, c2, c3, -, -, -, -⟩ := C1.four
  have HG := Lib.hid hG
  have HC3 := Lib.hid C3
  clear hbv hp1 hG C1 C2 C3
  go_wp2_with fail
  refine (mapOfE w1 wd hi _ _ d2 d4 HG.out).mono ?_
  rintro e w2 ⟨a, cc, bs', rfl, hown, hcon, hb2⟩
  obtain ⟨d0, e1, e2, g0, g1, g2⟩ := (HC3.out.below hb2).three.cells
  have hlt3 := (HC3.out.below hb2).lt
  have hlt4 := HC3.out.lt
  have HF := Lib.hid (And.intro hown (And.intro hcon (And.intro hb2 hbx)))
  clear hcon hown hb2 hbx
  go_wp2
  refine bodyPost_ret (v := .tuple #[.agg #[.int .i64 wd, .int .i64 hi, .slice a bs'.length cc], .bool true]) (by simp [results, Tryz.results53, go_sem, d0, e1, e2, hlt3]) rfl ?_
  exact MRes.of_box (t := ⟨true, wd, hi, tab (hi * wd) fun i => h (gc bs wd dp (i % wd) (i / wd))⟩) HF.out.2.2.2 hlt4 (by omega) HF.out.1 HF.out.2.1 HF.out.2.2.1 _ _ _

/-- The winner of a cell's costs, as a word. -/
def wonE (dp : Nat) (f : Nat → Nat) : Nat := iw (winW f (-1) dp)
theorem winners1_gives (w : World) (dp : Nat) (hd : dp ≤ 8) : GivesL w (.func (.func 54) #[] #[]) dp (wonE dp) := by
  refine ⟨54, _, rfl, Tryz.call54, fun W b off f hW hR => ?_⟩
  obtain ⟨p1, p2⟩ := winW_bd f (-1) dp
  have hlt := ofInt_lt (winW f (-1) dp)
  have K := Lib.hid (winner_any W b off dp dp f (-1) (by omega) (by omega) (by omega) hR)
  clear hR
  show Calls _ _ #[.slice (some ⟨b, off, none⟩) dp dp] _ _
  go_enter Tryz.func54, Tryz.ntmps54
  go_wp2_with fail
  refine K.out.mono ?_
  rintro e w' ⟨rfl, m, rfl⟩
  go_wp2
  go_ret
  exact ⟨_, rfl, hlt, rfl, m, rfl⟩

set_option maxHeartbeats 1000000 in
theorem iWinnersE (w : World) (wd hi dp M q c : Nat) (bs : List Nat) (hv : vVol wd hi dp M = true) (hp : SlF w (.slice (some ⟨q, 0, none⟩) M c) bs) :
    Calls Tryz.prog 34 #[.agg #[.int .i64 wd, .int .i64 hi, .int .i64 dp, .slice (some ⟨q, 0, none⟩) M c]] w (MRes ⟨true, wd, hi, tab (hi * wd) fun i => wonE dp (gc bs wd dp (i % wd) (i / wd))⟩ w) := by
  obtain ⟨hM, d1, d2, d3, d4, d5, d6, d7, d8⟩ := vVol_picE hv
  have hb0 := below_two w (.cells #[.int .i64 wd, .int .i64 hi, .int .i64 dp, .slice (some ⟨q, 0, none⟩) M c] 62) (.cells #[.int .i64 0, .int .i64 0, .slice none 0 0] 32)
  have B3 := (BoxN.second w #[.int .i64 0, .int .i64 0, .slice none 0 0] 32 (.cells #[.int .i64 wd, .int .i64 hi, .int .i64 dp, .slice (some ⟨q, 0, none⟩) M c] 62))
  have K := Lib.hid (cellMap_w _ wd hi dp M q c bs _ _ hv (hp.below hb0) (winners1_gives _ dp d7))
  have HB0 := Lib.hid hb0
  have HB3 := Lib.hid B3
  clear hM hp hb0 B3 hv
  go_enter Tryz.func34, Tryz.ntmps34
  go_wp2_with fail
  refine K.out.mono ?_
  rintro e w2 ⟨a, cc, bs', rfl, hown, hcon, hb2⟩
  obtain ⟨d0, e1, e2, g0, g1, g2⟩ := (HB3.out.below hb2).three.cells
  have hlt3 := (HB3.out.below hb2).lt
  have hlt4 := HB3.out.lt
  have HF := Lib.hid (And.intro hown (And.intro hcon hb2))
  clear hcon hown hb2
  go_wp2
  refine bodyPost_ret (v := .tuple #[.agg #[.int .i64 wd, .int .i64 hi, .slice a bs'.length cc], .bool true]) (by simp [results, Tryz.results34, go_sem, d0, e1, e2, hlt3]) rfl ?_
  exact MRes.of_box (t := ⟨true, wd, hi, tab (hi * wd) fun i => wonE dp (gc bs wd dp (i % wd) (i / wd))⟩) HB0.out hlt4 (by omega) HF.out.1 HF.out.2.1 HF.out.2.2 _ _ _

end Go.Proofs.YtabbjilgpfnacaaGreat

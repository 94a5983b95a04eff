/- Maps that are told of the costs of each cell: winners, least costs, margins. -/
import Derived.Test.YtmpbnmmpniganaaWa
import Derived.Test.YtmpbnmmpniganaaMr
import Derived.Deep.QuietTactic
import Derived.BigQuiet
namespace Go.Proofs.Ytmpbnmmpniganaa
open Go.RowKit
set_option maxRecDepth 100000
set_option linter.unusedVariables false
set_option linter.unusedSimpArgs false

/-- A function value that tells a number of a list of costs. -/
def GivesL (w0 : World) (ov : Value) (n : Nat) (h : (Nat → Nat) → Nat) : Prop :=
  ∃ fid caps, ov = .func (.func fid) #[] caps ∧ (∀ args w, (callFunc fid args).run Try.prog w = .ok (.enter fid args) w) ∧
    ∀ (W : World) (b off : Nat) (f : Nat → Nat), Below w0.heap.size w0 W → Row W b off n f →
      Calls Try.prog fid (#[.slice (some ⟨b, off, none⟩) n n] ++ caps) W fun e w' => ∃ r, e = .returned (.float .f32 r) ∧ r < 4294967296 ∧ fl r = h f ∧ ∃ m, w' = W.drewN m
theorem GivesL.below {w0 w1 : World} {ov : Value} {n : Nat} {h : (Nat → Nat) → Nat} (k : GivesL w0 ov n h) (hb : Below w0.heap.size w0 w1) : GivesL w1 ov n h := by
  obtain ⟨fid, caps, h1, h2, h3⟩ := k
  exact ⟨fid, caps, h1, h2, fun W b off f hW hR => h3 W b off f (hb.trans (hW.mono hb.size)) hR⟩

theorem VolAt.row {W : World} {pb wd hi dp b off n c : Nat} {bs : List Nat} (h : VolAt W pb wd hi dp b off n c bs) {x y : Nat} (hx : x < wd) (hy : y < hi) : Row W b (off + ic wd dp x y) dp (gc bs wd dp x y) := fun d hd => h.cost hx hy hd

theorem cellMap1_gives {W0 : World} {ob pb wd hi dp b off n c : Nat} {bs : List Nat} {ov : Value} {h : (Nat → Nat) → Nat} (ho : W0.cell? ⟨ob, 0, none⟩ = some ov) (hob : ob < W0.heap.size) (hL : GivesL W0 ov dp h) (hp : VolAt W0 pb wd hi dp b off n c bs) (hw : wd ≤ 24) (hh : hi ≤ 24) (hd1 : 1 ≤ dp) (hd2 : dp ≤ 8) :
    Gives2 W0 (.func (.func 102) #[] #[.pointer (some ⟨ob, 0, none⟩), .pointer (some ⟨pb, 0, none⟩)]) wd hi (fun x y => h (gc bs wd dp x y)) := by
  refine ⟨102, _, rfl, Try.call102, fun x y W hx hy hbW => ?_⟩
  obtain ⟨fid, caps, rfl, hcall, hof⟩ := hL
  have hp2 := hp.below hbW
  have ho2 : W.cell? ⟨ob, 0, none⟩ = some (.func (.func fid) #[] caps) := by rw [hbW.cell (p := ⟨ob, 0, none⟩) hob]; exact ho
  have K := Lib.hid (cell_quiet W pb wd hi dp b off n c bs x y x y rfl rfl hx hy hw hh hd1 hd2 hp2)
  have K0 := Lib.hid (cell_drew W pb wd hi dp b off n c bs x y x y rfl rfl hx hy hw hh hd1 hd2 hp2)
  have KV := Lib.hid (fun m => hof (W.drewN m) b (off + ic wd dp x y) (gc bs wd dp x y) (below_drewN hbW m) ((hp2.row hx hy).drewN m))
  generalize hf : gc bs wd dp x y = f at *
  have HF := Lib.hid hf
  generalize ic wd dp x y = k at *
  clear ho hp hp2 hof hbW hf
  show Calls _ _ #[.int .i64 x, .int .i64 y, .pointer (some ⟨ob, 0, none⟩), .pointer (some ⟨pb, 0, none⟩)] _ _
  go_enter Try.func102, Try.ntmps102
  go_wp2_with fail
  go_region_law (first
    | (go_simp; (with_reducible refine K0.out.mono ?_); rintro e w' ⟨rfl, m, rfl⟩)
    | (go_simp; (with_reducible refine (K.out _).mono ?_); rintro e w' ⟨rfl, m, rfl⟩)
    | (go_simp; (with_reducible refine (KV.out _).mono ?_); rintro e w' ⟨r, rfl, hr1, hr2, m3, rfl⟩))
  all_goals
    go_wp2
    go_ret
    exact ⟨_, rfl, hr1, by show _ = h (gc bs wd dp x y); rw [HF.out]; exact hr2, below_drewN (Below.refl _ _) _⟩

/-- A map of words, made anew, and true. -/
structure MW (W : World) (q c N : Nat) (bs : List Nat) : Prop where
  sl : SlF W (.slice (some ⟨q, 0, none⟩) N c) bs
  lt : q < W.heap.size
  len : bs.length = N
theorem MW.below {W W' : World} {q c N : Nat} {bs : List Nat} (h : MW W q c N bs) (hb : Below W.heap.size W W') : MW W' q c N bs := ⟨h.sl.below hb, Nat.lt_of_lt_of_le h.lt hb.size, h.len⟩
theorem MW.drewN {W : World} {q c N : Nat} {bs : List Nat} (h : MW W q c N bs) (k : Nat) : MW (W.drewN k) q c N bs := ⟨⟨h.sl.1.drewN k, h.sl.2⟩, h.lt, h.len⟩
theorem MW.get {W : World} {q c N : Nat} {bs : List Nat} (h : MW W q c N bs) (i : Nat) (hi : i < N) : W.cell? ⟨q, i, none⟩ = some (.float .f32 (bs.getD i 0)) ∧ bs.getD i 0 < 4294967296 := by
  have := h.sl.at i (by rw [h.len]; exact hi)
  rwa [Nat.zero_add] at this
theorem MW.cap {W : World} {q c N : Nat} {bs : List Nat} (h : MW W q c N bs) : N ≤ c ∧ c ≤ 9223372036854775807 := h.sl.size.2
def MakesMW (w : World) (wd hi N : Nat) (g : Nat → Nat → Nat) (e : Ending) (w' : World) : Prop :=
  ∃ q c bs, e = .returned (.tuple #[.agg #[.int .i64 wd, .int .i64 hi, .slice (some ⟨q, 0, none⟩) N c], .bool true]) ∧ MW w' q c N bs ∧ bs.map fl = tab (hi * wd) (fun i => g (i % wd) (i / wd)) ∧ w.heap.size ≤ q ∧ Below w.heap.size w w'

theorem vVol_pic {wd hi dp N : Nat} (h : vVol wd hi dp N = true) : vPic wd hi (wd * hi) = true ∧ N = wd * hi * dp ∧ 1 ≤ wd ∧ wd ≤ 24 ∧ 1 ≤ hi ∧ hi ≤ 24 ∧ wd * hi ≤ 256 ∧ 1 ≤ dp ∧ dp ≤ 8 ∧ N ≤ 2048 := by
  obtain ⟨x1, x2, x3, e1, e2, e3, e4, b1, b2, b3, b4, b5, b6, b7, b8⟩ := vVol_spec h
  have : x1 = wd := by omega
  have : x2 = hi := by omega
  have : x3 = dp := by omega
  subst_vars
  exact ⟨vPic_of b1 b2 b3 b4 b5, rfl, b1, b2, b3, b4, b5, b6, b7, b8⟩

set_option maxHeartbeats 1000000 in
theorem cellMap_w (w : World) (wd hi dp M q c : Nat) (bs : List Nat) (ov : Value) (h : (Nat → Nat) → Nat) (hv : vVol wd hi dp M = true) (hp : MW w q c M bs) (hL : GivesL w ov dp h) :
    Calls Try.prog 64 #[.agg #[.int .i64 wd, .int .i64 hi, .int .i64 dp, .slice (some ⟨q, 0, none⟩) M c], ov] w (MakesMW w wd hi (wd * hi) (fun x y => h (gc bs wd dp x y))) := by
  obtain ⟨hpic, hM, d1, d2, d3, d4, d5, d6, d7, d8⟩ := vVol_pic hv
  have hN0 : 0 < wd * hi := Nat.mul_pos d1 d3
  obtain ⟨fid, caps, hov, k2, k3⟩ := hL
  subst hov
  have hL : GivesL w (.func (.func fid) #[] caps) dp h := ⟨fid, caps, rfl, k2, k3⟩
  clear k2 k3
  have hb0 := (below_two w (.cells #[.int .i64 wd, .int .i64 hi, .int .i64 dp, .slice (some ⟨q, 0, none⟩) M c] 44) (.cells #[.func (.func fid) #[] caps] 90)).alloc (by simp; omega) (.cells #[.int .i64 0, .int .i64 0, .slice none 0 0] 27)
  have hb1 := alb1 ((w.alloc (.cells #[.int .i64 wd, .int .i64 hi, .int .i64 dp, .slice (some ⟨q, 0, none⟩) M c] 44)).alloc (.cells #[.func (.func fid) #[] caps] 90)) (.cells #[.int .i64 0, .int .i64 0, .slice none 0 0] 27)
  have B1 := (BoxN.first w #[.int .i64 wd, .int .i64 hi, .int .i64 dp, .slice (some ⟨q, 0, none⟩) M c] 44 (.cells #[.func (.func fid) #[] caps] 90)).below hb1
  have B2 := (BoxN.second w #[.func (.func fid) #[] caps] 90 (.cells #[.int .i64 wd, .int .i64 hi, .int .i64 dp, .slice (some ⟨q, 0, none⟩) M c] 44)).below hb1
  have B3 := BoxN.last ((w.alloc (.cells #[.int .i64 wd, .int .i64 hi, .int .i64 dp, .slice (some ⟨q, 0, none⟩) M c] 44)).alloc (.cells #[.func (.func fid) #[] caps] 90)) #[.int .i64 0, .int .i64 0, .slice none 0 0] 27
  have hsz : ((w.alloc (.cells #[.int .i64 wd, .int .i64 hi, .int .i64 dp, .slice (some ⟨q, 0, none⟩) M c] 44)).alloc (.cells #[.func (.func fid) #[] caps] 90)).heap.size = w.heap.size + 2 := by simp
  rw [hsz] at B3
  have HP := Lib.hid hp
  have HL := Lib.hid hL
  have HB0 := Lib.hid hb0
  have HB1 := Lib.hid B1
  have HB2 := Lib.hid B2
  have HB3 := Lib.hid B3
  have HHM := Lib.hid hM
  clear hb0 hb1 B1 B2 B3 hsz hp hL hM
  go_enter Try.func64, Try.ntmps64
  go_wp2_with fail
  refine (validVolume_any _ _ _ _ _ _ (by omega) _).mono ?_
  rw [hv]
  rintro e w1 ⟨rfl, hbv⟩
  have hbx := HB0.out.trans (hbv.mono HB0.out.size)
  have C1 := HB1.out.below hbv
  have C2 := HB2.out.below hbv
  have C3 := HB3.out.below hbv
  have hlt3 := C3.lt
  have hp1 : VolAt w1 w.heap.size wd hi dp q 0 M c bs := ⟨C1, HP.out.sl.below hbx, by rw [HP.out.len]; exact HHM.out⟩
  have hG := cellMap1_gives (ob := w.heap.size + 1) (by have := C2.cell 0; simpa using this) C2.lt (HL.out.below hbx) hp1 d2 d4 d6 d7
  obtain ⟨c0, c1, c2, c3, -, -, -, -⟩ := C1.four
  have HG := Lib.hid hG
  have HC3 := Lib.hid C3
  clear hbv hp1 hG C1 C2 C3
  go_wp2_with fail
  refine (mapOf_any w1 wd hi _ _ d2 d4 HG.out).mono ?_
  rintro e w2 ⟨a, cc, bs', rfl, hown, hcon, hb2⟩
  have hl : bs'.length = wd * hi := by have := congrArg List.length hcon; simp [tab_length] at this; rw [this, Nat.mul_comm]
  rw [hl] at hown ⊢
  obtain ⟨q', rfl⟩ := own_ptr hown (by omega)
  obtain ⟨d0, e1, e2, g0, g1, g2⟩ := (HC3.out.below hb2).three.cells
  have hbb := hbx.trans (hb2.mono hbx.size)
  have hq := (hown.lt (k := q') rfl).1
  have hqs : w.heap.size ≤ q' := Nat.le_trans hbx.size hq
  have HCON := Lib.hid hcon
  have hlt3 := (HC3.out.below hb2).lt
  clear hcon hl
  go_wp2
  refine bodyPost_ret (v := .tuple #[.agg #[.int .i64 wd, .int .i64 hi, .slice (some ⟨q', 0, none⟩) (wd * hi) cc], .bool true]) (by simp [results, Try.results64, go_sem, d0, e1, e2, hlt3]) rfl ?_
  have ho := (((hown.set (by first | omega | (simp; done) | (simp; omega)) (.int .i64 wd) (a := ⟨w.heap.size + 2, 0, none⟩)).set (by first | omega | (simp; done) | (simp; omega)) (.int .i64 hi) (a := ⟨w.heap.size + 2, 1, none⟩)).set (by first | omega | (simp; done) | (simp; omega)) (.slice (some ⟨q', 0, none⟩) (wd * hi) cc) (a := ⟨w.heap.size + 2, 2, none⟩))
  have hl2 : bs'.length = wd * hi := by have := congrArg List.length HCON.out; simp [tab_length] at this; rw [this, Nat.mul_comm]
  refine ⟨q', cc, bs', rfl, ⟨?_, (ho.lt (k := q') rfl).2, hl2⟩, HCON.out, hqs, ((hbb.setCell (by simp; omega) _).setCell (by simp; omega) _).setCell (by simp; omega) _⟩
  exact ho.sl

end Go.Proofs.Ytmpbnmmpniganaa

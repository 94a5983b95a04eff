/- Volumes that are told of others: scaled, mirrored, flipped, swapped, added. -/
import Derived.Test.YtabbjilgpfnacaaGreatVo
namespace Go.Proofs.YtabbjilgpfnacaaGreat
open Go.RowKit
set_option maxRecDepth 100000
set_option linter.unusedVariables false
set_option linter.unusedSimpArgs false

theorem bcellV {W w1 : World} (hb : Below W.heap.size W w1) : (∀ b o, b < W.heap.size → w1.cell? ⟨b, o, none⟩ = W.cell? ⟨b, o, none⟩) ∧ (∀ b o, b < W.heap.size → w1.frozen? ⟨b, o, none⟩ = W.frozen? ⟨b, o, none⟩) :=
  ⟨fun b o h => hb.cell (p := ⟨b, o, none⟩) h, fun b o h => hb.frozen (p := ⟨b, o, none⟩) h⟩

/-- A volume that is made and right. -/
def MakesVolOk (w : World) (wd hi dp : Nat) (g : Nat → Nat → Nat → Nat) (e : Ending) (w' : World) : Prop :=
  ∃ q c bs, e = .returned (.tuple #[.agg #[.int .i64 wd, .int .i64 hi, .int .i64 dp, .slice (some ⟨q, 0, none⟩) (List.length bs) c], .bool true]) ∧ OwnF w' w.heap.size (.slice (some ⟨q, 0, none⟩) (List.length bs) c) bs ∧ bs.map fl = tab3 wd hi dp g ∧ Below w.heap.size w w'
theorem own_addr {w : World} {B n c : Nat} {a : Option Addr} {bs : List Nat} (h : OwnF w B (.slice a n c) bs) (h0 : 0 < bs.length) : ∃ q, a = some ⟨q, 0, none⟩ := by
  rcases h.form with ⟨h1, h2⟩ | ⟨q, cap, h1, h2⟩
  · rw [h2] at h0; simp at h0
  · simp only [Value.slice.injEq] at h1; exact ⟨q, h1.1⟩
theorem tab3_len {bs : List Nat} {wd hi dp : Nat} {g : Nat → Nat → Nat → Nat} (h : bs.map fl = tab3 wd hi dp g) : bs.length = hi * wd * dp := by
  have := congrArg List.length h
  simpa [tab3, tab_length] using this

theorem revolume_ok (w : World) (wd hi dp N : Nat) (sa : Option Addr) (c : Nat) (fv : Value) (g : Nat → Nat → Nat → Nat) (hv : vVol wd hi dp N = true) (hf : Gives3 w fv wd hi dp g) :
    Calls Tryz.prog 72 #[.agg #[.int .i64 wd, .int .i64 hi, .int .i64 dp, .slice sa N c], fv] w (MakesVolOk w wd hi dp g) := by
  obtain ⟨x1, x2, x3, e1, e2, e3, e4, b1, b2, b3, b4, b5, b6, b7, b8⟩ := vVol_spec hv
  have hw : wd ≤ 24 := by omega
  have hh : hi ≤ 24 := by omega
  have hd : dp ≤ 8 := by omega
  have hpos : 0 < hi * wd * dp := Nat.mul_pos (Nat.mul_pos (by omega) (by omega)) (by omega)
  clear e1 e2 e3 e4 b1 b2 b3 b4 b5 b6 b7
  go_enter Tryz.func72, Tryz.ntmps72
  go_wp2_with fail
  refine (validVolume_any _ _ _ _ _ _ (by omega) _).mono ?_
  rw [hv]
  rintro e w1 ⟨rfl, hb1⟩
  have hb0 := below_two w (.cells #[.int .i64 wd, .int .i64 hi, .int .i64 dp, .slice sa N c] 62) (.cells #[.int .i64 0, .int .i64 0, .int .i64 0, .slice none 0 0] 62)
  have B1 := (BoxN.first w #[.int .i64 wd, .int .i64 hi, .int .i64 dp, .slice sa N c] 62 (.cells #[.int .i64 0, .int .i64 0, .int .i64 0, .slice none 0 0] 62)).below hb1
  have B2 := (BoxN.second w #[.int .i64 0, .int .i64 0, .int .i64 0, .slice none 0 0] 62 (.cells #[.int .i64 wd, .int .i64 hi, .int .i64 dp, .slice sa N c] 62)).below hb1
  have hb := hb0.trans (hb1.mono hb0.size)
  have hs := B2.lt
  obtain ⟨c0, c1, c2, c3, f0, f1, f2, f3⟩ := B1.four
  clear hb1 hb0
  go_wp2_with fail
  refine (volumeOf_any w1 wd hi dp fv g hw hh hd (hf.below hb)).mono ?_
  rintro e w2 ⟨a, cc, bs, rfl, hown, hcon, hb2⟩
  obtain ⟨q, rfl⟩ := own_addr hown (by rw [tab3_len hcon]; exact hpos)
  obtain ⟨d0, d1, d2, d3, g0, g1, g2, g3⟩ := (B2.below hb2).four
  have hbb := hb.trans (hb2.mono hb.size)
  go_wp2
  refine bodyPost_ret (v := .tuple #[.agg #[.int .i64 wd, .int .i64 hi, .int .i64 dp, .slice (some ⟨q, 0, none⟩) bs.length cc], .bool true]) (by simp [results, Tryz.results72, go_sem, d0, d1, d2, d3]) rfl ?_
  exact ⟨q, cc, bs, rfl, ((((hown.set (by simp; omega) _).set (by simp; omega) _).set (by simp; omega) _).set (by simp; omega) _).mono (by omega), hcon, (((hbb.setCell (by simp) _).setCell (by simp) _).setCell (by simp) _).setCell (by simp) _⟩

/-- A volume that came in. -/
structure VolOk (w : World) (wd hi dp : Nat) (b off c : Nat) (bs : List Nat) : Prop where
  v : vVol wd hi dp (wd * hi * dp) = true
  sl : SlF w (.slice (some ⟨b, off, none⟩) bs.length c) bs
  len : bs.length = wd * hi * dp
theorem VolOk.below {w w' : World} {wd hi dp b off c : Nat} {bs : List Nat} (h : VolOk w wd hi dp b off c bs) (hb : Below w.heap.size w w') : VolOk w' wd hi dp b off c bs := ⟨h.v, h.sl.below hb, h.len⟩
theorem VolOk.vl {w : World} {wd hi dp b off c : Nat} {bs : List Nat} (h : VolOk w wd hi dp b off c bs) : vVol wd hi dp bs.length = true := by rw [h.len]; exact h.v
theorem VolOk.dims {w : World} {wd hi dp b off c : Nat} {bs : List Nat} (h : VolOk w wd hi dp b off c bs) : 1 ≤ wd ∧ 1 ≤ hi ∧ wd ≤ 24 ∧ hi ≤ 24 ∧ 1 ≤ dp ∧ dp ≤ 8 ∧ wd * hi ≤ 256 ∧ bs.length ≤ 2048 := by
  obtain ⟨x1, x2, x3, e1, e2, e3, e4, b1, b2, b3, b4, b5, b6, b7, b8⟩ := vVol_spec h.vl
  have : x1 = wd := by omega
  have : x2 = hi := by omega
  have : x3 = dp := by omega
  subst_vars; omega
theorem VolOk.at {w W : World} {wd hi dp b off c : Nat} {bs : List Nat} {pb : Nat} (h : VolOk w wd hi dp b off c bs) (hb : Below w.heap.size w W) (hx : BoxN W pb #[.int .i64 wd, .int .i64 hi, .int .i64 dp, .slice (some ⟨b, off, none⟩) bs.length c] 62) : VolAt W pb wd hi dp b off bs.length c bs := ⟨hx, h.sl.below hb, h.len⟩

/-- A cost. -/
def gc (bs : List Nat) (wd dp x y d : Nat) : Nat := bs.getD (ic wd dp x y + d) 0
theorem VolAt.cost {W : World} {pb wd hi dp b off n c : Nat} {bs : List Nat} (h : VolAt W pb wd hi dp b off n c bs) {x y d : Nat} (hx : x < wd) (hy : y < hi) (hd : d < dp) : W.cell? ⟨b, off + ic wd dp x y + d, none⟩ = some (.float .f32 (gc bs wd dp x y d)) ∧ gc bs wd dp x y d < 4294967296 := by
  have hle := ic_le (dp := dp) hx hy
  have := h.sl.at (ic wd dp x y + d) (by rw [h.len]; omega)
  rw [← Nat.add_assoc] at this
  exact this
/-- The contract of cell, for a region. -/
theorem cell_quiet (W : World) (pb wd hi dp b off n c : Nat) (bs : List Nat) (X Y : Int) (x y : Nat) (hX : X = x) (hY : Y = y) (hx : x < wd) (hy : y < hi) (hw : wd ≤ 24) (hh : hi ≤ 24) (hd1 : 1 ≤ dp) (hd2 : dp ≤ 8) (h : VolAt W pb wd hi dp b off n c bs) (k : Nat) :
    Calls Tryz.prog 76 #[.pointer (some ⟨pb, 0, none⟩), .int .i64 X, .int .i64 Y] (W.drewN k) fun e w' => e = .returned (.slice (some ⟨b, off + ic wd dp x y, none⟩) dp dp) ∧ ∃ m, w' = W.drewN m :=
  (cell_any (W.drewN k) pb wd hi dp b off n c bs X Y x y hX hY hx hy hw hh hd1 hd2 (h.drewN k)).mono fun e w' ⟨h1, m, h2⟩ => ⟨h1, k + m, by rw [h2, World.drewN_drewN]⟩

theorem cell_drew (W : World) (pb wd hi dp b off n c : Nat) (bs : List Nat) (X Y : Int) (x y : Nat) (hX : X = x) (hY : Y = y) (hx : x < wd) (hy : y < hi) (hw : wd ≤ 24) (hh : hi ≤ 24) (hd1 : 1 ≤ dp) (hd2 : dp ≤ 8) (h : VolAt W pb wd hi dp b off n c bs) :
    Calls Tryz.prog 76 #[.pointer (some ⟨pb, 0, none⟩), .int .i64 X, .int .i64 Y] W.drew fun e w' => e = .returned (.slice (some ⟨b, off + ic wd dp x y, none⟩) dp dp) ∧ ∃ m, w' = W.drewN m :=
  cell_quiet W pb wd hi dp b off n c bs X Y x y hX hY hx hy hw hh hd1 hd2 h 1

end Go.Proofs.YtabbjilgpfnacaaGreat

/- BothWays. -/
import Derived.Test.YtfhlpabbacopjaaJk
import Derived.Deep.CutRange
import Derived.Deep.RegionHeld3
import Derived.StillTactics
namespace Go.Proofs.Ytfhlpabbacopjaa
open Go.RowKit
set_option maxRecDepth 100000
set_option linter.unusedVariables false
set_option linter.unusedSimpArgs false

theorem bothWays1_gives {W0 : World} {pa pb pv wd hi dp qa ca qb cb qv cv N : Nat} {bsa bsb bs : List Nat} {PA PB own : Int → Int → List Int}
    (ha : VolAt W0 pa wd hi dp qa 0 N ca bsa) (hb : VolAt W0 pb wd hi dp qb 0 N cb bsb) (hv : VolAt W0 pv wd hi dp qv 0 N cv bs) (la : qa < W0.heap.size) (lb : qb < W0.heap.size) (lv : qv < W0.heap.size) (qva : QV bsa wd hi dp PA) (qvb : QV bsb wd hi dp PB) (qvv : QV bs wd hi dp own)
    (ba : ∀ x y, insI x y wd hi → ∀ d, d < dp → 0 ≤ (PA x y).getD d 0 ∧ (PA x y).getD d 0 ≤ 5000) (bb : ∀ x y, insI x y wd hi → ∀ d, d < dp → 0 ≤ (PB x y).getD d 0 ∧ (PB x y).getD d 0 ≤ 5000) (bo : ∀ x y, insI x y wd hi → ∀ d, d < dp → 0 ≤ (own x y).getD d 0 ∧ (own x y).getD d 0 ≤ 100)
    (hw : wd ≤ 24) (hh : hi ≤ 24) (hd1 : 1 ≤ dp) (hd2 : dp ≤ 8) :
    Gives3 W0 (.func (.func 55) #[] #[.pointer (some ⟨pa, 0, none⟩), .pointer (some ⟨pb, 0, none⟩), .pointer (some ⟨pv, 0, none⟩)]) wd hi dp (fun x y d => fq 2 ((PA x y).getD d 0 + (PB x y).getD d 0 - (own x y).getD d 0)) := by
  refine ⟨55, _, rfl, Try.call55, fun x y d W hx hy hd hbW => ?_⟩
  have hin : insI (x : Int) (y : Int) wd hi := by unfold insI; omega
  have b1 := ba x y hin d hd
  have b2 := bb x y hin d hd
  have b3 := bo x y hin d hd
  have KA := Lib.hid (fun W' (h : Below W.heap.size W W') => cell_any W' pa wd hi dp qa 0 N ca bsa x y x y rfl rfl hx hy hw hh hd1 hd2 (ha.below (hbW.trans (h.mono hbW.size))))
  have KB := Lib.hid (fun W' (h : Below W.heap.size W W') => cell_any W' pb wd hi dp qb 0 N cb bsb x y x y rfl rfl hx hy hw hh hd1 hd2 (hb.below (hbW.trans (h.mono hbW.size))))
  have KV := Lib.hid (fun W' (h : Below W.heap.size W W') => cell_any W' pv wd hi dp qv 0 N cv bs x y x y rfl rfl hx hy hw hh hd1 hd2 (hv.below (hbW.trans (h.mono hbW.size))))
  have gA : W.cell? ⟨qa, ic wd dp x y + d, none⟩ = some (.float .f32 (fq 2 ((PA x y).getD d 0))) := by
    have := ((ha.below hbW).cost hx hy hd).1
    rw [Nat.zero_add] at this
    unfold gc at this
    rw [(qva.2 x y hx hy).2 d hd] at this
    exact this
  have gB : W.cell? ⟨qb, ic wd dp x y + d, none⟩ = some (.float .f32 (fq 2 ((PB x y).getD d 0))) := by
    have := ((hb.below hbW).cost hx hy hd).1
    rw [Nat.zero_add] at this
    unfold gc at this
    rw [(qvb.2 x y hx hy).2 d hd] at this
    exact this
  have gV : W.cell? ⟨qv, ic wd dp x y + d, none⟩ = some (.float .f32 (fq 2 ((own x y).getD d 0))) := by
    have := ((hv.below hbW).cost hx hy hd).1
    rw [Nat.zero_add] at this
    unfold gc at this
    rw [(qvv.2 x y hx hy).2 d hd] at this
    exact this
  have lw := hbW.size
  obtain ⟨za, hza⟩ : ∃ z, (PA x y).getD d 0 = z := ⟨_, rfl⟩
  obtain ⟨zb, hzb⟩ : ∃ z, (PB x y).getD d 0 = z := ⟨_, rfl⟩
  obtain ⟨zv, hzv⟩ : ∃ z, (own x y).getD d 0 = z := ⟨_, rfl⟩
  rw [hza] at gA b1
  rw [hzb] at gB b2
  rw [hzv] at gV b3
  have HZ := Lib.hid (And.intro hza (And.intro hzb hzv))
  clear hza hzb hzv
  have a2 := fq_add (g := 2) (a := za) (b := zb) (by omega) (by omega) (by omega)
  have a3 := fq_sub (g := 2) (a := za + zb) (b := zv) (by omega) (by omega) (by omega)
  have hfl := fl_fq (g := 2) (k := za + zb - zv) (by omega)
  have hlt := fq_lt (g := 2) (k := za + zb - zv) (by omega)
  obtain ⟨fa, hfa⟩ : ∃ f, fq 2 za = f := ⟨_, rfl⟩
  obtain ⟨fb, hfb⟩ : ∃ f, fq 2 zb = f := ⟨_, rfl⟩
  obtain ⟨fv, hfv⟩ : ∃ f, fq 2 zv = f := ⟨_, rfl⟩
  obtain ⟨fs, hfs⟩ : ∃ f, fq 2 (za + zb) = f := ⟨_, rfl⟩
  obtain ⟨fr, hfr⟩ : ∃ f, fq 2 (za + zb - zv) = f := ⟨_, rfl⟩
  rw [hfa] at gA a2
  rw [hfb] at gB a2
  rw [hfv] at gV a3
  rw [hfs] at a2 a3
  rw [hfr] at a3 hfl hlt
  have HFR := Lib.hid (And.intro hfr (And.intro hfl hlt))
  have CELLS := Lib.hid (fun W' (h : Below W.heap.size W W') => show Below W.heap.size W W' ∧ W'.cell? ⟨qa, ic wd dp x y + d, none⟩ = some (.float .f32 fa) ∧ W'.cell? ⟨qb, ic wd dp x y + d, none⟩ = some (.float .f32 fb) ∧ W'.cell? ⟨qv, ic wd dp x y + d, none⟩ = some (.float .f32 fv) from ⟨h, (h.cell (p := ⟨qa, _, none⟩) (Nat.lt_of_lt_of_le la lw)).trans gA, (h.cell (p := ⟨qb, _, none⟩) (Nat.lt_of_lt_of_le lb lw)).trans gB, (h.cell (p := ⟨qv, _, none⟩) (Nat.lt_of_lt_of_le lv lw)).trans gV⟩)
  have r1 := fres_some a2
  have r2 := fdr_some a2
  have r3 := fres_some a3
  have r4 := fdr_some a3
  have hd0 : ∀ W : World, W.drewN 0 = W := fun _ => rfl
  have dI : (d : Int) < (dp : Int) := by omega
  have hB0 : Below W.heap.size W W.drew := below_drewN (Below.refl _ _) 1
  simp only [Nat.zero_add] at KA KB KV
  generalize ic wd dp x y = kk at *
  clear ha hb hv hbW qva qvb qvv ba bb bo b1 b2 b3 a2 a3 gA gB gV hfa hfb hfv hfs hfr hfl hlt hin la lb lv lw
  show Calls _ _ #[.int .i64 x, .int .i64 y, .int .i64 d, .pointer (some ⟨pa, 0, none⟩), .pointer (some ⟨pb, 0, none⟩), .pointer (some ⟨pv, 0, none⟩)] _ _
  go_enter Try.func55, Try.ntmps55
  go_wp2_with fail
  go_region_held3 (fun W' => Below W.heap.size W W' ∧ W'.cell? ⟨qa, kk + d, none⟩ = some (.float .f32 fa) ∧ W'.cell? ⟨qb, kk + d, none⟩ = some (.float .f32 fb) ∧ W'.cell? ⟨qv, kk + d, none⟩ = some (.float .f32 fv))
    (first | exact CELLS.out _ hB3 | exact CELLS.out _ hB2 | exact CELLS.out _ hB1 | exact CELLS.out _ hB0 | go_keep)
    ((first
      | (go_at_call 47; (with_reducible refine (KA.out _ hB0).mono ?_); rintro e wS1 ⟨rfl, m1, hw1⟩; have hB1 : Below W.heap.size W wS1 := (by rw [hw1]; exact below_drewN hB0 m1); clear hw1)
      | (go_at_call 47; (with_reducible refine (KB.out _ hB1).mono ?_); rintro e wS2 ⟨rfl, m2, hw2⟩; have hB2 : Below W.heap.size W wS2 := (by rw [hw2]; exact below_drewN hB1 m2); clear hw2)
      | (go_at_call 47; (with_reducible refine (KV.out _ hB2).mono ?_); rintro e wS3 ⟨rfl, m3, hw3⟩; have hB3 : Below W.heap.size W wS3 := (by rw [hw3]; exact below_drewN hB2 m3); clear hw3)))
  all_goals
    go_wp2_with fail
    go_ret
    exact ⟨_, rfl, HFR.out.2.2, by
      rw [HFR.out.2.1, ← HFR.out.1]
      show _ = fq 2 ((PA x y).getD d 0 + (PB x y).getD d 0 - (own x y).getD d 0)
      rw [HZ.out.1, HZ.out.2.1, HZ.out.2.2], hB3⟩

theorem below4 {W W1 : World} {n b : Nat} {x y z u : Value} (h : Below n W1 W) (hn : n ≤ b) : Below n W1 ((((W.setCell ⟨b, 0, none⟩ x).setCell ⟨b, 1, none⟩ y).setCell ⟨b, 2, none⟩ z).setCell ⟨b, 3, none⟩ u) := (((h.setCell hn _).setCell hn _).setCell hn _).setCell hn _
theorem BoxN.last' (w : World) (cs : Array Value) (T : TypeId) {k : Nat} (h : w.heap.size = k) : BoxN (w.alloc (.cells cs T)) k cs T := h ▸ BoxN.last w cs T
theorem one_fin {W W1 : World} {n B ba qa ca qb cb N q c : Nat} {wd hi dp : Value} {bsa bsb : List Nat} (hx : BoxN W ba #[.int .i64 0, .int .i64 0, .int .i64 0, .slice none 0 0] 26)
    (oa : OwnF W B (.slice (some ⟨qa, 0, none⟩) N ca) bsa) (ob : OwnF W B (.slice (some ⟨qb, 0, none⟩) N cb) bsb) (a1 : qa ≠ ba) (b1 : qb ≠ ba) (hb : Below n W1 W) (n1 : n ≤ ba) :
    ∀ W', W' = (((W.setCell ⟨ba, 0, none⟩ wd).setCell ⟨ba, 1, none⟩ hi).setCell ⟨ba, 2, none⟩ dp).setCell ⟨ba, 3, none⟩ (.slice (some ⟨q, 0, none⟩) N c) →
      BoxN W' ba #[wd, hi, dp, .slice (some ⟨q, 0, none⟩) N c] 26 ∧ OwnF W' B (.slice (some ⟨qa, 0, none⟩) N ca) bsa ∧ OwnF W' B (.slice (some ⟨qb, 0, none⟩) N cb) bsb ∧ Below n W1 W' ∧ W'.heap.size = W.heap.size := by
  rintro W' rfl
  have own : ∀ (w : World) (q N c b i : Nat) (l : List Nat) (z : Value), q ≠ b → OwnF w B (.slice (some ⟨q, 0, none⟩) N c) l → OwnF (w.setCell ⟨b, i, none⟩ z) B (.slice (some ⟨q, 0, none⟩) N c) l := fun w q N c b i l z h k => k.grown (grown_setCell _ _ _) (.inr (by simpa [Value.ownBlock] using h))
  refine ⟨?_, ?_, ?_, below4 hb n1, by simp⟩
  · have := (((hx.set 0 wd).set 1 hi).set 2 dp).set 3 (.slice (some ⟨q, 0, none⟩) N c)
    simp only [List.setIfInBounds_toArray, List.set_cons_zero, List.set_cons_succ] at this
    exact this
  · exact own _ _ _ _ _ _ _ _ a1 (own _ _ _ _ _ _ _ _ a1 (own _ _ _ _ _ _ _ _ a1 (own _ _ _ _ _ _ _ _ a1 oa)))
  · exact own _ _ _ _ _ _ _ _ b1 (own _ _ _ _ _ _ _ _ b1 (own _ _ _ _ _ _ _ _ b1 (own _ _ _ _ _ _ _ _ b1 ob)))

theorem both_fin {W W1 : World} {n B ba bb qa ca qb cb N : Nat} {wd hi dp : Value} {bsa bsb : List Nat} (hx : BoxN W ba #[.int .i64 0, .int .i64 0, .int .i64 0, .slice none 0 0] 26) (hy : BoxN W bb #[.int .i64 0, .int .i64 0, .int .i64 0, .slice none 0 0] 26) (hne : ba ≠ bb)
    (oa : OwnF W B (.slice (some ⟨qa, 0, none⟩) N ca) bsa) (ob : OwnF W B (.slice (some ⟨qb, 0, none⟩) N cb) bsb) (a1 : qa ≠ ba) (a2 : qa ≠ bb) (b1 : qb ≠ ba) (b2 : qb ≠ bb) (hb : Below n W1 W) (n1 : n ≤ ba) (n2 : n ≤ bb) :
    ∀ W', W' = (((((((W.setCell ⟨ba, 0, none⟩ wd).setCell ⟨ba, 1, none⟩ hi).setCell ⟨ba, 2, none⟩ dp).setCell ⟨ba, 3, none⟩ (.slice (some ⟨qa, 0, none⟩) N ca)).setCell ⟨bb, 0, none⟩ wd).setCell ⟨bb, 1, none⟩ hi).setCell ⟨bb, 2, none⟩ dp).setCell ⟨bb, 3, none⟩ (.slice (some ⟨qb, 0, none⟩) N cb) →
      BoxN W' ba #[wd, hi, dp, .slice (some ⟨qa, 0, none⟩) N ca] 26 ∧ BoxN W' bb #[wd, hi, dp, .slice (some ⟨qb, 0, none⟩) N cb] 26 ∧ OwnF W' B (.slice (some ⟨qa, 0, none⟩) N ca) bsa ∧ OwnF W' B (.slice (some ⟨qb, 0, none⟩) N cb) bsb ∧ Below n W1 W' := by
  rintro W' rfl
  have far : ∀ (w : World) (b : Nat) (cs : Array Value) (c i : Nat) (z : Value), b ≠ c → BoxN w b cs 26 → BoxN (w.setCell ⟨c, i, none⟩ z) b cs 26 := fun w b cs c i z h k => k.grown (grown_setCell _ _ _) (by intro e; injection e with e; exact h e)
  have own : ∀ (w : World) (q N c b i : Nat) (l : List Nat) (z : Value), q ≠ b → OwnF w B (.slice (some ⟨q, 0, none⟩) N c) l → OwnF (w.setCell ⟨b, i, none⟩ z) B (.slice (some ⟨q, 0, none⟩) N c) l := fun w q N c b i l z h k => k.grown (grown_setCell _ _ _) (.inr (by simpa [Value.ownBlock] using h))
  refine ⟨?_, ?_, ?_, ?_, ?_⟩
  · have := (((hx.set 0 wd).set 1 hi).set 2 dp).set 3 (.slice (some ⟨qa, 0, none⟩) N ca)
    simp only [List.setIfInBounds_toArray, List.set_cons_zero, List.set_cons_succ] at this
    exact far _ _ _ _ _ _ hne (far _ _ _ _ _ _ hne (far _ _ _ _ _ _ hne (far _ _ _ _ _ _ hne this)))
  · have := ((((far _ _ _ ba 3 (.slice (some ⟨qa, 0, none⟩) N ca) (Ne.symm hne) (far _ _ _ ba 2 dp (Ne.symm hne) (far _ _ _ ba 1 hi (Ne.symm hne) (far _ _ _ ba 0 wd (Ne.symm hne) hy)))).set 0 wd).set 1 hi).set 2 dp).set 3 (.slice (some ⟨qb, 0, none⟩) N cb)
    simp only [List.setIfInBounds_toArray, List.set_cons_zero, List.set_cons_succ] at this
    exact this
  · exact own _ _ _ _ _ _ _ _ a2 (own _ _ _ _ _ _ _ _ a2 (own _ _ _ _ _ _ _ _ a2 (own _ _ _ _ _ _ _ _ a2 (own _ _ _ _ _ _ _ _ a1 (own _ _ _ _ _ _ _ _ a1 (own _ _ _ _ _ _ _ _ a1 (own _ _ _ _ _ _ _ _ a1 oa)))))))
  · exact own _ _ _ _ _ _ _ _ b2 (own _ _ _ _ _ _ _ _ b2 (own _ _ _ _ _ _ _ _ b2 (own _ _ _ _ _ _ _ _ b2 (own _ _ _ _ _ _ _ _ b1 (own _ _ _ _ _ _ _ _ b1 (own _ _ _ _ _ _ _ _ b1 (own _ _ _ _ _ _ _ _ b1 ob)))))))
  · exact (((((((hb.setCell n1 _).setCell n1 _).setCell n1 _).setCell n1 _).setCell n2 _).setCell n2 _).setCell n2 _).setCell n2 _

theorem both_cl {W W1 : World} {n B ba bb qa ca qb cb N : Nat} {wd hi dp : Value} {bsa bsb : List Nat} {R : Prop} (hx : BoxN W ba #[.int .i64 0, .int .i64 0, .int .i64 0, .slice none 0 0] 26) (hy : BoxN W bb #[.int .i64 0, .int .i64 0, .int .i64 0, .slice none 0 0] 26) (hne : ba ≠ bb)
    (oa : OwnF W B (.slice (some ⟨qa, 0, none⟩) N ca) bsa) (ob : OwnF W B (.slice (some ⟨qb, 0, none⟩) N cb) bsb) (a1 : qa ≠ ba) (a2 : qa ≠ bb) (b1 : qb ≠ ba) (b2 : qb ≠ bb) (hb : Below n W1 W) (n1 : n ≤ ba) (n2 : n ≤ bb) (r : R) :
    BoxN ((((((((W.setCell ⟨ba, 0, none⟩ wd).setCell ⟨ba, 1, none⟩ hi).setCell ⟨ba, 2, none⟩ dp).setCell ⟨ba, 3, none⟩ (.slice (some ⟨qa, 0, none⟩) N ca)).setCell ⟨bb, 0, none⟩ wd).setCell ⟨bb, 1, none⟩ hi).setCell ⟨bb, 2, none⟩ dp).setCell ⟨bb, 3, none⟩ (.slice (some ⟨qb, 0, none⟩) N cb)) ba #[wd, hi, dp, .slice (some ⟨qa, 0, none⟩) N ca] 26 ∧
    BoxN ((((((((W.setCell ⟨ba, 0, none⟩ wd).setCell ⟨ba, 1, none⟩ hi).setCell ⟨ba, 2, none⟩ dp).setCell ⟨ba, 3, none⟩ (.slice (some ⟨qa, 0, none⟩) N ca)).setCell ⟨bb, 0, none⟩ wd).setCell ⟨bb, 1, none⟩ hi).setCell ⟨bb, 2, none⟩ dp).setCell ⟨bb, 3, none⟩ (.slice (some ⟨qb, 0, none⟩) N cb)) bb #[wd, hi, dp, .slice (some ⟨qb, 0, none⟩) N cb] 26 ∧
    OwnF ((((((((W.setCell ⟨ba, 0, none⟩ wd).setCell ⟨ba, 1, none⟩ hi).setCell ⟨ba, 2, none⟩ dp).setCell ⟨ba, 3, none⟩ (.slice (some ⟨qa, 0, none⟩) N ca)).setCell ⟨bb, 0, none⟩ wd).setCell ⟨bb, 1, none⟩ hi).setCell ⟨bb, 2, none⟩ dp).setCell ⟨bb, 3, none⟩ (.slice (some ⟨qb, 0, none⟩) N cb)) B (.slice (some ⟨qa, 0, none⟩) N ca) bsa ∧
    OwnF ((((((((W.setCell ⟨ba, 0, none⟩ wd).setCell ⟨ba, 1, none⟩ hi).setCell ⟨ba, 2, none⟩ dp).setCell ⟨ba, 3, none⟩ (.slice (some ⟨qa, 0, none⟩) N ca)).setCell ⟨bb, 0, none⟩ wd).setCell ⟨bb, 1, none⟩ hi).setCell ⟨bb, 2, none⟩ dp).setCell ⟨bb, 3, none⟩ (.slice (some ⟨qb, 0, none⟩) N cb)) B (.slice (some ⟨qb, 0, none⟩) N cb) bsb ∧
    Below n W1 ((((((((W.setCell ⟨ba, 0, none⟩ wd).setCell ⟨ba, 1, none⟩ hi).setCell ⟨ba, 2, none⟩ dp).setCell ⟨ba, 3, none⟩ (.slice (some ⟨qa, 0, none⟩) N ca)).setCell ⟨bb, 0, none⟩ wd).setCell ⟨bb, 1, none⟩ hi).setCell ⟨bb, 2, none⟩ dp).setCell ⟨bb, 3, none⟩ (.slice (some ⟨qb, 0, none⟩) N cb)) ∧ R := by
  obtain ⟨f1, f2, f3, f4, f5⟩ := both_fin (wd := wd) (hi := hi) (dp := dp) hx hy hne oa ob a1 a2 b1 b2 hb n1 n2 _ rfl
  exact ⟨f1, f2, f3, f4, f5, r⟩
theorem one_clA {W W1 : World} {n B bx qa ca qb cb N : Nat} {wd hi dp : Value} {bsa bsb : List Nat} {R : Prop} (hx : BoxN W bx #[.int .i64 0, .int .i64 0, .int .i64 0, .slice none 0 0] 26)
    (oa : OwnF W B (.slice (some ⟨qa, 0, none⟩) N ca) bsa) (ob : OwnF W B (.slice (some ⟨qb, 0, none⟩) N cb) bsb) (a1 : qa ≠ bx) (b1 : qb ≠ bx) (hb : Below n W1 W) (n1 : n ≤ bx) (r : R) :
    BoxN (((((W.setCell ⟨bx, 0, none⟩ wd).setCell ⟨bx, 1, none⟩ hi).setCell ⟨bx, 2, none⟩ dp).setCell ⟨bx, 3, none⟩ (.slice (some ⟨qa, 0, none⟩) N ca)).alloc (.cells #[wd, hi, dp, .slice (some ⟨qb, 0, none⟩) N cb] 26)) bx #[wd, hi, dp, .slice (some ⟨qa, 0, none⟩) N ca] 26 ∧ BoxN (((((W.setCell ⟨bx, 0, none⟩ wd).setCell ⟨bx, 1, none⟩ hi).setCell ⟨bx, 2, none⟩ dp).setCell ⟨bx, 3, none⟩ (.slice (some ⟨qa, 0, none⟩) N ca)).alloc (.cells #[wd, hi, dp, .slice (some ⟨qb, 0, none⟩) N cb] 26)) W.heap.size #[wd, hi, dp, .slice (some ⟨qb, 0, none⟩) N cb] 26 ∧ OwnF (((((W.setCell ⟨bx, 0, none⟩ wd).setCell ⟨bx, 1, none⟩ hi).setCell ⟨bx, 2, none⟩ dp).setCell ⟨bx, 3, none⟩ (.slice (some ⟨qa, 0, none⟩) N ca)).alloc (.cells #[wd, hi, dp, .slice (some ⟨qb, 0, none⟩) N cb] 26)) B (.slice (some ⟨qa, 0, none⟩) N ca) bsa ∧ OwnF (((((W.setCell ⟨bx, 0, none⟩ wd).setCell ⟨bx, 1, none⟩ hi).setCell ⟨bx, 2, none⟩ dp).setCell ⟨bx, 3, none⟩ (.slice (some ⟨qa, 0, none⟩) N ca)).alloc (.cells #[wd, hi, dp, .slice (some ⟨qb, 0, none⟩) N cb] 26)) B (.slice (some ⟨qb, 0, none⟩) N cb) bsb ∧ Below n W1 (((((W.setCell ⟨bx, 0, none⟩ wd).setCell ⟨bx, 1, none⟩ hi).setCell ⟨bx, 2, none⟩ dp).setCell ⟨bx, 3, none⟩ (.slice (some ⟨qa, 0, none⟩) N ca)).alloc (.cells #[wd, hi, dp, .slice (some ⟨qb, 0, none⟩) N cb] 26)) ∧ R := by
  obtain ⟨f1, f2, f3, f4, f5⟩ := one_fin (wd := wd) (hi := hi) (dp := dp) (q := qa) (c := ca) hx oa ob a1 b1 hb n1 _ rfl
  exact ⟨f1.below (alb1_ _ _), BoxN.last' _ _ _ f5, f2.below (alb1_ _ _), f3.below (alb1_ _ _), f4.alloc (by rw [f5]; have := hx.lt; omega) _, r⟩
theorem one_clB {W W1 : World} {n B bx qa ca qb cb N : Nat} {wd hi dp : Value} {bsa bsb : List Nat} {R : Prop} (hx : BoxN W bx #[.int .i64 0, .int .i64 0, .int .i64 0, .slice none 0 0] 26)
    (oa : OwnF W B (.slice (some ⟨qa, 0, none⟩) N ca) bsa) (ob : OwnF W B (.slice (some ⟨qb, 0, none⟩) N cb) bsb) (a1 : qa ≠ bx) (b1 : qb ≠ bx) (hb : Below n W1 W) (n1 : n ≤ bx) (r : R) :
    BoxN (((((W.setCell ⟨bx, 0, none⟩ wd).setCell ⟨bx, 1, none⟩ hi).setCell ⟨bx, 2, none⟩ dp).setCell ⟨bx, 3, none⟩ (.slice (some ⟨qb, 0, none⟩) N cb)).alloc (.cells #[wd, hi, dp, .slice (some ⟨qa, 0, none⟩) N ca] 26)) W.heap.size #[wd, hi, dp, .slice (some ⟨qa, 0, none⟩) N ca] 26 ∧ BoxN (((((W.setCell ⟨bx, 0, none⟩ wd).setCell ⟨bx, 1, none⟩ hi).setCell ⟨bx, 2, none⟩ dp).setCell ⟨bx, 3, none⟩ (.slice (some ⟨qb, 0, none⟩) N cb)).alloc (.cells #[wd, hi, dp, .slice (some ⟨qa, 0, none⟩) N ca] 26)) bx #[wd, hi, dp, .slice (some ⟨qb, 0, none⟩) N cb] 26 ∧ OwnF (((((W.setCell ⟨bx, 0, none⟩ wd).setCell ⟨bx, 1, none⟩ hi).setCell ⟨bx, 2, none⟩ dp).setCell ⟨bx, 3, none⟩ (.slice (some ⟨qb, 0, none⟩) N cb)).alloc (.cells #[wd, hi, dp, .slice (some ⟨qa, 0, none⟩) N ca] 26)) B (.slice (some ⟨qa, 0, none⟩) N ca) bsa ∧ OwnF (((((W.setCell ⟨bx, 0, none⟩ wd).setCell ⟨bx, 1, none⟩ hi).setCell ⟨bx, 2, none⟩ dp).setCell ⟨bx, 3, none⟩ (.slice (some ⟨qb, 0, none⟩) N cb)).alloc (.cells #[wd, hi, dp, .slice (some ⟨qa, 0, none⟩) N ca] 26)) B (.slice (some ⟨qb, 0, none⟩) N cb) bsb ∧ Below n W1 (((((W.setCell ⟨bx, 0, none⟩ wd).setCell ⟨bx, 1, none⟩ hi).setCell ⟨bx, 2, none⟩ dp).setCell ⟨bx, 3, none⟩ (.slice (some ⟨qb, 0, none⟩) N cb)).alloc (.cells #[wd, hi, dp, .slice (some ⟨qa, 0, none⟩) N ca] 26)) ∧ R := by
  obtain ⟨f1, f2, f3, f4, f5⟩ := one_fin (wd := wd) (hi := hi) (dp := dp) (q := qb) (c := cb) hx oa ob a1 b1 hb n1 _ rfl
  exact ⟨BoxN.last' _ _ _ f5, f1.below (alb1_ _ _), f2.below (alb1_ _ _), f3.below (alb1_ _ _), f4.alloc (by rw [f5]; have := hx.lt; omega) _, r⟩

set_option maxHeartbeats 4000000 in
theorem bothWays_ok (w : World) (wd hi dp b c N : Nat) (bs : List Nat) (own : Int → Int → List Int) (one more : Int) (hN : bs.length = N)
    (h : VolOk w wd hi dp b 0 c bs) (hblt : b < w.heap.size) (hq : QV bs wd hi dp own) (hqb : ∀ x y, insI x y wd hi → ∀ d, d < dp → 0 ≤ (own x y).getD d 0 ∧ (own x y).getD d 0 ≤ 100) (h1 : 0 ≤ one) (h2 : one ≤ more) (h3 : more ≤ 1000000) :
    Calls Try.prog 20 #[.agg #[.int .i64 wd, .int .i64 hi, .int .i64 dp, .slice (some ⟨b, 0, none⟩) N c], .agg #[.float .f32 (fq 2 one), .float .f32 (fq 2 more)]] w fun e w' => ∃ (q c2 : Nat) (bs2 : List Nat) (PA PB : Int → Int → List Int), e = .returned (.tuple #[.agg #[.int .i64 wd, .int .i64 hi, .int .i64 dp, .slice (some ⟨q, 0, none⟩) N c2], .bool true]) ∧
      VQ w' wd hi dp q c2 N bs2 (fun x y => (List.range dp).map fun d => (PA x y).getD d 0 + (PB x y).getD d 0 - (own x y).getD d 0) ∧ IsAlong (rawG one more) own (wayX 0) (wayY 0) wd hi PA ∧ IsAlong (rawG one more) own (wayX 1) (wayY 1) wd hi PB ∧ (∀ x y, insI x y wd hi → (PA x y).length = dp ∧ (PB x y).length = dp) ∧ Below w.heap.size w w' := by
  obtain ⟨d1, d2, d3, d4, d5, d6, d7, d8⟩ := h.dims
  have hNN := h.vl
  rw [hN] at hNN d8
  have K := Lib.hid (fun W => pathOk_yes W wd hi dp 0 (some ⟨b, 0, none⟩) N c one more hNN (by omega) h1 h2 h3)
  have hb0 := (below_two w (.cells #[.int .i64 wd, .int .i64 hi, .int .i64 dp, .slice (some ⟨b, 0, none⟩) N c] 26) (.cells #[.float .f32 (fq 2 one), .float .f32 (fq 2 more)] 30)).alloc (by simp; omega) (.cells #[.int .i64 0, .int .i64 0, .int .i64 0, .slice none 0 0] 26)
  have BV := (BoxN.first w #[.int .i64 wd, .int .i64 hi, .int .i64 dp, .slice (some ⟨b, 0, none⟩) N c] 26 (.cells #[.float .f32 (fq 2 one), .float .f32 (fq 2 more)] 30)).below (alb1_ _ (.cells #[.int .i64 0, .int .i64 0, .int .i64 0, .slice none 0 0] 26))
  have BP := (BoxN.second w #[.float .f32 (fq 2 one), .float .f32 (fq 2 more)] 30 (.cells #[.int .i64 wd, .int .i64 hi, .int .i64 dp, .slice (some ⟨b, 0, none⟩) N c] 26)).below (alb1_ _ (.cells #[.int .i64 0, .int .i64 0, .int .i64 0, .slice none 0 0] 26))
  have BR := (BoxN.last ((w.alloc (.cells #[.int .i64 wd, .int .i64 hi, .int .i64 dp, .slice (some ⟨b, 0, none⟩) N c] 26)).alloc (.cells #[.float .f32 (fq 2 one), .float .f32 (fq 2 more)] 30)) #[.int .i64 0, .int .i64 0, .int .i64 0, .slice none 0 0] 26)
  rw [show ((w.alloc (.cells #[.int .i64 wd, .int .i64 hi, .int .i64 dp, .slice (some ⟨b, 0, none⟩) N c] 26)).alloc (.cells #[.float .f32 (fq 2 one), .float .f32 (fq 2 more)] 30)).heap.size = w.heap.size + 2 by simp] at BR
  have KRA := Lib.hid (fun W (hW : Below w.heap.size w W) => raw_any W wd hi dp b 0 c 0 bs own one more (h.below hW) (Nat.lt_of_lt_of_le hblt hW.size) hq (by omega) hqb h1 h2 h3)
  have KRB := Lib.hid (fun W (hW : Below w.heap.size w W) => raw_any W wd hi dp b 0 c 1 bs own one more (h.below hW) (Nat.lt_of_lt_of_le hblt hW.size) hq (by omega) hqb h1 h2 h3)
  rw [hN] at KRA KRB
  rw [show ((0 : Nat) : Int) = 0 from rfl] at KRA
  rw [show ((1 : Nat) : Int) = 1 from rfl] at KRB
  have H := Lib.hid h
  generalize hVO : fq 2 one = vo at *
  generalize hVM : fq 2 more = vm at *
  clear hVO hVM h
  go_enter Try.func20, Try.ntmps20
  go_wp2_with fail
  refine (K.out _).mono ?_
  rintro e w1 ⟨rfl, hb1⟩
  have hbb := hb0.trans (hb1.mono hb0.size)
  replace BV := BV.below hb1
  replace BP := BP.below hb1
  replace BR := BR.below hb1
  have HBB := Lib.hid hbb
  have KR1 := fun W (hW : Below w1.heap.size w1 W) => KRA.out W (hbb.trans (hW.mono hbb.size))
  have KR2 := fun W (hW : Below w1.heap.size w1 W) => KRB.out W (hbb.trans (hW.mono hbb.size))
  have KR1 := Lib.hid KR1
  have KR2 := Lib.hid KR2
  have CELLS : ∀ W, Below w1.heap.size w1 W → Below w1.heap.size w1 W ∧ W.cell? ⟨w.heap.size, 0, none⟩ = some (.int .i64 wd) ∧ W.cell? ⟨w.heap.size, 1, none⟩ = some (.int .i64 hi) ∧ W.cell? ⟨w.heap.size, 2, none⟩ = some (.int .i64 dp) ∧ W.cell? ⟨w.heap.size, 3, none⟩ = some (.slice (some ⟨b, 0, none⟩) N c) ∧ W.cell? ⟨w.heap.size + 1, 0, none⟩ = some (.float .f32 vo) ∧ W.cell? ⟨w.heap.size + 1, 1, none⟩ = some (.float .f32 vm) := fun W hW => by
    obtain ⟨y0, y1, y2, y3, -, -, -, -⟩ := (BV.below hW).four
    have zp0 := (BP.below hW).cell 0
    have zp1 := (BP.below hW).cell 1
    simp only [List.size_toArray, List.length_cons, List.length_nil, List.getElem?_toArray, List.getElem?_cons_zero, List.getElem?_cons_succ] at zp0 zp1
    exact ⟨hW, y0, y1, y2, y3, zp0, zp1⟩
  have CELLS := Lib.hid CELLS
  have hA0 : Below w1.heap.size w1 w1.drew := below_drewN (Below.refl _ _) 1
  have hA1 : Below w1.heap.size w1 (w1.alloc (.cells #[.int .i64 0, .int .i64 0, .int .i64 0, .slice none 0 0] 26)).drew := below_drewN (alb1_ _ _) 1
  have hA2 : Below w1.heap.size w1 ((w1.alloc (.cells #[.int .i64 0, .int .i64 0, .int .i64 0, .slice none 0 0] 26)).alloc (.cells #[.int .i64 0, .int .i64 0, .int .i64 0, .slice none 0 0] 26)).drew := below_drewN (below_two _ _ _) 1
  have HNW := Lib.hid (hq.1.symm.trans hN)
  clear hb1 hb0 KRA KRB
  go_upto_region 3 with fail
  go_cut [6, 7] from 13 to 18 (fun v6 v7 wx => ∃ (ba bb qa ca qb cb : Nat) (bsa bsb : List Nat) (PA PB : Int → Int → List Int), v6 = .pointer (some ⟨ba, 0, none⟩) ∧ v7 = .pointer (some ⟨bb, 0, none⟩) ∧ BoxN wx ba #[.int .i64 wd, .int .i64 hi, .int .i64 dp, .slice (some ⟨qa, 0, none⟩) N ca] 26 ∧ BoxN wx bb #[.int .i64 wd, .int .i64 hi, .int .i64 dp, .slice (some ⟨qb, 0, none⟩) N cb] 26 ∧ OwnF wx w1.heap.size (.slice (some ⟨qa, 0, none⟩) N ca) bsa ∧ OwnF wx w1.heap.size (.slice (some ⟨qb, 0, none⟩) N cb) bsb ∧ Below w1.heap.size w1 wx ∧ QV bsa wd hi dp PA ∧ QV bsb wd hi dp PB ∧ IsAlong (rawG one more) own (wayX 0) (wayY 0) wd hi PA ∧ IsAlong (rawG one more) own (wayX 1) (wayY 1) wd hi PB ∧ (∀ x y, insI x y wd hi → RawOk (wayX 0) (wayY 0) wd hi dp x y (PA x y)) ∧ (∀ x y, insI x y wd hi → RawOk (wayX 1) (wayY 1) wd hi dp x y (PB x y)))
  case first =>
    go_region_held3 (fun W => Below w1.heap.size w1 W ∧ W.cell? ⟨w.heap.size, 0, none⟩ = some (.int .i64 wd) ∧ W.cell? ⟨w.heap.size, 1, none⟩ = some (.int .i64 hi) ∧ W.cell? ⟨w.heap.size, 2, none⟩ = some (.int .i64 dp) ∧ W.cell? ⟨w.heap.size, 3, none⟩ = some (.slice (some ⟨b, 0, none⟩) N c) ∧ W.cell? ⟨w.heap.size + 1, 0, none⟩ = some (.float .f32 vo) ∧ W.cell? ⟨w.heap.size + 1, 1, none⟩ = some (.float .f32 vm))
      (first | (refine CELLS.out _ ?_; (repeat' (first | (with_reducible assumption) | (with_reducible refine below4 ?_ ?_) | (with_reducible refine Below.alloc ?_ ?_ _))); all_goals (first | omega | (simp; omega))) | go_keep)
      ((first
        | (go_at_call 54; (with_reducible refine (KR1.out _ hA0).mono ?_); rintro e wA ⟨qa, ca, bsa, PA, rfl, owna, hqa, hala, hoka, hbA1⟩; have hbA := hA0.trans (hbA1.mono hA0.size); have la : w1.heap.size + 0 ≤ qa ∧ qa < wA.heap.size := (by have := owna.lt (k := qa) rfl; simpa using this); have nla : bsa.length = N := (by rw [hqa.1]; exact HNW.out); have sA : w1.heap.size + 0 ≤ wA.heap.size := (by have := hbA1.size; simpa using this); rw [nla]; rw [nla] at owna; replace owna := owna.mono hA0.size)
        | (go_at_call 54; (with_reducible refine (KR1.out _ hA1).mono ?_); rintro e wA ⟨qa, ca, bsa, PA, rfl, owna, hqa, hala, hoka, hbA1⟩; have hbA := hA1.trans (hbA1.mono hA1.size); have bx1 := ((BoxN.last w1 #[.int .i64 0, .int .i64 0, .int .i64 0, .slice none 0 0] 26).drewN 1).below hbA1; have ja1 := bx1.lt; have la : w1.heap.size + 1 ≤ qa ∧ qa < wA.heap.size := (by have := owna.lt (k := qa) rfl; simpa using this); have nla : bsa.length = N := (by rw [hqa.1]; exact HNW.out); have sA : w1.heap.size + 1 ≤ wA.heap.size := (by have := hbA1.size; simpa using this); rw [nla]; rw [nla] at owna; replace owna := owna.mono hA1.size)
        | (go_at_call 54; (with_reducible refine (KR1.out _ hA2).mono ?_); rintro e wA ⟨qa, ca, bsa, PA, rfl, owna, hqa, hala, hoka, hbA1⟩; have hbA := hA2.trans (hbA1.mono hA2.size); have bx1 := ((BoxN.first w1 #[.int .i64 0, .int .i64 0, .int .i64 0, .slice none 0 0] 26 (.cells #[.int .i64 0, .int .i64 0, .int .i64 0, .slice none 0 0] 26)).drewN 1).below hbA1; have bx2 := ((BoxN.second w1 #[.int .i64 0, .int .i64 0, .int .i64 0, .slice none 0 0] 26 (.cells #[.int .i64 0, .int .i64 0, .int .i64 0, .slice none 0 0] 26)).drewN 1).below hbA1; have ja2 := bx2.lt; have la : w1.heap.size + 2 ≤ qa ∧ qa < wA.heap.size := (by have := owna.lt (k := qa) rfl; simpa using this); have nla : bsa.length = N := (by rw [hqa.1]; exact HNW.out); have sA : w1.heap.size + 2 ≤ wA.heap.size := (by have := hbA1.size; simpa using this); rw [nla]; rw [nla] at owna; replace owna := owna.mono hA2.size)
        | (go_at_call 54; (with_reducible refine (KR2.out _ hbA).mono ?_); rintro e wB ⟨qb, cb, bsb, PB, rfl, ownb, hqb_, halb, hokb, hbB1⟩; have hbB := hbA.trans (hbB1.mono hbA.size); have lb : wA.heap.size + 0 ≤ qb ∧ qb < wB.heap.size := (by have := ownb.lt (k := qb) rfl; simpa using this); have nlb : bsb.length = N := (by rw [hqb_.1]; exact HNW.out); have sB : wA.heap.size + 0 ≤ wB.heap.size := (by have := hbB1.size; simpa using this); have ownA := (owna.below (Below.refl _ wA)).below hbB1; rw [nlb]; rw [nlb] at ownb; replace ownb := ownb.mono hbA.size; (try (replace bx1 := (bx1.below (Below.refl _ wA)).below hbB1; obtain ⟨m0, m1, m2, m3, mg0, mg1, mg2, mg3⟩ := bx1.four; have jx1 := bx1.lt)); (try (replace bx2 := (bx2.below (Below.refl _ wA)).below hbB1; obtain ⟨n0, n1, n2, n3, ng0, ng1, ng2, ng3⟩ := bx2.four; have jx2 := bx2.lt)))
        | (go_at_call 54; (with_reducible refine (KR2.out _ (hbA.alloc hbA.size _)).mono ?_); rintro e wB ⟨qb, cb, bsb, PB, rfl, ownb, hqb_, halb, hokb, hbB1⟩; have hbB := (hbA.alloc hbA.size _).trans (hbB1.mono (hbA.alloc hbA.size _).size); have by1 := (BoxN.last wA #[.int .i64 0, .int .i64 0, .int .i64 0, .slice none 0 0] 26).below hbB1; obtain ⟨o0, o1, o2, o3, og0, og1, og2, og3⟩ := by1.four; have jb1 := by1.lt; have lb : wA.heap.size + 1 ≤ qb ∧ qb < wB.heap.size := (by have := ownb.lt (k := qb) rfl; simpa using this); have nlb : bsb.length = N := (by rw [hqb_.1]; exact HNW.out); have sB : wA.heap.size + 1 ≤ wB.heap.size := (by have := hbB1.size; simpa using this); have ownA := (owna.below (alb1_ wA (.cells #[.int .i64 0, .int .i64 0, .int .i64 0, .slice none 0 0] 26))).below hbB1; rw [nlb]; rw [nlb] at ownb; replace ownb := ownb.mono (hbA.alloc hbA.size _).size; (try (replace bx1 := (bx1.below (alb1_ wA (.cells #[.int .i64 0, .int .i64 0, .int .i64 0, .slice none 0 0] 26))).below hbB1; obtain ⟨m0, m1, m2, m3, mg0, mg1, mg2, mg3⟩ := bx1.four; have jx1 := bx1.lt)); (try (replace bx2 := (bx2.below (alb1_ wA (.cells #[.int .i64 0, .int .i64 0, .int .i64 0, .slice none 0 0] 26))).below hbB1; obtain ⟨n0, n1, n2, n3, ng0, ng1, ng2, ng3⟩ := bx2.four; have jx2 := bx2.lt)))
        | (go_at_call 54; (with_reducible refine (KR2.out _ ((hbA.alloc hbA.size _).alloc (hbA.alloc hbA.size _).size _)).mono ?_); rintro e wB ⟨qb, cb, bsb, PB, rfl, ownb, hqb_, halb, hokb, hbB1⟩; have hbB := ((hbA.alloc hbA.size _).alloc (hbA.alloc hbA.size _).size _).trans (hbB1.mono ((hbA.alloc hbA.size _).alloc (hbA.alloc hbA.size _).size _).size); have by1 := (BoxN.first wA #[.int .i64 0, .int .i64 0, .int .i64 0, .slice none 0 0] 26 (.cells #[.int .i64 0, .int .i64 0, .int .i64 0, .slice none 0 0] 26)).below hbB1; have by2 := (BoxN.second wA #[.int .i64 0, .int .i64 0, .int .i64 0, .slice none 0 0] 26 (.cells #[.int .i64 0, .int .i64 0, .int .i64 0, .slice none 0 0] 26)).below hbB1; obtain ⟨o0, o1, o2, o3, og0, og1, og2, og3⟩ := by1.four; obtain ⟨p0, p1, p2, p3, pg0, pg1, pg2, pg3⟩ := by2.four; have jb1 := by1.lt; have jb2 := by2.lt; have lb : wA.heap.size + 2 ≤ qb ∧ qb < wB.heap.size := (by have := ownb.lt (k := qb) rfl; simpa using this); have nlb : bsb.length = N := (by rw [hqb_.1]; exact HNW.out); have sB : wA.heap.size + 2 ≤ wB.heap.size := (by have := hbB1.size; simpa using this); have ownA := (owna.below (below_two wA (.cells #[.int .i64 0, .int .i64 0, .int .i64 0, .slice none 0 0] 26) (.cells #[.int .i64 0, .int .i64 0, .int .i64 0, .slice none 0 0] 26))).below hbB1; rw [nlb]; rw [nlb] at ownb; replace ownb := ownb.mono ((hbA.alloc hbA.size _).alloc (hbA.alloc hbA.size _).size _).size; (try (replace bx1 := (bx1.below (below_two wA (.cells #[.int .i64 0, .int .i64 0, .int .i64 0, .slice none 0 0] 26) (.cells #[.int .i64 0, .int .i64 0, .int .i64 0, .slice none 0 0] 26))).below hbB1; obtain ⟨m0, m1, m2, m3, mg0, mg1, mg2, mg3⟩ := bx1.four; have jx1 := bx1.lt)); (try (replace bx2 := (bx2.below (below_two wA (.cells #[.int .i64 0, .int .i64 0, .int .i64 0, .slice none 0 0] 26) (.cells #[.int .i64 0, .int .i64 0, .int .i64 0, .slice none 0 0] 26))).below hbB1; obtain ⟨n0, n1, n2, n3, ng0, ng1, ng2, ng3⟩ := bx2.four; have jx2 := bx2.lt)))))
    all_goals
      go_wp2_with fail
      go_meet
      refine ⟨_, _, qa, ca, qb, cb, bsa, bsb, PA, PB, rfl, rfl, ?_⟩
      first
        | (with_reducible exact ⟨BoxN.first wB _ _ _, BoxN.second wB _ _ _, ownA.below (below_two wB _ _), ownb.below (below_two wB _ _), (hbB.alloc hbB.size _).alloc (hbB.alloc hbB.size _).size _, hqa, hqb_, hala, halb, hoka, hokb⟩)
        | (with_reducible exact ⟨BoxN.second wB _ _ _, BoxN.first wB _ _ _, ownA.below (below_two wB _ _), ownb.below (below_two wB _ _), (hbB.alloc hbB.size _).alloc (hbB.alloc hbB.size _).size _, hqa, hqb_, hala, halb, hoka, hokb⟩)
        | ((with_reducible refine both_cl bx1 bx2 ?_ ownA ownb ?_ ?_ ?_ ?_ hbB ?_ ?_ ⟨hqa, hqb_, hala, halb, hoka, hokb⟩) <;> omega)
        | ((with_reducible refine both_cl bx1 by1 ?_ ownA ownb ?_ ?_ ?_ ?_ hbB ?_ ?_ ⟨hqa, hqb_, hala, halb, hoka, hokb⟩) <;> omega)
        | ((with_reducible refine both_cl bx1 by2 ?_ ownA ownb ?_ ?_ ?_ ?_ hbB ?_ ?_ ⟨hqa, hqb_, hala, halb, hoka, hokb⟩) <;> omega)
        | ((with_reducible refine both_cl bx2 bx1 ?_ ownA ownb ?_ ?_ ?_ ?_ hbB ?_ ?_ ⟨hqa, hqb_, hala, halb, hoka, hokb⟩) <;> omega)
        | ((with_reducible refine both_cl bx2 by1 ?_ ownA ownb ?_ ?_ ?_ ?_ hbB ?_ ?_ ⟨hqa, hqb_, hala, halb, hoka, hokb⟩) <;> omega)
        | ((with_reducible refine both_cl bx2 by2 ?_ ownA ownb ?_ ?_ ?_ ?_ hbB ?_ ?_ ⟨hqa, hqb_, hala, halb, hoka, hokb⟩) <;> omega)
        | ((with_reducible refine both_cl by1 bx1 ?_ ownA ownb ?_ ?_ ?_ ?_ hbB ?_ ?_ ⟨hqa, hqb_, hala, halb, hoka, hokb⟩) <;> omega)
        | ((with_reducible refine both_cl by1 bx2 ?_ ownA ownb ?_ ?_ ?_ ?_ hbB ?_ ?_ ⟨hqa, hqb_, hala, halb, hoka, hokb⟩) <;> omega)
        | ((with_reducible refine both_cl by1 by2 ?_ ownA ownb ?_ ?_ ?_ ?_ hbB ?_ ?_ ⟨hqa, hqb_, hala, halb, hoka, hokb⟩) <;> omega)
        | ((with_reducible refine both_cl by2 bx1 ?_ ownA ownb ?_ ?_ ?_ ?_ hbB ?_ ?_ ⟨hqa, hqb_, hala, halb, hoka, hokb⟩) <;> omega)
        | ((with_reducible refine both_cl by2 bx2 ?_ ownA ownb ?_ ?_ ?_ ?_ hbB ?_ ?_ ⟨hqa, hqb_, hala, halb, hoka, hokb⟩) <;> omega)
        | ((with_reducible refine both_cl by2 by1 ?_ ownA ownb ?_ ?_ ?_ ?_ hbB ?_ ?_ ⟨hqa, hqb_, hala, halb, hoka, hokb⟩) <;> omega)
        | ((with_reducible refine one_clA bx1 ownA ownb ?_ ?_ hbB ?_ ⟨hqa, hqb_, hala, halb, hoka, hokb⟩) <;> omega)
        | ((with_reducible refine one_clB bx1 ownA ownb ?_ ?_ hbB ?_ ⟨hqa, hqb_, hala, halb, hoka, hokb⟩) <;> omega)
        | ((with_reducible refine one_clA by1 ownA ownb ?_ ?_ hbB ?_ ⟨hqa, hqb_, hala, halb, hoka, hokb⟩) <;> omega)
        | ((with_reducible refine one_clB by1 ownA ownb ?_ ?_ hbB ?_ ⟨hqa, hqb_, hala, halb, hoka, hokb⟩) <;> omega)
  case rest =>
    obtain ⟨ba, bb, qa, ca, qb, cb, bsa, bsb, PA, PB, rfl, rfl, bxa, bxb, owna, ownb, hbx, hqa, hqb_, hala, halb, hoka, hokb⟩ := hcut
    have la := (owna.lt (k := qa) rfl)
    have lb := (ownb.lt (k := qb) rfl)
    have hsx := hbx.size
    have hszw := HBB.out.size
    have hvB : VolAt wc w.heap.size wd hi dp b 0 N c bs := by
      have := H.out.at (HBB.out.trans (hbx.mono HBB.out.size)) (by have := BV.below hbx; rw [← hN] at this; exact this)
      rw [hN] at this
      exact this
    have hva : VolAt wc ba wd hi dp qa 0 N ca bsa := ⟨bxa, owna.sl, hqa.1⟩
    have hvb : VolAt wc bb wd hi dp qb 0 N cb bsb := ⟨bxb, ownb.sl, hqb_.1⟩
    have bnd : ∀ (k : Nat) {PX : Int → Int → List Int}, (∀ x y, insI x y wd hi → RawOk (wayX k) (wayY k) wd hi dp x y (PX x y)) → ∀ x y, insI x y wd hi → ∀ d, d < dp → 0 ≤ (PX x y).getD d 0 ∧ (PX x y).getD d 0 ≤ 5000 := fun k PX hk x y hxy d hd => by
      have h1 := (hk x y hxy).2 d hd
      have h2 := stepsI_le (dx := wayX k) (dy := wayY k) hxy
      exact ⟨h1.1, by have := h1.2; omega⟩
    have G := bothWays1_gives hva hvb hvB la.2 lb.2 (Nat.lt_of_lt_of_le hblt (Nat.le_trans hszw hsx)) hqa hqb_ hq (bnd 0 hoka) (bnd 1 hokb) hqb (by omega) (by omega) (by omega) (by omega)
    have K := Lib.hid (revolume_ok wc wd hi dp N (some ⟨b, 0, none⟩) c _ _ hNN G)
    have HR := Lib.hid (And.intro hala halb)
    have hwv := VolAt.box hvB
    obtain ⟨y0, y1, y2, y3, -, -, -, -⟩ := hwv.four
    have HBX := Lib.hid (HBB.out.trans (hbx.mono HBB.out.size))
    have HBR := Lib.hid (BR.below hbx)
    clear G hvB hva hvb bxa bxb owna ownb hbx BR
    go_wp2_with fail
    refine K.out.mono ?_
    rintro e w2 ⟨q, cc, bs', rfl, hown, hcon, hb2⟩
    have hqv : QV bs' wd hi dp (fun x y => (List.range dp).map fun d => (PA x y).getD d 0 + (PB x y).getD d 0 - (own x y).getD d 0) := by
      have hbz : ∀ x y : Nat, x < wd → y < hi → ∀ d, d < dp → ((PA x y).getD d 0 + (PB x y).getD d 0 - (own x y).getD d 0).natAbs ≤ 16777216 := fun x y hx hy d hd => by
        have hin : insI (x : Int) (y : Int) wd hi := by unfold insI; omega
        have z1 := bnd 0 hoka x y hin d hd
        have z2 := bnd 1 hokb x y hin d hd
        have z3 := hqb x y hin d hd
        omega
      refine QV.of_tab hcon (fun x y hx hy => by simp) (fun x y hx hy d hd => ?_) (fun x y d hx hy hd => ?_)
      · rw [getD_range_map _ _ _ hd]; exact hbz x y hx hy d hd
      · rw [getD_range_map _ _ _ hd]
    have hl : bs'.length = N := by rw [hqv.1]; exact HNW.out
    rw [hl] at hown ⊢
    obtain ⟨e0, e1, e2, e3, g0, g1, g2, g3⟩ := (HBR.out.below hb2).four
    have hz2 : w.heap.size + 2 < w2.heap.size := (HBR.out.below hb2).lt
    have hbb := HBX.out.trans (hb2.mono HBX.out.size)
    have hqw := (hown.lt (k := q) rfl).1
    have hcw : w.heap.size + 2 < wc.heap.size := HBR.out.lt
    have HQ := Lib.hid hqv
    have HBB2 := Lib.hid hbb
    clear hcon hqv hb2 hbb bnd
    go_wp2
    refine bodyPost_ret (v := .tuple #[.agg #[.int .i64 wd, .int .i64 hi, .int .i64 dp, .slice (some ⟨q, 0, none⟩) N cc], .bool true]) (by simp [results, Try.results20, go_sem, e0, e1, e2, e3, hz2]) rfl ?_
    have ho := ((((hown.set (by first | omega | (simp; done) | (simp; omega)) (.int .i64 wd) (a := ⟨w.heap.size + 2, 0, none⟩)).set (by first | omega | (simp; done) | (simp; omega)) (.int .i64 hi) (a := ⟨w.heap.size + 2, 1, none⟩)).set (by first | omega | (simp; done) | (simp; omega)) (.int .i64 dp) (a := ⟨w.heap.size + 2, 2, none⟩)).set (by first | omega | (simp; done) | (simp; omega)) (.slice (some ⟨q, 0, none⟩) N cc) (a := ⟨w.heap.size + 2, 3, none⟩))
    exact ⟨q, cc, bs', PA, PB, rfl, VQ.of (by rw [hl]; exact ho) hl HQ.out, HR.out.1, HR.out.2, fun x y hxy => ⟨(hoka x y hxy).1, (hokb x y hxy).1⟩, (((HBB2.out.setCell (by simp; omega) _).setCell (by simp; omega) _).setCell (by simp; omega) _).setCell (by simp; omega) _⟩

end Go.Proofs.Ytfhlpabbacopjaa

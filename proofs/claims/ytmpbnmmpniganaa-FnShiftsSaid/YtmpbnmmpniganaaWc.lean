/- Winners, least costs, margins of volumes. -/
import Derived.Test.YtmpbnmmpniganaaWb
namespace Go.Proofs.Ytmpbnmmpniganaa
open Go.RowKit
set_option maxRecDepth 100000
set_option linter.unusedVariables false
set_option linter.unusedSimpArgs false

theorem MW.set {W : World} {q c N ob i : Nat} {bs : List Nat} (h : MW W q c N bs) (hne : ob ≠ q) (v : Value) : MW (W.setCell ⟨ob, i, none⟩ v) q c N bs :=
  ⟨⟨h.sl.1.grown (grown_setCell _ _ _) (.inr (by simp [Value.ownBlock]; exact fun e => hne e.symm)), h.sl.2⟩, by simpa using h.lt, h.len⟩

def wonW (dp : Nat) (f : Nat → Nat) : Nat := fq 0 (winW f (-1) dp)
theorem winners1_gives (w : World) (dp : Nat) (hd : dp ≤ 8) : GivesL w (.func (.func 65) #[] #[]) dp (wonW dp) := by
  refine ⟨65, _, rfl, Try.call65, fun W b off f hW hR => ?_⟩
  obtain ⟨p1, p2⟩ := winW_bd f (-1) dp
  have hof := fq_ofInt (n := winW f (-1) dp) (by omega)
  have hlt := fq_lt (g := 0) (k := winW f (-1) dp) (by omega)
  have hfl := fl_fq (g := 0) (k := winW f (-1) dp) (by omega)
  have K := Lib.hid (winner_any W b off dp dp f (-1) (by omega) (by omega) (by omega) hR)
  have HF := Lib.hid hfl
  clear hR hfl
  show Calls _ _ #[.slice (some ⟨b, off, none⟩) dp dp] _ _
  go_enter Try.func65, Try.ntmps65
  go_wp2_with fail
  refine K.out.mono ?_
  rintro e w' ⟨rfl, m, rfl⟩
  go_wp2
  go_ret
  exact ⟨_, rfl, hlt, HF.out, m, rfl⟩

set_option maxHeartbeats 1000000 in
theorem winners_w (w : World) (wd hi dp M q c : Nat) (bs : List Nat) (hv : vVol wd hi dp M = true) (hp : MW w q c M bs) :
    Calls Try.prog 20 #[.agg #[.int .i64 wd, .int .i64 hi, .int .i64 dp, .slice (some ⟨q, 0, none⟩) M c]] w (MakesMW w wd hi (wd * hi) (fun x y => wonW dp (gc bs wd dp x y))) := by
  obtain ⟨hpic, hM, d1, d2, d3, d4, d5, d6, d7, d8⟩ := vVol_pic hv
  have hb0 := below_two w (.cells #[.int .i64 wd, .int .i64 hi, .int .i64 dp, .slice (some ⟨q, 0, none⟩) M c] 44) (.cells #[.int .i64 0, .int .i64 0, .slice none 0 0] 27)
  have B3 := (BoxN.second w #[.int .i64 0, .int .i64 0, .slice none 0 0] 27 (.cells #[.int .i64 wd, .int .i64 hi, .int .i64 dp, .slice (some ⟨q, 0, none⟩) M c] 44))
  have K := Lib.hid (cellMap_w _ wd hi dp M q c bs _ _ hv (hp.below hb0) (winners1_gives _ dp d7))
  have HB0 := Lib.hid hb0
  have HB3 := Lib.hid B3
  clear hM hp hb0 B3 hv hpic
  go_enter Try.func20, Try.ntmps20
  go_wp2_with fail
  refine K.out.mono ?_
  rintro e w2 ⟨q', cc, bs', rfl, hm, hcon, hq, hb2⟩
  obtain ⟨e0, e1, e2, g0, g1, g2⟩ := (HB3.out.below hb2).three.cells
  have hlt3 := (HB3.out.below hb2).lt
  have hbb := HB0.out.trans (hb2.mono HB0.out.size)
  have hqs := Nat.le_trans HB0.out.size hq
  have hq3 : w.heap.size + 1 < q' := by simp at hq; omega
  have HCON := Lib.hid hcon
  have HMM := Lib.hid hm
  clear hcon hm hq
  go_wp2
  refine bodyPost_ret (v := .tuple #[.agg #[.int .i64 wd, .int .i64 hi, .slice (some ⟨q', 0, none⟩) (wd * hi) cc], .bool true]) (by simp [results, Try.results20, go_sem, e0, e1, e2, hlt3]) rfl ?_
  exact ⟨q', cc, bs', rfl, ((HMM.out.set (by omega) _).set (by omega) _).set (by omega) _, HCON.out, hqs, ((hbb.setCell (by simp) _).setCell (by simp) _).setCell (by simp) _⟩

end Go.Proofs.Ytmpbnmmpniganaa

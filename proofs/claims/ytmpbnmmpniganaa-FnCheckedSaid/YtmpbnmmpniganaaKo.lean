/- The reference's volume of two pictures, by words. -/
import Derived.Test.YtmpbnmmpniganaaKn
namespace Go.Proofs.Ytmpbnmmpniganaa
open Go.RowKit
set_option maxRecDepth 100000
set_option linter.unusedVariables false
set_option linter.unusedSimpArgs false

/-- A loop that appends numbers to the costs of a volume of its own. -/
structure AccV (w wr : World) (ob wd hi dp : Nat) (v : Value) (bs : List Nat) : Prop where
  bel : Below w.heap.size w wr
  box : BoxN wr ob #[.int .i64 wd, .int .i64 hi, .int .i64 dp, v] 44
  own : OwnF wr w.heap.size v bs
  ne : some ob ≠ v.ownBlock
  obf : w.heap.size ≤ ob
theorem AccV.step {w wr w1 w2 : World} {ob wd hi dp r : Nat} {v : Value} {bs : List Nat} {T : TypeId} {gg cap : Nat} (h : AccV w wr ob wd hi dp v bs)
    (hb : Below wr.heap.size wr w1) (hr : r < 4294967296)
    (hown : w2.ownsRow w.heap.size 33 1 (.slice (some ⟨gg, 0, none⟩) (bs.length + 1) cap) (bs.length + 1) (bs.map (Value.float .f32) ++ [.float .f32 r]))
    (hg : (w1.alloc (.cells #[.float .f32 r] T)).grownBy w2 v.ownBlock) (hat : v.ownBlock = some gg ∨ gg = w1.heap.size + 1) :
    AccV w (w2.setCell ⟨ob, 3, none⟩ (.slice (some ⟨gg, 0, none⟩) (bs.length + 1) cap)) ob wd hi dp (.slice (some ⟨gg, 0, none⟩) (bs.length + 1) cap) (bs ++ [r]) := by
  have hal : Below w1.heap.size w1 (w1.alloc (.cells #[.float .f32 r] T)) := (Below.refl _ _).alloc (Nat.le_refl _) _
  have hlt := h.box.lt
  have s1 : wr.heap.size ≤ w1.heap.size := hb.size
  have hgg : gg ≠ ob := by
    rcases hat with e | e
    · intro q; exact h.ne (by rw [e, q])
    · omega
  have b2 : Below w.heap.size w w2 := ((h.bel.trans (hb.mono h.bel.size)).trans (hal.mono (Nat.le_trans h.bel.size s1))).grown hg (by simp; have := h.bel.size; omega) (fun k hk => by have := (h.own.lt hk).1; omega)
  refine ⟨b2.setCell h.obf _, by have := ((h.box.below hb).below hal).grown hg h.ne; have := this.set 3 (.slice (some ⟨gg, 0, none⟩) (bs.length + 1) cap); simpa using this, ⟨?_, ?_⟩, by simp [Value.ownBlock]; exact fun e => hgg e.symm, h.obf⟩
  · have k := hown.kept (grown_setCell w2 ⟨ob, 3, none⟩ (.slice (some ⟨gg, 0, none⟩) (bs.length + 1) cap)) (.inr (by simp [Value.ownBlock]; exact hgg))
    simpa using k
  · intro b hb'
    rcases List.mem_append.1 hb' with h1 | h1
    · exact h.own.2 b h1
    · simp at h1; omega
/-- A volume of words, made anew. -/
def MakesCmp (w : World) (wd hi dp M : Nat) (e : Ending) (w' : World) : Prop :=
  ∃ q c bs, e = .returned (.agg #[.int .i64 wd, .int .i64 hi, .int .i64 dp, .slice (some ⟨q, 0, none⟩) M c]) ∧ OwnF w' w.heap.size (.slice (some ⟨q, 0, none⟩) M c) bs ∧ bs.length = M ∧ Below w.heap.size w w'

set_option maxHeartbeats 4000000 in
theorem l03Compare_any (w : World) (p1 p2 wd hi N dp q1 q2 c1 c2 : Nat) (bs1 bs2 : List Nat) (s : Bool) (h1 : 1 ≤ wd) (h2 : wd ≤ 6) (h3 : 1 ≤ hi) (h4 : hi ≤ 4) (d1 : 1 ≤ dp) (d2 : dp ≤ 5)
    (hA : PicAt w p1 wd hi (.slice (some ⟨q1, 0, none⟩) N c1) bs1 37) (hB : PicAt w p2 wd hi (.slice (some ⟨q2, 0, none⟩) N c2) bs2 37) :
    Calls Try.prog 114 #[.pointer (some ⟨p1, 0, none⟩), .pointer (some ⟨p2, 0, none⟩), .int .i64 dp, .bool s] w (MakesCmp w wd hi dp (wd * hi * dp)) := by
  obtain ⟨i0, hi0, hz0, hz1, hz2⟩ := info_parts info_f32
  have hpl := hA.box.lt
  obtain ⟨wA, hwA⟩ : ∃ wA, wA = w.alloc (.cells #[.int .i64 0, .int .i64 0, .int .i64 0, .slice none 0 0] 44) := ⟨_, rfl⟩
  have hbA : Below w.heap.size w wA := by rw [hwA]; exact alb_k _ _
  have BR : BoxN wA w.heap.size #[.int .i64 0, .int .i64 0, .int .i64 0, .slice none 0 0] 44 := by rw [hwA]; exact BoxN.last w _ _
  have hP1 := hA.below hbA
  have hP2 := hB.below hbA
  have KA := Lib.hid (fun W (hb : Below wA.heap.size wA W) x y => l02At_any W p1 wd hi _ bs1 x y (by omega) (by omega) (by omega) (by omega) (hP1.below hb))
  have KB := Lib.hid (fun W (hb : Below wA.heap.size wA W) x y => l02At_any W p2 wd hi _ bs2 x y (by omega) (by omega) (by omega) (by omega) (hP2.below hb))
  have Z := Lib.hid (fun W (hb : Below wA.heap.size wA W) => (hP1.below hb).box.cells)
  have HBL := Lib.hid (And.intro hA.sl.2 hB.sl.2)
  have HWA := Lib.hid hwA
  have HBA := Lib.hid hbA
  have HBR := Lib.hid BR
  have hrl : w.heap.size < wA.heap.size := BR.lt
  have hpA : p1 < wA.heap.size := hP1.box.lt
  clear hA hB hP1 hP2 hwA hbA BR
  go_enter Try.func114, Try.ntmps114
  go_upto_region 1 with fail
  rw [← HWA.out]
  go_cut [9] from 14 to 23 (fun v9 wx => ∃ ob : Nat, v9 = .pointer (some ⟨ob, 0, none⟩) ∧ AccV wA wx ob wd hi dp (.slice none 0 0) [])
  case first =>
    obtain ⟨z0, z1, -, -, -, -⟩ := Z.out wA (Below.refl _ _)
    have hal := alb_k wA (.cells #[.int .i64 0, .int .i64 0, .int .i64 0, .slice none 0 0] 44)
    obtain ⟨y0, y1, -, -, -, -⟩ := Z.out _ hal
    go_region
    all_goals go_wp2_with fail
    all_goals go_meet
    exact ⟨wA.heap.size, rfl, below_drewN (alb_k _ _) 1, (BoxN.last wA _ _).drewN 1, OwnF.nil _ _, by simp [Value.ownBlock], Nat.le_refl _⟩
  case rest =>
    obtain ⟨ob, rfl, hacc⟩ := hcut
    have HACC := Lib.hid hacc
    clear hacc
    have wdI : (wd : Int) ≤ 6 := by omega
    have hiI : (hi : Int) ≤ 4 := by omega
    have dpI : (dp : Int) ≤ 5 := by omega
    go_wp2_with fail
    go_loopw [10] (fun v10 wr => ∃ (y : Nat) (v : Value) (cs : List Nat), v10 = .int .i64 y ∧ y ≤ hi ∧ AccV wA wr ob wd hi dp v cs ∧ cs.length = y * wd * dp) (fun v10 _ => hi - (intOf v10).toNat)
    case atStart => exact ⟨0, _, [], rfl, Nat.zero_le _, HACC.out, by rw [Nat.zero_mul, Nat.zero_mul]; rfl⟩
    case round =>
      clear HACC
      obtain ⟨y, v1, cs, rfl, hy, hacc, hcs⟩ := hrel
      obtain ⟨z0, z1, -, -, -, -⟩ := Z.out _ hacc.bel
      have HACC := Lib.hid hacc
      have HCS := Lib.hid hcs
      clear hacc hcs
      by_cases hlt : y < hi
      · go_wp2_with fail
        clear z0 z1
        go_loopw [11] (fun v11 wr => ∃ (x : Nat) (v : Value) (cs : List Nat), v11 = .int .i64 x ∧ x ≤ wd ∧ AccV wA wr ob wd hi dp v cs ∧ cs.length = (y * wd + x) * dp) (fun v11 _ => wd - (intOf v11).toNat)
        case atStart => exact ⟨0, v1, cs, rfl, Nat.zero_le _, HACC.out, HCS.out⟩
        case round =>
          clear HACC HCS
          obtain ⟨x, v2, cs2, rfl, hx, hacc, hcs⟩ := hrel
          obtain ⟨z0, z1, -, -, -, -⟩ := Z.out _ hacc.bel
          have HACC := Lib.hid hacc
          have HCS := Lib.hid hcs
          clear hacc hcs
          by_cases hlx : x < wd
          · go_wp2_with fail
            clear z0 z1
            go_loopw [12] (fun v12 wr => ∃ (d : Nat) (v : Value) (cs : List Nat), v12 = .int .i64 d ∧ d ≤ dp ∧ AccV wA wr ob wd hi dp v cs ∧ cs.length = (y * wd + x) * dp + d) (fun v12 _ => dp - (intOf v12).toNat)
            case atStart => exact ⟨0, v2, cs2, rfl, Nat.zero_le _, HACC.out, HCS.out⟩
            case round =>
              clear HACC HCS
              obtain ⟨d, v3, cs3, rfl, hd, hacc, hcs⟩ := hrel
              by_cases hld : d < dp
              · have hbel := hacc.bel
                have hown := hacc.own
                have hne := hacc.ne
                have hobf := hacc.obf
                have hbox := hacc.box
                have hL : cs3.length ≤ 150 := by
                  have h5 : (y * wd + x) * dp ≤ 24 * 5 := Nat.mul_le_mul (by have : y * wd ≤ 3 * 6 := Nat.mul_le_mul (by omega) h2; omega) d2
                  omega
                have hB := hacc.box.lt
                have hBs := hbel.size
                have HS := Lib.hid hacc
                have HCS := Lib.hid hcs
                clear hacc hcs
                have KAT := Lib.hid (fun n => KA.out (wr.drewN n) (below_drewN hbel n) (x : Int) (y : Int))
                have KBT := Lib.hid (fun n => KB.out (wr.drewN n) (below_drewN hbel n) ((x : Int) - (d : Int)) (y : Int))
                generalize bs1.getD (ix (x : Int) (y : Int) wd hi) 0 = za at *
                generalize bs2.getD (ix ((x : Int) - (d : Int)) (y : Int) wd hi) 0 = zb at *
                have sx : IntKind.i64.wrap ((x : Int) - (d : Int)) = (x : Int) - (d : Int) := IntWalk.i64_in _ (by omega)
                go_wp2_with fail
                refine (KAT.out 0).mono ?_
                rintro e w' ⟨rfl, n1, rfl⟩
                go_wp2_with fail
                refine (KBT.out _).mono ?_
                rintro e w' ⟨rfl, n2, rfl⟩
                cases s
                · have SZ := Lib.hid (fun W => l03Size_any (fres .sub .f32 za zb (wr.drewN (n1 + n2))) (fres_lt _ _ _ _) W)
                  go_wp2_with fail
                  generalize fres .sub .f32 za zb (wr.drewN (n1 + n2)) = ze at *
                  generalize n1 + n2 + fdr .sub .f32 za zb = nk at *
                  obtain ⟨-, -, -, c3, -, -, -, -⟩ := hbox.four
                  have wk : Below wr.heap.size wr (wr.drewN nk) := below_drewN (Below.refl _ _) _
                  go_region_law (first
                    | (refine step_append_lies _ (by rfl) _ _ _ (by rfl) wA.heap.size 33 i0 _ 1 4 Try.underlying25 hi0 hz0 hz1 hz2 rfl (by omega) v3 cs3.length _ (by rfl) (World.ownsRow.alloc hown1.1 _) ⟨w1.heap.size, 0, none⟩ 1 1 [.float .f32 rr] (by rfl) (by rfl) (cell_one_new _ _ _) (by simp [Value.oneCell']) (by omega) (by unfold maxLen; omega) (by omega) (by simp; omega) (w1.heap.size + 1) (by simp) ?_; intro gg cap w2 hown2 hgrow hat hlt2; obtain ⟨q0, q1, q2, q3, g0, g1, g2, g3⟩ := ((hbox1.below ((Below.refl w1.heap.size w1).alloc (Nat.le_refl _) _)).grown hgrow hne).four)
                    | (go_simp; refine (SZ.out _).mono ?_; rintro e w1 ⟨rr, nn, rfl, hrl, hw1⟩; have hb2 : Below wr.heap.size wr w1 := (by rw [hw1]; first | exact below_drewN (Below.refl _ _) _ | exact below_drewN (below_drewN (Below.refl _ _) _) _); have hbox1 := hbox.below hb2; have c3' := hbox1.four.2.2.2.1; have c4 : ∀ o, (w1.alloc o).cell? ⟨ob, 3, none⟩ = some v3 := (fun o => (hbox1.below ((Below.refl w1.heap.size w1).alloc (Nat.le_refl _) o)).four.2.2.2.1); have hown1 := hown.below hb2; have hz2' : wA.heap.size ≤ w1.heap.size := (by have := hb2.size; omega); clear hw1))
                  all_goals
                    go_wp2
                    go_roundw
                    case rel => exact ⟨d + 1, _, cs3 ++ [rr], by go_num, by omega, HS.out.step hb2 hrl hown2 hgrow hat, by rw [List.length_append, HCS.out]; rfl⟩
                    case measure => simp [intOf]; omega
                · obtain ⟨-, -, -, c3, -, -, -, -⟩ := hbox.four
                  go_wp2_with (at_builtin; refine wpList_append_lies _ (by rfl) _ _ _ (by rfl) wA.heap.size 33 i0 _ 1 4 Try.underlying25 hi0 hz0 hz1 hz2 rfl (by omega) v3 cs3.length _ (by rfl) (World.ownsRow.alloc (hown.below (below_drewN (Below.refl wr.heap.size wr) _)).1 _) ⟨wr.heap.size, 0, none⟩ 1 1 [.float .f32 _] (by rfl) (by rfl) (cell_one_new _ _ _) (by simp [Value.oneCell']) (by omega) (by unfold maxLen; omega) (by omega) (by simp; omega) (wr.heap.size + 1) (by simp) ?_; intro gg cap w2 hown2 hgrow hat hlt2; obtain ⟨q0, q1, q2, q3, g0, g1, g2, g3⟩ := (((hbox.below (below_drewN (Below.refl wr.heap.size wr) _)).below (alb_k _ _)).grown hgrow hne).four)
                  go_roundw
                  case rel => exact ⟨d + 1, _, cs3 ++ [_], by go_num, by omega, HS.out.step (below_drewN (Below.refl _ _) _) (fres_lt _ _ _ _) hown2 hgrow hat, by rw [List.length_append, HCS.out]; rfl⟩
                  case measure => simp [intOf]; omega
              · obtain rfl : dp = d := by omega
                have HS := Lib.hid hacc
                have HCS := Lib.hid hcs
                clear hacc hcs
                go_wp2_with fail
                go_roundw
                case rel => exact ⟨x + 1, v3, cs3, by go_num, by omega, HS.out, by rw [HCS.out, ← Nat.add_assoc, Nat.add_mul (y * wd + x) 1, Nat.one_mul]⟩
                case measure => simp [intOf]; omega
          · obtain rfl : wd = x := by omega
            go_wp2_with fail
            go_roundw
            case rel => exact ⟨y + 1, v2, cs2, by go_num, by omega, HACC.out, by rw [HCS.out, Nat.add_mul y 1 wd, Nat.one_mul]⟩
            case measure => simp [intOf]; omega
      · obtain rfl : hi = y := by omega
        obtain ⟨M, hM⟩ : ∃ M, M = wd * hi * dp := ⟨_, rfl⟩
        have hl : cs.length = M := by rw [HCS.out, hM, Nat.mul_comm wd hi]
        have hob := HACC.out.own
        obtain ⟨va, vc, rfl⟩ := hob.sl.len
        obtain ⟨q, rfl⟩ := own_ptr_k hob (by rw [hl, hM]; exact Nat.mul_pos (Nat.mul_pos (by omega) (by omega)) (by omega))
        obtain ⟨c0, c1, c2, c3, -, -, -, -⟩ := HACC.out.box.four
        obtain ⟨e0, e1, e2, e3, e4, e5, e6, e7⟩ := (HBR.out.below HACC.out.bel).four
        have hlt2 := (HBR.out.below HACC.out.bel).lt
        have hqw := hob.lt (k := q) rfl
        rw [← hM]
        rw [hl] at c3 hob
        have HOB := Lib.hid hob
        have HLL := Lib.hid hl
        have HMM := Lib.hid hM
        clear hob hl hM
        go_wp2_with fail
        have hM := HMM.out
        clear HMM
        subst hM
        refine bodyPost_ret (v := .agg #[.int .i64 wd, .int .i64 hi, .int .i64 dp, .slice (some ⟨q, 0, none⟩) (wd * hi * dp) vc]) (by simp [results, Try.results114, go_sem, e0, e1, e2, e3, hlt2]) rfl ?_
        have hbb := HBA.out.trans (HACC.out.bel.mono HBA.out.size)
        refine ⟨q, vc, cs, rfl, ?_, HLL.out, (((hbb.setCell (by simp) _).setCell (by simp) _).setCell (by simp) _).setCell (by simp) _⟩
        exact ((((HOB.out.set (by omega) _).set (by omega) _).set (by omega) _).set (by omega) _).mono HBA.out.size

end Go.Proofs.Ytmpbnmmpniganaa

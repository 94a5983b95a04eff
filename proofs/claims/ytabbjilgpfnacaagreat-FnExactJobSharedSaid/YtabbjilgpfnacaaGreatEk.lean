/- The reference's slices and windows, by words. -/
import Derived.Test.YtabbjilgpfnacaaGreatEh
import Derived.Test.YtabbjilgpfnacaaGreatEe
namespace Go.Proofs.YtabbjilgpfnacaaGreat
section
open Go.RowKit Ieee
set_option maxRecDepth 100000
set_option linter.unusedVariables false
set_option linter.unusedSimpArgs false

/-- A loop that appends numbers to the greys of a picture of its own. -/
structure AccG (w wr : World) (ob : Nat) (a b : Int) (v : Value) (bs : List Nat) (L : List Nat) : Prop where
  bel : Below w.heap.size w wr
  box : BoxN wr ob #[.int .i64 a, .int .i64 b, v] 35
  own : OwnF wr w.heap.size v bs
  ne : some ob ≠ v.ownBlock
  obf : w.heap.size ≤ ob
  con : bs.map fl = L

theorem AccG.step {w wr w1 w2 : World} {ob : Nat} {a b : Int} {r : Nat} {v : Value} {bs L : List Nat} {T : TypeId} {gg cap z : Nat} (h : AccG w wr ob a b v bs L)
    (hb : Below wr.heap.size wr w1) (hr : r < 4294967296) (hfl : fl r = z)
    (hown : w2.ownsRow w.heap.size 25 1 (.slice (some ⟨gg, 0, none⟩) (bs.length + 1) cap) (bs.length + 1) (bs.map (Value.float .f32) ++ [.float .f32 r]))
    (hg : (w1.alloc (.cells #[.float .f32 r] T)).grownBy w2 v.ownBlock) (hat : v.ownBlock = some gg ∨ gg = w1.heap.size + 1) :
    AccG w (w2.setCell ⟨ob, 2, none⟩ (.slice (some ⟨gg, 0, none⟩) (bs.length + 1) cap)) ob a b (.slice (some ⟨gg, 0, none⟩) (bs.length + 1) cap) (bs ++ [r]) (L ++ [z]) := by
  have hal : Below w1.heap.size w1 (w1.alloc (.cells #[.float .f32 r] T)) := (Below.refl _ _).alloc (Nat.le_refl _) _
  have hlt := h.box.lt
  have s1 : wr.heap.size ≤ w1.heap.size := hb.size
  have hgg : gg ≠ ob := by
    rcases hat with e | e
    · intro q; exact h.ne (by rw [e, q])
    · omega
  have b2 : Below w.heap.size w w2 := ((h.bel.trans (hb.mono h.bel.size)).trans (hal.mono (Nat.le_trans h.bel.size s1))).grown hg (by simp; have := h.bel.size; omega) (fun k hk => by have := (h.own.lt hk).1; omega)
  refine ⟨b2.setCell h.obf _, by have := ((h.box.below hb).below hal).grown hg h.ne; have := this.set 2 (.slice (some ⟨gg, 0, none⟩) (bs.length + 1) cap); simpa using this, ⟨?_, ?_⟩, by simp [Value.ownBlock]; exact fun e => hgg e.symm, h.obf, by rw [List.map_append, h.con]; simp [hfl]⟩
  · have k := hown.kept (grown_setCell w2 ⟨ob, 2, none⟩ (.slice (some ⟨gg, 0, none⟩) (bs.length + 1) cap)) (.inr (by simp [Value.ownBlock]; exact hgg))
    simpa using k
  · intro b hb'
    rcases List.mem_append.1 hb' with h1 | h1
    · exact h.own.2 b h1
    · simp at h1; omega

theorem own_set3 {W : World} {B b : Nat} {v : Value} {bs : List Nat} (h : OwnF W B v bs) (hb : b < B) (x y z : Value) : OwnF (((W.setCell ⟨b, 0, none⟩ x).setCell ⟨b, 1, none⟩ y).setCell ⟨b, 2, none⟩ z) B v bs :=
  ((h.set (a := ⟨b, 0, none⟩) hb x).set (a := ⟨b, 1, none⟩) hb y).set (a := ⟨b, 2, none⟩) hb z

theorem below_set3 {B b : Nat} {w W : World} (h : Below B w W) (hb : B ≤ b) (x y z : Value) : Below B w (((W.setCell ⟨b, 0, none⟩ x).setCell ⟨b, 1, none⟩ y).setCell ⟨b, 2, none⟩ z) :=
  ((h.setCell (p := ⟨b, 0, none⟩) hb x).setCell (p := ⟨b, 1, none⟩) hb y).setCell (p := ⟨b, 2, none⟩) hb z

/-- A picture of words, made anew. -/
def MakesPE (w : World) (wd hi : Nat) (L : List Nat) (e : Ending) (w' : World) : Prop :=
  ∃ q c qs, e = .returned (.agg #[.int .i64 wd, .int .i64 hi, .slice (some ⟨q, 0, none⟩) (wd * hi) c]) ∧ OwnF w' w.heap.size (.slice (some ⟨q, 0, none⟩) (wd * hi) c) qs ∧ qs.length = wd * hi ∧ qs.map fl = L ∧ Below w.heap.size w w'

theorem l02NewE (w : World) (a b : Int) : Calls Tryz.prog 88 #[.int .i64 a, .int .i64 b] w fun e w' => e = .returned (.agg #[.int .i64 a, .int .i64 b, .slice (some ⟨w.heap.size + 1, 0, none⟩) 0 0]) ∧ OwnF w' (w.heap.size + 1) (.slice (some ⟨w.heap.size + 1, 0, none⟩) 0 0) [] ∧ Below w.heap.size w w' ∧ w.heap.size + 1 < w'.heap.size := by
  go_enter Tryz.func88, Tryz.ntmps88
  go_wp2
  refine bodyPost_ret (v := .agg #[.int .i64 a, .int .i64 b, .slice (some ⟨w.heap.size + 1, 0, none⟩) 0 0]) (by simp [results, Tryz.results88, go_sem]) rfl ?_
  refine ⟨rfl, ⟨⟨rfl, .inr ⟨w.heap.size + 1, 0, #[], rfl, Nat.le_refl _, ?_, Nat.le_refl _, by unfold maxLen; omega, rfl, rfl⟩⟩, by simp⟩, below_two w _ _, by simp⟩
  have := heap_alloc_new (w.alloc (.cells #[.int .i64 a, .int .i64 b, .slice (some ⟨w.heap.size + 1, 0, none⟩) 0 0] 35)) (.cells #[] 25)
  simpa using this

set_option maxHeartbeats 4000000 in
theorem l03SliceE (w : World) (pb wd hi dp M q c d : Nat) (bs : List Nat) (hx : BoxN w pb #[.int .i64 wd, .int .i64 hi, .int .i64 dp, .slice (some ⟨q, 0, none⟩) M c] 62) (hp : SlF w (.slice (some ⟨q, 0, none⟩) M c) bs) (hv : vVol wd hi dp M = true) (hd : d < dp) :
    Calls Tryz.prog 58 #[.pointer (some ⟨pb, 0, none⟩), .int .i64 d] w (MakesPE w wd hi (tab (wd * hi) (slW bs dp d))) := by
  obtain ⟨i0, hi0, hz0, hz1, hz2⟩ := info_parts info_f32
  obtain ⟨hM, d1, d2, d3, d4, d5, d6, d7, d8⟩ := vVol_picE hv
  obtain ⟨N, hN⟩ : ∃ N, wd * hi = N := ⟨_, rfl⟩
  obtain ⟨wA, hwA⟩ : ∃ wA, wA = w.alloc (.cells #[.int .i64 0, .int .i64 0, .slice none 0 0] 35) := ⟨_, rfl⟩
  have hbA : Below w.heap.size w wA := by rw [hwA]; exact alE _ _
  have BR : BoxN wA w.heap.size #[.int .i64 0, .int .i64 0, .slice none 0 0] 35 := by rw [hwA]; exact BoxN.last w _ _
  have hxA := hx.below hbA
  have hpA := hp.below hbA
  have Z := Lib.hid (fun W (hb : Below wA.heap.size wA W) => four_of_box (hxA.below hb))
  have ZC := Lib.hid (fun W (hb : Below wA.heap.size wA W) i (hi : i < M) => by
    have := (hpA.below hb).at i (by rw [hp.leE.1]; exact hi)
    rwa [Nat.zero_add] at this)
  have HWA := Lib.hid hwA
  have HBA := Lib.hid hbA
  have HBR := Lib.hid BR
  have hrl : w.heap.size < wA.heap.size := BR.lt
  have hpl : pb < wA.heap.size := hxA.lt
  have eN : IntKind.i64.wrap ((wd : Int) * (hi : Int)) = (N : Int) := by rw [← hN, Int.natCast_mul]; exact IntWalk.i64_in _ (by rw [← Int.natCast_mul]; omega)
  have HN := Lib.hid (And.intro hN (And.intro hM (Nat.mul_pos d1 d3)))
  have hMI : (M : Int) ≤ 2048 := by omega
  have hNle : N ≤ 256 := by omega
  rw [hN] at hM ⊢
  have HMM := Lib.hid hM
  clear hx hp hv hwA hbA BR hxA hpA hN hM
  go_enter Tryz.func58, Tryz.ntmps58
  go_upto_region 1 with fail
  rw [← HWA.out]
  go_cut [5] from 7 to 15 (fun v5 wx => ∃ ob : Nat, v5 = .pointer (some ⟨ob, 0, none⟩) ∧ AccG wA wx ob wd hi (.slice none 0 0) [] [])
  case first =>
    obtain ⟨z0, z1, -, -⟩ := Z.out wA (Below.refl _ _)
    have hal0 := alE wA (.cells #[.int .i64 0, .int .i64 0, .slice none 0 0] 35)
    obtain ⟨y0, y1, -, -⟩ := Z.out _ hal0
    go_region
    all_goals go_wp2_with fail
    all_goals go_meet
    exact ⟨wA.heap.size, rfl, below_drewN (alE _ _) 1, (BoxN.last wA _ _).drewN 1, OwnF.nil _ _, by simp [Value.ownBlock], Nat.le_refl _, rfl⟩
  case rest =>
    obtain ⟨ob, rfl, hacc⟩ := hcut
    have HACC := Lib.hid hacc
    clear hacc
    go_wp2_with fail
    go_loopw [6] (fun v6 wr => ∃ (i : Nat) (v : Value) (cs : List Nat), v6 = .int .i64 i ∧ i ≤ N ∧ AccG wA wr ob wd hi v cs (tab i (slW bs dp d))) (fun v6 _ => N - (intOf v6).toNat)
    case atStart => exact ⟨0, _, [], rfl, Nat.zero_le _, HACC.out⟩
    case round =>
      clear HACC
      obtain ⟨i, v1, cs, rfl, hi_, hacc⟩ := hrel
      obtain ⟨z0, z1, z2, z3⟩ := Z.out _ hacc.bel
      by_cases hlt : i < N
      · have hbel := hacc.bel
        have hown := hacc.own
        have hne := hacc.ne
        have hobf := hacc.obf
        have hbox := hacc.box
        have hL : cs.length ≤ 600 := by
          have := congrArg List.length hacc.con
          rw [List.length_map, tab_length] at this
          omega
        have hB := hacc.box.lt
        have hBs := hbel.size
        have hid2 : i * dp + d < M := by
          have h1 : i * dp + dp ≤ N * dp := by rw [← Nat.succ_mul]; exact Nat.mul_le_mul_right _ hlt
          rw [HMM.out]; omega
        have ZK := ZC.out wr hbel (i * dp + d) hid2
        have eid : IntKind.i64.wrap ((i : Int) * (dp : Int)) = ((i * dp : Nat) : Int) := by rw [Int.natCast_mul]; exact IntWalk.i64_in _ (by rw [← Int.natCast_mul]; omega)
        have HSL := Lib.hid (show slW bs dp d i = fl (bs.getD (i * dp + d) 0) from rfl)
        obtain ⟨k, hk⟩ : ∃ k, i * dp = k := ⟨_, rfl⟩
        rw [hk] at ZK eid hid2 HSL
        have e2 : IntKind.i64.wrap (((k : Nat) : Int) + (d : Int)) = ((k : Nat) : Int) + (d : Int) := IntWalk.i64_in _ (by omega)
        have e3 : (0 : Int) ≤ ((k : Nat) : Int) + (d : Int) := by omega
        have e4 : ((k : Nat) : Int) + (d : Int) < (M : Int) := by omega
        have e5 : (((k : Nat) : Int) + (d : Int)).toNat = k + d := by omega
        generalize bs.getD (k + d) 0 = zz at *
        obtain ⟨ZK1, ZK2⟩ := ZK
        have ZKn := Lib.hid ZK2
        have HS := Lib.hid hacc
        clear hacc hk ZK2
        obtain ⟨-, -, c2, f2⟩ : True ∧ True ∧ wr.cell? ⟨ob, 2, none⟩ = some v1 ∧ wr.frozen? ⟨ob, 2, none⟩ = false := ⟨trivial, trivial, hbox.cell 2, hbox.free 2⟩
        go_upto_region 3 with fail
        go_region
        go_wp2_with fail
        have hD : Below wr.heap.size wr wr.drew.drew := below_drewN (below_drewN (Below.refl _ _) 1) 1
        have hownD := (hown.below hD).1
        have hboxD := hbox.below hD
        go_region_law (refine step_append_lies _ (by rfl) _ _ _ (by rfl) wA.heap.size 25 i0 _ 1 4 Tryz.underlying22 hi0 hz0 hz1 hz2 rfl (by omega) v1 cs.length _ (by rfl) (World.ownsRow.alloc hownD _) ⟨wr.heap.size, 0, none⟩ 1 1 [.float .f32 zz] (by rfl) (by rfl) (cell_one_new _ _ _) (by simp [Value.oneCell']) (by omega) (by unfold maxLen; omega) (by omega) (by simp; omega) (wr.heap.size + 1) (by simp) ?_; intro gg cap w2 hown2 hgrow hat hlt2; have hq := ((hboxD.below (alE _ _)).grown hgrow hne); have q2 := hq.cell 2; have g2 := hq.free 2)
        all_goals
          go_wp2
          go_roundw
          case rel =>
            have hst := HS.out.step (z := slW bs dp d i) hD ZKn.out HSL.out.symm hown2 hgrow hat
            rw [← tab_succ] at hst
            exact ⟨i + 1, _, cs ++ [zz], by go_num, by omega, hst⟩
          case measure => simp [intOf]; omega
      · obtain rfl : N = i := by omega
        have hob := hacc.own
        have hcon := hacc.con
        obtain ⟨va, vc, rfl⟩ := hob.sl.len
        have hl : cs.length = N := by have := congrArg List.length hcon; rwa [List.length_map, tab_length] at this
        obtain ⟨q', rfl⟩ := own_ptrE hob (by rw [hl, ← HN.out.1]; exact HN.out.2.2)
        obtain ⟨c0, c1, c2⟩ : wr.cell? ⟨ob, 0, none⟩ = some (.int .i64 wd) ∧ wr.cell? ⟨ob, 1, none⟩ = some (.int .i64 hi) ∧ wr.cell? ⟨ob, 2, none⟩ = some (.slice (some ⟨q', 0, none⟩) cs.length vc) := ⟨hacc.box.cell 0, hacc.box.cell 1, hacc.box.cell 2⟩
        have hbr := HBR.out.below hacc.bel
        obtain ⟨e0, e1, e2, f0, f1, f2⟩ := hbr.three.cells
        have hlt2 := hbr.lt
        have hob1 := hacc.box.lt
        have HOB := Lib.hid (And.intro hob (And.intro hcon hacc.bel))
        rw [hl] at c2
        have HLL := Lib.hid hl
        clear hob hcon hacc hbr hl
        go_upto_region 3 with fail
        go_region
        go_wp2_with fail
        refine bodyPost_ret (v := .agg #[.int .i64 wd, .int .i64 hi, .slice (some ⟨q', 0, none⟩) N vc]) (by simp [results, Tryz.results58, go_sem, e0, e1, e2, hlt2]) rfl ?_
        have hbb := HBA.out.trans (HOB.out.2.2.mono HBA.out.size)
        have hoo := HOB.out.1
        rw [HLL.out] at hoo
        have hnn := HN.out.1
        exact ⟨q', vc, cs, by rw [hnn], by rw [hnn]; exact (own_set3 (hoo.drewN 1) hrl _ _ _).mono HBA.out.size, by rw [HLL.out, hnn], HOB.out.2.1, below_set3 (below_drewN hbb 1) (Nat.le_refl _) _ _ _⟩
end

section
open Go.RowKit Ieee
set_option maxRecDepth 100000
set_option linter.unusedVariables false
set_option linter.unusedSimpArgs false

set_option maxHeartbeats 4000000 in
theorem l02BoxE (w : World) (pb wd hi r : Nat) (v : Value) (bs : List Nat) (hw : 1 ≤ wd) (hh : 1 ≤ hi) (hw2 : wd ≤ 24) (hh2 : hi ≤ 24) (hr : r ≤ 3) (h : PicI w pb 0 wd hi v bs) :
    Calls Tryz.prog 59 #[.pointer (some ⟨pb, 0, none⟩), .int .i64 r] w (MakesPE w wd hi (tab (wd * hi) fun i => boxW (fun i => fl (bs.getD i 0)) wd hi r (i % wd) (i / wd))) := by
  obtain ⟨i0, hi0, hz0, hz1, hz2⟩ := info_parts info_f32
  have hpl := h.lt
  obtain ⟨wA, hwA⟩ : ∃ wA, wA = w.alloc (.cells #[.int .i64 0, .int .i64 0, .slice none 0 0] 35) := ⟨_, rfl⟩
  have hbA : Below w.heap.size w wA := by rw [hwA]; exact (Below.refl _ _).alloc (Nat.le_refl _) _
  have BR : Box3 wA w.heap.size (.int .i64 0) (.int .i64 0) (.slice none 0 0) 35 := by rw [hwA]; exact box_last w _ _ _ _
  have hP := h.below hbA
  have KA := Lib.hid (fun W (hb : Below wA.heap.size wA W) x y => l02At_gen W pb 0 wd hi v bs x y (by omega) (by omega) (by omega) (by omega) (hP.below hb))
  have Z := Lib.hid (fun W (hb : Below wA.heap.size wA W) => (And.intro (hP.below hb).c0 (hP.below hb).c1 : W.cell? ⟨pb, 0, none⟩ = some (.int .i64 wd) ∧ W.cell? ⟨pb, 1, none⟩ = some (.int .i64 hi)))
  have HBL := Lib.hid h.sl.2
  have HWA := Lib.hid hwA
  have HBA := Lib.hid hbA
  have HBR := Lib.hid BR
  have hrl : w.heap.size < wA.heap.size := BR.lt
  have hbd1 : Below wA.heap.size wA wA.drew := below_drewN (Below.refl _ _) 1
  have HF0 : ∀ i, (fun i => fl (bs.getD i 0)) i = fl (bs.getD i 0) := fun _ => rfl
  generalize (fun i => fl (bs.getD i 0)) = F at *
  have HF := Lib.hid HF0
  have hn9 : (2 * r + 1) * (2 * r + 1) ≤ 7 * 7 := Nat.mul_le_mul (by omega) (by omega)
  have hn1 : 1 ≤ (2 * r + 1) * (2 * r + 1) := Nat.mul_pos (by omega) (by omega)
  have hmm : (2 * (r : Int) + 1) * (2 * (r : Int) + 1) = (((2 * r + 1) * (2 * r + 1) : Nat) : Int) := by simp
  have hm2 : IntKind.i64.wrap ((2 * (r : Int) + 1) * (2 * (r : Int) + 1)) = (((2 * r + 1) * (2 * r + 1) : Nat) : Int) := by rw [hmm]; exact IntWalk.i64_in _ (by omega)
  have hbw : ∀ x y, boxW F wd hi r x y = fop .quo (wnS F wd hi ((x : Int) - r) ((y : Int) - r) (2 * r + 1) (2 * r + 1)) (fl (floatOfInt .f32 (((2 * r + 1) * (2 * r + 1) : Nat) : Int))) := fun _ _ => rfl
  obtain ⟨M, hM⟩ : ∃ M, M = (2 * r + 1) * (2 * r + 1) := ⟨_, rfl⟩
  rw [← hM] at hn9 hn1 hmm hm2 hbw
  obtain ⟨fM, hfM⟩ : ∃ fM, floatOfInt .f32 (M : Int) = fM := ⟨_, rfl⟩
  rw [hfM] at hbw
  have HBW := Lib.hid hbw
  have b0 : 0 ≤ (2 * (r : Int) + 1) * (2 * (r : Int) + 1) := by omega
  have b1 : (2 * (r : Int) + 1) * (2 * (r : Int) + 1) ≤ 49 := by omega
  have HMM := Lib.hid (And.intro hmm (And.intro hm2 (And.intro b0 (And.intro b1 hfM))))
  clear h hP hwA hbA BR HF0 hbw hmm hm2 b0 b1 hM hn9 hn1 hfM
  go_enter Tryz.func59, Tryz.ntmps59
  go_upto_region 1 with fail
  rw [← HWA.out]
  go_cut [5] from 12 to 20 (fun v5 wx => ∃ ob g : Nat, v5 = .pointer (some ⟨ob, 0, none⟩) ∧ AccG wA wx ob wd hi (.slice (some ⟨g, 0, none⟩) 0 0) [] [])
  case first =>
    have hbd2 : Below wA.heap.size wA (wA.alloc (.cells #[.int .i64 0, .int .i64 0, .slice none 0 0] 35)).drew := below_drewN ((Below.refl _ _).alloc (Nat.le_refl _) _) 1
    have hbx0 : BoxN (wA.alloc (.cells #[.int .i64 0, .int .i64 0, .slice none 0 0] 35)).drew wA.heap.size #[.int .i64 0, .int .i64 0, .slice none 0 0] 35 := (BoxN.last wA #[.int .i64 0, .int .i64 0, .slice none 0 0] 35).drewN 1
    go_region_held3 (fun W => Below wA.heap.size wA W ∧ W.cell? ⟨pb, 0, none⟩ = some (.int .i64 wd) ∧ W.cell? ⟨pb, 1, none⟩ = some (.int .i64 hi))
      (first | exact ⟨hbc3, Z.out _ hbc3⟩ | exact ⟨hbd1, Z.out _ hbd1⟩ | exact ⟨hbc4, Z.out _ hbc4⟩ | exact ⟨hbd2, Z.out _ hbd2⟩ | exact ⟨((hbc4.setCell (Nat.le_refl _) _).setCell (Nat.le_refl _) _).setCell (Nat.le_refl _) _, Z.out _ (((hbc4.setCell (Nat.le_refl _) _).setCell (Nat.le_refl _) _).setCell (Nat.le_refl _) _)⟩ | exact ⟨hbc3.alloc hbc3.size _, Z.out _ (hbc3.alloc hbc3.size _)⟩ | go_keep)
      ((first | (go_at_call 88; with_reducible refine (l02NewE wA.drew _ _).mono ?_; rintro e w3 ⟨rfl, hown, hb3, hlt3⟩; have hbc3 := hbd1.trans (hb3.mono hbd1.size)) | (go_at_call 88; with_reducible refine (l02NewE (wA.alloc (.cells #[.int .i64 0, .int .i64 0, .slice none 0 0] 35)).drew _ _).mono ?_; rintro e w3 ⟨rfl, hown, hb3, hlt3⟩; have hbc4 := hbd2.trans (hb3.mono hbd2.size); have hbx : BoxN w3 wA.heap.size #[.int .i64 0, .int .i64 0, .slice none 0 0] 35 := hbx0.below hb3; obtain ⟨o0, o1, o2, g0, g1, g2⟩ := hbx.three.cells)))
    all_goals
      go_wp2_with fail
      go_meet
    · exact ⟨w3.heap.size, wA.heap.size + 1, rfl, hbc3.alloc hbc3.size _, BoxN.last w3 _ _, (hown.below (alE w3 _)).mono (Nat.le_succ _), by simp [Value.ownBlock]; have := hlt3; simp at this; omega, hbc3.size, rfl⟩
    · refine ⟨wA.heap.size, wA.heap.size + 1 + 1, rfl, ((hbc4.setCell (Nat.le_refl _) _).setCell (Nat.le_refl _) _).setCell (Nat.le_refl _) _, ?_, ?_, by simp [Value.ownBlock]; omega, Nat.le_refl _, rfl⟩
      · have := ((hbx.set 0 (.int .i64 wd)).set 1 (.int .i64 hi)).set 2 (.slice (some ⟨wA.heap.size + 1 + 1, 0, none⟩) 0 0)
        simpa using this
      · have q := (((hown.grown (grown_setCell _ ⟨wA.heap.size, 0, none⟩ (.int .i64 wd)) (.inr (by simp [Value.ownBlock]; omega))).grown (grown_setCell _ ⟨wA.heap.size, 1, none⟩ (.int .i64 hi)) (.inr (by simp [Value.ownBlock]; omega))).grown (grown_setCell _ ⟨wA.heap.size, 2, none⟩ (.slice (some ⟨wA.heap.size + 1 + 1, 0, none⟩) 0 0)) (.inr (by simp [Value.ownBlock]; omega))).mono (B' := wA.heap.size) (by simp; omega)
        simpa using q
  case rest =>
    obtain ⟨ob, g, rfl, hacc⟩ := hcut
    have HACC := Lib.hid hacc
    clear hacc hbd1
    have wdI : (wd : Int) ≤ 24 := by omega
    have hiI : (hi : Int) ≤ 24 := by omega
    have rI : (r : Int) ≤ 3 := by omega
    obtain ⟨hmm, hm2, b0, b1, hfM⟩ := HMM.out
    go_wp2_with fail
    clear hmm hm2 b0 b1 hfM
    go_loopw [7] (fun v7 wr => ∃ (y : Nat) (v : Value) (cs : List Nat), v7 = .int .i64 y ∧ y ≤ hi ∧ AccG wA wr ob wd hi v cs (tab (y * wd) fun i => boxW F wd hi r (i % wd) (i / wd))) (fun v7 _ => hi - (intOf v7).toNat)
    case atStart => exact ⟨0, _, [], rfl, Nat.zero_le _, by rw [Nat.zero_mul]; exact HACC.out⟩
    case round =>
      clear HACC
      obtain ⟨y, v1, cs, rfl, hy, hacc⟩ := hrel
      obtain ⟨z0, z1⟩ := Z.out _ hacc.bel
      have HACC := Lib.hid hacc
      clear hacc
      by_cases hlt : y < hi
      · go_wp2_with fail
        clear z0 z1
        go_loopw [8] (fun v8 wr => ∃ (x : Nat) (v : Value) (cs : List Nat), v8 = .int .i64 x ∧ x ≤ wd ∧ AccG wA wr ob wd hi v cs (tab (y * wd + x) fun i => boxW F wd hi r (i % wd) (i / wd))) (fun v8 _ => wd - (intOf v8).toNat)
        case atStart => exact ⟨0, v1, cs, rfl, Nat.zero_le _, HACC.out⟩
        case round =>
          clear HACC
          obtain ⟨x, v2, cs2, rfl, hx, hacc⟩ := hrel
          obtain ⟨z0, z1⟩ := Z.out _ hacc.bel
          have HS := Lib.hid hacc
          clear hacc
          by_cases hlx : x < wd
          · go_wp2_with fail
            clear z0 z1
            obtain ⟨wo, hwo⟩ : ∃ wo, wo = wr := ⟨_, rfl⟩
            rw [← hwo] at HS
            have HWO := Lib.hid hwo
            go_loopw [9, 10] (fun v9 v10 wr => ∃ j n sw : Nat, v9 = .float .f32 sw ∧ fl sw = wnS F wd hi ((x : Int) - r) ((y : Int) - r) (2 * r + 1) j ∧ v10 = .int .i64 ((y : Int) - r + j) ∧ j ≤ 2 * r + 1 ∧ wr = wo.drewN n) (fun _ v10 _ => ((y : Int) + r + 1 - intOf v10).toNat)
            case atStart => exact ⟨0, 0, 0, rfl, rfl, by simp, Nat.zero_le _, hwo.symm⟩
            case round =>
              clear hwo
              obtain ⟨j, n, sw, rfl, hsw, rfl, hj, rfl⟩ := hrel
              have HSW := Lib.hid hsw
              clear hsw
              by_cases hlt : j < 2 * r + 1
              · have c1 : (y : Int) - r + j ≤ (y : Int) + r := by omega
                go_wp2_with fail
                go_loopw [9, 11] (fun v9 v11 wr => ∃ i n sv : Nat, v9 = .float .f32 sv ∧ fl sv = rwS F wd hi ((x : Int) - r) ((y : Int) - r + j) (wnS F wd hi ((x : Int) - r) ((y : Int) - r) (2 * r + 1) j) i ∧ v11 = .int .i64 ((x : Int) - r + i) ∧ i ≤ 2 * r + 1 ∧ wr = wo.drewN n) (fun _ v11 _ => ((x : Int) + r + 1 - intOf v11).toNat)
                case atStart => exact ⟨0, n, sw, rfl, HSW.out, by simp, Nat.zero_le _, rfl⟩
                case round =>
                  obtain ⟨i, n, sv, rfl, hsv, rfl, hi_, rfl⟩ := hrel
                  have HSV := Lib.hid hsv
                  clear hsv
                  by_cases hlt2 : i < 2 * r + 1
                  · have c2 : (x : Int) - r + i ≤ (x : Int) + r := by omega
                    have KAn := Lib.hid (KA.out (wo.drewN n) (below_drewN HS.out.bel n) ((x : Int) - r + i) ((y : Int) - r + j))
                    have HFi := Lib.hid (HF.out (ix ((x : Int) - r + i) ((y : Int) - r + j) wd hi))
                    generalize bs.getD (ix ((x : Int) - r + i) ((y : Int) - r + j) wd hi) 0 = s2 at *
                    go_wp2_with fail
                    refine KAn.out.mono ?_
                    rintro e w' ⟨rfl, m, rfl⟩
                    go_wp2
                    go_roundw
                    case rel => exact ⟨i + 1, _, _, rfl, by rw [fl_fres, HSV.out, ← HFi.out]; rfl, by go_num, by omega, rfl⟩
                    case measure => simp [intOf]; omega
                  · obtain rfl : i = 2 * r + 1 := by omega
                    have c2 : ¬ (x : Int) - r + ((2 * r + 1 : Nat) : Int) ≤ (x : Int) + r := by omega
                    go_wp2
                    go_roundw
                    case rel => exact ⟨j + 1, n, sv, rfl, by rw [HSV.out]; rfl, by go_num, by omega, rfl⟩
                    case measure => simp [intOf]; omega
              · obtain rfl : j = 2 * r + 1 := by omega
                have c2 : ¬ (y : Int) - r + ((2 * r + 1 : Nat) : Int) ≤ (y : Int) + r := by omega
                have hbel := HS.out.bel
                have hown := HS.out.own
                have hne := HS.out.ne
                have hbox := HS.out.box
                have hL : cs2.length ≤ 600 := by
                  have h1 : y * wd ≤ 24 * 24 := Nat.mul_le_mul (by omega) hw2
                  have := congrArg List.length HS.out.con
                  rw [List.length_map, tab_length] at this
                  omega
                have hB := hbox.lt
                have hBs := hbel.size
                have o2 := hbox.cell 2
                have o2 : wo.cell? ⟨ob, 2, none⟩ = some v2 := o2
                go_wp2_with (at_builtin; refine wpList_append_lies _ (by rfl) _ _ _ (by rfl) wA.heap.size 25 i0 _ 1 4 Tryz.underlying22 hi0 hz0 hz1 hz2 rfl (by omega) v2 cs2.length _ (by rfl) (World.ownsRow.alloc (hown.below (below_drewN (Below.refl wo.heap.size wo) _)).1 _) ⟨wo.heap.size, 0, none⟩ 1 1 [.float .f32 _] (by rfl) (by rfl) (cell_one_new _ _ _) (by simp [Value.oneCell']) (by omega) (by unfold maxLen; omega) (by omega) (by simp; omega) (wo.heap.size + 1) (by simp) ?_; intro gg cap w2 hown2 hgrow hat hlt2; have hq := (((hbox.below (below_drewN (Below.refl wo.heap.size wo) _)).below (alE _ _)).grown hgrow hne); have q2 := hq.cell 2; have g2 := hq.free 2)
                go_roundw
                case rel =>
                  have hst := HS.out.step (z := boxW F wd hi r x y) (below_drewN (Below.refl _ _) _) (fres_lt _ _ _ _) (by rw [fl_fres, HSW.out, HBW.out]) hown2 hgrow hat
                  have e1 : (y * wd + x) % wd = x := by rw [Nat.mul_comm, Nat.mul_add_mod, Nat.mod_eq_of_lt hlx]
                  have e2 : (y * wd + x) / wd = y := by rw [Nat.mul_comm, Nat.mul_add_div (by omega), Nat.div_eq_of_lt hlx, Nat.add_zero]
                  have e3 : boxW F wd hi r x y = (fun i => boxW F wd hi r (i % wd) (i / wd)) (y * wd + x) := by show _ = boxW F wd hi r ((y * wd + x) % wd) ((y * wd + x) / wd); rw [e1, e2]
                  rw [e3, ← tab_succ] at hst
                  exact ⟨x + 1, _, cs2 ++ [_], by go_num, by omega, hst⟩
                case measure => simp [intOf]; omega
          · obtain rfl : wd = x := by omega
            go_wp2_with fail
            go_roundw
            case rel => exact ⟨y + 1, v2, cs2, by go_num, by omega, by rw [Nat.add_mul, Nat.one_mul]; exact HS.out⟩
            case measure => simp [intOf]; omega
      · obtain rfl : hi = y := by omega
        have hob := HACC.out.own
        have hcon := HACC.out.con
        obtain ⟨va, vc, rfl⟩ := hob.sl.len
        have hl : cs.length = wd * hi := by have := congrArg List.length hcon; rwa [List.length_map, tab_length, Nat.mul_comm] at this
        obtain ⟨q', rfl⟩ := own_ptrE hob (by rw [hl]; exact Nat.mul_pos (by omega) (by omega))
        obtain ⟨c0, c1, c2⟩ : wr.cell? ⟨ob, 0, none⟩ = some (.int .i64 wd) ∧ wr.cell? ⟨ob, 1, none⟩ = some (.int .i64 hi) ∧ wr.cell? ⟨ob, 2, none⟩ = some (.slice (some ⟨q', 0, none⟩) cs.length vc) := ⟨HACC.out.box.cell 0, HACC.out.box.cell 1, HACC.out.box.cell 2⟩
        have hbr := HBR.out.below HACC.out.bel
        obtain ⟨e0, e1, e2, f0, f1, f2⟩ := hbr.cells
        have hlt2 := hbr.lt
        have hob1 := HACC.out.box.lt
        have HOB := Lib.hid (And.intro hob (And.intro hcon HACC.out.bel))
        rw [hl] at c2
        have HLL := Lib.hid hl
        clear hob hcon hbr hl
        go_wp2_with fail
        refine bodyPost_ret (v := .agg #[.int .i64 wd, .int .i64 hi, .slice (some ⟨q', 0, none⟩) (wd * hi) vc]) (by simp [results, Tryz.results59, go_sem, e0, e1, e2, hlt2]) rfl ?_
        have hbb := HBA.out.trans (HOB.out.2.2.mono HBA.out.size)
        have hoo := HOB.out.1
        rw [HLL.out] at hoo
        have hcc := HOB.out.2.1
        rw [Nat.mul_comm] at hcc
        exact ⟨q', vc, cs, rfl, (own_set3 hoo hrl _ _ _).mono HBA.out.size, HLL.out, hcc, below_set3 hbb (Nat.le_refl _) _ _ _⟩
end

section
open Go.RowKit Ieee
set_option maxRecDepth 100000
set_option linter.unusedVariables false
set_option linter.unusedSimpArgs false

set_option maxHeartbeats 4000000 in
theorem l03StackE (w : World) (g cap wd hi dp : Nat) (q c : Nat → Nat) (qs : Nat → List Nat) (h1 : 1 ≤ wd) (h2 : wd ≤ 24) (h3 : 1 ≤ hi) (h4 : hi ≤ 24) (d1 : 1 ≤ dp) (d2 : dp ≤ 8) (hN : wd * hi ≤ 256)
    (hp : ∀ d, d < dp → PicI w g (d * 3) wd hi (.slice (some ⟨q d, 0, none⟩) (wd * hi) (c d)) (qs d)) :
    Calls Tryz.prog 60 #[.slice (some ⟨g, 0, none⟩) dp cap] w (MakesVE w wd hi dp (tab (wd * hi * dp) fun k => fl ((qs (k % dp)).getD (k / dp) 0))) := by
  obtain ⟨i0, hi0, hz0, hz1, hz2⟩ := info_parts info_f32
  have hpl := (hp 0 (by omega)).lt
  obtain ⟨wA, hwA⟩ : ∃ wA, wA = w.alloc (.cells #[.int .i64 0, .int .i64 0, .int .i64 0, .slice none 0 0] 62) := ⟨_, rfl⟩
  have hbA : Below w.heap.size w wA := by rw [hwA]; exact (Below.refl _ _).alloc (Nat.le_refl _) _
  have BR : BoxN wA w.heap.size #[.int .i64 0, .int .i64 0, .int .i64 0, .slice none 0 0] 62 := by rw [hwA]; exact BoxN.last w _ _
  have hP := fun d hd => (hp d hd).below hbA
  obtain ⟨N, hNe⟩ : ∃ N, wd * hi = N := ⟨_, rfl⟩
  rw [hNe] at hP ⊢
  have Z := Lib.hid (fun W (hb : Below wA.heap.size wA W) d hd => (hP d hd).below hb)
  have HWA := Lib.hid hwA
  have HBA := Lib.hid hbA
  have HBR := Lib.hid BR
  have HNE := Lib.hid hNe
  have hrl : w.heap.size < wA.heap.size := BR.lt
  have hpA : g < wA.heap.size := (hP 0 (by omega)).lt
  have hN0 : 0 < N := by rw [← hNe]; exact Nat.mul_pos h1 h3
  have hNle : N ≤ 256 := by omega
  have HN0 := Lib.hid hN0
  have dpp : (0 : Int) < (dp : Int) := by omega
  clear hp hP hwA hbA BR hNe hN hN0
  go_enter Tryz.func60, Tryz.ntmps60
  go_upto_region 1 with fail
  rw [← HWA.out]
  go_cut [3] from 6 to 16 (fun v3 wx => ∃ ob : Nat, v3 = .pointer (some ⟨ob, 0, none⟩) ∧ AccE wA wx ob wd hi dp (.slice none 0 0) [] [])
  case first =>
    have hal : ∀ (W : World) (o : Obj), Below W.heap.size W (W.alloc o) := fun W o => (Below.refl _ _).alloc (Nat.le_refl _) _
    have hal0 := hal wA (.cells #[.int .i64 0, .int .i64 0, .int .i64 0, .slice none 0 0] 62)
    have zz := Z.out wA (Below.refl _ _) 0 (by omega)
    have yy := Z.out _ hal0 0 (by omega)
    obtain ⟨z0, z1⟩ : wA.cell? ⟨g, 0, none⟩ = some (.int .i64 wd) ∧ wA.cell? ⟨g, 1, none⟩ = some (.int .i64 hi) := ⟨by simpa using zz.c0, by simpa using zz.c1⟩
    obtain ⟨y0, y1⟩ : (wA.alloc (.cells #[.int .i64 0, .int .i64 0, .int .i64 0, .slice none 0 0] 62)).cell? ⟨g, 0, none⟩ = some (.int .i64 wd) ∧ (wA.alloc (.cells #[.int .i64 0, .int .i64 0, .int .i64 0, .slice none 0 0] 62)).cell? ⟨g, 1, none⟩ = some (.int .i64 hi) := ⟨by simpa using yy.c0, by simpa using yy.c1⟩
    clear zz yy
    go_region
    all_goals go_wp2_with fail
    all_goals go_meet
    exact ⟨wA.heap.size, rfl, below_drewN (hal _ _) 1, (BoxN.last wA _ _).drewN 1, OwnF.nil _ _, by simp [Value.ownBlock], Nat.le_refl _, rfl⟩
  case rest =>
    obtain ⟨ob, rfl, hacc⟩ := hcut
    have HACC := Lib.hid hacc
    have z2 := (Z.out _ hacc.bel 0 (by omega)).c2
    rw [Nat.zero_mul, Nat.zero_add] at z2
    clear hacc
    go_wp2_with fail
    clear z2
    go_loopw [22] (fun v22 wr => ∃ (i : Nat) (v : Value) (cs : List Nat), v22 = .int .i64 i ∧ i ≤ N ∧ AccE wA wr ob wd hi dp v cs (tab (i * dp) fun k => fl ((qs (k % dp)).getD (k / dp) 0))) (fun v22 _ => N - (intOf v22).toNat)
    case atStart => exact ⟨0, _, [], rfl, Nat.zero_le _, by rw [Nat.zero_mul]; exact HACC.out⟩
    case round =>
      clear HACC
      obtain ⟨i, v1, cs, rfl, hi_, hacc⟩ := hrel
      have HACC := Lib.hid hacc
      clear hacc
      by_cases hlt : i < N
      · go_wp2_with fail
        go_loopw [27] (fun v27 wr => ∃ (d : Nat) (v : Value) (cs : List Nat), v27 = .int .i64 d ∧ d ≤ dp ∧ AccE wA wr ob wd hi dp v cs (tab (i * dp + d) fun k => fl ((qs (k % dp)).getD (k / dp) 0))) (fun v27 _ => dp - (intOf v27).toNat)
        case atStart => exact ⟨0, v1, cs, rfl, Nat.zero_le _, HACC.out⟩
        case round =>
          clear HACC
          obtain ⟨d, v2, cs2, rfl, hd, hacc⟩ := hrel
          by_cases hld : d < dp
          · have P := Z.out _ hacc.bel d hld
            have hbel := hacc.bel
            have hown := hacc.own
            have hne := hacc.ne
            have hobf := hacc.obf
            have hbox := hacc.box
            have hL : cs2.length ≤ 5000 := by
              have h5 : i * dp ≤ 256 * 8 := Nat.mul_le_mul (by omega) d2
              have h6 : cs2.length = i * dp + d := by have := congrArg List.length hacc.con; rwa [List.length_map, tab_length] at this
              omega
            have hB := hacc.box.lt
            have hBs := hbel.size
            have p2 := P.c2
            have pg := P.sl.at i (by rw [P.len, HNE.out]; exact hlt)
            rw [Nat.zero_add] at pg
            have HCO := Lib.hid (show (fun k => fl ((qs (k % dp)).getD (k / dp) 0)) (i * dp + d) = fl ((qs d).getD i 0) by
              show fl ((qs ((i * dp + d) % dp)).getD ((i * dp + d) / dp) 0) = _
              rw [Nat.mul_comm i dp, Nat.mul_add_mod, Nat.mod_eq_of_lt hld, Nat.mul_add_div (by omega), Nat.div_eq_of_lt hld, Nat.add_zero])
            generalize (qs d).getD i 0 = zz at *
            obtain ⟨pg, pg2⟩ := pg
            have HPG := Lib.hid pg2
            have b1 : (d : Int) < (dp : Int) := by omega
            have b2 : (i : Int) < (N : Int) := by omega
            have HS := Lib.hid hacc
            clear hacc P pg2
            have o3 : wr.cell? ⟨ob, 3, none⟩ = some v2 := hbox.cell 3
            go_wp2_with fail
            have hD : Below wr.heap.size wr wr.drew := below_drewN (Below.refl _ _) 1
            have hownD := (hown.below hD).1
            have hboxD := hbox.below hD
            go_region_law (refine step_append_lies _ (by rfl) _ _ _ (by rfl) wA.heap.size 25 i0 _ 1 4 Tryz.underlying22 hi0 hz0 hz1 hz2 rfl (by omega) v2 cs2.length _ (by rfl) (World.ownsRow.alloc hownD _) ⟨wr.heap.size, 0, none⟩ 1 1 [.float .f32 zz] (by rfl) (by rfl) (cell_one_new _ _ _) (by simp [Value.oneCell']) (by omega) (by unfold maxLen; omega) (by omega) (by simp; omega) (wr.heap.size + 1) (by simp) ?_; intro gg cap2 w2 hown2 hgrow hat hlt2; have hq := ((hboxD.below (alE _ _)).grown hgrow hne); have q2 := hq.cell 3; have g2 := hq.free 3)
            all_goals
              go_wp2
              go_roundw
              case rel =>
                have hst := HS.out.step (z := fl zz) hD HPG.out rfl hown2 hgrow hat
                rw [← HCO.out, ← tab_succ] at hst
                exact ⟨d + 1, _, cs2 ++ [zz], by go_num, by omega, hst⟩
              case measure => simp [intOf]; omega
          · obtain rfl : dp = d := by omega
            have HS := Lib.hid hacc
            clear hacc
            go_wp2_with fail
            go_roundw
            case rel => exact ⟨i + 1, v2, cs2, by go_num, by omega, by rw [Nat.add_mul, Nat.one_mul]; exact HS.out⟩
            case measure => simp [intOf]; omega
      · obtain rfl : N = i := by omega
        have hob := HACC.out.own
        have hcon := HACC.out.con
        obtain ⟨va, vc, rfl⟩ := hob.sl.len
        obtain ⟨c0, c1, c2, c3, -, -, -, -⟩ := HACC.out.box.four
        have hbr := HBR.out.below HACC.out.bel
        obtain ⟨e0, e1, e2, e3, e4, e5, e6, e7⟩ := hbr.four
        have hlt2 := hbr.lt
        have HOB := Lib.hid (And.intro hob hcon)
        clear hob hcon hbr
        go_wp2_with fail
        refine bodyPost_ret (v := .agg #[.int .i64 wd, .int .i64 hi, .int .i64 dp, .slice va cs.length vc]) (by simp [results, Tryz.results60, go_sem, e0, e1, e2, e3, hlt2]) rfl ?_
        have hbb := HBA.out.trans (HACC.out.bel.mono HBA.out.size)
        exact ⟨_, vc, cs, rfl, (own_set4 HOB.out.1 hrl _ _ _ _).mono HBA.out.size, HOB.out.2, below_set4 hbb (Nat.le_refl _) _ _ _ _⟩
end

end Go.Proofs.YtabbjilgpfnacaaGreat

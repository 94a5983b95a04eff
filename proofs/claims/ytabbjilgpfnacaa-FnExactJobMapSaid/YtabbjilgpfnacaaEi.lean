/- The reference's slices and windows, by words. -/
import Derived.Test.YtabbjilgpfnacaaEh
import Derived.Test.YtabbjilgpfnacaaEe
namespace Go.Proofs.Ytabbjilgpfnacaa
open Go.RowKit Ieee
set_option maxRecDepth 100000
set_option linter.unusedVariables false
set_option linter.unusedSimpArgs false

/-- A loop that appends numbers to the greys of a picture of its own. -/
structure AccG (w wr : World) (ob : Nat) (a b : Int) (v : Value) (bs : List Nat) (L : List Nat) : Prop where
  bel : Below w.heap.size w wr
  box : BoxN wr ob #[.int .i64 a, .int .i64 b, v] 34
  own : OwnF wr w.heap.size v bs
  ne : some ob ≠ v.ownBlock
  obf : w.heap.size ≤ ob
  con : bs.map fl = L
theorem AccG.step {w wr w1 w2 : World} {ob : Nat} {a b : Int} {r : Nat} {v : Value} {bs L : List Nat} {T : TypeId} {gg cap z : Nat} (h : AccG w wr ob a b v bs L)
    (hb : Below wr.heap.size wr w1) (hr : r < 4294967296) (hfl : fl r = z)
    (hown : w2.ownsRow w.heap.size 44 1 (.slice (some ⟨gg, 0, none⟩) (bs.length + 1) cap) (bs.length + 1) (bs.map (Value.float .f32) ++ [.float .f32 r]))
    (hg : (w1.alloc (.cells #[.float .f32 r] T)).grownBy w2 v.ownBlock) (hat : v.ownBlock = some gg ∨ gg = w1.heap.size + 1) :
    AccG w (w2.setCell ⟨ob, 2, none⟩ (.slice (some ⟨gg, 0, none⟩) (bs.length + 1) cap)) ob a b (.slice (some ⟨gg, 0, none⟩) (bs.length + 1) cap) (bs ++ [r]) (L ++ [z]) := by
  have hal : Below w1.heap.size w1 (w1.alloc (.cells #[.float .f32 r] T)) := (Below.refl _ _).alloc (Nat.le_refl _) _
  have hlt := h.box.lt
  have s1 : wr.heap.size ≤ w1.heap.size := hb.size
  have hgg : gg ≠ ob := by
    rcases hat with e | e
    · intro q; exact h.ne (by rw [e, q])
    · omega
  have b2 : Below w.heap.size w w2 := ((h.bel.trans (hb.mono h.bel.size)).trans (hal.mono (Nat.le_trans h.bel.size s1))).grown hg (by simp; have := h.bel.size; omega) (fun k hk => by have := (h.own.lt hk).1; omega)
  refine ⟨b2.setCell h.obf _, by have := ((h.box.below hb).below hal).grown hg h.ne; have := this.set 2 (.slice (some ⟨gg, 0, none⟩) (bs.length + 1) cap); simpa using this, ⟨?_, ?_⟩, by simp [Value.ownBlock]; exact fun e => hgg e.symm, h.obf, by rw [List.map_append, h.con]; simp [hfl]⟩
  · have k := hown.kept (grown_setCell w2 ⟨ob, 2, none⟩ (.slice (some ⟨gg, 0, none⟩) (bs.length + 1) cap)) (.inr (by simp [Value.ownBlock]; exact hgg))
    simpa using k
  · intro b hb'
    rcases List.mem_append.1 hb' with h1 | h1
    · exact h.own.2 b h1
    · simp at h1; omega
theorem own_set3 {W : World} {B b : Nat} {v : Value} {bs : List Nat} (h : OwnF W B v bs) (hb : b < B) (x y z : Value) : OwnF (((W.setCell ⟨b, 0, none⟩ x).setCell ⟨b, 1, none⟩ y).setCell ⟨b, 2, none⟩ z) B v bs :=
  ((h.set (a := ⟨b, 0, none⟩) hb x).set (a := ⟨b, 1, none⟩) hb y).set (a := ⟨b, 2, none⟩) hb z
theorem below_set3 {B b : Nat} {w W : World} (h : Below B w W) (hb : B ≤ b) (x y z : Value) : Below B w (((W.setCell ⟨b, 0, none⟩ x).setCell ⟨b, 1, none⟩ y).setCell ⟨b, 2, none⟩ z) :=
  ((h.setCell (p := ⟨b, 0, none⟩) hb x).setCell (p := ⟨b, 1, none⟩) hb y).setCell (p := ⟨b, 2, none⟩) hb z
/-- A picture of words, made anew. -/
def MakesPE (w : World) (wd hi : Nat) (L : List Nat) (e : Ending) (w' : World) : Prop :=
  ∃ q c qs, e = .returned (.agg #[.int .i64 wd, .int .i64 hi, .slice (some ⟨q, 0, none⟩) (wd * hi) c]) ∧ OwnF w' w.heap.size (.slice (some ⟨q, 0, none⟩) (wd * hi) c) qs ∧ qs.length = wd * hi ∧ qs.map fl = L ∧ Below w.heap.size w w'

theorem l02NewE (w : World) (a b : Int) : Calls Try.prog 125 #[.int .i64 a, .int .i64 b] w fun e w' => e = .returned (.agg #[.int .i64 a, .int .i64 b, .slice (some ⟨w.heap.size + 1, 0, none⟩) 0 0]) ∧ OwnF w' (w.heap.size + 1) (.slice (some ⟨w.heap.size + 1, 0, none⟩) 0 0) [] ∧ Below w.heap.size w w' ∧ w.heap.size + 1 < w'.heap.size := by
  go_enter Try.func125, Try.ntmps125
  go_wp2
  refine bodyPost_ret (v := .agg #[.int .i64 a, .int .i64 b, .slice (some ⟨w.heap.size + 1, 0, none⟩) 0 0]) (by simp [results, Try.results125, go_sem]) rfl ?_
  refine ⟨rfl, ⟨⟨rfl, .inr ⟨w.heap.size + 1, 0, #[], rfl, Nat.le_refl _, ?_, Nat.le_refl _, by unfold maxLen; omega, rfl, rfl⟩⟩, by simp⟩, below_two w _ _, by simp⟩
  have := heap_alloc_new (w.alloc (.cells #[.int .i64 a, .int .i64 b, .slice (some ⟨w.heap.size + 1, 0, none⟩) 0 0] 34)) (.cells #[] 44)
  simpa using this

set_option maxHeartbeats 4000000 in
theorem l03SliceE (w : World) (pb wd hi dp M q c d : Nat) (bs : List Nat) (hx : BoxN w pb #[.int .i64 wd, .int .i64 hi, .int .i64 dp, .slice (some ⟨q, 0, none⟩) M c] 31) (hp : SlF w (.slice (some ⟨q, 0, none⟩) M c) bs) (hv : vVol wd hi dp M = true) (hd : d < dp) :
    Calls Try.prog 104 #[.pointer (some ⟨pb, 0, none⟩), .int .i64 d] w (MakesPE w wd hi (tab (wd * hi) (slW bs dp d))) := by
  obtain ⟨i0, hi0, hz0, hz1, hz2⟩ := info_parts info_f32
  obtain ⟨hM, d1, d2, d3, d4, d5, d6, d7, d8⟩ := vVol_picE hv
  obtain ⟨N, hN⟩ : ∃ N, wd * hi = N := ⟨_, rfl⟩
  obtain ⟨wA, hwA⟩ : ∃ wA, wA = w.alloc (.cells #[.int .i64 0, .int .i64 0, .slice none 0 0] 34) := ⟨_, rfl⟩
  have hbA : Below w.heap.size w wA := by rw [hwA]; exact alE _ _
  have BR : BoxN wA w.heap.size #[.int .i64 0, .int .i64 0, .slice none 0 0] 34 := by rw [hwA]; exact BoxN.last w _ _
  have hxA := hx.below hbA
  have hpA := hp.below hbA
  have Z := Lib.hid (fun W (hb : Below wA.heap.size wA W) => four_of_box (hxA.below hb))
  have ZC := Lib.hid (fun W (hb : Below wA.heap.size wA W) i (hi : i < M) => by
    have := (hpA.below hb).at i (by rw [hp.leE.1]; exact hi)
    rwa [Nat.zero_add] at this)
  have HWA := Lib.hid hwA
  have HBA := Lib.hid hbA
  have HBR := Lib.hid BR
  have hrl : w.heap.size < wA.heap.size := BR.lt
  have hpl : pb < wA.heap.size := hxA.lt
  have eN : IntKind.i64.wrap ((wd : Int) * (hi : Int)) = (N : Int) := by rw [← hN, Int.natCast_mul]; exact IntWalk.i64_in _ (by rw [← Int.natCast_mul]; omega)
  have HN := Lib.hid (And.intro hN (And.intro hM (Nat.mul_pos d1 d3)))
  have hMI : (M : Int) ≤ 2048 := by omega
  have hNle : N ≤ 256 := by omega
  rw [hN] at hM ⊢
  have HMM := Lib.hid hM
  clear hx hp hv hwA hbA BR hxA hpA hN hM
  go_enter Try.func104, Try.ntmps104
  go_upto_region 1 with fail
  rw [← HWA.out]
  go_cut [5] from 7 to 15 (fun v5 wx => ∃ ob : Nat, v5 = .pointer (some ⟨ob, 0, none⟩) ∧ AccG wA wx ob wd hi (.slice none 0 0) [] [])
  case first =>
    obtain ⟨z0, z1, -, -⟩ := Z.out wA (Below.refl _ _)
    have hal0 := alE wA (.cells #[.int .i64 0, .int .i64 0, .slice none 0 0] 34)
    obtain ⟨y0, y1, -, -⟩ := Z.out _ hal0
    go_region
    all_goals go_wp2_with fail
    all_goals go_meet
    exact ⟨wA.heap.size, rfl, below_drewN (alE _ _) 1, (BoxN.last wA _ _).drewN 1, OwnF.nil _ _, by simp [Value.ownBlock], Nat.le_refl _, rfl⟩
  case rest =>
    obtain ⟨ob, rfl, hacc⟩ := hcut
    have HACC := Lib.hid hacc
    clear hacc
    go_wp2_with fail
    go_loopw [6] (fun v6 wr => ∃ (i : Nat) (v : Value) (cs : List Nat), v6 = .int .i64 i ∧ i ≤ N ∧ AccG wA wr ob wd hi v cs (tab i (slW bs dp d))) (fun v6 _ => N - (intOf v6).toNat)
    case atStart => exact ⟨0, _, [], rfl, Nat.zero_le _, HACC.out⟩
    case round =>
      clear HACC
      obtain ⟨i, v1, cs, rfl, hi_, hacc⟩ := hrel
      obtain ⟨z0, z1, z2, z3⟩ := Z.out _ hacc.bel
      by_cases hlt : i < N
      · have hbel := hacc.bel
        have hown := hacc.own
        have hne := hacc.ne
        have hobf := hacc.obf
        have hbox := hacc.box
        have hL : cs.length ≤ 600 := by
          have := congrArg List.length hacc.con
          rw [List.length_map, tab_length] at this
          omega
        have hB := hacc.box.lt
        have hBs := hbel.size
        have hid2 : i * dp + d < M := by
          have h1 : i * dp + dp ≤ N * dp := by rw [← Nat.succ_mul]; exact Nat.mul_le_mul_right _ hlt
          rw [HMM.out]; omega
        have ZK := ZC.out wr hbel (i * dp + d) hid2
        have eid : IntKind.i64.wrap ((i : Int) * (dp : Int)) = ((i * dp : Nat) : Int) := by rw [Int.natCast_mul]; exact IntWalk.i64_in _ (by rw [← Int.natCast_mul]; omega)
        have HSL := Lib.hid (show slW bs dp d i = fl (bs.getD (i * dp + d) 0) from rfl)
        obtain ⟨k, hk⟩ : ∃ k, i * dp = k := ⟨_, rfl⟩
        rw [hk] at ZK eid hid2 HSL
        have e2 : IntKind.i64.wrap (((k : Nat) : Int) + (d : Int)) = ((k : Nat) : Int) + (d : Int) := IntWalk.i64_in _ (by omega)
        have e3 : (0 : Int) ≤ ((k : Nat) : Int) + (d : Int) := by omega
        have e4 : ((k : Nat) : Int) + (d : Int) < (M : Int) := by omega
        have e5 : (((k : Nat) : Int) + (d : Int)).toNat = k + d := by omega
        generalize bs.getD (k + d) 0 = zz at *
        obtain ⟨ZK1, ZK2⟩ := ZK
        have ZKn := Lib.hid ZK2
        have HS := Lib.hid hacc
        clear hacc hk ZK2
        obtain ⟨-, -, c2, f2⟩ : True ∧ True ∧ wr.cell? ⟨ob, 2, none⟩ = some v1 ∧ wr.frozen? ⟨ob, 2, none⟩ = false := ⟨trivial, trivial, hbox.cell 2, hbox.free 2⟩
        go_upto_region 3 with fail
        go_region
        go_wp2_with fail
        have hD : Below wr.heap.size wr wr.drew.drew := below_drewN (below_drewN (Below.refl _ _) 1) 1
        have hownD := (hown.below hD).1
        have hboxD := hbox.below hD
        go_region_law (refine step_append_lies _ (by rfl) _ _ _ (by rfl) wA.heap.size 44 i0 _ 1 4 Try.underlying22 hi0 hz0 hz1 hz2 rfl (by omega) v1 cs.length _ (by rfl) (World.ownsRow.alloc hownD _) ⟨wr.heap.size, 0, none⟩ 1 1 [.float .f32 zz] (by rfl) (by rfl) (cell_one_new _ _ _) (by simp [Value.oneCell']) (by omega) (by unfold maxLen; omega) (by omega) (by simp; omega) (wr.heap.size + 1) (by simp) ?_; intro gg cap w2 hown2 hgrow hat hlt2; have hq := ((hboxD.below (alE _ _)).grown hgrow hne); have q2 := hq.cell 2; have g2 := hq.free 2)
        all_goals
          go_wp2
          go_roundw
          case rel =>
            have hst := HS.out.step (z := slW bs dp d i) hD ZKn.out HSL.out.symm hown2 hgrow hat
            rw [← tab_succ] at hst
            exact ⟨i + 1, _, cs ++ [zz], by go_num, by omega, hst⟩
          case measure => simp [intOf]; omega
      · obtain rfl : N = i := by omega
        have hob := hacc.own
        have hcon := hacc.con
        obtain ⟨va, vc, rfl⟩ := hob.sl.len
        have hl : cs.length = N := by have := congrArg List.length hcon; rwa [List.length_map, tab_length] at this
        obtain ⟨q', rfl⟩ := own_ptrE hob (by rw [hl, ← HN.out.1]; exact HN.out.2.2)
        obtain ⟨c0, c1, c2⟩ : wr.cell? ⟨ob, 0, none⟩ = some (.int .i64 wd) ∧ wr.cell? ⟨ob, 1, none⟩ = some (.int .i64 hi) ∧ wr.cell? ⟨ob, 2, none⟩ = some (.slice (some ⟨q', 0, none⟩) cs.length vc) := ⟨hacc.box.cell 0, hacc.box.cell 1, hacc.box.cell 2⟩
        have hbr := HBR.out.below hacc.bel
        obtain ⟨e0, e1, e2, f0, f1, f2⟩ := hbr.three.cells
        have hlt2 := hbr.lt
        have hob1 := hacc.box.lt
        have HOB := Lib.hid (And.intro hob (And.intro hcon hacc.bel))
        rw [hl] at c2
        have HLL := Lib.hid hl
        clear hob hcon hacc hbr hl
        go_upto_region 3 with fail
        go_region
        go_wp2_with fail
        refine bodyPost_ret (v := .agg #[.int .i64 wd, .int .i64 hi, .slice (some ⟨q', 0, none⟩) N vc]) (by simp [results, Try.results104, go_sem, e0, e1, e2, hlt2]) rfl ?_
        have hbb := HBA.out.trans (HOB.out.2.2.mono HBA.out.size)
        have hoo := HOB.out.1
        rw [HLL.out] at hoo
        have hnn := HN.out.1
        exact ⟨q', vc, cs, by rw [hnn], by rw [hnn]; exact (own_set3 (hoo.drewN 1) hrl _ _ _).mono HBA.out.size, by rw [HLL.out, hnn], HOB.out.2.1, below_set3 (below_drewN hbb 1) (Nat.le_refl _) _ _ _⟩

end Go.Proofs.Ytabbjilgpfnacaa

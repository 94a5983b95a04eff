/- impl.volumeOf: a volume whose costs are told by a function that writes nothing that was there. -/
import Derived.Test.YtabbjilgpfnacaaGreatBox
namespace Go.Proofs.YtabbjilgpfnacaaGreat
open Go.RowKit
set_option maxRecDepth 100000
set_option linter.unusedVariables false
set_option linter.unusedSimpArgs false

/-- How far a volume is made. -/
structure VolSt (w wr : World) (wd hi dp : Nat) (g : Nat → Nat → Nat → Nat) (m : Nat) (v : Value) (bs : List Nat) : Prop where
  bel : Below w.heap.size w wr
  res : BoxN wr w.heap.size #[.int .i64 0, .int .i64 0, .int .i64 0, .slice none 0 0] 62
  box : BoxN wr (w.heap.size + 1) #[.int .i64 wd, .int .i64 hi, .int .i64 dp, v] 62
  own : OwnF wr (w.heap.size + 2) v bs
  con : bs.map fl = tab m fun i => g (i / dp % wd) (i / dp / wd) (i % dp)
theorem VolSt.len {w wr : World} {wd hi dp m : Nat} {g : Nat → Nat → Nat → Nat} {v : Value} {bs : List Nat} (h : VolSt w wr wd hi dp g m v bs) : bs.length = m := by
  have := congrArg List.length h.con; simpa [tab_length] using this

theorem cell_parts {wd dp x y d : Nat} (hx : x < wd) (hd : d < dp) : ((y * wd + x) * dp + d) / dp = y * wd + x ∧ ((y * wd + x) * dp + d) % dp = d ∧ (y * wd + x) % wd = x ∧ (y * wd + x) / wd = y := by
  refine ⟨?_, ?_, ?_, ?_⟩
  · rw [Nat.mul_comm, Nat.mul_add_div (by omega), Nat.div_eq_of_lt hd, Nat.add_zero]
  · rw [Nat.mul_comm, Nat.mul_add_mod, Nat.mod_eq_of_lt hd]
  · rw [Nat.mul_comm, Nat.mul_add_mod, Nat.mod_eq_of_lt hx]
  · rw [Nat.mul_comm, Nat.mul_add_div (by omega), Nat.div_eq_of_lt hx, Nat.add_zero]

/-- A round of the innermost loop. -/
theorem VolSt.step {w wr w1 w2 : World} {wd hi dp x y d r : Nat} {g : Nat → Nat → Nat → Nat} {v : Value} {bs : List Nat} {T : TypeId} {gg cap : Nat} (h : VolSt w wr wd hi dp g ((y * wd + x) * dp + d) v bs) (hx : x < wd) (hd : d < dp)
    (hb : Below wr.heap.size wr w1) (hr : r < 4294967296) (hfl : fl r = g x y d)
    (hown : w2.ownsRow (w.heap.size + 2) 25 1 (.slice (some ⟨gg, 0, none⟩) (bs.length + 1) cap) (bs.length + 1) (bs.map (Value.float .f32) ++ [.float .f32 r]))
    (hg : (w1.alloc (.cells #[.float .f32 r] T)).grownBy w2 v.ownBlock) (hne : some (w.heap.size + 1) ≠ v.ownBlock) :
    VolSt w (w2.setCell ⟨w.heap.size + 1, 3, none⟩ (.slice (some ⟨gg, 0, none⟩) (bs.length + 1) cap)) wd hi dp g ((y * wd + x) * dp + (d + 1)) (.slice (some ⟨gg, 0, none⟩) (bs.length + 1) cap) (bs ++ [r]) := by
  have hal : Below w1.heap.size w1 (w1.alloc (.cells #[.float .f32 r] T)) := (Below.refl _ _).alloc (Nat.le_refl _) _
  have hlt := h.box.lt
  have s1 : wr.heap.size ≤ w1.heap.size := hb.size
  have hown' := (World.ownsRow.lt hown gg rfl).1
  have b2 : Below w.heap.size w w2 := ((h.bel.trans (hb.mono h.bel.size)).trans (hal.mono (Nat.le_trans h.bel.size s1))).grown hg (by simp; have := h.bel.size; omega) (fun k hk => by have := (h.own.lt hk).1; omega)
  have hres : some w.heap.size ≠ v.ownBlock := fun e => by have := (h.own.lt e.symm).1; omega
  refine ⟨b2.setCell (by simp) _, ?_, ?_, ⟨?_, ?_⟩, ?_⟩
  · exact (((h.res.below hb).below hal).grown hg hres).grown (grown_setCell _ _ _) (by simp)
  · exact ((((h.box.below hb).below hal).grown hg hne).set 3 _)
  · have k := hown.kept (grown_setCell w2 ⟨w.heap.size + 1, 3, none⟩ (.slice (some ⟨gg, 0, none⟩) (bs.length + 1) cap)) (.inr (by simp [Value.ownBlock]; omega))
    simpa using k
  · intro b hb'
    rcases List.mem_append.1 hb' with h1 | h1
    · exact h.own.2 b h1
    · simp at h1; omega
  · obtain ⟨e1, e2, e3, e4⟩ := cell_parts (y := y) hx hd
    rw [List.map_append, h.con, ← Nat.add_assoc, tab_succ]
    congr 1
    simp only [List.map_cons, List.map_nil, hfl]
    rw [e1, e2, e3, e4]

theorem VolSt.start (w : World) (wd hi dp : Nat) (g : Nat → Nat → Nat → Nat) :
    VolSt w ((w.alloc (.cells #[.int .i64 0, .int .i64 0, .int .i64 0, .slice none 0 0] 62)).alloc (.cells #[.int .i64 wd, .int .i64 hi, .int .i64 dp, .slice none 0 0] 62)) wd hi dp g 0 (.slice none 0 0) [] :=
  ⟨((Below.refl _ _).alloc (Nat.le_refl _) _).alloc (by simp) _, BoxN.first _ _ _ _, BoxN.second _ _ _ _, OwnF.nil _ _, rfl⟩

/-- A volume of sizes, by its table. -/
def MakesVol (w : World) (wd hi dp : Nat) (g : Nat → Nat → Nat → Nat) (e : Ending) (w' : World) : Prop :=
  ∃ a c bs, e = .returned (.agg #[.int .i64 wd, .int .i64 hi, .int .i64 dp, .slice a (List.length bs) c]) ∧ OwnF w' w.heap.size (.slice a (List.length bs) c) bs ∧ bs.map fl = tab3 wd hi dp g ∧ Below w.heap.size w w'

set_option maxHeartbeats 2000000 in
theorem volumeOf_any (w : World) (wd hi dp : Nat) (fv : Value) (g : Nat → Nat → Nat → Nat) (hw : wd ≤ 24) (hh : hi ≤ 24) (hdp : dp ≤ 8) (hf : Gives3 w fv wd hi dp g) :
    Calls Tryz.prog 94 #[.int .i64 wd, .int .i64 hi, .int .i64 dp, fv] w (MakesVol w wd hi dp g) := by
  obtain ⟨fid, caps, rfl, hcall, hof⟩ := hf
  obtain ⟨i0, hi0, hz0, hz1, hz2⟩ := info_parts info_f32
  go_enter Tryz.func94, Tryz.ntmps94
  go_wp2
  go_loopw [18] (fun vy wr => ∃ (y : Nat) (v : Value) (bs : List Nat), y ≤ hi ∧ vy = .int .i64 y ∧ VolSt w wr wd hi dp g (y * wd * dp) v bs) (fun vy _ => hi - (intOf vy).toNat)
  case atStart =>
    refine ⟨0, .slice none 0 0, [], Nat.zero_le _, rfl, ?_⟩
    rw [Nat.zero_mul, Nat.zero_mul]; exact VolSt.start w wd hi dp g
  case round =>
    obtain ⟨y, v, bs, hy, rfl, hst⟩ := hrel
    by_cases hlt : y < hi
    · go_wp2
      obtain ⟨wo, rfl⟩ : ∃ wo : World, wo = wr := ⟨_, rfl⟩
      go_loopw [22] (fun vx wr => ∃ (x : Nat) (v : Value) (bs : List Nat), x ≤ wd ∧ vx = .int .i64 x ∧ VolSt w wr wd hi dp g ((y * wd + x) * dp) v bs) (fun vx _ => wd - (intOf vx).toNat)
      case atStart => exact ⟨0, v, bs, Nat.zero_le _, rfl, hst⟩
      case round =>
        clear hst v bs
        obtain ⟨x, v, bs, hx, rfl, hst⟩ := hrel
        by_cases hlx : x < wd
        · go_wp2
          obtain ⟨wo2, rfl⟩ : ∃ wo2 : World, wo2 = wr := ⟨_, rfl⟩
          go_loopw [26] (fun vd wr => ∃ (d : Nat) (v : Value) (bs : List Nat), d ≤ dp ∧ vd = .int .i64 d ∧ VolSt w wr wd hi dp g ((y * wd + x) * dp + d) v bs) (fun vd _ => dp - (intOf vd).toNat)
          case atStart => exact ⟨0, v, bs, Nat.zero_le _, rfl, hst⟩
          case round =>
            clear hst v bs
            obtain ⟨d, v, bs, hd, rfl, hst⟩ := hrel
            by_cases hld : d < dp
            · obtain ⟨c0, c1, c2, c3, f0, f1, f2, f3⟩ := hst.box.four
              have hown := hst.own
              have hbel := hst.bel
              have hL : bs.length ≤ 5000 := by
                have h1 : y * wd ≤ 24 * 24 := Nat.mul_le_mul (by omega) hw
                have h2 : (y * wd + x) * dp ≤ 600 * 8 := Nat.mul_le_mul (by omega) hdp
                rw [hst.len]; omega
              have hB := hst.box.lt
              have hne : some (w.heap.size + 1) ≠ v.ownBlock := fun e => by have := (hst.own.lt e.symm).1; omega
              have HS := Lib.hid hst
              clear hst c0 c1 c2 f0 f1 f2
              go_wp2
              have hbox := HS.out.box
              go_region_law (first
                  | (refine step_append_lies _ (by rfl) _ _ _ (by rfl) (w.heap.size + 2) 25 i0 _ 1 4 Tryz.underlying22 hi0 hz0 hz1 hz2 rfl (by omega) v bs.length _ (by rfl) (World.ownsRow.alloc hown1.1 _) ⟨w1.heap.size, 0, none⟩ 1 1 [.float .f32 r] (by rfl) (by rfl) (cell_one_new _ _ _) (by simp [Value.oneCell']) (by omega) (by unfold maxLen; omega) (by omega) (by simp; omega) (w1.heap.size + 1) (by simp) ?_; intro gg cap w2 hown2 hgrow hat hlt2; obtain ⟨q0, q1, q2, q3, g0, g1, g2, g3⟩ := ((hbox1.below ((Below.refl w1.heap.size w1).alloc (Nat.le_refl _) _)).grown hgrow hne).four)
                  | (go_simp; refine (hof x y d _ hlx hlt hld (below_drewN hbel _)).mono ?_; rintro e w1 ⟨r, rfl, hr1, hr2, hb1⟩; have hb2 : Below wr.heap.size wr w1 := ⟨hb1.os, hb1.tape, hb1.output, hb1.size, hb1.block⟩; have hbox1 := hbox.below hb2; have c2' := hbox1.four.2.2.2.1; have c4 : ∀ o, (w1.alloc o).cell? ⟨w.heap.size + 1, 3, none⟩ = some v := (fun o => (hbox1.below ((Below.refl w1.heap.size w1).alloc (Nat.le_refl _) o)).four.2.2.2.1); have hown1 := hown.below hb2; have hz2' : w.heap.size + 2 ≤ w1.heap.size := (by have := hb2.size; omega)))
              all_goals
                go_wp2
                go_roundw
                case rel => exact ⟨d + 1, _, bs ++ [r], by omega, by go_num, HS.out.step hlx hld hb2 hr1 hr2 hown2 hgrow hne⟩
                case measure => simp [intOf]; omega
            · have : d = dp := by omega
              subst this
              go_wp2
              go_roundw
              case rel => exact ⟨x + 1, v, bs, by omega, by go_num, by rw [← Nat.add_assoc, Nat.add_mul (y * wd + x), Nat.one_mul]; exact hst⟩
              case measure => simp [intOf]; omega
        · have : x = wd := by omega
          subst this
          go_wp2
          go_roundw
          case rel => exact ⟨y + 1, v, bs, by omega, by go_num, by rw [Nat.add_mul y, Nat.one_mul]; exact hst⟩
          case measure => simp [intOf]; omega
    · have : y = hi := by omega
      subst this
      obtain ⟨c0, c1, c2, c3, f0, f1, f2, f3⟩ := hst.box.four
      obtain ⟨d0, d1, d2, d3, e0, e1, e2, e3⟩ := hst.res.four
      obtain ⟨va, vc, rfl⟩ := hst.own.sl.len
      have HS := Lib.hid hst
      clear hst
      go_wp2
      refine bodyPost_ret (v := .agg #[.int .i64 wd, .int .i64 y, .int .i64 dp, .slice va bs.length vc]) (by simp [results, Tryz.results94, go_sem, d0, d1, d2, d3]) rfl ?_
      have hst := HS.out
      exact ⟨va, vc, bs, rfl, ((((hst.own.set (by simp) _).set (by simp) _).set (by simp) _).set (by simp) _).mono (by omega), hst.con, (((hst.bel.setCell (by simp) _).setCell (by simp) _).setCell (by simp) _).setCell (by simp) _⟩

end Go.Proofs.YtabbjilgpfnacaaGreat

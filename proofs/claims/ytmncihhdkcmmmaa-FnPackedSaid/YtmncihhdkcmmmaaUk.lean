/- UnpackMap. Printed by genup.py. -/
import Derived.Test.YtmncihhdkcmmmaaUj
import Derived.Test.YtmncihhdkcmmmaaUf
namespace Go.Proofs.Ytmncihhdkcmmmaa
open Go.RowKit
set_option maxRecDepth 100000
set_option linter.unusedVariables false
set_option linter.unusedSimpArgs false


theorem byteN_of (L : List UInt8) (i : Nat) {b : UInt8} (h : L[i]? = some b) : byteN ⟨L.toArray⟩ i = b.toNat := by
  show (L.getD i 0).toNat = _
  rw [List.getD_eq_getElem?_getD, h]; rfl
/-- A map that is not valid is not packed. -/
theorem packMap_bad (w : World) (wd hi n c : Nat) (a : Option Addr) (hn : n ≤ 1000) (hv : vPic wd hi n = false) :
    Calls Try.prog 17 #[.agg #[.int .i64 wd, .int .i64 hi, .slice a n c]] w fun e w' => e = .returned (.tuple #[.string ⟨#[]⟩, .bool false]) ∧ Below w.heap.size w w' := by
  have hb0 : Below w.heap.size w (w.alloc (.cells #[.int .i64 wd, .int .i64 hi, .slice a n c] 46)) := (Below.refl _ _).alloc (Nat.le_refl _) _
  have hX := box_last w (.int .i64 wd) (.int .i64 hi) (.slice a n c) 46
  have hn1 : n ≤ 9223372036854775807 := by omega
  have HX := Lib.hid hX
  have HB := Lib.hid hb0
  clear hX hb0
  go_enter Try.func17, Try.ntmps17
  go_wp2_with fail
  refine (validMap_any _ _ _ _ _ hn1 _).mono ?_
  rw [hv]
  rintro e w1 ⟨rfl, hb1⟩
  have HB1 := Lib.hid (HB.out.trans (hb1.mono HB.out.size))
  clear hb1
  go_wp2_with fail
  go_ret2
  exact ⟨rfl, HB1.out⟩
/-- An odd number of bytes is no packed map. -/
theorem unpack_odd (w : World) (s : ByteArray) (wd hi : Nat) (hs : szOk wd hi = true) (ho : s.size % 2 = 1) (hl : s.size ≤ 1000000) :
    Calls Try.prog 18 #[.string s, .int .i64 wd, .int .i64 hi] w fun e w' => e = .returned (.tuple #[.agg #[.int .i64 0, .int .i64 0, .slice none 0 0], .bool false]) ∧ Below w.heap.size w w' := by
  have hR := box_last w (.int .i64 0) (.int .i64 0) (.slice none 0 0) 46
  have hb0 : Below w.heap.size w (w.alloc (.cells #[.int .i64 0, .int .i64 0, .slice none 0 0] 46)) := (Below.refl _ _).alloc (Nat.le_refl _) _
  have hm : ((s.size : Int) % 2) = 1 := by omega
  obtain ⟨r0, r1, r2, g0, g1, g2⟩ := hR.cells
  have hRl := hR.lt
  go_enter Try.func18, Try.ntmps18
  go_wp2_with fail
  refine (sizeOk_any _ _ _).mono ?_
  rw [hs]
  rintro e w' ⟨rfl, hw'⟩
  subst hw'
  go_wp2_with fail
  refine bodyPost_ret (v := .tuple #[.agg #[.int .i64 0, .int .i64 0, .slice none 0 0], .bool false]) (by simp [results, Try.results18, go_sem, r0, r1, r2, hRl]) rfl ?_
  exact ⟨rfl, by first | exact hb0 | exact ((hb0.setCell (Nat.le_refl _) _).setCell (Nat.le_refl _) _).setCell (Nat.le_refl _) _⟩

/-- The map that grows: its box is the second of the call's. -/
structure UpSt (w W0 wr : World) (wd hi : Nat) (v : Value) (bs : List Nat) : Prop where
  bel : Below (w.heap.size + 1) W0 wr
  box : Box3 wr (w.heap.size + 1) (.int .i64 wd) (.int .i64 hi) v 46
  own : OwnF wr (w.heap.size + 2) v bs
  sz : w.heap.size + 2 ≤ wr.heap.size
  ne : ∀ k, v.ownBlock = some k → k ≠ w.heap.size + 1

theorem UpSt.drewN {w W0 wr : World} {wd hi : Nat} {v : Value} {bs : List Nat} (h : UpSt w W0 wr wd hi v bs) (n : Nat) : UpSt w W0 (wr.drewN n) wd hi v bs :=
  ⟨below_drewN h.bel n, h.box.below (below_drewN (Below.refl _ _) n), h.own.drewN n, h.sz, h.ne⟩
theorem UpSt.step {w W0 wr w2 : World} {wd hi r gg cap n : Nat} {v : Value} {bs : List Nat} {T : TypeId} (h : UpSt w W0 wr wd hi v bs) (hn : n = bs.length) (hr : r < 4294967296)
    (hown : w2.ownsRow (w.heap.size + 2) 74 1 (.slice (some ⟨gg, 0, none⟩) (n + 1) cap) (n + 1) (bs.map (Value.float .f32) ++ [.float .f32 r]))
    (hg : ((wr.alloc (.cells #[.float .f32 r] T)).drew).grownBy w2 v.ownBlock) (hat : v.ownBlock = some gg ∨ gg = wr.heap.size + 1) :
    UpSt w W0 (w2.setCell ⟨w.heap.size + 1, 2, none⟩ (.slice (some ⟨gg, 0, none⟩) (n + 1) cap)) wd hi (.slice (some ⟨gg, 0, none⟩) (n + 1) cap) (bs ++ [r]) := by
  subst hn
  have hal : Below wr.heap.size wr ((wr.alloc (.cells #[.float .f32 r] T)).drew) := below_drewN ((Below.refl _ _).alloc (Nat.le_refl _) _) 1
  have hsz := h.sz
  have hvb : ∀ k, v.ownBlock = some k → w.heap.size + 2 ≤ k := fun k hk => (h.own.lt hk).1
  have hgg : w.heap.size + 2 ≤ gg := (World.ownsRow.lt hown gg rfl).1
  have hne : some (w.heap.size + 1) ≠ v.ownBlock := fun e => by have := hvb _ e.symm; omega
  have hs2 := hg.size
  have hs3 := hal.size
  refine ⟨((h.bel.trans (hal.mono (by omega))).grown hg (by omega) (fun k hk => by have := hvb k hk; omega)).setCell (Nat.le_refl _) _, (((h.box.below hal).grown hg hne).set2 _), ⟨?_, ?_⟩, by simp; omega, fun k hk => by
    have hk2 : gg = k := by injection hk
    omega⟩
  · have k := hown.kept (grown_setCell w2 ⟨w.heap.size + 1, 2, none⟩ (.slice (some ⟨gg, 0, none⟩) (bs.length + 1) cap)) (.inr (by simp [Value.ownBlock]; omega))
    simpa using k
  · intro b hb'
    rcases List.mem_append.1 hb' with h1 | h1
    · exact h.own.2 b h1
    · simp at h1; omega

theorem WM.setU {W : World} {q c N dp : Nat} {ms : List Nat} (h : WM W q c N ms dp) {b i : Nat} {u : Value} (hb : b ≠ q) : WM (W.setCell ⟨b, i, none⟩ u) q c N ms dp :=
  ⟨⟨h.sl.1.grown (grown_setCell W ⟨b, i, none⟩ u) (.inr (fun e => hb (by injection e with e; exact e.symm))), h.sl.2⟩, by simpa using h.lt, h.len, h.bd⟩
theorem vPic_ne {wd hi n : Nat} (h : n ≠ wd * hi) : vPic wd hi n = false := by
  cases e : vPic wd hi n
  · rfl
  · exfalso
    obtain ⟨x1, x2, e1, e2, e3, b1, b2, b3, b4, b5⟩ := vPic_spec e
    have a1 : x1 = wd := by omega
    have a2 : x2 = hi := by omega
    subst a1 a2
    exact h (by omega)
/-- A map that is unpacked. -/
def MakesUW (w : World) (wd hi N dp : Nat) (ms : List Nat) (e : Ending) (w' : World) : Prop :=
  ∃ q c, e = .returned (.tuple #[.agg #[.int .i64 wd, .int .i64 hi, .slice (some ⟨q, 0, none⟩) N c], .bool true]) ∧ WM w' q c N ms dp ∧ Below w.heap.size w w'

set_option maxHeartbeats 4000000 in
theorem unpack_yes (w : World) (L : List UInt8) (wd hi N : Nat) (dp : Nat) (hd : dp ≤ 8) (hms : ∀ z ∈ un L, z < dp) (hlen : (un L).length = N) (hpk : pkA (un L) wd hi = L) (hv : vPic wd hi N = true) (hs : szOk wd hi = true) (hN : N = wd * hi) (h1 : 1 ≤ wd) (h2 : wd ≤ 24) (h3 : 1 ≤ hi) (h4 : hi ≤ 24) (hN2 : N ≤ 256) (hL : L.length ≤ 1000) (hp : Pairs L) (hu : (un L).length ≤ N) :
    Calls Try.prog 18 #[.string ⟨L.toArray⟩, .int .i64 wd, .int .i64 hi] w (MakesUW w wd hi N dp (un L)) := by
  obtain ⟨i0, hi0, hz0, hz1, hz2⟩ := info_parts info_f32
  obtain ⟨s, hsdef⟩ : ∃ s : ByteArray, s = ⟨L.toArray⟩ := ⟨_, rfl⟩
  have hsz : s.size = L.length := by rw [hsdef]; show L.toArray.size = _; rw [List.size_toArray]
  have HAT := Lib.hid (fun (i : Nat) (b : UInt8) (h : L[i]? = some b) => (show byteN s i = b.toNat by rw [hsdef]; exact byteN_of L i h))
  have HSD := Lib.hid hsdef
  have hev := hp.even
  have hmod : ((L.length : Int) % 2) = 0 := by omega
  have em : (wd : Int) * (hi : Int) = (N : Int) := by rw [hN, Int.natCast_mul]
  have HN := Lib.hid hN
  have HP := Lib.hid hp
  have HU := Lib.hid hu
  have hR := box_first w (.int .i64 0) (.int .i64 0) (.slice none 0 0) 46 (.cells #[.int .i64 wd, .int .i64 hi, .slice none 0 0] 46)
  have hR0 := box_last w (.int .i64 0) (.int .i64 0) (.slice none 0 0) 46
  have hM := box_second w (.int .i64 wd) (.int .i64 hi) (.slice none 0 0) 46 (.cells #[.int .i64 0, .int .i64 0, .slice none 0 0] 46)
  have hb0 := below_two w (.cells #[.int .i64 0, .int .i64 0, .slice none 0 0] 46) (.cells #[.int .i64 wd, .int .i64 hi, .slice none 0 0] 46)
  obtain ⟨W0, hW0⟩ : ∃ W, W = (w.alloc (.cells #[.int .i64 0, .int .i64 0, .slice none 0 0] 46)).alloc (.cells #[.int .i64 wd, .int .i64 hi, .slice none 0 0] 46) := ⟨_, rfl⟩
  rw [← hW0] at hR hM hb0
  have hsW : W0.heap.size = w.heap.size + 2 := by rw [hW0]; simp
  have HR := Lib.hid hR
  have HB0 := Lib.hid hb0
  have HW0 := Lib.hid hW0
  have HM := Lib.hid hM
  rw [← hsdef]
  clear hsdef hN hp hu hR hM hb0 hW0 hR0
  go_enter Try.func18, Try.ntmps18
  go_wp2_with fail
  refine (sizeOk_any _ _ _).mono ?_
  rw [hs]
  rintro e w' ⟨rfl, hw'⟩
  subst hw'
  go_wp2_with fail
  rw [← HW0.out]
  clear hmod
  go_loopw [9] (fun v9 wr => ∃ (k : Nat) (v : Value), v9 = .int .i64 ((2 * k : Nat) : Int) ∧ 2 * k ≤ L.length ∧ UpSt w W0 wr wd hi v ((un (L.take (2 * k))).map wW)) (fun v9 _ => L.length - (intOf v9).toNat)
  case atStart =>
    refine ⟨0, .slice none 0 0, rfl, Nat.zero_le _, ?_⟩
    exact ⟨Below.refl _ _, HM.out, OwnF.nil _ _, by rw [hsW]; exact Nat.le_refl _, fun k hk => (by cases hk)⟩
  case round =>
    obtain ⟨k, v, rfl, hk, hst⟩ := hrel
    have HST := Lib.hid hst
    by_cases hlt : 2 * k < L.length
    · obtain ⟨cb, vb, e1, e2, e3, e4, e5, e6, e7⟩ := Pairs.at HP.out hlt
      have hb1 := HAT.out _ _ e1
      have hb2 := HAT.out _ _ e2
      obtain ⟨va, vc, hvf⟩ := hst.own.sl.len
      have hul : (un (L.take (2 * (k + 1)))).length ≤ N := Nat.le_trans (by
        have hp2 := HP.out
        by_cases e : 2 * (k + 1) < L.length
        · exact Nat.le_of_lt (un_short hp2 e)
        · rw [List.take_of_length_le (by omega)]; exact Nat.le_refl _) HU.out
      rw [e7, List.length_append, List.length_replicate] at hul
      have hidx1 : ∀ W, (Instr.index 9 (.string s) (.int .i64 (2 * (k : Int)))).run Try.prog W = .ok (.int .u8 (cb.toNat : Int)) W := fun W => by
        rw [idx_at W s _ (by omega) (by omega), show (2 * (k : Int)).toNat = 2 * k by omega, hb1]
      have hidx2 : ∀ W, (Instr.index 9 (.string s) (.int .i64 (2 * (k : Int) + 1))).run Try.prog W = .ok (.int .u8 (vb.toNat : Int)) W := fun W => by
        rw [idx_at W s _ (by omega) (by omega), show (2 * (k : Int) + 1).toNat = 2 * k + 1 by omega, hb2]
      obtain ⟨c, hc⟩ : ∃ c, c = cb.toNat := ⟨_, rfl⟩
      obtain ⟨z, hz⟩ : ∃ z, z = vb.toNat := ⟨_, rfl⟩
      rw [← hc] at hidx1 e3 hul e7
      rw [← hz] at hidx2 e4 e5 e7
      have hc2 : c < 256 := by rw [hc]; exact UInt8.toNat_lt _
      obtain ⟨bs, hbs⟩ : ∃ b, b = un (L.take (2 * k)) := ⟨_, rfl⟩
      rw [← hbs] at hst hul hvf e7
      have HE7 := Lib.hid e7
      have HBS := Lib.hid hbs
      rw [List.length_map] at hvf
      subst hvf
      obtain ⟨c0, c1, c2, f0, f1, f2⟩ := hst.box.cells
      have hcap : bs.length ≤ vc ∧ vc ≤ 9223372036854775807 := by
        obtain ⟨a', c', q1, q2, q3, q4⟩ := hst.own.sl.1
        simp only [Value.slice.injEq, List.length_map] at q1 q2
        omega
      have hgt : decide ((N : Int) < (bs.length : Int) + (c : Int)) = false := decide_eq_false (by omega)
      have hgt2 : ¬ (N : Int) < (bs.length : Int) + (c : Int) := by omega
      have HS2 := Lib.hid hst
      have hkI : 2 * (k : Int) < (L.length : Int) := by omega
      have wk1 : IntKind.i64.wrap (2 * (k : Int) + 1) = 2 * (k : Int) + 1 := IntWalk.i64_in _ (by omega)
      have wz1 : IntKind.i64.wrap ((z : Int) - 1) = (z : Int) - 1 := IntWalk.i64_in _ (by omega)
      have hki0 : (0 : Int) ≤ 2 * (k : Int) + 1 := by omega
      have hki1 : 2 * (k : Int) + 1 < (L.length : Int) := by omega
      have uc : IntKind.i64.wrap (c : Int) = (c : Int) := IntWalk.i64_in _ (by omega)
      have uz : IntKind.i64.wrap (z : Int) = (z : Int) := IntWalk.i64_in _ (by omega)
      have hzf : floatOfInt .f32 ((z : Int) - 1) = wW (z - 1) := by
        rw [fq_ofInt (by omega)]; unfold wW; congr 1; omega
      have hvlt : wW (z - 1) < 4294967296 := by unfold wW; exact fq_lt (by omega)
      obtain ⟨vz, hvz⟩ : ∃ v, wW (z - 1) = v := ⟨_, rfl⟩
      rw [hvz] at hzf hvlt
      have HVZ := Lib.hid hvz
      clear hst HST e1 e2 e6 e7 hb1 hb2 hc hz hbs hvz
      go_wp2_with fail
      go_quiet (fail)
      clear c0 c1 c2 f0 f1 f2 hul
      go_wp2_with fail
      go_loopw [48] (fun v48 wz => ∃ (j : Nat) (v : Value), v48 = .int .u8 j ∧ j ≤ c ∧ UpSt w W0 wz wd hi v (bs.map wW ++ List.replicate j vz)) (fun v48 _ => c - (intOf v48).toNat)
      case atStart => exact ⟨0, _, rfl, Nat.zero_le _, by rw [List.replicate_zero, List.append_nil]; exact HS2.out.drewN _⟩
      case round =>
        clear HS2
        obtain ⟨j, v, rfl, hj, hst⟩ := hrel
        obtain ⟨c0, c1, c2, f0, f1, f2⟩ := hst.box.cells
        have HS3 := Lib.hid hst
        by_cases hjl : j < c
        · have hjI : (j : Int) < (c : Int) := by omega
          obtain ⟨ys, hys⟩ : ∃ l, l = bs.map wW ++ List.replicate j vz := ⟨_, rfl⟩
          have hyl : ys.length = bs.length + j := by rw [hys, List.length_append, List.length_map, List.length_replicate]
          rw [← hys] at hst HS3
          obtain ⟨m, hm⟩ : ∃ m, m = ys.length := ⟨_, rfl⟩
          have hm2 : m ≤ 1000 := by omega
          have own1 := hst.own.1
          rw [← hm] at own1
          have hsz3 := hst.sz
          have uj : IntKind.u8.wrap ((j : Int) + 1) = (j : Int) + 1 := by simp [IntKind.wrap, IntKind.bits, IntKind.signed]; omega
          have hx := hst.box
          have hnx : some (w.heap.size + 1) ≠ v.ownBlock := fun e => hst.ne _ e.symm rfl
          have c4 : ∀ o, (wr.alloc o).cell? ⟨w.heap.size + 1, 2, none⟩ = some v := fun o => (Box3.below hx ((Below.refl _ _).alloc (Nat.le_refl _) o)).cells.2.2.1
          have HYS := Lib.hid hys
          have HMM := Lib.hid hm
          clear hys hm hyl hst
          go_wp2_with fail
          go_region_law (refine step_append_lies _ (by rfl) _ _ _ (by rfl) (w.heap.size + 2) 74 i0 _ 1 4 Try.underlying39 hi0 hz0 hz1 hz2 rfl (by omega) v m _ (by rfl) (World.ownsRow.alloc own1 _) ⟨wr.heap.size, 0, none⟩ 1 1 [.float .f32 vz] (by rfl) (by rfl) (cell_one_new _ _ _) (by simp [Value.oneCell']) (by omega) (by unfold maxLen; omega) (by omega) (by simp; omega) (wr.heap.size + 1) (by simp) ?_; intro gg cap w2 hown2 hgrow hat hlt2; obtain ⟨q0, q1, q2, g0, g1, g2⟩ := (Box3.grown (Box3.below hx (below_drewN ((Below.refl _ _).alloc (Nat.le_refl _) (.cells #[.float .f32 vz] 74)) 1)) hgrow hnx).cells)
          all_goals
            go_wp2_with fail
            go_roundw
            case rel =>
              refine ⟨j + 1, .slice (some ⟨gg, 0, none⟩) (m + 1) cap, by go_num, by omega, ?_⟩
              rw [List.replicate_succ', ← List.append_assoc, ← HYS.out]
              exact HS3.out.step HMM.out hvlt hown2 hgrow hat
            case measure => simp [intOf]; omega
        · obtain rfl : j = c := by omega
          clear c0 c1 c2 f0 f1 f2 hst
          go_wp2_with fail
          go_roundw
          case rel =>
            refine ⟨k + 1, v, by go_num, by omega, ?_⟩
            rw [show un (L.take (2 * (k + 1))) = un (L.take (2 * k)) ++ List.replicate j (z - 1) by rw [HE7.out, HBS.out], List.map_append, List.map_replicate, HVZ.out, ← HBS.out]
            exact HS3.out
          case measure => simp [intOf]; omega
    · have hk2 : L.take (2 * k) = L := List.take_of_length_le (by omega)
      have hge : ¬ 2 * (k : Int) < (L.length : Int) := by omega
      rw [hk2] at hst
      obtain ⟨va, vc, hvf⟩ := hst.own.sl.len
      rw [List.length_map] at hvf
      subst hvf
      rw [hlen] at hst
      have hN1 : 1 ≤ N := by rw [HN.out]; exact Nat.mul_pos h1 h3
      obtain ⟨q, rfl⟩ : ∃ q, va = some ⟨q, 0, none⟩ := by
        rcases hst.own.form with ⟨_, h2⟩ | ⟨q, cap, h1, _⟩
        · have := congrArg List.length h2; rw [List.length_map, hlen] at this; simp at this; omega
        · injection h1 with e1; exact ⟨q, e1⟩
      have hq := hst.own.lt (k := q) rfl
      have hwm : WM wr q vc N (un L) dp := ⟨hst.own.sl, hq.2, hlen, hms⟩
      have KP := packMap_any wr wd hi N q vc dp (un L) hv HN.out h1 h2 h3 h4 hN2 hd hwm
      rw [hpk, ← HSD.out] at KP
      have KP := Lib.hid KP
      obtain ⟨c0, c1, c2, f0, f1, f2⟩ := hst.box.cells
      have hRr : Box3 wr w.heap.size (.int .i64 0) (.int .i64 0) (.slice none 0 0) 46 := by unfold Box3; rw [hst.bel.block _ (by omega)]; exact HR.out
      have HS2 := Lib.hid hst
      have HRR := Lib.hid hRr
      have HWM := Lib.hid hwm
      clear hst HST hRr hwm hlt hms hpk hlen
      go_wp2_with fail
      refine KP.out.mono ?_
      rintro e w4 ⟨rfl, hb4⟩
      obtain ⟨c0, c1, c2, f0, f1, f2⟩ := (HS2.out.box.below hb4).cells
      obtain ⟨r0, r1, r2, g0, g1, g2⟩ := (HRR.out.below hb4).cells
      have hRl := (HRR.out.below hb4).lt
      have hwm4 := HWM.out.below hb4
      have hbb : Below w.heap.size w w4 := HB0.out.trans ((HS2.out.bel.trans (hb4.mono (by have := HS2.out.sz; omega))).mono (by omega))
      have HE := Lib.hid (And.intro hwm4 hbb)
      have hq2 := hq.1
      clear hb4 hwm4 hbb
      go_wp2_with fail
      refine bodyPost_ret (v := .tuple #[.agg #[.int .i64 wd, .int .i64 hi, .slice (some ⟨q, 0, none⟩) N vc], .bool true]) (by simp [results, Try.results18, go_sem, r0, r1, r2, hRl]) rfl ?_
      obtain ⟨m, hb⟩ := HE.out
      exact ⟨q, vc, rfl, ((m.setU (by omega)).setU (by omega)).setU (by omega), ((hb.setCell (Nat.le_refl _) _).setCell (Nat.le_refl _) _).setCell (Nat.le_refl _) _⟩

set_option maxHeartbeats 4000000 in
theorem unpack_no (w : World) (L : List UInt8) (wd hi N : Nat) (hshort : (un L).length < N) (hs : szOk wd hi = true) (hN : N = wd * hi) (h1 : 1 ≤ wd) (h2 : wd ≤ 24) (h3 : 1 ≤ hi) (h4 : hi ≤ 24) (hN2 : N ≤ 256) (hL : L.length ≤ 1000) (hp : Pairs L) (hu : (un L).length ≤ N) :
    Calls Try.prog 18 #[.string ⟨L.toArray⟩, .int .i64 wd, .int .i64 hi] w fun e w' => e = .returned (.tuple #[.agg #[.int .i64 0, .int .i64 0, .slice none 0 0], .bool false]) ∧ Below w.heap.size w w' := by
  obtain ⟨i0, hi0, hz0, hz1, hz2⟩ := info_parts info_f32
  obtain ⟨s, hsdef⟩ : ∃ s : ByteArray, s = ⟨L.toArray⟩ := ⟨_, rfl⟩
  have hsz : s.size = L.length := by rw [hsdef]; show L.toArray.size = _; rw [List.size_toArray]
  have HAT := Lib.hid (fun (i : Nat) (b : UInt8) (h : L[i]? = some b) => (show byteN s i = b.toNat by rw [hsdef]; exact byteN_of L i h))
  have HSD := Lib.hid hsdef
  have hev := hp.even
  have hmod : ((L.length : Int) % 2) = 0 := by omega
  have em : (wd : Int) * (hi : Int) = (N : Int) := by rw [hN, Int.natCast_mul]
  have HN := Lib.hid hN
  have HP := Lib.hid hp
  have HU := Lib.hid hu
  have hR := box_first w (.int .i64 0) (.int .i64 0) (.slice none 0 0) 46 (.cells #[.int .i64 wd, .int .i64 hi, .slice none 0 0] 46)
  have hR0 := box_last w (.int .i64 0) (.int .i64 0) (.slice none 0 0) 46
  have hM := box_second w (.int .i64 wd) (.int .i64 hi) (.slice none 0 0) 46 (.cells #[.int .i64 0, .int .i64 0, .slice none 0 0] 46)
  have hb0 := below_two w (.cells #[.int .i64 0, .int .i64 0, .slice none 0 0] 46) (.cells #[.int .i64 wd, .int .i64 hi, .slice none 0 0] 46)
  obtain ⟨W0, hW0⟩ : ∃ W, W = (w.alloc (.cells #[.int .i64 0, .int .i64 0, .slice none 0 0] 46)).alloc (.cells #[.int .i64 wd, .int .i64 hi, .slice none 0 0] 46) := ⟨_, rfl⟩
  rw [← hW0] at hR hM hb0
  have hsW : W0.heap.size = w.heap.size + 2 := by rw [hW0]; simp
  have HR := Lib.hid hR
  have HB0 := Lib.hid hb0
  have HW0 := Lib.hid hW0
  have HM := Lib.hid hM
  rw [← hsdef]
  clear hsdef hN hp hu hR hM hb0 hW0 hR0
  go_enter Try.func18, Try.ntmps18
  go_wp2_with fail
  refine (sizeOk_any _ _ _).mono ?_
  rw [hs]
  rintro e w' ⟨rfl, hw'⟩
  subst hw'
  go_wp2_with fail
  rw [← HW0.out]
  clear hmod
  go_loopw [9] (fun v9 wr => ∃ (k : Nat) (v : Value), v9 = .int .i64 ((2 * k : Nat) : Int) ∧ 2 * k ≤ L.length ∧ UpSt w W0 wr wd hi v ((un (L.take (2 * k))).map wW)) (fun v9 _ => L.length - (intOf v9).toNat)
  case atStart =>
    refine ⟨0, .slice none 0 0, rfl, Nat.zero_le _, ?_⟩
    exact ⟨Below.refl _ _, HM.out, OwnF.nil _ _, by rw [hsW]; exact Nat.le_refl _, fun k hk => (by cases hk)⟩
  case round =>
    obtain ⟨k, v, rfl, hk, hst⟩ := hrel
    have HST := Lib.hid hst
    by_cases hlt : 2 * k < L.length
    · obtain ⟨cb, vb, e1, e2, e3, e4, e5, e6, e7⟩ := Pairs.at HP.out hlt
      have hb1 := HAT.out _ _ e1
      have hb2 := HAT.out _ _ e2
      obtain ⟨va, vc, hvf⟩ := hst.own.sl.len
      have hul : (un (L.take (2 * (k + 1)))).length ≤ N := Nat.le_trans (by
        have hp2 := HP.out
        by_cases e : 2 * (k + 1) < L.length
        · exact Nat.le_of_lt (un_short hp2 e)
        · rw [List.take_of_length_le (by omega)]; exact Nat.le_refl _) HU.out
      rw [e7, List.length_append, List.length_replicate] at hul
      have hidx1 : ∀ W, (Instr.index 9 (.string s) (.int .i64 (2 * (k : Int)))).run Try.prog W = .ok (.int .u8 (cb.toNat : Int)) W := fun W => by
        rw [idx_at W s _ (by omega) (by omega), show (2 * (k : Int)).toNat = 2 * k by omega, hb1]
      have hidx2 : ∀ W, (Instr.index 9 (.string s) (.int .i64 (2 * (k : Int) + 1))).run Try.prog W = .ok (.int .u8 (vb.toNat : Int)) W := fun W => by
        rw [idx_at W s _ (by omega) (by omega), show (2 * (k : Int) + 1).toNat = 2 * k + 1 by omega, hb2]
      obtain ⟨c, hc⟩ : ∃ c, c = cb.toNat := ⟨_, rfl⟩
      obtain ⟨z, hz⟩ : ∃ z, z = vb.toNat := ⟨_, rfl⟩
      rw [← hc] at hidx1 e3 hul e7
      rw [← hz] at hidx2 e4 e5 e7
      have hc2 : c < 256 := by rw [hc]; exact UInt8.toNat_lt _
      obtain ⟨bs, hbs⟩ : ∃ b, b = un (L.take (2 * k)) := ⟨_, rfl⟩
      rw [← hbs] at hst hul hvf e7
      have HE7 := Lib.hid e7
      have HBS := Lib.hid hbs
      rw [List.length_map] at hvf
      subst hvf
      obtain ⟨c0, c1, c2, f0, f1, f2⟩ := hst.box.cells
      have hcap : bs.length ≤ vc ∧ vc ≤ 9223372036854775807 := by
        obtain ⟨a', c', q1, q2, q3, q4⟩ := hst.own.sl.1
        simp only [Value.slice.injEq, List.length_map] at q1 q2
        omega
      have hgt : decide ((N : Int) < (bs.length : Int) + (c : Int)) = false := decide_eq_false (by omega)
      have hgt2 : ¬ (N : Int) < (bs.length : Int) + (c : Int) := by omega
      have HS2 := Lib.hid hst
      have hkI : 2 * (k : Int) < (L.length : Int) := by omega
      have wk1 : IntKind.i64.wrap (2 * (k : Int) + 1) = 2 * (k : Int) + 1 := IntWalk.i64_in _ (by omega)
      have wz1 : IntKind.i64.wrap ((z : Int) - 1) = (z : Int) - 1 := IntWalk.i64_in _ (by omega)
      have hki0 : (0 : Int) ≤ 2 * (k : Int) + 1 := by omega
      have hki1 : 2 * (k : Int) + 1 < (L.length : Int) := by omega
      have uc : IntKind.i64.wrap (c : Int) = (c : Int) := IntWalk.i64_in _ (by omega)
      have uz : IntKind.i64.wrap (z : Int) = (z : Int) := IntWalk.i64_in _ (by omega)
      have hzf : floatOfInt .f32 ((z : Int) - 1) = wW (z - 1) := by
        rw [fq_ofInt (by omega)]; unfold wW; congr 1; omega
      have hvlt : wW (z - 1) < 4294967296 := by unfold wW; exact fq_lt (by omega)
      obtain ⟨vz, hvz⟩ : ∃ v, wW (z - 1) = v := ⟨_, rfl⟩
      rw [hvz] at hzf hvlt
      have HVZ := Lib.hid hvz
      clear hst HST e1 e2 e6 e7 hb1 hb2 hc hz hbs hvz
      go_wp2_with fail
      go_quiet (fail)
      clear c0 c1 c2 f0 f1 f2 hul
      go_wp2_with fail
      go_loopw [48] (fun v48 wz => ∃ (j : Nat) (v : Value), v48 = .int .u8 j ∧ j ≤ c ∧ UpSt w W0 wz wd hi v (bs.map wW ++ List.replicate j vz)) (fun v48 _ => c - (intOf v48).toNat)
      case atStart => exact ⟨0, _, rfl, Nat.zero_le _, by rw [List.replicate_zero, List.append_nil]; exact HS2.out.drewN _⟩
      case round =>
        clear HS2
        obtain ⟨j, v, rfl, hj, hst⟩ := hrel
        obtain ⟨c0, c1, c2, f0, f1, f2⟩ := hst.box.cells
        have HS3 := Lib.hid hst
        by_cases hjl : j < c
        · have hjI : (j : Int) < (c : Int) := by omega
          obtain ⟨ys, hys⟩ : ∃ l, l = bs.map wW ++ List.replicate j vz := ⟨_, rfl⟩
          have hyl : ys.length = bs.length + j := by rw [hys, List.length_append, List.length_map, List.length_replicate]
          rw [← hys] at hst HS3
          obtain ⟨m, hm⟩ : ∃ m, m = ys.length := ⟨_, rfl⟩
          have hm2 : m ≤ 1000 := by omega
          have own1 := hst.own.1
          rw [← hm] at own1
          have hsz3 := hst.sz
          have uj : IntKind.u8.wrap ((j : Int) + 1) = (j : Int) + 1 := by simp [IntKind.wrap, IntKind.bits, IntKind.signed]; omega
          have hx := hst.box
          have hnx : some (w.heap.size + 1) ≠ v.ownBlock := fun e => hst.ne _ e.symm rfl
          have c4 : ∀ o, (wr.alloc o).cell? ⟨w.heap.size + 1, 2, none⟩ = some v := fun o => (Box3.below hx ((Below.refl _ _).alloc (Nat.le_refl _) o)).cells.2.2.1
          have HYS := Lib.hid hys
          have HMM := Lib.hid hm
          clear hys hm hyl hst
          go_wp2_with fail
          go_region_law (refine step_append_lies _ (by rfl) _ _ _ (by rfl) (w.heap.size + 2) 74 i0 _ 1 4 Try.underlying39 hi0 hz0 hz1 hz2 rfl (by omega) v m _ (by rfl) (World.ownsRow.alloc own1 _) ⟨wr.heap.size, 0, none⟩ 1 1 [.float .f32 vz] (by rfl) (by rfl) (cell_one_new _ _ _) (by simp [Value.oneCell']) (by omega) (by unfold maxLen; omega) (by omega) (by simp; omega) (wr.heap.size + 1) (by simp) ?_; intro gg cap w2 hown2 hgrow hat hlt2; obtain ⟨q0, q1, q2, g0, g1, g2⟩ := (Box3.grown (Box3.below hx (below_drewN ((Below.refl _ _).alloc (Nat.le_refl _) (.cells #[.float .f32 vz] 74)) 1)) hgrow hnx).cells)
          all_goals
            go_wp2_with fail
            go_roundw
            case rel =>
              refine ⟨j + 1, .slice (some ⟨gg, 0, none⟩) (m + 1) cap, by go_num, by omega, ?_⟩
              rw [List.replicate_succ', ← List.append_assoc, ← HYS.out]
              exact HS3.out.step HMM.out hvlt hown2 hgrow hat
            case measure => simp [intOf]; omega
        · obtain rfl : j = c := by omega
          clear c0 c1 c2 f0 f1 f2 hst
          go_wp2_with fail
          go_roundw
          case rel =>
            refine ⟨k + 1, v, by go_num, by omega, ?_⟩
            rw [show un (L.take (2 * (k + 1))) = un (L.take (2 * k)) ++ List.replicate j (z - 1) by rw [HE7.out, HBS.out], List.map_append, List.map_replicate, HVZ.out, ← HBS.out]
            exact HS3.out
          case measure => simp [intOf]; omega
    · have hk2 : L.take (2 * k) = L := List.take_of_length_le (by omega)
      have hge : ¬ 2 * (k : Int) < (L.length : Int) := by omega
      rw [hk2] at hst
      obtain ⟨va, vc, hvf⟩ := hst.own.sl.len
      rw [List.length_map] at hvf
      subst hvf
      have hnv : vPic wd hi (un L).length = false := vPic_ne (by rw [← HN.out]; omega)
      have KP := Lib.hid (packMap_bad wr wd hi (un L).length vc va (by omega) hnv)
      obtain ⟨c0, c1, c2, f0, f1, f2⟩ := hst.box.cells
      have hRr : Box3 wr w.heap.size (.int .i64 0) (.int .i64 0) (.slice none 0 0) 46 := by unfold Box3; rw [hst.bel.block _ (by omega)]; exact HR.out
      have HS2 := Lib.hid hst
      have HRR := Lib.hid hRr
      generalize (un L).length = n at *
      clear hst HST hRr hlt hnv
      go_wp2_with fail
      refine KP.out.mono ?_
      rintro e w4 ⟨rfl, hb4⟩
      obtain ⟨r0, r1, r2, g0, g1, g2⟩ := (HRR.out.below hb4).cells
      have hRl := (HRR.out.below hb4).lt
      have hbb : Below w.heap.size w w4 := HB0.out.trans ((HS2.out.bel.trans (hb4.mono (by have := HS2.out.sz; omega))).mono (by omega))
      clear hb4 c0 c1 c2 f0 f1 f2
      go_wp2_with fail
      refine bodyPost_ret (v := .tuple #[.agg #[.int .i64 0, .int .i64 0, .slice none 0 0], .bool false]) (by simp [results, Try.results18, go_sem, r0, r1, r2, hRl]) rfl ?_
      exact ⟨rfl, ((hbb.setCell (Nat.le_refl _) _).setCell (Nat.le_refl _) _).setCell (Nat.le_refl _) _⟩

end Go.Proofs.Ytmncihhdkcmmmaa

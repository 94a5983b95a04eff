/- The program's checks of tiles. -/
import Derived.Test.YtogojmimflgmmaaNe
namespace Go.Proofs.Ytogojmimflgmmaa
open Go.RowKit
set_option maxRecDepth 100000
set_option linter.unusedVariables false
set_option linter.unusedSimpArgs false

set_option maxHeartbeats 4000000 in
theorem iTileChecks_yes (w : World) (wd hi n c wk b o : Nat) (bs : List Nat) (h : SlF w (.slice (some ⟨b, o, none⟩) n c) bs) (hv : vPic wd hi n = true) (k1 : 1 ≤ wk) (k2 : wk ≤ 8) :
    Calls Try.prog 7 #[.agg #[.int .i64 wd, .int .i64 hi, .slice (some ⟨b, o, none⟩) n c], .int .i64 wk] w fun e w' => ∃ v, e = .returned (.tuple #[v, .bool true]) ∧ OwnK w' w.heap.size v (chksT bs wd hi wk) ∧ Below w.heap.size w w' := by
  obtain ⟨x1, x2, e1, e2, e3, d1, d2, d3, d4, d5⟩ := vPic_spec hv
  have hx1 : x1 = wd := by omega
  have hx2 : x2 = hi := by omega
  subst hx1 hx2
  clear e1 e2
  obtain ⟨i0, hi0, hz0, hz1, hz2⟩ := info_parts info_i64N
  obtain ⟨W0, hW0⟩ : ∃ W, W = w.alloc (.cells #[.int .i64 x1, .int .i64 x2, .slice (some ⟨b, o, none⟩) n c] 29) := ⟨_, rfl⟩
  have hb0 : Below w.heap.size w W0 := by rw [hW0]; exact (Below.refl _ _).alloc (Nat.le_refl _) _
  have hx : BoxN W0 w.heap.size #[.int .i64 x1, .int .i64 x2, .slice (some ⟨b, o, none⟩) n c] 29 := by rw [hW0]; exact BoxN.last w _ _
  have hs0 := h.below hb0
  have hnl : n ≤ 9223372036854775807 := by omega
  have hn256 : n ≤ 256 := by omega
  have KM := Lib.hid (fun W => validMap_any (x1 : Int) (x2 : Int) (some ⟨b, o, none⟩) n c hnl W)
  rw [hv] at KM
  have KT := Lib.hid (fun W => iTiles_yes W x2 wk d3 d4 k1 k2)
  have HX := Lib.hid (And.intro hb0 (And.intro hx (And.intro hs0 (And.intro e3 (tileG_in (h := x2) (show 0 < wk by omega) wk (Nat.le_refl _))))))
  have HL := Lib.hid (tileG_len x2 wk wk)
  have HW0 := Lib.hid hW0
  have hbl := hx.lt
  have c1 : W0.cell? ⟨w.heap.size, 1, none⟩ = some (.int .i64 x2) := hx.cell 1
  rw [hW0] at c1
  clear h hv hb0 hx hs0 hW0 e3 d5
  go_enter Try.func7, Try.ntmps7
  go_wp2_with fail
  rw [← HW0.out]
  clear c1
  refine (KT.out _).mono ?_
  rintro e w3 ⟨tv, rfl, hot, hb3⟩
  obtain ⟨ts, hts⟩ : ∃ ts, (tileG x2 wk wk).1 = ts := ⟨_, rfl⟩
  have hck : chksT bs x1 x2 wk = ts.map (chkT bs x1) := by unfold chksT; rw [hts]
  have HCK := Lib.hid hck
  rw [hts] at hot HX HL
  obtain ⟨ta, tc, rfl⟩ := hot.form
  have HT := Lib.hid (And.intro hot hb3)
  have hx3 := HX.out.2.1.below hb3
  obtain ⟨c0, c1, c2⟩ : w3.cell? ⟨w.heap.size, 0, none⟩ = some (.int .i64 x1) ∧ w3.cell? ⟨w.heap.size, 1, none⟩ = some (.int .i64 x2) ∧ w3.cell? ⟨w.heap.size, 2, none⟩ = some (.slice (some ⟨b, o, none⟩) n c) := ⟨hx3.cell 0, hx3.cell 1, hx3.cell 2⟩
  have hl8 : ts.length ≤ 8 := Nat.le_trans HL.out k2
  clear hot hb3 hck hts hx3
  go_wp2_with fail
  clear c0 c1 c2
  refine (KM.out _).mono ?_
  rintro e w4 ⟨rfl, hb4⟩
  have HB4 := Lib.hid (HT.out.2.trans (hb4.mono HT.out.2.size))
  have HT4 := Lib.hid (HT.out.1.below hb4)
  have HO0 := Lib.hid (OwnK.start w4 w4.heap.size (Nat.le_refl _))
  have hbz : Below w4.heap.size w4 (w4.alloc (.cells #[] 2)) := (Below.refl _ _).alloc (Nat.le_refl _) _
  have HBZ := Lib.hid hbz
  have HSZ := Lib.hid (show W0.heap.size ≤ w4.heap.size from HB4.out.size)
  obtain ⟨wz, hwz⟩ : ∃ wz, wz = w4 := ⟨_, rfl⟩
  subst hwz
  clear hb4 hbz
  go_wp2_with fail
  go_loopw [8, 32] (fun v8 v32 wr => ∃ (i : Nat) (v : Value), v32 = .int .i64 i ∧ i ≤ ts.length ∧ v = v8 ∧ OwnK wr wz.heap.size v ((ts.take i).map (chkT bs x1)) ∧ Below wz.heap.size wz wr) (fun _ v32 _ => ts.length - (intOf v32).toNat)
  case atStart => exact ⟨0, _, rfl, Nat.zero_le _, rfl, HO0.out, HBZ.out⟩
  case round =>
    clear HO0 HBZ
    obtain ⟨i, v, rfl, hi, rfl, hown, hb⟩ := hrel
    by_cases hlt : i < ts.length
    · obtain ⟨t, ht⟩ : ∃ t, ts[i]? = some t := ⟨_, List.getElem?_eq_getElem hlt⟩
      have htm : t ∈ ts := List.mem_of_getElem? ht
      obtain ⟨g, rfl, hgl, p0, p1⟩ := (HT4.out.below hb).at_ i ht
      have hlen : ((ts.take i).map (chkT bs x1)).length = i := by rw [List.length_map, List.length_take]; omega
      have hnx : (ts.take (i + 1)).map (chkT bs x1) = (ts.take i).map (chkT bs x1) ++ [chkT bs x1 t] := by
        rw [List.take_succ_eq_append_getElem hlt, List.map_append]
        rw [List.getElem?_eq_getElem hlt] at ht
        injection ht with ht
        rw [ht]; rfl
      have hin := HX.out.2.2.2.2 t htm
      obtain ⟨A, C⟩ := t
      dsimp only at p0 p1 hin
      have HNX := Lib.hid (And.intro hnx hlen)
      have hltI : (i : Int) < (ts.length : Int) := by omega
      obtain ⟨wo, hwo⟩ : ∃ wo, wo = wr := ⟨_, rfl⟩
      subst hwo
      have HB := Lib.hid hb
      have HOW := Lib.hid hown
      have HSO := Lib.hid (show wz.heap.size ≤ wo.heap.size from hb.size)
      obtain ⟨W1, hW1⟩ : ∃ W, W = wo.alloc (.cells #[.int .i64 (A : Int), .int .i64 (C : Int)] 43) := ⟨_, rfl⟩
      have hx1 : BoxN W1 wo.heap.size #[.int .i64 (A : Int), .int .i64 (C : Int)] 43 := by rw [hW1]; exact BoxN.last wo _ _
      have hb1 : Below wo.heap.size wo W1 := by rw [hW1]; exact (Below.refl _ _).alloc (Nat.le_refl _) _
      have HW1 := Lib.hid hW1
      have HX1 := Lib.hid (And.intro hx1 hb1)
      have hin1 := hin.1
      clear hnx hlen ht htm hb hown hin hW1 hx1 hb1
      go_wp2_with fail
      rw [← HW1.out]
      clear p0 p1
      go_loopw [11, 12] (fun v11 v12 wr => ∃ j : Nat, v12 = .int .i64 ((A + j : Nat) : Int) ∧ j ≤ C ∧ v11 = .int .i64 ((ckT 0 (tileT bs x1 A j) : Nat) : Int) ∧ Below W1.heap.size W1 wr) (fun _ v12 _ => A + C - (intOf v12).toNat)
      case atStart => exact ⟨0, rfl, Nat.zero_le _, by unfold tileT ckT; rfl, Below.refl _ _⟩
      case round =>
        obtain ⟨j, rfl, hj, rfl, hb⟩ := hrel
        obtain ⟨y, hy⟩ : ∃ y, A + j = y := ⟨_, rfl⟩
        rw [hy]
        obtain ⟨en, hen⟩ : ∃ en, A + C = en := ⟨_, rfl⟩
        have henI : (A : Int) + (C : Int) = (en : Int) := by omega
        have hxb := HX1.out.1.below hb
        have p0 : wr.cell? ⟨wo.heap.size, 0, none⟩ = some (.int .i64 (A : Int)) := hxb.cell 0
        have p1 : wr.cell? ⟨wo.heap.size, 1, none⟩ = some (.int .i64 (C : Int)) := hxb.cell 1
        have hbo : Below wo.heap.size wo wr := HX1.out.2.trans (hb.mono HX1.out.2.size)
        have hb9 := HB.out.trans (hbo.mono HSO.out)
        have hMW : Below W0.heap.size W0 wr := HB4.out.trans (hb9.mono HSZ.out)
        obtain ⟨c0, c1, c2⟩ : wr.cell? ⟨w.heap.size, 0, none⟩ = some (.int .i64 x1) ∧ wr.cell? ⟨w.heap.size, 1, none⟩ = some (.int .i64 x2) ∧ wr.cell? ⟨w.heap.size, 2, none⟩ = some (.slice (some ⟨b, o, none⟩) n c) :=
          ⟨(HX.out.2.1.below hMW).cell 0, (HX.out.2.1.below hMW).cell 1, (HX.out.2.1.below hMW).cell 2⟩
        have HS := Lib.hid (And.intro hy (And.intro hb (And.intro hMW hbo)))
        obtain ⟨z, hz⟩ : ∃ z, ckT 0 (tileT bs x1 A j) = z := ⟨_, rfl⟩
        have hzl : z < 65003 := by rw [← hz]; exact ckT_lt (by decide) _
        rw [hz]
        have HZ := Lib.hid hz
        by_cases hjC : j < C
        · have hyh : y < x2 := by omega
          have hylt : decide ((y : Int) < (en : Int)) = true := decide_eq_true (by omega)
          have hyI : (y : Int) < (en : Int) := by omega
          obtain ⟨r1, r2, r3, r4, r5, r6⟩ := row_sl (HX.out.2.2.1.below hMW) HX.out.2.2.2.1 hyh d1
          obtain ⟨lo, hlo⟩ : ∃ lo, x1 * y = lo := ⟨_, rfl⟩
          obtain ⟨up, hup⟩ : ∃ up, lo + x1 = up := ⟨_, rfl⟩
          have em1 : (y : Int) * (x1 : Int) = (lo : Int) := by rw [← hlo, Int.mul_comm]; simp
          have em2 : ((y : Int) + 1) * (x1 : Int) = (up : Int) := by rw [Int.add_mul, em1]; omega
          rw [hlo] at r1 r3
          have KN := Lib.hid (fun W (hW : Below wr.heap.size wr W) => numbersText_any W _ _ _ _ (r1.below hW) r2 (by omega))
          have HR := Lib.hid (And.intro r2 (And.intro r6 hlo))
          have w1_ : IntKind.i64.wrap ((y : Int) + 1) = (y : Int) + 1 := IntWalk.i64_in _ (by omega)
          have w2_ : IntKind.i64.wrap (lo : Int) = (lo : Int) := IntWalk.i64_in _ (by omega)
          have w3_ : IntKind.i64.wrap (up : Int) = (up : Int) := IntWalk.i64_in _ (by omega)
          have z1 : (lo : Int) ≤ (up : Int) := by omega
          have z2 : (up : Int) ≤ (c : Int) := by omega
          have z3 : (0 : Int) ≤ (lo : Int) := by omega
          have z4 : lo ≤ up := by omega
          have z5 : up ≤ c := by omega
          clear hy hb hMW hb9 r1 r2 hlo hen hz hbo hxb
          go_wp2_with fail
          rw [show up - lo = x1 by omega]
          refine (KN.out _ (Below.refl _ _)).mono ?_
          rintro e w5 ⟨rfl, hb5⟩
          obtain ⟨u, hu⟩ : ∃ u : ByteArray, (⟨(numT (rowL bs x1 y)).toArray⟩ : ByteArray) = u := ⟨_, rfl⟩
          have hul : u.data.toList = numT (rowL bs x1 y) := by rw [← hu]
          have hus : u.size ≤ 230 := by
            rw [← ba_sizeT, hul]
            have h9 := numT_le (rowL bs x1 y)
            have h8 := HR.out.1
            omega
          rw [hu]
          have KC := Lib.hid (fun W => checkOfT_any W z u hzl (by omega))
          have hfin : ckT z u.data.toList = ckT 0 (tileT bs x1 A (j + 1)) := by rw [hul, ← HZ.out, ← ckT_app, tileT_succ, HS.out.1]
          have hyj : ((A + (j + 1) : Nat) : Int) = (y : Int) + 1 := by have := HS.out.1; omega
          have HF := Lib.hid (And.intro hfin (And.intro (HS.out.2.1.trans (hb5.mono (by have := HS.out.2.1.size; exact this))) hyj))
          clear hfin hul hu hb5 c0 c1 c2 p0 p1 hyj em1 em2 w2_ w3_ z1 z2 z3 z4 z5
          go_wp2_with fail
          refine (KC.out _).mono ?_
          rintro e w6 ⟨rfl, rfl⟩
          go_wp2_with fail
          go_roundw
          case rel => exact ⟨j + 1, by rw [HF.out.2.2], by omega, by rw [HF.out.1], HF.out.2.1⟩
          case measure => simp [intOf]; omega
        · obtain rfl : j = C := by omega
          have hyen : y = en := by omega
          subst hyen
          have hylt : decide ((y : Int) < (y : Int)) = false := by simp
          have hrow : wr.ownsRow wz.heap.size 2 1 v i (((ts.take i).map (chkT bs x1)).map (Value.int .i64)) := by
            have h9 := HOW.out.below hbo
            unfold OwnK at h9
            rwa [HNX.out.2] at h9
          have HCH := Lib.hid (show ((z : Nat) : Int) = chkT bs x1 (A, j) by unfold chkT; rw [← HZ.out])
          have hlt9 : wz.heap.size ≤ wr.heap.size := Nat.le_trans HSO.out hbo.size
          clear hy hb hMW hb9 hen hz hbo hxb
          go_wp2_with (at_builtin; refine wpList_append_lies _ (by rfl) _ _ _ (by rfl) wz.heap.size 2 i0 _ 1 8 Try.underlying26 hi0 hz0 hz1 hz2 rfl (by omega) v i _ (by rfl) (World.ownsRow.alloc hrow _) ⟨wr.heap.size, 0, none⟩ 1 1 [.int .i64 (z : Int)] (by rfl) (by rfl) (cell_one_new _ _ _) (by simp [Value.oneCell']) (by omega) (by unfold maxLen; omega) (by omega) (by simp; omega) (wr.heap.size + 1) (by simp) ?_; intro gg cap w5 hown2 hgrow hat hlt2)
          have hz9 := HS.out.2.2.2.size
          refine ⟨⟨i + 1, _, by go_num, by omega, rfl, ?_, ?_⟩, by simp [intOf]; omega⟩
          · rw [HNX.out.1, ← HCH.out]; exact own_snocK HNX.out.2 hown2
          · have hbb := HB.out.trans (HS.out.2.2.2.mono HSO.out)
            exact (hbb.alloc hbb.size _).grown hgrow (by have := hbb.size; simp; omega) (fun k hk => (HOW.out.lt hk).1)
    · obtain rfl : i = ts.length := by omega
      rw [List.take_length] at hown
      have HF := Lib.hid (And.intro (hown.mono (B' := w.heap.size) (by have := HSZ.out; have := HX.out.1.size; omega)) (HX.out.1.trans ((HB4.out.trans (hb.mono HSZ.out)).mono HX.out.1.size)))
      clear hown hb
      go_wp2_with fail
      go_ret2
      exact ⟨_, rfl, by rw [HCK.out]; exact HF.out.1, HF.out.2⟩

end Go.Proofs.Ytogojmimflgmmaa

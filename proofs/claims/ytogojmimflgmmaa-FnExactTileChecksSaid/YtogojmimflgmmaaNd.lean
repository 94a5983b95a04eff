/- The reference's checks of tiles. -/
import Derived.Test.YtogojmimflgmmaaNc
namespace Go.Proofs.Ytogojmimflgmmaa
open Go.RowKit
set_option maxRecDepth 100000
set_option linter.unusedVariables false
set_option linter.unusedSimpArgs false

theorem info_i64N : (Try.prog.info? 2).map (fun i => (i.zero, i.size, i.bytes)) = some (some (.int .i64 0), 1, 8) := by kernel_rfl
/-- Whole numbers in a block of one's own. -/
def OwnK (w : World) (B : Nat) (v : Value) (ks : List Int) : Prop := w.ownsRow B 2 1 v ks.length (ks.map (Value.int .i64))
theorem OwnK.below {w w' : World} {B : Nat} {v : Value} {ks : List Int} (h : OwnK w B v ks) (hb : Below w.heap.size w w') : OwnK w' B v ks := World.ownsRow.kept h (grown_below hb none) (by cases v.ownBlock <;> simp)
theorem OwnK.lt {w : World} {B : Nat} {v : Value} {ks : List Int} (h : OwnK w B v ks) {k : Nat} (hk : v.ownBlock = some k) : B ≤ k ∧ k < w.heap.size := World.ownsRow.lt h k hk
theorem OwnK.start (w : World) (B : Nat) (hB : B ≤ w.heap.size) : OwnK (w.alloc (.cells #[] 2)) B (.slice (some ⟨w.heap.size, 0, none⟩) 0 0) [] :=
  ⟨rfl, .inr ⟨w.heap.size, 0, #[], rfl, hB, heap_alloc_new w _, Nat.le_refl _, by unfold maxLen; omega, rfl, rfl⟩⟩
theorem OwnK.mono {w : World} {B B' : Nat} {v : Value} {ks : List Int} (h : OwnK w B v ks) (hB : B' ≤ B) : OwnK w B' v ks := by
  refine ⟨h.1, ?_⟩
  rcases h.2 with h1 | ⟨g, cap, cur, e, hg, r⟩
  · exact .inl h1
  · exact .inr ⟨g, cap, cur, e, Nat.le_trans hB hg, r⟩
theorem own_snocK {w : World} {B n gg cap : Nat} {ks : List Int} {z : Int} (hl : ks.length = n) (h : w.ownsRow B 2 1 (.slice (some ⟨gg, 0, none⟩) (n + 1) cap) (n + 1) (ks.map (Value.int .i64) ++ [.int .i64 z])) :
    OwnK w B (.slice (some ⟨gg, 0, none⟩) (n + 1) cap) (ks ++ [z]) := by
  subst hl
  unfold OwnK
  rw [List.length_append, List.length_singleton, List.map_append]
  exact h

theorem sWorkers_any (w : World) (n : Int) : Calls Try.prog 15 #[.int .i64 n] w fun e w' => e = .returned (.bool (decide (1 ≤ n) && decide (n ≤ 8))) ∧ w = w' := by
  have K := Lib.hid (fun W => s00In_any n 1 8 W)
  generalize (decide (1 ≤ n) && decide (n ≤ 8)) = v at *
  go_enter Try.func15, Try.ntmps15
  go_wp2_with fail
  refine (K.out _).mono ?_
  rintro e w' ⟨rfl, rfl⟩
  go_wp2
  go_ret
  exact ⟨rfl, rfl⟩

set_option maxHeartbeats 4000000 in
theorem sTileChecks_yes (w : World) (wd hi n c wk b o : Nat) (bs : List Nat) (h : SlF w (.slice (some ⟨b, o, none⟩) n c) bs) (hv : vPic wd hi n = true) (k1 : 1 ≤ wk) (k2 : wk ≤ 8) :
    Calls Try.prog 5 #[.agg #[.int .i64 wd, .int .i64 hi, .slice (some ⟨b, o, none⟩) n c], .int .i64 wk] w fun e w' => ∃ v, e = .returned (.tuple #[v, .bool true]) ∧ OwnK w' w.heap.size v (chksT bs wd hi wk) ∧ Below w.heap.size w w' := by
  obtain ⟨x1, x2, e1, e2, e3, d1, d2, d3, d4, d5⟩ := vPic_spec hv
  have hx1 : x1 = wd := by omega
  have hx2 : x2 = hi := by omega
  subst hx1 hx2
  clear e1 e2
  obtain ⟨i0, hi0, hz0, hz1, hz2⟩ := info_parts info_i64N
  obtain ⟨W0, hW0⟩ : ∃ W, W = w.alloc (.cells #[.int .i64 x1, .int .i64 x2, .slice (some ⟨b, o, none⟩) n c] 29) := ⟨_, rfl⟩
  have hb0 : Below w.heap.size w W0 := by rw [hW0]; exact (Below.refl _ _).alloc (Nat.le_refl _) _
  have hx : BoxN W0 w.heap.size #[.int .i64 x1, .int .i64 x2, .slice (some ⟨b, o, none⟩) n c] 29 := by rw [hW0]; exact BoxN.last w _ _
  have hs0 := h.below hb0
  have hnl : n ≤ 9223372036854775807 := by omega
  have hn256 : n ≤ 256 := by omega
  have KM := Lib.hid (fun W (hb : Below W0.heap.size W0 W) => l03IsMap_gen W w.heap.size 0 (x1 : Int) (x2 : Int) (some ⟨b, o, none⟩) n c hnl ((hx.below hb).cell 0) ((hx.below hb).cell 1) ((hx.below hb).cell 2))
  rw [hv] at KM
  have KW := Lib.hid (fun W => sWorkers_any W (wk : Int))
  rw [decide_eq_true (show (1 : Int) ≤ (wk : Int) by omega), decide_eq_true (show (wk : Int) ≤ 8 by omega)] at KW
  have KT := Lib.hid (fun W => sTiles_any W x2 wk d3 d4 k1 k2)
  have HX := Lib.hid (And.intro hb0 (And.intro hx (And.intro hs0 (And.intro e3 (tileG_in (h := x2) (show 0 < wk by omega) wk (Nat.le_refl _))))))
  have HL := Lib.hid (tileG_len x2 wk wk)
  have HW0 := Lib.hid hW0
  have hbl := hx.lt
  clear h hv hb0 hx hs0 hW0 e3 d5
  go_enter Try.func5, Try.ntmps5
  go_wp2_with fail
  rw [← HW0.out]
  refine (KM.out _ (Below.refl _ _)).mono ?_
  rintro e w1 ⟨rfl, m, hm⟩
  have hb1 : Below W0.heap.size W0 w1 := by rw [hm]; exact below_drewN (Below.refl _ _) m
  have HB1 := Lib.hid hb1
  clear hm hb1
  go_wp2_with fail
  refine (KW.out _).mono ?_
  rintro e w2 ⟨rfl, rfl⟩
  obtain ⟨c0, c1, c2⟩ : w1.cell? ⟨w.heap.size, 0, none⟩ = some (.int .i64 x1) ∧ w1.cell? ⟨w.heap.size, 1, none⟩ = some (.int .i64 x2) ∧ w1.cell? ⟨w.heap.size, 2, none⟩ = some (.slice (some ⟨b, o, none⟩) n c) :=
    ⟨(HX.out.2.1.below HB1.out).cell 0, (HX.out.2.1.below HB1.out).cell 1, (HX.out.2.1.below HB1.out).cell 2⟩
  go_wp2_with fail
  clear c0 c1 c2
  refine (KT.out _).mono ?_
  rintro e w3 ⟨tv, rfl, hot, hb3⟩
  obtain ⟨ts, hts⟩ : ∃ ts, (tileG x2 wk wk).1 = ts := ⟨_, rfl⟩
  have hck : chksT bs x1 x2 wk = ts.map (chkT bs x1) := by unfold chksT; rw [hts]
  have HCK := Lib.hid hck
  rw [hts] at hot HX HL
  obtain ⟨ta, tc, rfl⟩ := hot.form
  have hb3' : Below W0.heap.size W0 w3 := HB1.out.trans (hb3.mono HB1.out.size)
  have HT := Lib.hid (And.intro hot hb3')
  have HO0 := Lib.hid (OwnK.start w3 w3.heap.size (Nat.le_refl _))
  have hbz : Below w3.heap.size w3 (w3.alloc (.cells #[] 2)) := (Below.refl _ _).alloc (Nat.le_refl _) _
  have HBZ := Lib.hid hbz
  have hl8 : ts.length ≤ 8 := Nat.le_trans HL.out k2
  have HSZ := Lib.hid (show W0.heap.size ≤ w3.heap.size from hb3'.size)
  obtain ⟨wz, hwz⟩ : ∃ wz, wz = w3 := ⟨_, rfl⟩
  subst hwz
  clear hot hb3 hb3' hbz hck hts
  go_wp2_with fail
  go_loopw [7, 8] (fun v7 v8 wr => ∃ (i : Nat) (v : Value), v8 = .int .i64 i ∧ i ≤ ts.length ∧ v = v7 ∧ OwnK wr wz.heap.size v ((ts.take i).map (chkT bs x1)) ∧ Below wz.heap.size wz wr) (fun _ v8 _ => ts.length - (intOf v8).toNat)
  case atStart => exact ⟨0, _, rfl, Nat.zero_le _, rfl, HO0.out, HBZ.out⟩
  case round =>
    clear HO0 HBZ
    obtain ⟨i, v, rfl, hi, rfl, hown, hb⟩ := hrel
    by_cases hlt : i < ts.length
    · obtain ⟨t, ht⟩ : ∃ t, ts[i]? = some t := ⟨_, List.getElem?_eq_getElem hlt⟩
      have htm : t ∈ ts := List.mem_of_getElem? ht
      obtain ⟨g, rfl, hgl, p0, p1⟩ := (HT.out.1.below hb).at_ i ht
      have hlen : ((ts.take i).map (chkT bs x1)).length = i := by rw [List.length_map, List.length_take]; omega
      have hnx : (ts.take (i + 1)).map (chkT bs x1) = (ts.take i).map (chkT bs x1) ++ [chkT bs x1 t] := by
        rw [List.take_succ_eq_append_getElem hlt, List.map_append]
        rw [List.getElem?_eq_getElem hlt] at ht
        injection ht with ht
        rw [ht]; rfl
      have hin := HX.out.2.2.2.2 t htm
      obtain ⟨A, C⟩ := t
      dsimp only at p0 p1 hin
      have HNX := Lib.hid (And.intro hnx hlen)
      have hltI : (i : Int) < (ts.length : Int) := by omega
      obtain ⟨wo, hwo⟩ : ∃ wo, wo = wr := ⟨_, rfl⟩
      subst hwo
      have HB := Lib.hid hb
      have HOW := Lib.hid hown
      have HSO := Lib.hid (show wz.heap.size ≤ wo.heap.size from hb.size)
      have HP := Lib.hid (And.intro hgl (And.intro p0 p1))
      have hin1 := hin.1
      clear hnx hlen ht htm hb hown hin
      go_wp2_with fail
      clear p0 p1
      go_loopw [9, 10] (fun v9 v10 wr => ∃ j : Nat, v10 = .int .i64 ((A + j : Nat) : Int) ∧ j ≤ C ∧ v9 = .string ⟨(tileT bs x1 A j).toArray⟩ ∧ Below wo.heap.size wo wr) (fun _ v10 _ => A + C - (intOf v10).toNat)
      case atStart => exact ⟨0, rfl, Nat.zero_le _, by unfold tileT; rfl, Below.refl _ _⟩
      case round =>
        obtain ⟨j, rfl, hj, rfl, hb⟩ := hrel
        obtain ⟨s, hs⟩ : ∃ s : ByteArray, (⟨(tileT bs x1 A j).toArray⟩ : ByteArray) = s := ⟨_, rfl⟩
        have hsl : s.data.toList = tileT bs x1 A j := by rw [← hs]
        have hsz : s.size ≤ 220 * 24 := by
          rw [← ba_sizeT, hsl]
          have := tileT_len bs x1 A d2 j
          omega
        rw [hs]
        obtain ⟨y, hy⟩ : ∃ y, A + j = y := ⟨_, rfl⟩
        rw [hy]
        obtain ⟨en, hen⟩ : ∃ en, A + C = en := ⟨_, rfl⟩
        have henI : (A : Int) + (C : Int) = (en : Int) := by omega
        have hb9 := HB.out.trans (hb.mono HSO.out)
        have p0 : wr.cell? ⟨g, i * 2, none⟩ = some (.int .i64 (A : Int)) := by rw [hb.cell (p := ⟨g, i * 2, none⟩) HP.out.1]; exact HP.out.2.1
        have p1 : wr.cell? ⟨g, i * 2 + 1, none⟩ = some (.int .i64 (C : Int)) := by rw [hb.cell (p := ⟨g, i * 2 + 1, none⟩) HP.out.1]; exact HP.out.2.2
        have hMW : Below W0.heap.size W0 wr := HT.out.2.trans (hb9.mono HSZ.out)
        obtain ⟨c0, c1, c2⟩ : wr.cell? ⟨w.heap.size, 0, none⟩ = some (.int .i64 x1) ∧ wr.cell? ⟨w.heap.size, 1, none⟩ = some (.int .i64 x2) ∧ wr.cell? ⟨w.heap.size, 2, none⟩ = some (.slice (some ⟨b, o, none⟩) n c) :=
          ⟨(HX.out.2.1.below hMW).cell 0, (HX.out.2.1.below hMW).cell 1, (HX.out.2.1.below hMW).cell 2⟩
        have HS := Lib.hid (And.intro hs (And.intro hsl (And.intro hy (And.intro hb hMW))))
        by_cases hjC : j < C
        · have hyh : y < x2 := by omega
          have hylt : decide ((y : Int) < (en : Int)) = true := decide_eq_true (by omega)
          have hyI : (y : Int) < (en : Int) := by omega
          obtain ⟨r1, r2, r3, r4, r5, r6⟩ := row_sl (HX.out.2.2.1.below hMW) HX.out.2.2.2.1 hyh d1
          obtain ⟨lo, hlo⟩ : ∃ lo, x1 * y = lo := ⟨_, rfl⟩
          obtain ⟨up, hup⟩ : ∃ up, lo + x1 = up := ⟨_, rfl⟩
          have em1 : (x1 : Int) * (y : Int) = (lo : Int) := by rw [← hlo]; simp
          have em2 : (x1 : Int) * ((y : Int) + 1) = (up : Int) := by rw [Int.mul_add, em1]; omega
          rw [hlo] at r1 r3
          have KN := Lib.hid (fun W (hW : Below wr.heap.size wr W) => s01NText_any W _ _ _ _ (r1.below hW) r2 (by omega))
          have HR := Lib.hid (And.intro r2 (And.intro r6 hlo))
          clear hs hsl hy hb hMW hb9 r1 r2 hlo hen
          go_upto_region 10 with fail
          have w1_ : IntKind.i64.wrap ((y : Int) + 1) = (y : Int) + 1 := IntWalk.i64_in _ (by omega)
          have w2_ : IntKind.i64.wrap (lo : Int) = (lo : Int) := IntWalk.i64_in _ (by omega)
          have w3_ : IntKind.i64.wrap (up : Int) = (up : Int) := IntWalk.i64_in _ (by omega)
          have z1 : (lo : Int) ≤ (up : Int) := by omega
          have z2 : (up : Int) ≤ (c : Int) := by omega
          have z3 : (0 : Int) ≤ (lo : Int) := by omega
          have z4 : lo ≤ up := by omega
          have z5 : up ≤ c := by omega
          go_quiet (fail)
          have hA1 : Below wr.heap.size wr (wr.drewN nq) := below_drewN (Below.refl _ _) nq
          go_wp2_with fail
          rw [show up - lo = x1 by omega]
          refine (KN.out _ hA1).mono ?_
          rintro e w4 ⟨rfl, hb4⟩
          obtain ⟨u, hu⟩ : ∃ u : ByteArray, (⟨(numT (rowL bs x1 y)).toArray⟩ : ByteArray) = u := ⟨_, rfl⟩
          have hul : u.data.toList = numT (rowL bs x1 y) := by rw [← hu]
          have hus : u.size ≤ 230 := by
            rw [← ba_sizeT, hul]
            have h9 := numT_le (rowL bs x1 y)
            have h8 := HR.out.1
            omega
          rw [hu]
          have hfin : s ++ u = ⟨(tileT bs x1 A (j + 1)).toArray⟩ := by
            apply ba_ofT
            rw [ba_appT, HS.out.2.1, hul, tileT_succ, HS.out.2.2.1]
          have h9b : (9223372036854775807 < s.size + u.size) = False := eq_false (by omega)
          have hyj : ((A + (j + 1) : Nat) : Int) = (y : Int) + 1 := by have := HS.out.2.2.1; omega
          have HF := Lib.hid (And.intro hfin (And.intro (HS.out.2.2.2.1.trans ((hA1.trans (hb4.mono hA1.size)).mono (by have := HS.out.2.2.2.1.size; exact this))) hyj))
          clear hfin hul hu hb4 hA1 c0 c1 c2 p0 p1 hyj em1 em2 w2_ w3_ z1 z2 z3 z4 z5
          go_wp2_with fail
          go_roundw
          case rel => exact ⟨j + 1, by rw [HF.out.2.2], by omega, by rw [← HF.out.1], HF.out.2.1⟩
          case measure => simp [intOf]; omega
        · obtain rfl : j = C := by omega
          have hyen : y = en := by omega
          subst hyen
          have hylt : decide ((y : Int) < (y : Int)) = false := by simp
          clear hs hsl hy hb hMW hb9 hen
          go_upto_region 10 with fail
          go_quiet (fail)
          have hA1 : Below wr.heap.size wr (wr.drewN nq) := below_drewN (Below.refl _ _) nq
          obtain ⟨wq, hwq⟩ : ∃ wq, wr.drewN nq = wq := ⟨_, rfl⟩
          rw [hwq] at hA1 ⊢
          clear hwq
          have hbo : Below wo.heap.size wo wq := HS.out.2.2.2.1.trans (hA1.mono (by have := HS.out.2.2.2.1.size; exact this))
          have hrow : wq.ownsRow wz.heap.size 2 1 v i (((ts.take i).map (chkT bs x1)).map (Value.int .i64)) := by
            have h9 := HOW.out.below hbo
            unfold OwnK at h9
            rwa [HNX.out.2] at h9
          have KC := Lib.hid (fun W => s01CheckT_any W 0 s (by decide) (by omega))
          rw [show ((0 : Nat) : Int) = 0 from rfl] at KC
          have HBO := Lib.hid hbo
          have hchk : ((ckT 0 s.data.toList : Nat) : Int) = chkT bs x1 (A, j) := by unfold chkT; rw [HS.out.2.1]
          have HCH := Lib.hid hchk
          have hlt9 : wz.heap.size ≤ wq.heap.size := Nat.le_trans HSO.out hbo.size
          clear c0 c1 c2 p0 p1 hbo hchk hA1
          go_wp2_with fail
          refine (KC.out _).mono ?_
          rintro e w4 ⟨rfl, rfl⟩
          obtain ⟨z, hz⟩ : ∃ z : Nat, ckT 0 s.data.toList = z := ⟨_, rfl⟩
          rw [hz] at HCH ⊢
          clear hz
          go_wp2_with (at_builtin; refine wpList_append_lies _ (by rfl) _ _ _ (by rfl) wz.heap.size 2 i0 _ 1 8 Try.underlying26 hi0 hz0 hz1 hz2 rfl (by omega) v i _ (by rfl) (World.ownsRow.alloc hrow _) ⟨wq.heap.size, 0, none⟩ 1 1 [.int .i64 (z : Int)] (by rfl) (by rfl) (cell_one_new _ _ _) (by simp [Value.oneCell']) (by omega) (by unfold maxLen; omega) (by omega) (by simp; omega) (wq.heap.size + 1) (by simp) ?_; intro gg cap w5 hown2 hgrow hat hlt2)
          have hz9 := HBO.out.size
          refine ⟨⟨i + 1, _, by go_num, by omega, rfl, ?_, ?_⟩, by simp [intOf]; omega⟩
          · rw [HNX.out.1, ← HCH.out]; exact own_snocK HNX.out.2 hown2
          · have hbb := HB.out.trans (HBO.out.mono HSO.out)
            exact (hbb.alloc hbb.size _).grown hgrow (by have := hbb.size; simp; omega) (fun k hk => (HOW.out.lt hk).1)
    · obtain rfl : i = ts.length := by omega
      rw [List.take_length] at hown
      have HF := Lib.hid (And.intro (hown.mono (B' := w.heap.size) (by have := HSZ.out; omega)) (HX.out.1.trans ((HT.out.2.trans (hb.mono HSZ.out)).mono HX.out.1.size)))
      clear hown hb
      go_wp2_with fail
      go_ret2
      exact ⟨_, rfl, by rw [HCK.out]; exact HF.out.1, HF.out.2⟩

end Go.Proofs.Ytogojmimflgmmaa

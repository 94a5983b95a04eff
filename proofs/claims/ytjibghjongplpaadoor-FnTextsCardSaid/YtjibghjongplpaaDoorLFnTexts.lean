/- The law FnTexts: its walk. -/
import Derived.Test.YtjibghjongplpaaDoorCt
import Derived.Test.YtjibghjongplpaaDoorDb
import Derived.Test.YtjibghjongplpaaDoorDd
import Derived.Test.YtjibghjongplpaaDoorLs
import Derived.Test.YtjibghjongplpaaDoorLaw
import Derived.Deep.Cut
namespace Go.Proofs.YtjibghjongplpaaDoor
open Go.RowKit
set_option maxRecDepth 100000
set_option linter.unusedVariables false
set_option linter.unusedSimpArgs false

set_option maxHeartbeats 8000000 in
theorem fnTexts_walk (w : World) (a0 a1 : Option Addr) (l0 c0 l1 c1 : Nat) (hx : (l0 ≤ 1048576 ∧ l1 ≤ 1048576) → BytesIn w a0 l0 ∧ BytesIn w a1 l1) (m0 : l0 ≤ 9223372036854775807) (m1 : l1 ≤ 9223372036854775807) (m : Int) (hm : w.cell? ⟨1, 0, none⟩ = some (.int .i64 m)) (ht : TabT w) (he : ErrT w) :
    Calls Tryd.prog 3 #[.slice a0 l0 c0, .slice a1 l1 c1] w fun e w' => e = .returned (.bool true) ∧ Below w.heap.size w w' := by
  by_cases hl : l0 ≤ 1048576 ∧ l1 ≤ 1048576
  case neg =>
    clear hx hm ht he
    go_enter Tryd.func3, Tryd.ntmps3
    go_wp2_with fail
    refine (b10Long_yes _ _ _ _ _ _ _ m0 m1 hl).mono ?_
    rintro e w' ⟨rfl, rfl⟩
    go_wp2_with fail
    go_ret
    exact ⟨rfl, Below.refl _ _⟩
  obtain ⟨hb0, hb1⟩ := hx hl
  obtain ⟨h0, h1⟩ := hl
  obtain ⟨j0, hj0, hy0, hy1, hy2⟩ := info_parts info_int64
  have hml := World.block_lt_of_cell? _ _ hm
  have HM := Lib.hid (fun W (hb : Below w.heap.size w W) => (show W.cell? ⟨1, 0, none⟩ = some (.int .i64 m) from (hb.cell (p := ⟨1, 0, none⟩) hml).trans hm))
  have HT := Lib.hid (fun W (hb : Below w.heap.size w W) => And.intro (ht.below hb) (he.below hb))
  have HB1 := Lib.hid (fun W (hb : Below w.heap.size w W) => hb1.below hb)
  have K0 := Lib.hid (fun n hn => b10Numbers_any w a0 l0 c0 n hn hb0)
  clear hx hm ht he hb0 hb1 hml m0 m1
  go_enter Tryd.func3, Tryd.ntmps3
  go_wp2_with fail
  refine (b10Long_no _ _ _ _ _ _ _ h0 h1).mono ?_
  rintro e w' ⟨rfl, rfl⟩
  have KA := Lib.hid (b10At_any w a1 l1 c1 0 12 (by omega) (by omega) (by omega) (HB1.out w (Below.refl _ _)))
  go_wp2_with fail
  refine KA.out.mono ?_
  rintro e w' ⟨z, rfl, hz0, hz1, rfl⟩
  obtain ⟨n, rfl⟩ := Int.eq_ofNat_of_zero_le hz0
  have hn : n ≤ 11 := by omega
  clear hz0 hz1 KA
  go_wp2_with fail
  refine (K0.out n (by omega)).mono ?_
  rintro e w1 ⟨g, c, bs, rfl, hbl, hown, hb1⟩
  have HBL := Lib.hid hbl
  have HO1 := Lib.hid hown
  have H1 := Lib.hid hb1
  have KN := Lib.hid (numbersText_any w1 (some ⟨g, 0, none⟩) n c bs hown.sl hbl (by omega))
  have hnt := numR_text hown.2 (by rw [hbl]; omega)
  have hnl : (numT bs).length ≤ 200 := by have := numT_le bs; rw [hbl] at this; omega
  have hnl2 : 0 < n → (numT bs).length = 9 * n - 1 := fun hp => by
    rw [numT_len (by intro e; rw [e] at hbl; simp at hbl; omega), hbl]
  obtain ⟨T, hT⟩ : ∃ T : ByteArray, (⟨(numT bs).toArray⟩ : ByteArray) = T := ⟨_, rfl⟩
  have hTd : T.data.toList = numT bs := by rw [← hT]
  have hTs : T.size = (numT bs).length := by rw [← ba_size, hTd]
  rw [← hTd] at hnt
  rw [← hTs] at hnl hnl2
  rw [hT] at KN
  have KR := Lib.hid (fun W (hb : Below w.heap.size w W) => readNums_any W T m (by omega) (HM.out W hb) (HT.out W hb).2 (HT.out W hb).1)
  rw [hnt] at KR
  have HLL := Lib.hid (And.intro hnl hnl2)
  clear hbl hown hb1 hnt hnl hnl2 hT hTd hTs K0
  go_wp2_with fail
  refine KN.out.mono ?_
  rintro e w2 ⟨rfl, hb2⟩
  have H2 := Lib.hid (And.intro (H1.out.trans (hb2.mono H1.out.size)) hb2)
  clear hb2 KN
  go_wp2_with fail
  refine (KR.out _ H2.out.1).mono ?_
  rintro e w3 ⟨sb, cb, rfl, hob, hb3⟩
  have hob := hob rfl
  have H3 := Lib.hid (And.intro (H2.out.1.trans (hb3.mono H2.out.1.size)) (H2.out.2.trans (hb3.mono H2.out.2.size)))
  have hlb : ((List.map fl bs, true) : List Nat × Bool).1.length = n := by rw [List.length_map, HBL.out]
  rw [hlb] at hob ⊢
  have KS := Lib.hid (b10Same_yes w3 sb (some ⟨g, 0, none⟩) n cb c (bs.map fl) bs hob.sl (HO1.out.sl.below H3.out.2) (by rw [List.length_map, HBL.out]) (by omega) (by rw [List.map_map]; exact List.map_congr_left fun b _ => fl_fl b))
  clear hob hb3 hlb KR
  have hnI : (n : Int) ≤ 11 := by omega
  go_upto_region 6 with fail
  go_cut [58] from 33 to 58 (fun v58 wx => ∃ q, v58 = .bool false ∧ wx = w3.drewN q)
  case first =>
    by_cases hn0 : 0 < n
    · have h1 : (0 : Int) < (n : Int) := by omega
      have h2 : ((T.size : Int) != 9 * (n : Int) - 1) = false := by rw [bne_eq_false_iff_eq]; have := HLL.out.2 hn0; omega
      go_wp2_with fail
      refine KS.out.mono ?_
      rintro e w4 ⟨rfl, q, rfl⟩
      go_wp2_with fail
      go_meet
      exact ⟨q, rfl, rfl⟩
    · have h1 : decide ((0 : Int) < (n : Int)) = false := decide_eq_false (by omega)
      go_wp2_with fail
      refine KS.out.mono ?_
      rintro e w4 ⟨rfl, q, rfl⟩
      go_wp2_with fail
      go_meet
      exact ⟨q, rfl, rfl⟩
  case rest =>
    obtain ⟨q, rfl, hwq⟩ := hcut
    have hbq : Below w3.heap.size w3 wc := by rw [hwq]; exact below_drewN (Below.refl _ _) q
    have H4 := Lib.hid (H3.out.1.trans (hbq.mono H3.out.1.size))
    clear hbq hwq KS
    have HZ0 := Lib.hid (OwnZ.start wc wc.heap.size (Nat.le_refl _))
    have hb0 : Below wc.heap.size wc (wc.alloc (.cells #[] 2)) := (Below.refl _ _).alloc (Nat.le_refl _) _
    have HBZ := Lib.hid hb0
    clear hb0
    go_wp2_with fail
    go_loopw [10, 11] (fun v10 v11 wr => ∃ (i g4 cap4 : Nat) (zs : List Int), v11 = .int .i64 i ∧ i ≤ 7 ∧ v10 = .slice (some ⟨g4, 0, none⟩) i cap4 ∧ zs.length = i ∧ (∀ z ∈ zs, -1000000000000000 ≤ z ∧ z ≤ 1000000000000000) ∧ OwnZ wr wc.heap.size (.slice (some ⟨g4, 0, none⟩) i cap4) zs ∧ Below wc.heap.size wc wr) (fun _ v11 _ => 8 - (intOf v11).toNat)
    case atStart => exact ⟨0, _, _, [], rfl, by omega, rfl, rfl, by simp, HZ0.out, HBZ.out⟩
    case round =>
      clear HZ0 HBZ
      obtain ⟨i, g4, cap4, zs, rfl, hi, rfl, hzl, hzb, hown, hb⟩ := hrel
      have HZL := Lib.hid hzl
      have HZB := Lib.hid hzb
      have HOW := Lib.hid hown
      have HB := Lib.hid hb
      have hbw := H4.out.trans (hb.mono H4.out.size)
      have KA := Lib.hid (b10At_any wr a1 l1 c1 1 8 (by omega) (by omega) (by omega) (HB1.out wr hbw))
      have KB := Lib.hid (b10At_any wr a1 l1 c1 (i + 2) 256 (by omega) (by omega) (by omega) (HB1.out wr hbw))
      have HW := Lib.hid hbw
      have hrow : wr.ownsRow wc.heap.size 2 1 (.slice (some ⟨g4, 0, none⟩) i cap4) i (zCells zs) := by
        have h9 := hown
        unfold OwnZ at h9
        rwa [hzl] at h9
      have HROW := Lib.hid hrow
      have hbn := hb.size
      rw [show (((i + 2 : Nat) : Nat) : Int) = (i : Int) + 2 by push_cast; rfl] at KB
      have hiI : (i : Int) ≤ 7 := by omega
      clear hzl hzb hown hb hbw hrow
      go_upto_region 13 with fail
      refine KA.out.mono ?_
      rintro e w' ⟨y, rfl, hy0', hy1', rfl⟩
      by_cases hlt : (i : Int) < y
      · have hi6 : i + 1 ≤ 7 := by omega
        have H6 := Lib.hid hi6
        clear hy0' hy1' hi6 KA
        go_wp2_with fail
        refine KB.out.mono ?_
        rintro e w' ⟨x, rfl, hx0, hx1, rfl⟩
        obtain ⟨t, htt⟩ : ∃ t, 1000 * x - 90000 = t := ⟨_, rfl⟩
        have ht1 : -90000 ≤ t := by omega
        have ht2 : t ≤ 165000 := by omega
        have hxx : 1000 * x ≤ 255000 := by omega
        have hxx0 : 0 ≤ 1000 * x := by omega
        go_wp2_with (at_builtin; refine wpList_append_lies _ (by rfl) _ _ _ (by rfl) wc.heap.size 2 j0 _ 1 8 Tryd.underlying32 hj0 hy0 hy1 hy2 rfl (by omega) (.slice (some ⟨g4, 0, none⟩) i cap4) i _ (by rfl) (World.ownsRow.alloc HROW.out _) ⟨wr.heap.size, 0, none⟩ 1 1 [.int .i64 t] (by rfl) (by rfl) (cell_one_new _ _ _) (by simp [Value.oneCell']) (by omega) (by unfold maxLen; omega) (by omega) (by simp; omega) (wr.heap.size + 1) (by simp) ?_; intro g3 cap3 w3' hown3 hgrow hat hltg)
        have hrel3 : OwnZ w3' wc.heap.size (.slice (some ⟨g3, 0, none⟩) (i + 1) cap3) (zs ++ [t]) := own_snocZ HZL.out hown3
        have hbw : Below wc.heap.size wc w3' := (HB.out.alloc HB.out.size _).grown hgrow (by have := HB.out.size; simp; omega) (fun k' hk => (HOW.out.lt hk).1)
        have HR3 := Lib.hid (And.intro hrel3 hbw)
        have HT2 := Lib.hid (And.intro ht1 ht2)
        clear hrel3 hbw hown3 hgrow hat htt ht1 ht2 hxx hxx0 hx0 hx1
        go_wp2_with fail
        go_roundw
        case rel => exact ⟨i + 1, g3, cap3, zs ++ [t], by go_num, H6.out, rfl, by rw [List.length_append, HZL.out]; rfl, fun z hz => by
            rcases List.mem_append.1 hz with h | h
            · exact HZB.out z h
            · rw [List.mem_singleton.1 h]; have := HT2.out; omega, HR3.out.1, HR3.out.2⟩
        case measure => simp [intOf]; omega
      · clear hy0' hy1' KA KB
        go_upto_region 13 with fail
        have KL := Lib.hid (listText_gen wr wc.heap.size g4 i cap4 zs HOW.out HZL.out HZB.out (by omega) (HT.out wr HW.out).1)
        have hlt2 := lstR_text HZB.out (by rw [HZL.out]; omega)
        have hll := zTexts_len zs HZB.out
        rw [HZL.out] at hll
        obtain ⟨U, hU⟩ : ∃ U : ByteArray, (⟨(commaL (zTexts zs)).toArray⟩ : ByteArray) = U := ⟨_, rfl⟩
        have hUd : U.data.toList = commaL (zTexts zs) := by rw [← hU]
        have hUs : U.size = (commaL (zTexts zs)).length := by rw [← ba_size, hUd]
        rw [← hUd] at hlt2
        rw [← hUs] at hll
        rw [hU] at KL
        have KR := Lib.hid (fun W (hb : Below w.heap.size w W) => readList_any W U m (by omega) (HM.out W hb) (HT.out W hb).2 (HT.out W hb).1)
        rw [hlt2] at KR
        clear hlt2 hll hU hUd hUs
        go_wp2_with fail
        refine KL.out.mono ?_
        rintro e w5 ⟨rfl, hb5⟩
        have H5 := Lib.hid (And.intro (HW.out.trans (hb5.mono HW.out.size)) hb5)
        clear hb5 KL
        go_wp2_with fail
        refine (KR.out _ H5.out.1).mono ?_
        rintro e w6 ⟨sr, cr, rfl, hor, hb6⟩
        have hor := hor rfl
        have hlr : ((zs, true) : List Int × Bool).1.length = i := HZL.out
        rw [hlr] at hor ⊢
        have KS := Lib.hid (b10Nums_yes w6 w5.heap.size wc.heap.size sr (some ⟨g4, 0, none⟩) i cr cap4 zs hor (HOW.out.below (H5.out.2.trans (hb6.mono H5.out.2.size))) HZL.out (by omega))
        have H6 := Lib.hid (H5.out.1.trans (hb6.mono H5.out.1.size))
        clear hor hb6 hlr KR
        go_wp2_with fail
        refine KS.out.mono ?_
        rintro e w7 ⟨rfl, q, rfl⟩
        go_wp2_with fail
        go_ret
        exact ⟨rfl, below_drewN H6.out q⟩

end Go.Proofs.YtjibghjongplpaaDoor

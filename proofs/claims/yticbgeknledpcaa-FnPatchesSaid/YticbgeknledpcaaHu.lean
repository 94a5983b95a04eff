/- Borders of patches. -/
import Derived.Test.YticbgeknledpcaaHr
namespace Go.Proofs.Yticbgeknledpcaa
open Go.RowKit
set_option maxRecDepth 100000
set_option linter.unusedVariables false
set_option linter.unusedSimpArgs false

/-- Is a cell beside one a value that does not hang together with it? -/
def bordC (ks : List Int) (wd hi : Nat) (mo : Int) (i c : Nat) : Bool := inB (bsx (i % wd : Nat) c) (bsy (i / wd : Nat) c) wd hi && (decide (0 ≤ ks.getD (nbC wd i c) 0) && !hangC ks wd hi mo i c)
def bordN (ks : List Int) (wd hi : Nat) (mo : Int) (i : Nat) : Nat → Bool
  | 0 => false
  | c + 1 => bordN ks wd hi mo i c || bordC ks wd hi mo i c
def bordL (ks : List Int) (wd hi : Nat) (mo : Int) : Nat → List Int
  | 0 => []
  | i + 1 => if (bordN ks wd hi mo i 4 && decide (0 ≤ ks.getD i 0)) = true then bordL ks wd hi mo i ++ [(i : Int)] else bordL ks wd hi mo i
theorem bordL_len (ks : List Int) (wd hi : Nat) (mo : Int) : ∀ i, (bordL ks wd hi mo i).length ≤ i := by
  intro i
  induction i with
  | zero => exact Nat.le_refl _
  | succ i ih =>
    unfold bordL
    split
    · rw [List.length_append]; simp; omega
    · omega
def MakesBord (w : World) (L : List Int) (e : Ending) (w' : World) : Prop :=
  ∃ g c, e = .returned (.tuple #[.slice (some ⟨g, 0, none⟩) L.length c, .bool true]) ∧ OwnI w' w.heap.size (.slice (some ⟨g, 0, none⟩) L.length c) L ∧ Below w.heap.size w w'

set_option maxHeartbeats 8000000 in
theorem bordersOf_q (w : World) (wd hi N q c : Nat) (ks : List Int) (mo : Int) (hv : vPic wd hi N = true) (h : MQ w q c N ks) (hm : mo.natAbs ≤ 1000) (hb : ∀ k ∈ ks, k.natAbs ≤ 500) :
    Calls Try.prog 17 #[.agg #[.int .i64 wd, .int .i64 hi, .slice (some ⟨q, 0, none⟩) N c], .float .f32 (fq 2 mo)] w (MakesBord w (bordL ks wd hi mo N)) := by
  obtain ⟨i0, hi0, hz0, hz1, hz2⟩ := info_parts info_i64
  obtain ⟨e1, e2, e3, e4, e5, e6, e7⟩ := vPic_mul hv
  have hb0 := alb1 w (.cells #[.int .i64 wd, .int .i64 hi, .slice (some ⟨q, 0, none⟩) N c] 26)
  have B := box_last w (.int .i64 wd) (.int .i64 hi) (.slice (some ⟨q, 0, none⟩) N c) 26
  have hkb : ∀ i, (ks.getD i 0).natAbs ≤ 500 := fun i => by
    rw [List.getD_eq_getElem?_getD]
    cases e : ks[i]? with
    | none => decide
    | some z => exact hb z (List.mem_of_getElem? e)
  obtain ⟨W0, hW0⟩ : ∃ W0, W0 = w.alloc (.cells #[.int .i64 wd, .int .i64 hi, .slice (some ⟨q, 0, none⟩) N c] 26) := ⟨_, rfl⟩
  rw [← hW0] at hb0 B
  have KP := Lib.hid (fun w1 (hb1 : Below W0.heap.size W0 w1) => (h.below hb0).pic hb1 (B.below hb1) e1)
  have KV := Lib.hid (fun w' (hb1 : Below W0.heap.size W0 w') i (hi_ : i < N) => show w'.cell? ⟨q, i, none⟩ = some (.float .f32 (fq 2 (ks.getD i 0))) from ((h.below hb0).below hb1).get i hi_)
  have KH := Lib.hid (fun w' (hb1 : Below W0.heap.size W0 w') x y (hx : x < wd) (hy : y < hi) u v => hang_q w' w.heap.size wd hi _ ks x y u v mo hx hy (by omega) (by omega) hm hb (KP.out w' hb1))
  have KM := Lib.hid (fun w' (hb1 : Below W0.heap.size W0 w') x y X Y hX hY (hx : x < wd) (hy : y < hi) => mat_q w' w.heap.size wd hi _ ks x y X Y hX hY hx hy (by omega) (by omega) (KP.out w' hb1))
  have KHA := Lib.hid (fun w' (hb1 : Below W0.heap.size W0 w') u v => mapHas_any w' w.heap.size wd hi _ u v (by omega) (by omega) (KP.out w' hb1).box)
  have hcap := h.cap
  obtain ⟨vm, hvm⟩ : ∃ v, fq 2 mo = v := ⟨_, rfl⟩
  rw [hvm] at KH ⊢
  have HW0 := Lib.hid hW0
  have HB0 := Lib.hid hb0
  have HKB := Lib.hid hkb
  have HNN := Lib.hid e1
  have hsB : w.heap.size < W0.heap.size := B.lt
  clear e1 hvm h hW0 B hb0 hkb hb
  go_enter Try.func17, Try.ntmps17
  go_wp2_with fail
  rw [← HW0.out]
  refine (validMap_any _ _ _ _ _ (by omega) _).mono ?_
  rw [hv]
  rintro e w1 ⟨rfl, hb1⟩
  have hs1 := hb1.size
  have start : OwnI (w1.alloc (.cells #[] 2)) w1.heap.size (.slice (some ⟨w1.heap.size, 0, none⟩) (bordL ks wd hi mo 0).length 0) (bordL ks wd hi mo 0) :=
    ⟨rfl, .inr ⟨w1.heap.size, 0, #[], rfl, Nat.le_refl _, heap_alloc_new w1 _, Nat.le_refl _, by unfold maxLen; omega, rfl, rfl⟩⟩
  have hbs := hb1.trans ((alb1 w1 (.cells #[] 2)).mono hs1)
  have HST := Lib.hid (And.intro start hbs)
  obtain ⟨z0, z1, z2, -, -, -⟩ := (KP.out _ hb1).box.cells
  have z2b : (w1.alloc (.cells #[] 2)).cell? ⟨w.heap.size, 2, none⟩ = some (.slice (some ⟨q, 0, none⟩) N c) := (KP.out _ hbs).box.cells.2.2.1
  have HB1 := Lib.hid hb1
  clear start hbs hb1 hv
  go_wp2_with fail
  clear z0 z1 z2 z2b
  go_loopw [6, 21] (fun v6 v21 wr => ∃ i m g cap : Nat, v21 = .int .i64 i ∧ i ≤ N ∧ m = (bordL ks wd hi mo i).length ∧ v6 = .slice (some ⟨g, 0, none⟩) m cap ∧ OwnI wr w1.heap.size (.slice (some ⟨g, 0, none⟩) m cap) (bordL ks wd hi mo i) ∧ Below W0.heap.size W0 wr ∧ w1.heap.size ≤ wr.heap.size) (fun _ v21 _ => N - (intOf v21).toNat)
  case atStart => exact ⟨0, 0, _, _, rfl, Nat.zero_le _, rfl, rfl, HST.out.1, HST.out.2, by simp⟩
  case round =>
    clear HST
    obtain ⟨i, m, g, cap, rfl, hi_, hml, rfl, hown, hbl, hszr⟩ := hrel
    have HML := Lib.hid hml
    have HOW := Lib.hid hown
    have HBL := Lib.hid hbl
    have hmle : m ≤ i := by rw [hml]; exact bordL_len _ _ _ _ _
    clear hml
    by_cases hlt : i < N
    · have cv := KV.out _ hbl i hlt
      obtain ⟨z0, z1, z2, -, -, -⟩ := (KP.out _ hbl).box.cells
      have kb := HKB.out i
      have lk := le0_fq (k := ks.getD i 0) (by omega)
      obtain ⟨vk, hvk⟩ : ∃ v, fq 2 (ks.getD i 0) = v := ⟨_, rfl⟩
      rw [hvk] at cv lk
      obtain ⟨x, hx⟩ : ∃ x, x = i % wd := ⟨_, rfl⟩
      obtain ⟨y, hy⟩ : ∃ y, y = i / wd := ⟨_, rfl⟩
      obtain ⟨m1, m2⟩ := wrap_modH i wd (by omega)
      have m3 := wrap_divH i wd (by omega)
      rw [← hx] at m1 m2
      rw [← hy] at m3
      have hxl : x < wd := by rw [hx]; exact Nat.mod_lt _ (by omega)
      have hyl : y < hi := by rw [hy]; exact (Nat.div_lt_iff_lt_mul (by omega)).2 (by rw [Nat.mul_comm, ← HNN.out]; exact hlt)
      have wd0 : ¬ wd = 0 := by omega
      have wdI : ¬ (wd : Int) = 0 := by omega
      have HXY := Lib.hid (And.intro hx (And.intro hy (And.intro hxl hyl)))
      have KBE := Lib.hid (fun w' => besides_any w' x y (by rw [Int.natAbs_natCast]; exact Nat.le_trans (Nat.le_of_lt hxl) (Nat.le_trans e3 (by decide))) (by rw [Int.natAbs_natCast]; exact Nat.le_trans (Nat.le_of_lt hyl) (Nat.le_trans e5 (by decide))))
      clear hown hbl hx hy hvk
      go_wp2_with fail
      go_quiet (fail)
      go_wp2_with fail
      refine (KBE.out _).mono ?_
      rintro e w5 ⟨rfl, hb5⟩
      have hb5 : Below wr.heap.size wr w5 := below_undrew hb5
      have HB5 := Lib.hid (HBL.out.trans (hb5.mono HBL.out.size))
      have HO5 := Lib.hid (HOW.out.below hb5)
      have hs5 : w1.heap.size ≤ w5.heap.size := Nat.le_trans hszr hb5.size
      clear hb5 KBE m1 z0 z1 z2
      go_wp2_with fail
      clear m2 m3
      have HLK := Lib.hid lk
      clear lk
      go_loopw [37, 11] (fun v37 v11 wq => ∃ cc : Nat, v37 = .int .i64 cc ∧ cc ≤ 4 ∧ v11 = .bool (bordN ks wd hi mo i cc) ∧ Below w5.heap.size w5 wq) (fun v37 _ _ => 4 - (intOf v37).toNat)
      case atStart => exact ⟨0, rfl, by omega, rfl, Below.refl _ _⟩
      case round =>
        obtain ⟨cc, rfl, hcc, rfl, hbq⟩ := hrel
        have HBQ := Lib.hid hbq
        by_cases hc4 : cc < 4
        · have ccI : (cc : Int) < 4 := by omega
          obtain ⟨hx, hy, hxl, hyl⟩ := HXY.out
          obtain ⟨b1, b2, b3, b4⟩ := bes_bd hxl hyl e3 e5 cc
          have hbx : Below W0.heap.size W0 (wr.alloc (.cells #[.int .i64 (bsx x cc), .int .i64 (bsy y cc)] 75)) := (HB5.out.trans (hbq.mono HB5.out.size)).alloc (Nat.le_trans HB5.out.size hbq.size) _
          have hbq2 : Below w5.heap.size w5 (wr.alloc (.cells #[.int .i64 (bsx x cc), .int .i64 (bsy y cc)] 75)) := hbq.alloc hbq.size _
          have hcl : ∀ w', Below (wr.heap.size + 1) (wr.alloc (.cells #[.int .i64 (bsx x cc), .int .i64 (bsy y cc)] 75)) w' → w'.cell? ⟨wr.heap.size, 0, none⟩ = some (.int .i64 (bsx x cc)) ∧ w'.cell? ⟨wr.heap.size, 1, none⟩ = some (.int .i64 (bsy y cc)) := by
            intro w' hb'
            have e0 := hb'.cell (p := ⟨wr.heap.size, 0, none⟩) (by simp)
            have e1 := hb'.cell (p := ⟨wr.heap.size, 1, none⟩) (by simp)
            rw [e0, e1]
            constructor <;> simp [go_sem]
          have hC : bordC ks wd hi mo i cc = (inB (bsx x cc) (bsy y cc) wd hi && (decide (0 ≤ ks.getD (nbC wd i cc) 0) && !hangF ks wd hi mo i (bsx x cc) (bsy y cc))) := by unfold bordC hangC; rw [hx, hy]
          have hJ : nbC wd i cc = (bsx x cc).toNat + wd * (bsy y cc).toNat := by unfold nbC; rw [hx, hy]
          have hxyh : x + wd * y = i := by rw [hx, hy]; exact Nat.mod_add_div i wd
          have hst : bordN ks wd hi mo i (cc + 1) = (bordN ks wd hi mo i cc || bordC ks wd hi mo i cc) := rfl
          rw [hC, hJ] at hst
          obtain ⟨u, hu⟩ : ∃ u, bsx x cc = u := ⟨_, rfl⟩
          obtain ⟨v, hv⟩ : ∃ v, bsy y cc = v := ⟨_, rfl⟩
          rw [hu, hv] at hcl hbx hst hbq2
          rw [hu] at b1 b2
          rw [hv] at b3 b4
          have HST2 := Lib.hid hst
          have KHG := Lib.hid (fun w' (hb' : Below W0.heap.size W0 w') => by have := KH.out w' hb' x y hxl hyl u v; rw [hxyh] at this; exact this)
          have HBX := Lib.hid hbx
          have HBQ2 := Lib.hid hbq2
          obtain ⟨z0, z1, z2, -, -, -⟩ := (KP.out _ hbx).box.cells
          obtain ⟨c0, c1⟩ := hcl _ (Below.refl _ _)
          have HUV := Lib.hid (And.intro hu hv)
          obtain ⟨acc, hacc⟩ : ∃ acc, bordN ks wd hi mo i cc = acc := ⟨_, rfl⟩
          rw [hacc] at HST2 ⊢
          clear hbq hbx hbq2 hcl hx hy hxl hyl hC hJ hxyh hst hu hv hacc
          cases acc
          · cases hin : inB u v wd hi
            · rw [hin] at HST2
              go_wp2_with fail
              rw [HUV.out.1, HUV.out.2]
              refine (KHA.out _ HBX.out u v).mono ?_
              rw [hin]
              rintro e w' ⟨rfl, rfl⟩
              go_wp2_with fail
              go_roundw
              case rel => exact ⟨cc + 1, by go_num, by omega, by rw [HST2.out]; rfl, HBQ2.out⟩
              case measure => simp [intOf]; omega
            · rw [hin] at HST2
              obtain ⟨n1, n2, n3, n4⟩ := inB_cell hin
              have HUN := Lib.hid (And.intro n1 n2)
              generalize u.toNat = un at *
              generalize v.toNat = vn at *
              obtain rfl : (un : Int) = u := HUN.out.1.symm
              obtain rfl : (vn : Int) = v := HUN.out.2.symm
              have kbj := HKB.out (un + wd * vn)
              have lkj := le0_fq (k := ks.getD (un + wd * vn) 0) (by omega)
              have KM2 := Lib.hid (KM.out _ HBX.out un vn un vn rfl rfl n3 n4)
              generalize ks.getD (un + wd * vn) 0 = kj at *
              clear n1 n2
              by_cases hkj : 0 ≤ kj
              · rw [decide_eq_true hkj] at HST2 lkj
                have HLJ := Lib.hid lkj
                clear lkj
                go_wp2_with fail
                rw [HUV.out.1, HUV.out.2]
                refine (KHA.out _ HBX.out _ _).mono ?_
                rw [hin]
                rintro e w' ⟨rfl, rfl⟩
                go_wp2_with fail
                refine KM2.out.mono ?_
                rintro e w' ⟨rfl, n, rfl⟩
                go_wp2_with fail
                refine (noHole_any _ _).mono ?_
                rw [HLJ.out]
                rintro e w' ⟨rfl, rfl⟩
                go_wp2_with fail
                refine (KHG.out _ (below_drewN HBX.out n)).mono ?_
                rintro e w' ⟨rfl, n2, rfl⟩
                go_wp2_with fail
                go_roundw
                case rel => exact ⟨cc + 1, by go_num, by omega, by rw [HST2.out]; rfl, by first | exact below_drewN HBQ2.out _ | exact below_drewN (below_drewN HBQ2.out _) _⟩
                case measure => simp [intOf]; omega
              · rw [decide_eq_false hkj] at HST2 lkj
                have HLJ := Lib.hid lkj
                clear lkj
                go_wp2_with fail
                rw [HUV.out.1, HUV.out.2]
                refine (KHA.out _ HBX.out _ _).mono ?_
                rw [hin]
                rintro e w' ⟨rfl, rfl⟩
                go_wp2_with fail
                refine KM2.out.mono ?_
                rintro e w' ⟨rfl, n, rfl⟩
                go_wp2_with fail
                refine (noHole_any _ _).mono ?_
                rw [HLJ.out]
                rintro e w' ⟨rfl, rfl⟩
                go_wp2_with fail
                go_roundw
                case rel => exact ⟨cc + 1, by go_num, by omega, by rw [HST2.out]; rfl, below_drewN HBQ2.out _⟩
                case measure => simp [intOf]; omega
          · go_wp2_with fail
            go_roundw
            case rel => exact ⟨cc + 1, by go_num, by omega, by rw [HST2.out]; rfl, by have := HBQ2.out; rw [← HUV.out.1, ← HUV.out.2] at this; exact this⟩
            case measure => simp [intOf]; omega
        · obtain rfl : cc = 4 := by omega
          have HO6 := Lib.hid (HO5.out.below hbq)
          have HB6 := Lib.hid (HB5.out.trans (hbq.mono HB5.out.size))
          have hs6 : w1.heap.size ≤ wr.heap.size := Nat.le_trans hs5 hbq.size
          have hsL : bordL ks wd hi mo (i + 1) = if (bordN ks wd hi mo i 4 && decide (0 ≤ ks.getD i 0)) = true then bordL ks wd hi mo i ++ [(i : Int)] else bordL ks wd hi mo i := rfl
          have HSL := Lib.hid hsL
          clear hbq hsL
          cases hb4 : bordN ks wd hi mo i 4
          · rw [hb4] at HSL
            go_wp2_with fail
            go_roundw
            case rel => exact ⟨i + 1, m, g, cap, by go_num, by omega, by rw [HSL.out]; exact HML.out, rfl, by rw [HSL.out]; exact HO6.out, HB6.out, hs6⟩
            case measure => simp [intOf]; omega
          · by_cases hk0 : 0 ≤ ks.getD i 0
            · rw [hb4, decide_eq_true hk0] at HSL
              rw [decide_eq_true hk0] at HLK
              have hos := HO6.out
              unfold OwnI at hos
              rw [← HML.out] at hos
              clear hb4 hk0
              go_wp2_with fail
              refine (noHole_any _ _).mono ?_
              rw [HLK.out]
              rintro e w' ⟨rfl, rfl⟩
              go_wp2_with (at_builtin; refine wpList_append_lies _ (by rfl) _ _ _ (by rfl) w1.heap.size 2 i0 _ 1 8 Try.underlying39 hi0 hz0 hz1 hz2 rfl (by omega) (.slice (some ⟨g, 0, none⟩) m cap) m _ (by rfl) (World.ownsRow.alloc hos _) ⟨wr.heap.size, 0, none⟩ 1 1 [.int .i64 i] (by rfl) (by rfl) (cell_one_new _ _ _) (by simp [Value.oneCell']) (by omega) (by unfold maxLen; omega) (by omega) (by simp; omega) (wr.heap.size + 1) (by simp) ?_; intro g2 cs2 w2 hown2 hgrow2 hat2 hlt2)
              go_roundw
              case rel =>
                have hg := (HO6.out.lt (k := g) rfl).1
                refine ⟨i + 1, m + 1, g2, cs2, by go_num, by omega, by rw [HSL.out]; simp [← HML.out], rfl, ?_, ?_, ?_⟩
                · rw [HSL.out]
                  unfold OwnI
                  simp only [Bool.and_self, if_true, List.length_append, List.map_append, List.length_singleton, ← HML.out]
                  exact hown2
                · exact (HB6.out.alloc HB6.out.size _).grown hgrow2 (by have := HB6.out.size; simp; omega) (fun k hk => by simp [Value.ownBlock] at hk; omega)
                · have := hgrow2.size; simp at this; omega
              case measure => simp [intOf]; omega
            · rw [hb4, decide_eq_false hk0] at HSL
              rw [decide_eq_false hk0] at HLK
              clear hb4 hk0
              go_wp2_with fail
              refine (noHole_any _ _).mono ?_
              rw [HLK.out]
              rintro e w' ⟨rfl, rfl⟩
              go_wp2_with fail
              go_roundw
              case rel => exact ⟨i + 1, m, g, cap, by go_num, by omega, by rw [HSL.out]; exact HML.out, rfl, by rw [HSL.out]; exact HO6.out, HB6.out, hs6⟩
              case measure => simp [intOf]; omega
    · obtain rfl : N = i := by omega
      clear hown hbl
      go_wp2_with fail
      first | go_ret2 | go_ret
      have h0 := HOW.out
      have hbb := HB0.out.trans (HBL.out.mono HB0.out.size)
      rw [HML.out] at h0 ⊢
      exact ⟨g, cap, rfl, h0.base (by have := HB0.out.size; omega), hbb⟩

end Go.Proofs.Yticbgeknledpcaa

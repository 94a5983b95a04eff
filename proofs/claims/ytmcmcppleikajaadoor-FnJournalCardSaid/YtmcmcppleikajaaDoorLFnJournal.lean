/- The law FnJournal: its walk. -/
import Derived.Test.YtmcmcppleikajaaDoorCe
import Derived.Test.YtmcmcppleikajaaDoorBl
import Derived.Test.YtmcmcppleikajaaDoorBf
import Derived.Test.YtmcmcppleikajaaDoorAt
import Derived.Test.YtmcmcppleikajaaDoorLaw
namespace Go.Proofs.YtmcmcppleikajaaDoor
open Go.RowKit
set_option maxRecDepth 100000
set_option linter.unusedVariables false
set_option linter.unusedSimpArgs false

theorem conv_oneJ (y : Nat) (hy : y < 256) (W : World) (b : Nat) (h : W.cell? ⟨b, 0, none⟩ = some (.int .u8 (y : Int))) : (convert 22 9 (.slice (some ⟨b, 0, none⟩) 1 1)).run Tryd.prog W = .ok (.string ⟨#[UInt8.ofNat y]⟩) W := by
  refine run_convert_bytes_back W 22 9 5 ⟨b, 0, none⟩ 1 [UInt8.ofNat y] (by rfl) (by rfl) (by rfl) fun j hj => ?_
  have hj0 : j = 0 := by simpa using hj
  subst hj0
  have e : ((UInt8.ofNat y).toNat : Int) = (y : Int) := by rw [UInt8.toNat_ofNat']; omega
  show W.cell? ⟨b, 0, none⟩ = some (.int .u8 ((UInt8.ofNat y).toNat : Int))
  rw [e]; exact h
theorem sumJ_small : ∀ (P : List (List UInt8)), (∀ p ∈ P, p.length ≤ 600) → sumJ P ≤ 603 * P.length
  | [], _ => by simp [sumJ]
  | p :: P, h => by
    have h1 := sumJ_small P (fun q hq => h q (List.mem_cons_of_mem _ hq))
    have h2 := h p (List.mem_cons_self ..)
    have h3 := sumJ_app [p] P
    rw [List.singleton_append] at h3
    have h4 : sumJ [p] = p.length + 3 := by simp [sumJ]
    rw [h3, h4, List.length_cons]
    omega
theorem jOk_small {P : List (List UInt8)} (h : ∀ p ∈ P, p.length ≤ 600 ∧ noNl p = true) (hn : P.length ≤ 6) : P.all noNl = true ∧ (jrn 0 P).length ≤ 5000 := by
  refine ⟨List.all_eq_true.2 fun p hp => (h p hp).2, ?_⟩
  have h1 := jrn_le P 0 (by decide)
  have h2 := sumJ_small P (fun p hp => (h p hp).1)
  omega
/-- JournalOf of lines whose journal is right. -/
theorem jOf_yes (W : World) (g n c : Nat) (P : List (List UInt8)) (h : StrAt W g P) (hn : P.length = n) (ha : P.all noNl = true) (hl : (jrn 0 P).length ≤ 12000) (ht : TabT W) :
    Calls Tryd.prog 7 #[.slice (some ⟨g, 0, none⟩) n c] W fun e w' => ∃ u : ByteArray, e = .returned (.tuple #[.string u, .bool true]) ∧ u.data.toList = jrn 0 P ∧ Below W.heap.size W w' := by
  have h1 := sumJ_jrn P 0
  have h2 := sumJ_len P
  refine (iJournalOf_any W g n c P h hn (by omega) (fun p hp => by have := jrn_mem hp; omega) ht).mono ?_
  rintro e w' ⟨rfl, hb⟩
  obtain ⟨e1, e2⟩ := jOk_of ha hl
  rw [e1, e2]
  exact ⟨_, rfl, by simp, hb⟩
/-- RecoverJournal of a text that is not too long. -/
theorem rec_yes (W : World) (s : ByteArray) (m : Int) (hs : s.size ≤ 12000) (hm : W.cell? ⟨0, 0, none⟩ = some (.int .i64 m)) (ht : TabT W) :
    Calls Tryd.prog 9 #[.string s] W fun e w' => ∃ g n c M, e = .returned (.tuple #[.slice (some ⟨g, 0, none⟩) n c, .int .i64 (M : Nat), .bool true]) ∧ n = (recJ 0 (lnsL s.data.toList)).1.length ∧ M = (recJ 0 (lnsL s.data.toList)).2 ∧ StrAt w' g (recJ 0 (lnsL s.data.toList)).1 ∧ Below W.heap.size W w' := by
  refine (iRecJ_any W s m (by omega) hm ht).mono ?_
  rintro e w' ⟨hb, ⟨h1, rfl⟩ | ⟨h1, g, cap, rfl, ho⟩⟩
  · omega
  · exact ⟨g, _, cap, _, rfl, rfl, rfl, ho.strAt, hb⟩

set_option maxHeartbeats 40000000 in
theorem fnJournal_walk (w : World) (a0 a1 : Option Addr) (l0 c0 l1 c1 : Nat) (hx : (l0 ≤ 1048576 ∧ l1 ≤ 1048576) → BytesIn w a0 l0 ∧ BytesIn w a1 l1) (m0 : l0 ≤ 9223372036854775807) (m1 : l1 ≤ 9223372036854775807) (m : Int) (hm : w.cell? ⟨0, 0, none⟩ = some (.int .i64 m)) (ht : TabT w) :
    Calls Tryd.prog 3 #[.slice a0 l0 c0, .slice a1 l1 c1] w fun e w' => e = .returned (.bool true) ∧ Below w.heap.size w w' := by
  by_cases hl : l0 ≤ 1048576 ∧ l1 ≤ 1048576
  case neg =>
    clear hx hm ht
    go_enter Tryd.func3, Tryd.ntmps3
    go_wp2_with fail
    refine (b10Long_yes _ _ _ _ _ _ _ m0 m1 hl).mono ?_
    rintro e w' ⟨rfl, rfl⟩
    go_wp2_with fail
    go_ret
    exact ⟨rfl, Below.refl _ _⟩
  obtain ⟨hb0, hb1⟩ := hx hl
  obtain ⟨h0, h1⟩ := hl
  have hml := World.block_lt_of_cell? _ _ hm
  have HM := Lib.hid (fun W (hb : Below w.heap.size w W) => (show W.cell? ⟨0, 0, none⟩ = some (.int .i64 m) from (hb.cell (p := ⟨0, 0, none⟩) hml).trans hm))
  have HT := Lib.hid (fun W (hb : Below w.heap.size w W) => ht.below hb)
  have HB0 := Lib.hid (fun W (hb : Below w.heap.size w W) => hb0.below hb)
  have HB1 := Lib.hid (fun W (hb : Below w.heap.size w W) => hb1.below hb)
  have KD := Lib.hid (b10Desk_any w a1 l1 c1 hb1)
  clear hx hm ht hb0 hb1 hml m0 m1
  go_enter Tryd.func3, Tryd.ntmps3
  go_wp2_with fail
  refine (b10Long_no _ _ _ _ _ _ _ h0 h1).mono ?_
  rintro e w' ⟨rfl, rfl⟩
  go_wp2_with fail
  refine KD.out.mono ?_
  rintro e w1 ⟨da, db, s1, s2, s3, n1, n2, n3, k1, k2, k3, rfl, hw1⟩
  have H1 := Lib.hid hw1
  clear hw1 KD
  go_wp2_with fail
  refine (b10Lines_any w1 a0 l0 c0 (HB0.out _ H1.out) _ _ _ _ _ _ _ _ _ _ _).mono ?_
  rintro e w2 ⟨g, n, c, P, rfl, hPl, hn6, hP, ho, hb⟩
  obtain ⟨hall, hjl⟩ := jOk_small hP (by omega)
  have H2 := Lib.hid (And.intro (H1.out.trans (hb.mono H1.out.size)) ho.strAt)
  have HP := Lib.hid (And.intro hPl (And.intro hall hjl))
  clear hb ho hP hall hjl hPl H1 HB0
  go_wp2_with fail
  refine (jOf_yes w2 g n c P H2.out.2 HP.out.1 HP.out.2.1 (by have := HP.out.2.2; omega) (HT.out _ H2.out.1)).mono ?_
  rintro e w3 ⟨t, rfl, htl, hb3⟩
  have H3 := Lib.hid (And.intro (H2.out.1.trans (hb3.mono H2.out.1.size)) (H2.out.2.below hb3))
  have htz : t.size = (jrn 0 P).length := by rw [← htl, ba_size]
  have hpos : n = 0 ↔ t.size = 0 := by
    have q1 := sumJ_jrn P 0
    have q2 := sumJ_len P
    rw [htz, ← HP.out.1]
    constructor
    · intro h
      have : P = [] := List.eq_nil_of_length_eq_zero h
      rw [this]; rfl
    · intro h; omega
  have htz5 : t.size ≤ 5000 := by rw [htz]; exact HP.out.2.2
  have HTL := Lib.hid (And.intro htl htz)
  clear hb3 htl htz H2
  by_cases hz : t.size = 0
  · have hn0 := hpos.2 hz
    have e1 : ((t.size : Int) == 0) = true := by rw [hz]; simp
    have e2 : ((n : Int) == 0) = true := by rw [hn0]; simp
    clear hpos
    go_wp2_with fail
    go_ret
    exact ⟨rfl, H3.out.1⟩
  obtain ⟨N, hN⟩ : ∃ N, N = t.size := ⟨_, rfl⟩
  have hN5 : N ≤ 5000 := by omega
  have hN0 : 1 ≤ N := by omega
  have e1 : ((t.size : Int) == 0) = false := by rw [beq_eq_false_iff_ne]; omega
  clear hpos
  go_wp2_with fail
  refine (b10At_a _ _ _ _ 0 256 (by omega) (by omega) (by omega) (HB1.out _ H3.out.1)).mono ?_
  rintro e w' ⟨x, rfl, x0, x1, rfl⟩
  go_wp2_with fail
  refine (b10At_a _ _ _ _ 1 256 (by omega) (by omega) (by omega) (HB1.out _ H3.out.1)).mono ?_
  rintro e w' ⟨y, rfl, y0, y1, rfl⟩
  go_upto_region 10 with fail
  obtain ⟨A, hA, hAN⟩ : ∃ A : Nat, (x * 256 + y) % (t.size : Int) = (A : Int) ∧ A < t.size := by
    have h1 := Int.emod_nonneg (x * 256 + y) (show (t.size : Int) ≠ 0 by omega)
    have h2 := Int.emod_lt_of_pos (x * 256 + y) (show 0 < (t.size : Int) by omega)
    exact ⟨((x * 256 + y) % (t.size : Int)).toNat, by omega, by omega⟩
  rw [hA]
  clear hA x0 x1 y0 y1
  have hAI : (A : Int) ≤ (t.size : Int) := by omega
  obtain ⟨k, hk, hrec, hcnt, hMA, hpre, hany⟩ := cut_law P A HP.out.2.1 (by rw [← HTL.out.2]; omega)
  obtain ⟨Q, hQ⟩ : ∃ Q, Q = P.take k := ⟨_, rfl⟩
  obtain ⟨M, hMM⟩ : ∃ M, M = (jrn 0 Q).length := ⟨_, rfl⟩
  rw [← hQ, ← hMM] at hrec hMA hpre hany
  have hQl : Q.length = k := by rw [hQ, List.length_take]; omega
  have hQa : Q.all noNl = true := by
    have h := HP.out.2.1
    rw [List.all_eq_true] at h ⊢
    exact fun p hp => h p (by rw [hQ] at hp; exact List.mem_of_mem_take hp)
  have hM5 : M ≤ A := hMA
  have hsl : ∀ a, (t.extract 0 a).data.toList = (jrn 0 P).take a := fun a => by
    rw [← HTL.out.1]; simp
  have KR := Lib.hid (fun W (hb : Below w.heap.size w W) => (show Calls Tryd.prog 9 #[.string (t.extract 0 A)] W fun e w' => ∃ g1 cap, e = .returned (.tuple #[.slice (some ⟨g1, 0, none⟩) k cap, .int .i64 (M : Nat), .bool true]) ∧ StrAt w' g1 Q ∧ Below W.heap.size W w' from by
    have hz : (t.extract 0 A).size ≤ 12000 := by rw [ByteArray.size_extract]; omega
    refine (rec_yes W (t.extract 0 A) m hz (HM.out W hb) (HT.out W hb)).mono ?_
    rintro e w' ⟨g1, n', cap, M', rfl, e1, e2, h1, h2⟩
    rw [hsl, hrec] at e1 e2 h1
    rw [e1, e2]
    have hQl2 : (Q, M).1.length = k := hQl
    exact ⟨g1, cap, by rw [hQl2], h1, h2⟩))
  have KU := Lib.hid (fun W g1 cap (hb : Below w.heap.size w W) (h : StrAt W g1 Q) => jOf_yes W g1 k cap Q h hQl hQa (by rw [← hMM]; omega) (HT.out W hb))
  have HU := Lib.hid (fun (u : ByteArray) (h : u.data.toList = jrn 0 Q) => (show t.extract 0 M = u from by
    have h2 : (t.extract 0 M).data.toList = u.data.toList := by rw [hsl, h, hpre]
    have e1 := ba_ofT h2
    rw [e1]))
  have HCN := Lib.hid (show (t.data.toList.take A).count 10 = k by rw [HTL.out.1]; exact hcnt)
  have HANY := Lib.hid (And.intro hany hsl)
  have HQQ := Lib.hid (And.intro hQ (And.intro hQl (And.intro hMM hk)))
  have hMI : (M : Int) ≤ (A : Int) := by omega
  have hMI2 : ¬ (A : Int) < (M : Int) := by omega
  have hMI3 : (M : Int) ≤ (t.size : Int) := by omega
  have hM0 : ¬ (M : Int) < 0 := by omega
  have htI : t.size ≤ 5000 := by omega
  clear hrec hcnt hMA hpre hany hQl hQa hsl hQ hMM hk
  go_wp2_with fail
  refine (KR.out _ H3.out.1).mono ?_
  rintro e w4 ⟨g1, cap1, rfl, hst1, hb4⟩
  have H4 := Lib.hid (And.intro (H3.out.1.trans (hb4.mono H3.out.1.size)) (And.intro (H3.out.2.below hb4) hst1))
  clear hst1 hb4 H3
  go_wp2_with fail
  refine (KU.out _ _ _ H4.out.1 H4.out.2.2).mono ?_
  rintro e w5 ⟨u, rfl, hul, hb5⟩
  have hue := HU.out u hul
  have H5 := Lib.hid (And.intro (H4.out.1.trans (hb5.mono H4.out.1.size)) (And.intro (H4.out.2.1.below hb5) (H4.out.2.2.below hb5)))
  have hJJ : (u.toList == u.toList) = true := by simp
  have HUE := Lib.hid hue
  clear hul hb5 H4 KU HU KR hue
  go_wp2_with fail
  go_loopw [14, 15] (fun v14 v15 wr => ∃ i : Nat, v14 = .int .i64 ((t.data.toList.take i).count 10 : Nat) ∧ v15 = .int .i64 i ∧ i ≤ A ∧ Below w5.heap.size w5 wr) (fun _ v15 _ => A - (intOf v15).toNat)
  case atStart => exact ⟨0, by simp, rfl, Nat.zero_le _, Below.refl _ _⟩
  case round =>
    obtain ⟨i, rfl, rfl, hiA, hbr⟩ := hrel
    obtain ⟨q, hq⟩ : ∃ q, (t.data.toList.take i).count 10 = q := ⟨_, rfl⟩
    rw [hq]
    by_cases hlt : i < A
    · have hltI : (i : Int) < (A : Int) := by omega
      have hstep : ∀ b : UInt8, t.data.toList[i]? = some b → (t.data.toList.take (i + 1)).count 10 = q + if b = 10 then 1 else 0 := fun b hb => by
        rw [List.take_add_one, hb, List.count_append, hq]
        congr 1
        by_cases hbb : b = 10 <;> simp [hbb]
      obtain ⟨b, hb⟩ : ∃ b, t.data.toList[i]? = some b := ⟨_, List.getElem?_eq_getElem (by rw [ba_size]; omega)⟩
      have hbn : byteN t i = b.toNat := by unfold byteN; simp [hb]
      have hidx : ∀ W', (Instr.index 9 (.string t) (.int .i64 (i : Int))).run Tryd.prog W' = .ok (.int .u8 ((b.toNat : Nat) : Int)) W' := fun W' => by
        have := idx_at W' t (i : Int) (by omega) (by omega)
        rwa [Int.toNat_natCast, hbn] at this
      have hst := hstep b hb
      have HBR := Lib.hid hbr
      have hq9 : q ≤ 5000 := by
        have h1 := List.count_le_length (a := (10 : UInt8)) (l := t.data.toList.take i)
        rw [hq, List.length_take] at h1; omega
      clear hstep hb hbn hq hbr
      by_cases hb10 : b = 10
      · have hbI : ((b.toNat : Int) == 10) = true := by rw [hb10]; decide
        have HST := Lib.hid (show (t.data.toList.take (i + 1)).count 10 = q + 1 by rw [hst, if_pos hb10])
        clear hst hb10
        go_wp2_with fail
        go_roundw
        case rel => exact ⟨i + 1, by rw [HST.out]; go_num, by go_num, by omega, HBR.out⟩
        case measure => simp [intOf]; omega
      · have hbI : ((b.toNat : Int) == 10) = false := by
          rw [beq_eq_false_iff_ne]
          intro e
          exact hb10 (UInt8.toNat_inj.1 (by rw [show (10 : UInt8).toNat = 10 from rfl]; omega))
        have HST := Lib.hid (show (t.data.toList.take (i + 1)).count 10 = q by rw [hst, if_neg hb10]; omega)
        clear hst hb10
        go_wp2_with fail
        go_roundw
        case rel => exact ⟨i + 1, by rw [HST.out], by go_num, by omega, HBR.out⟩
        case measure => simp [intOf]; omega
    · obtain rfl : A = i := by omega
      have hlt2 : ¬ (A : Int) < (A : Int) := by omega
      obtain rfl : k = q := by rw [← hq, HCN.out]
      have H6 := Lib.hid (And.intro (H5.out.1.trans (hbr.mono H5.out.1.size)) (And.intro (H5.out.2.1.below hbr) (H5.out.2.2.below hbr)))
      have hue := HUE.out
      have hkk : ((k : Int) != (k : Int)) = false := by simp
      have hkkn : (k != k) = false := by simp
      clear hq hbr hlt H5
      rename World => W6
      have hPG := Lib.hid (fun i (hi : i < k) => (show P.getD i [] = Q.getD i [] ∧ i < P.length ∧ i < Q.length from by
        obtain ⟨q1, q2, -, q4⟩ := HQQ.out
        refine ⟨?_, by omega, by omega⟩
        rw [q1, List.getD_eq_getElem?_getD, List.getD_eq_getElem?_getD, List.getElem?_take, if_pos hi]))
      have hkn : k ≤ n := by have := HQQ.out.2.2.2; rw [HP.out.1] at this; exact this
      go_wp2_with fail
      go_loopw [16] (fun v16 wr => ∃ i q : Nat, v16 = .int .i64 i ∧ i ≤ k ∧ wr = W6.drewN q) (fun v16 _ => k - (intOf v16).toNat)
      case atStart => exact ⟨0, 0, rfl, Nat.zero_le _, rfl⟩
      case round =>
        obtain ⟨i, q, rfl, hi, rfl⟩ := hrel
        by_cases hlt : i < k
        · have hltI : (i : Int) < (k : Int) := by omega
          have hltn : (i : Int) < (n : Int) := by omega
          obtain ⟨f1, f2, f3⟩ := hPG.out i hlt
          have k1 := H6.out.2.2.2 i f3
          have k2 := H6.out.2.1.2 i f2
          rw [f1] at k2
          obtain ⟨z, hz⟩ : ∃ z : ByteArray, z = ⟨(Q.getD i []).toArray⟩ := ⟨_, rfl⟩
          rw [← hz] at k1 k2
          have k1' : ∀ q, (W6.drewN q).cell? ⟨g1, i, none⟩ = some (.string z) := fun _ => k1
          have k2' : ∀ q, (W6.drewN q).cell? ⟨g, i, none⟩ = some (.string z) := fun _ => k2
          have k1q := k1' q
          have k2q := k2' q
          have hzz : (z.toList == z.toList) = true := by simp
          clear hz f1 f2 f3
          go_wp2_with fail
          go_quiet (fail)
          go_wp2_with fail
          go_roundw
          case rel => exact ⟨i + 1, _, by go_num, by omega, rfl⟩
          case measure => simp [intOf]; omega
        · have hnlt : ¬ (i : Int) < (k : Int) := by omega
          obtain ⟨wc, hwc⟩ : ∃ wc, W6.drewN q = wc := ⟨_, rfl⟩
          have hbel : Below w.heap.size w wc := by rw [← hwc]; exact below_drewN H6.out.1 q
          rw [hwc]
          clear hwc hlt
          have hbg1 : (9223372036854775807 < A + 1) = False := eq_false (by omega)
          have hbg2 : (9223372036854775807 < A + 1 + (t.size - (A + 1))) = False := eq_false (by omega)
          have hz1 : (t.extract 0 A).size = A := by rw [ByteArray.size_extract]; omega
          have hz2 : (t.extract (A + 1) t.size).size = t.size - (A + 1) := by rw [ByteArray.size_extract]; omega
          have hA1 : (A : Int) + 1 ≤ (t.size : Int) := by omega
          have hA3 : (0 : Int) ≤ (A : Int) + 1 := by omega
          have hA4 : ((A : Int) + 1).toNat = A + 1 := by omega
          have hw1 : IntKind.i64.wrap ((A : Int) + 1) = (A : Int) + 1 := IntWalk.i64_in _ (by omega)
          have hbD := HB1.out _ (hbel.drew)
          clear hue
          go_upto_region 25 with fail
          go_region_law ((go_simp; refine (b10At_a _ _ _ _ 2 256 (by omega) (by omega) (by omega) hbD).mono ?_; rintro e w' ⟨z, rfl, z0, z1, rfl⟩; obtain ⟨y2, rfl⟩ := Int.eq_ofNat_of_zero_le z0; have hy2 : y2 < 256 := (by omega); have hwz : IntKind.u8.wrap (y2 : Int) = (y2 : Int) := IntWalk.u8_in _ (by omega); have hcv := conv_oneJ y2 hy2 (wc.alloc (.cells #[.int .u8 (y2 : Int)] 5)).drew wc.heap.size ((BoxN.last wc #[.int .u8 (y2 : Int)] 5).cell 0); have hzb : ({ data := #[UInt8.ofNat y2] } : ByteArray).size = 1 := rfl))
          all_goals
            obtain ⟨ub, hub⟩ : ∃ ub, t.extract 0 A ++ { data := #[UInt8.ofNat y2] } ++ t.extract (A + 1) t.size = ub := ⟨_, rfl⟩
            have hut : ub.data.toList.take A = (jrn 0 P).take A := by
              rw [← hub, ba_appT, ba_appT, List.append_assoc, HANY.out.2, List.take_append_of_le_length (by rw [List.length_take, ← HTL.out.2]; omega), List.take_take, Nat.min_self]
            have huz : ub.size = t.size := by
              rw [← hub, ByteArray.size_append, ByteArray.size_append, hz1, hz2, hzb]; omega
            have hMm := HANY.out.1 _ hut
            obtain ⟨hr1, hr2, hr3⟩ := recJ_all ub.data.toList
            rw [ba_size] at hr1
            obtain ⟨Q2, hQ2⟩ : ∃ Q2, (recJ 0 (lnsL ub.data.toList)).1 = Q2 := ⟨_, rfl⟩
            obtain ⟨M2, hM2⟩ : ∃ M2, (recJ 0 (lnsL ub.data.toList)).2 = M2 := ⟨_, rfl⟩
            have hal : Below wc.heap.size wc (wc.alloc (.cells #[.int .u8 (y2 : Int)] 5)) := (Below.refl _ _).alloc (Nat.le_refl _) _
            have hal2 : Below wc.heap.size wc (wc.alloc (.cells #[.int .u8 (y2 : Int)] 5)).drew := below_drewN hal 1
            have hbel2 := hbel.trans (hal2.mono hbel.size)
            have KR2 := Lib.hid (show Calls Tryd.prog 9 #[.string ub] (wc.alloc (.cells #[.int .u8 (y2 : Int)] 5)).drew fun e w' => ∃ g2 n' cap, e = .returned (.tuple #[.slice (some ⟨g2, 0, none⟩) n' cap, .int .i64 (M2 : Nat), .bool true]) ∧ Q2.length = n' ∧ StrAt w' g2 Q2 ∧ Below w.heap.size w w' from by
              refine (rec_yes _ ub m (by omega) (HM.out _ hbel2) (HT.out _ hbel2)).mono ?_
              rintro e w' ⟨g2, n', cap, M', rfl, e1, e2, h1, h2⟩
              rw [hQ2] at e1 h1
              rw [hM2] at e2
              rw [e2]
              exact ⟨g2, n', cap, rfl, e1.symm, h1, hbel2.trans (h2.mono hbel2.size)⟩)
            rw [hQ2] at hr2 hr3
            rw [hM2] at hr1 hr2 hMm
            have KU2 := Lib.hid (fun W g2 n' cap (hb : Below w.heap.size w W) (hn' : Q2.length = n') (h : StrAt W g2 Q2) => jOf_yes W g2 n' cap Q2 h hn' hr3 (by rw [hr2, List.length_take]; omega) (HT.out W hb))
            have HV := Lib.hid (fun (v : ByteArray) (h : v.data.toList = jrn 0 Q2) => (show ub.extract 0 M2 = v from by
              have h2 : (ub.extract 0 M2).data.toList = v.data.toList := by rw [h, hr2]; simp
              rw [ba_ofT h2]))
            have hmn : decide ((M : Int) ≤ (M2 : Int)) = true := decide_eq_true (by omega)
            have hmI0 : (M : Int) ≤ (M2 : Int) := by omega
            have hmu : decide ((M2 : Int) ≤ (ub.size : Int)) = true := decide_eq_true (by omega)
            have hmI : (M2 : Int) ≤ (ub.size : Int) := by omega
            clear hut hal hal2 hcv hwz hy2 hbg1 hbg2 hz1 hz2 hzb hbD hr1 hr2 hr3 hMm hQ2 hM2 hbel hbel2 z0 z1 hA1 hA3 hA4 hw1
            go_wp2_with fail
            refine KR2.out.mono ?_
            rintro e wG ⟨g2, n', cap2, rfl, hn', hst2, hbG⟩
            have HG := Lib.hid (And.intro hbG (And.intro hn' hst2))
            clear hbG hn' hst2 hub
            go_wp2_with fail
            refine (KU2.out _ _ _ _ HG.out.1 HG.out.2.1 HG.out.2.2).mono ?_
            rintro e wH ⟨v, rfl, hv, hbH⟩
            have hve := HV.out v hv
            have hvv : (v.toList == v.toList) = true := by simp
            have HH := Lib.hid (HG.out.1.trans (hbH.mono HG.out.1.size))
            clear hv hbH KR2 KU2 HV
            go_wp2_with fail
            go_ret
            exact ⟨rfl, HH.out⟩

end Go.Proofs.YtmcmcppleikajaaDoor

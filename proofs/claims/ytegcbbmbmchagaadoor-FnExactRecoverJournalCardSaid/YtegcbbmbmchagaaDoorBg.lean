/- RecoverJournal: the reference's, of any text. -/
import Derived.Test.YtegcbbmbmchagaaDoorBf
namespace Go.Proofs.YtegcbbmbmchagaaDoor
open Go.RowKit
set_option maxRecDepth 100000
set_option linter.unusedVariables false
set_option linter.unusedSimpArgs false

theorem sp_lt {p : List UInt8} {j : Nat} (h : j < spI p) : j < p.length ∧ p[j]? ≠ some 32 := by
  rcases sp_split p with ⟨h1, h2, h3⟩ | ⟨h1, h2⟩
  · refine ⟨by omega, fun e => ?_⟩
    have hj : j < p.length := by omega
    have h4 : p[j] ∈ p.take (spI p) := by
      have h5 : (p.take (spI p))[j]? = some p[j] := by rw [List.getElem?_take, if_pos h]; exact List.getElem?_eq_getElem hj
      exact List.mem_of_getElem? h5
    rw [List.getElem?_eq_getElem hj] at e
    injection e with e
    exact h3 _ h4 e
  · refine ⟨by omega, fun e => ?_⟩
    have hj : j < p.length := by omega
    rw [List.getElem?_eq_getElem hj] at e
    injection e with e
    exact h2 _ (List.getElem_mem hj) e
theorem sp_at {p : List UInt8} (h : spI p < p.length) : p[spI p]? = some 32 := by
  rcases sp_split p with ⟨h1, h2, h3⟩ | ⟨h1, h2⟩
  · have h4 : (p.take (spI p) ++ 32 :: linB p)[spI p]? = some 32 := by
      rw [List.getElem?_append_right (by rw [List.length_take]; omega), List.length_take, show spI p - min (spI p) p.length = 0 by omega]
      rfl
    rw [← h2] at h4
    exact h4
  · omega
theorem sp_le (p : List UInt8) : spI p ≤ p.length := by
  rcases sp_split p with ⟨h1, -⟩ | ⟨h1, -⟩ <;> omega
theorem byteN_ne {l : List UInt8} {i : Nat} (h : i < l.length) : ((byteN ⟨l.toArray⟩ i : Int) == 32) = decide (l[i]? = some 32) := byteN_eq (s := ⟨l.toArray⟩) (c := 32) (by rw [ba_sz]; exact h)
theorem OwnS.mono {w : World} {B B' : Nat} {v : Value} {P : List (List UInt8)} (h : OwnS w B v P) (hB : B' ≤ B) : OwnS w B' v P :=
  ⟨h.1, by
    rcases h.2 with h1 | ⟨g, cap, cur, a, b, c⟩
    · exact .inl h1
    · exact .inr ⟨g, cap, cur, a, Nat.le_trans hB b, c⟩⟩
theorem lns_mem {l p : List UInt8} (h : p ∈ lnsL l) : p.length ≤ l.length := (cutL_mem (c := 10) ((List.dropLast_subset _) h)).2

set_option maxHeartbeats 4000000 in
theorem s08Recover_any (w : World) (s : ByteArray) (hs : s.size ≤ 12000) :
    Calls Tryd.prog 26 #[.string s] w fun e w' => ∃ g cap, e = .returned (.tuple #[.slice (some ⟨g, 0, none⟩) (recJ 0 (lnsL s.data.toList)).1.length cap, .int .i64 ((recJ 0 (lnsL s.data.toList)).2 : Nat)]) ∧ OwnS w' w.heap.size (.slice (some ⟨g, 0, none⟩) (recJ 0 (lnsL s.data.toList)).1.length cap) (recJ 0 (lnsL s.data.toList)).1 ∧ Below w.heap.size w w' := by
  obtain ⟨j0, hj0, hy0, hy1, hy2⟩ := info_parts info_strT
  have K := Lib.hid (s08Lines_any w s (by omega))
  have hle := lns_le s.data.toList
  rw [ba_size] at hle
  have hmem : ∀ p ∈ lnsL s.data.toList, p.length ≤ 12000 := fun p hp => by have := lns_mem hp; rw [ba_size] at this; omega
  obtain ⟨L, hL⟩ : ∃ L, L = lnsL s.data.toList := ⟨_, rfl⟩
  obtain ⟨r, hr⟩ : ∃ r, r = restL s.data.toList := ⟨_, rfl⟩
  rw [← hL, ← hr] at K
  rw [← hL] at hle hmem ⊢
  obtain ⟨N, hN⟩ : ∃ N, L.length = N := ⟨_, rfl⟩
  rw [hN] at K hle
  obtain ⟨R1, hR1⟩ : ∃ R1, R1 = (recJ 0 L).1 := ⟨_, rfl⟩
  obtain ⟨R2, hR2⟩ : ∃ R2, R2 = (recJ 0 L).2 := ⟨_, rfl⟩
  rw [← hR1, ← hR2]
  have HR := Lib.hid (And.intro hR1 hR2)
  have HN := Lib.hid hN
  have HME := Lib.hid hmem
  have hN12 : (N : Int) ≤ 12000 := by omega
  clear hL hr hN hR1 hR2 hmem
  go_enter Tryd.func26, Tryd.ntmps26
  go_wp2_with fail
  refine K.out.mono ?_
  rintro e w1 ⟨g, cap, rfl, hst, hb⟩
  have HST := Lib.hid (And.intro hst hb)
  have HO0 := Lib.hid (OwnS.start w1 w1.heap.size (Nat.le_refl _))
  have hb0 : Below w1.heap.size w1 (w1.alloc (.cells #[] 9)) := (Below.refl _ _).alloc (Nat.le_refl _) _
  have HB0 := Lib.hid hb0
  clear hst hb K hb0
  go_wp2_with fail
  go_loopw [6, 7, 8, 9] (fun v6 v7 v8 v9 wr => ∃ (i k z c g2 cap2 : Nat) (P : List (List UInt8)), v6 = .slice (some ⟨g2, 0, none⟩) k cap2 ∧ v7 = .int .i64 z ∧ v8 = .int .i64 c ∧ v9 = .int .i64 i ∧ i ≤ N ∧ P.length = k ∧ k ≤ i ∧ c ≤ i * 12001 ∧ z < 65003 ∧ OwnS wr w1.heap.size (.slice (some ⟨g2, 0, none⟩) k cap2) P ∧ Below w1.heap.size w1 wr ∧ P ++ (recJ z (L.drop i)).1 = R1 ∧ c + (recJ z (L.drop i)).2 = R2) (fun _ _ _ v9 _ => N - (intOf v9).toNat)
  case atStart => exact ⟨0, 0, 0, 0, _, _, [], rfl, rfl, rfl, rfl, Nat.zero_le _, rfl, Nat.le_refl _, by omega, by omega, HO0.out, HB0.out, by rw [List.drop_zero, HR.out.1]; rfl, by rw [List.drop_zero, HR.out.2]; omega⟩
  case round =>
    clear HO0 HB0
    obtain ⟨i, k, z, c, g2, cap2, P, rfl, rfl, rfl, rfl, hi, hPk, hki, hc, hz, hown, hb, hr1, hr2⟩ := hrel
    have HOW := Lib.hid hown
    have HB := Lib.hid hb
    have HRR := Lib.hid (And.intro hr1 hr2)
    have HPK := Lib.hid hPk
    have HZ := Lib.hid hz
    have hrow : wr.ownsRow w1.heap.size 9 1 (.slice (some ⟨g2, 0, none⟩) k cap2) k (sCells P) := by
      have h9 := hown
      unfold OwnS at h9
      rwa [hPk] at h9
    have hbn := hb.size
    have hcI : (c : Int) ≤ 200000000 := by omega
    clear hown hr1 hr2 hPk
    by_cases hlt : i < N
    · have hltI : (i : Int) < (N : Int) := by omega
      have hsw := HST.out.1.below hb
      have c1 := hsw.2 i (by rw [HN.out]; exact hlt)
      have hgl := hsw.1
      obtain ⟨p, hp⟩ : ∃ p, L.getD i [] = p := ⟨_, rfl⟩
      rw [hp] at c1
      have hpL : L[i]? = some p := by
        rw [← hp, List.getD_eq_getElem?_getD, List.getElem?_eq_getElem (by rw [HN.out]; exact hlt)]; rfl
      have hp12 : p.length ≤ 12000 := HME.out p (List.mem_of_getElem? hpL)
      have hdr : L.drop i = p :: L.drop (i + 1) := by
        have h1 : i < L.length := by rw [HN.out]; exact hlt
        rw [List.drop_eq_getElem_cons h1]
        rw [List.getElem?_eq_getElem h1] at hpL
        injection hpL with hpL
        rw [hpL]
      have HDR := Lib.hid hdr
      obtain ⟨x, hx⟩ : ∃ x : ByteArray, x = ⟨p.toArray⟩ := ⟨_, rfl⟩
      have hxs : x.size = p.length := by rw [hx, ba_sz]
      obtain ⟨pn, hpn⟩ : ∃ pn, p.length = pn := ⟨_, rfl⟩
      rw [hpn] at hxs hp12
      rw [← hx] at c1
      have HX := Lib.hid (And.intro hx hpn)
      have hpnI : (pn : Int) ≤ 12000 := by omega
      clear hb hp hpL hdr hx hpn hsw
      go_wp2_with fail
      go_loopw [10] (fun v10 wq => ∃ j : Nat, v10 = .int .i64 j ∧ j ≤ spI p ∧ wq = wr) (fun v10 _ => spI p - (intOf v10).toNat)
      case atStart => exact ⟨0, rfl, Nat.zero_le _, rfl⟩
      case round =>
        obtain ⟨j, rfl, hj, hwq⟩ := hrel
        have hspl := sp_le p
        rw [HX.out.2] at hspl
        have c1q := c1
        rw [← hwq] at c1q
        by_cases hjl : j < spI p
        · obtain ⟨h1, h2⟩ := sp_lt hjl
          rw [HX.out.2] at h1
          have hx0 : ∀ W', (Instr.index 9 (.string x) (.int .i64 (j : Int))).run Tryd.prog W' = .ok (.int .u8 ((byteN x j : Nat) : Int)) W' := fun W' => by
            have := idx_at W' x (j : Int) (by omega) (by rw [hxs]; omega)
            rwa [Int.toNat_natCast] at this
          have hb1 : ((byteN x j : Int) == 32) = false := by rw [HX.out.1, byteN_ne (by rw [HX.out.2]; exact h1), decide_eq_false h2]
          obtain ⟨b, hb⟩ : ∃ b, byteN x j = b := ⟨_, rfl⟩
          rw [hb] at hx0 hb1
          have hb2 : ((b : Int) != 32) = true := by rw [bne, hb1]; rfl
          have hb3 : ¬ (b : Int) = 32 := by simpa using hb1
          have hjI : (j : Int) < (pn : Int) := by omega
          have hjl2 := Lib.hid hjl
          have HWQ := Lib.hid hwq
          clear h2 hb hwq hjl
          go_wp2_with fail
          go_roundw
          case rel => exact ⟨j + 1, by go_num, by have := hjl2.out; omega, HWQ.out⟩
          case measure => have := hjl2.out; simp [intOf]; omega
        · obtain rfl : spI p = j := by omega
          obtain ⟨q, hq⟩ : ∃ q, spI p = q := ⟨_, rfl⟩
          subst hwq
          rw [hq] at hspl ⊢
          have HQ := Lib.hid hq
          clear c1q hjl
          by_cases hbl : q < pn
          · have hqI : (q : Int) < (pn : Int) := by omega
            have hx0 : ∀ W', (Instr.index 9 (.string x) (.int .i64 (q : Int))).run Tryd.prog W' = .ok (.int .u8 ((byteN x q : Nat) : Int)) W' := fun W' => by
              have := idx_at W' x (q : Int) (by omega) (by rw [hxs]; omega)
              rwa [Int.toNat_natCast] at this
            have hspp : spI p < p.length := by rw [HQ.out, HX.out.2]; exact hbl
            have hb1 : ((byteN x q : Int) == 32) = true := by rw [HX.out.1, byteN_ne (by rw [HX.out.2]; exact hbl), decide_eq_true (by rw [← HQ.out]; exact sp_at hspp)]
            obtain ⟨b, hb⟩ : ∃ b, byteN x q = b := ⟨_, rfl⟩
            rw [hb] at hx0 hb1
            have hb2 : ((b : Int) != 32) = false := by rw [bne, hb1]; rfl
            have hb3 : (b : Int) = 32 := by simpa using hb1
            have e1 : ((q : Int) == (pn : Int)) = false := by rw [beq_eq_false_iff_ne]; omega
            have e1' : ¬ (q : Int) = (pn : Int) := by omega
            have e2 : IntKind.i64.wrap ((q : Int) + 1) = ((q + 1 : Nat) : Int) := by rw [show (q : Int) + 1 = ((q + 1 : Nat) : Int) by omega]; exact IntWalk.i64_in _ (by omega)
            have e3 : ((q + 1 : Nat) : Int) ≤ (pn : Int) := by omega
            obtain ⟨ln, hln⟩ : ∃ ln : ByteArray, x.extract (q + 1) pn = ln := ⟨_, rfl⟩
            have hlnd : ln.data.toList = linB p := by
              rw [← hln, ext_list, HX.out.1, show (⟨p.toArray⟩ : ByteArray).data.toList = p from rfl, List.take_of_length_le (by rw [HX.out.2]; exact Nat.le_refl _), ← HQ.out]
              rfl
            obtain ⟨hd, hhd⟩ : ∃ hd : ByteArray, x.extract 0 q = hd := ⟨_, rfl⟩
            have hhdd : hd.data.toList = p.take (spI p) := by
              rw [← hhd, ext_list, HX.out.1, show (⟨p.toArray⟩ : ByteArray).data.toList = p from rfl, List.drop_zero, HQ.out]
            obtain ⟨z2, hz2⟩ : ∃ z2, z2 = ckF z (linB p) := ⟨_, rfl⟩
            have hz2l : z2 < 65003 := by rw [hz2]; exact ckF_lt HZ.out _
            have hlns : ln.size ≤ 12000 := by rw [← ba_size, hlnd]; unfold linB; rw [List.length_drop, HX.out.2]; omega
            have KK := Lib.hid (fun W => s01Check_any W z ln HZ.out (by omega))
            rw [hlnd, ← hz2] at KK
            have KD := Lib.hid (fun W => s01Dec_any W z2 (by omega))
            obtain ⟨D, hD⟩ : ∃ D : ByteArray, D = ⟨(Lib.decDigits z2).toArray⟩ := ⟨_, rfl⟩
            rw [← hD] at KD
            have hqq : (hd.toList == D.toList) = okJ z p := by
              rw [ba_beq]
              unfold okJ
              rw [decide_eq_true hspp, Bool.true_and, decide_eq_decide, ← hz2, ← hhdd, hD]
              constructor
              · intro e; rw [e]
              · intro e; exact ba_of e
            obtain ⟨bb, hbb⟩ : ∃ bb, okJ z p = bb := ⟨_, rfl⟩
            rw [hbb] at hqq
            have HOKJ := Lib.hid (And.intro hlnd (And.intro hz2 (And.intro hbb hspp)))
            clear hlnd hhdd hz2 hD hbb hspp hb hlns hj hq
            go_wp2_with fail
            (with_reducible refine (KK.out _).mono ?_)
            rintro e w3 ⟨rfl, hw3⟩
            rw [← hw3]
            clear hw3 w3
            go_upto_region 14 with fail
            have hd1 : Below wr.heap.size wr wr.drew := below_drewN (Below.refl _ _) 1
            have SV := Lib.hid (fun V (h : Below wr.heap.size wr V) => (show Below wr.heap.size wr V ∧ V.cell? ⟨g, i, none⟩ = some (.string x) from ⟨h, (h.cell (p := ⟨g, i, none⟩) hgl).trans c1⟩))
            go_region_held3 (fun V => Below wr.heap.size wr V ∧ V.cell? ⟨g, i, none⟩ = some (.string x))
              (first | (refine SV.out _ ?_; first | (with_reducible exact Below.refl _ _) | (with_reducible assumption) | exact hd1.trans (hbd.mono hd1.size) | exact hbd) | go_keep)
              (first
                | (go_at_call 34; (with_reducible refine (KD.out _).mono ?_); rintro e wd ⟨rfl, hbd⟩))
            have hbD : Below wr.heap.size wr wd := by first | exact hbd | exact hd1.trans (hbd.mono hd1.size)
            have HBD := Lib.hid hbD
            have hDn := hbD.size
            have hrow2 := World.ownsRow.kept hrow (grown_below hbD none) (by simp [Value.ownBlock])
            have c2 := (SV.out wd hbD).2
            clear hd1 hbd hbD hqq c1
            cases bb
            · have hend : P = R1 ∧ c = R2 := by
                have h2 := HRR.out
                rw [HDR.out, recJ_no HOKJ.out.2.2.1] at h2
                simpa using h2
              have HEE := Lib.hid hend
              clear hend hrow2
              go_wp2_with fail
              go_ret2
              refine ⟨g2, cap2, ?_, ?_, HST.out.2.trans ((HB.out.trans (HBD.out.mono hbn)).mono HST.out.2.size)⟩
              · rw [← HEE.out.1, ← HEE.out.2, HPK.out]; rfl
              · rw [← HEE.out.1, HPK.out]
                exact (HOW.out.below HBD.out).mono HST.out.2.size
            · have hnx := HRR.out
              rw [HDR.out, recJ_yes HOKJ.out.2.2.1, ← HOKJ.out.2.1] at hnx
              have HNX := Lib.hid hnx
              have hk3 : k ≤ 12000 := by omega
              have HKEY := Lib.hid (fun w2 (hgrow : (wd.alloc (.cells #[.string ln] 9)).grownBy w2 (Value.slice (some ⟨g2, 0, none⟩) k cap2).ownBlock) => (show w2.cell? ⟨g, i, none⟩ = some (.string x) by
                have h1 : g ≠ g2 := by have h5 := (HOW.out.lt (k := g2) rfl).1; have h6 := HST.out.1.1; omega
                have h2 : w2.heap[g]? = (wd.alloc (.cells #[.string ln] 9)).heap[g]? := hgrow.block g (by simp; omega) (by simp [Value.ownBlock]; exact h1)
                have h3 := ((Below.refl wd.heap.size wd).alloc (Nat.le_refl _) (.cells #[.string ln] 9)).cell (p := ⟨g, i, none⟩) (Nat.lt_of_lt_of_le hgl hDn)
                exact (World.cell?_of_block h2).trans (h3.trans c2)))
              have e5 : IntKind.i64.wrap ((pn : Int) + 1) = ((pn + 1 : Nat) : Int) := by rw [show (pn : Int) + 1 = ((pn + 1 : Nat) : Int) by omega]; exact IntWalk.i64_in _ (by omega)
              have e6 : IntKind.i64.wrap ((c : Int) + ((pn + 1 : Nat) : Int)) = ((c + (pn + 1) : Nat) : Int) := by rw [← Int.natCast_add]; exact IntWalk.i64_in _ (by omega)
              clear hnx
              go_wp2_with (at_builtin; refine wpList_append_lies _ (by rfl) _ _ _ (by rfl) w1.heap.size 9 j0 _ 1 16 Tryd.underlying25 hj0 hy0 hy1 hy2 rfl (by omega) (.slice (some ⟨g2, 0, none⟩) k cap2) k _ (by rfl) (World.ownsRow.alloc hrow2 _) ⟨wd.heap.size, 0, none⟩ 1 1 [.string ln] (by rfl) (by rfl) (cell_one_new _ _ _) (by simp [Value.oneCell']) (by omega) (by unfold maxLen; omega) (by omega) (by simp; omega) (wd.heap.size + 1) (by simp) ?_; intro g3 cap3 w2 hown2 hgrow hat hltg; have hkey := HKEY.out w2 hgrow)
              have HR2 := Lib.hid (And.intro hown2 (And.intro hgrow hat))
              clear hown2 hgrow hat c2
              go_roundw
              case rel =>
                obtain ⟨hown2, hgrow, hat⟩ := HR2.out
                have hb2 : Below w1.heap.size w1 w2 := ((HB.out.trans (HBD.out.mono hbn)).alloc (by omega) _).grown hgrow (by simp; omega) (fun k' hk => (HOW.out.lt hk).1)
                have ho2 : OwnS w2 w1.heap.size (.slice (some ⟨g3, 0, none⟩) (k + 1) cap3) (P ++ [linB p]) := own_snocS HPK.out (by rw [← HOKJ.out.1]; exact hown2)
                refine ⟨i + 1, k + 1, z2, c + (pn + 1), g3, cap3, P ++ [linB p], rfl, rfl, rfl, by go_num, by omega, by rw [List.length_append, HPK.out]; rfl, by omega, by omega, hz2l, ho2, hb2, ?_, ?_⟩
                · rw [List.append_assoc]; exact HNX.out.1
                · have h1 := HNX.out.2
                  rw [HX.out.2] at h1
                  omega
              case measure => simp [intOf]; omega
          · obtain rfl : q = pn := by omega
            have e1 : ¬ (q : Int) < (q : Int) := by omega
            have e2 : ((q : Int) == (q : Int)) = true := by simp
            have hend : P = R1 ∧ c = R2 := by
              have h2 := HRR.out
              rw [HDR.out, recJ_no (by unfold okJ; rw [decide_eq_false (by rw [HQ.out, HX.out.2]; omega)]; rfl)] at h2
              simpa using h2
            have HEE := Lib.hid hend
            clear hend hq
            go_wp2_with fail
            go_ret2
            refine ⟨g2, cap2, ?_, ?_, HST.out.2.trans (HB.out.mono HST.out.2.size)⟩
            · rw [← HEE.out.1, ← HEE.out.2, HPK.out]; rfl
            · rw [← HEE.out.1, HPK.out]
              exact HOW.out.mono HST.out.2.size
    · obtain rfl : N = i := by omega
      have hend : P = R1 ∧ c = R2 := by
        have h2 := HRR.out
        rw [List.drop_of_length_le (by rw [HN.out]; exact Nat.le_refl _)] at h2
        simpa [recJ] using h2
      have HE := Lib.hid hend
      clear hend hb
      go_wp2_with fail
      go_ret2
      refine ⟨g2, cap2, ?_, ?_, HST.out.2.trans (HB.out.mono HST.out.2.size)⟩
      · rw [← HE.out.1, ← HE.out.2, HPK.out]; rfl
      · rw [← HE.out.1, HPK.out]
        exact HOW.out.mono HST.out.2.size

end Go.Proofs.YtegcbbmbmchagaaDoor

/- The law FnExactTileChecks: its walk. -/
import Derived.Test.YtogojmimflgmmaaNf
import Derived.Test.YtogojmimflgmmaaNg
import Derived.Test.YtogojmimflgmmaaAh
import Derived.Test.YtogojmimflgmmaaDe
namespace Go.Proofs.Ytogojmimflgmmaa
open Go.RowKit Ieee
set_option maxRecDepth 100000
set_option linter.unusedVariables false
set_option linter.unusedSimpArgs false

def okTC (a b : Int) (n : Nat) (wk : Int) : Bool := vPic a b n && (decide (1 ≤ wk) && decide (wk ≤ 8))
def ksTC (a b : Int) (n : Nat) (wk : Int) (bs : List Nat) : List Int := if okTC a b n wk = true then chksT bs a.toNat b.toNat wk.toNat else []
theorem ksTC_len (a b : Int) (n : Nat) (wk : Int) (bs : List Nat) : (ksTC a b n wk bs).length ≤ 8 := by
  unfold ksTC
  split
  · rename_i h
    unfold okTC at h
    simp only [Bool.and_eq_true, decide_eq_true_eq] at h
    unfold chksT
    rw [List.length_map]
    have := tileG_len b.toNat wk.toNat wk.toNat
    omega
  · simp
def TcPost (w : World) (ks : List Int) (ok : Bool) (e : Ending) (w' : World) : Prop := ∃ v, e = .returned (.tuple #[v, .bool ok]) ∧ OwnK w' w.heap.size v ks ∧ Below w.heap.size w w'
theorem SlF.leT {w : World} {s : Option Addr} {n c : Nat} {bs : List Nat} (h : SlF w (.slice s n c) bs) : bs.length = n ∧ n ≤ 9223372036854775807 := by
  obtain ⟨a, cap, e, h1, h2, -⟩ := h.1
  injection e with e1 e2 e3
  rw [List.length_map] at e2 h1
  omega

theorem tc_any (w : World) (a b wk : Int) (sa : Option Addr) (n c : Nat) (bs : List Nat) (h : SlF w (.slice sa n c) bs) :
    Calls Try.prog 5 #[.agg #[.int .i64 a, .int .i64 b, .slice sa n c], .int .i64 wk] w (TcPost w (ksTC a b n wk bs) (okTC a b n wk)) ∧
    Calls Try.prog 7 #[.agg #[.int .i64 a, .int .i64 b, .slice sa n c], .int .i64 wk] w (TcPost w (ksTC a b n wk bs) (okTC a b n wk)) := by
  cases hok : okTC a b n wk
  · have e : ksTC a b n wk bs = [] := by unfold ksTC; rw [hok]; simp
    rw [e]
    refine ⟨(sTileChecks_no w a b wk sa n c h.leT.2 hok).mono ?_, (iTileChecks_no w a b wk sa n c h.leT.2 hok).mono ?_⟩
    · rintro e w' ⟨rfl, hb⟩
      exact ⟨_, rfl, OwnK.nil _ _, hb⟩
    · rintro e w' ⟨rfl, hb⟩
      exact ⟨_, rfl, OwnK.nil _ _, hb⟩
  · have e : ksTC a b n wk bs = chksT bs a.toNat b.toNat wk.toNat := by unfold ksTC; rw [hok]; simp
    rw [e]
    unfold okTC at hok
    simp only [Bool.and_eq_true, decide_eq_true_eq] at hok
    obtain ⟨hv, q1, q2⟩ := hok
    obtain ⟨x1, x2, e1, e2, e3, d1, d2, d3, d4, d5⟩ := vPic_spec hv
    obtain ⟨k, rfl⟩ := Int.eq_ofNat_of_zero_le (show 0 ≤ wk by omega)
    subst e1 e2
    have hn1 : 1 ≤ n := by rw [e3]; exact Nat.mul_pos (by omega) (by omega)
    obtain ⟨b1, o1, _, g1, _, _⟩ := h.form (by intro e; have := h.leT.1; rw [e] at this; simp at this; omega)
    simp only [Value.slice.injEq] at g1
    obtain ⟨rfl, _⟩ := g1
    rw [Int.toNat_natCast, Int.toNat_natCast, Int.toNat_natCast]
    exact ⟨sTileChecks_yes w x1 x2 n c k b1 o1 bs h hv (by omega) (by omega), iTileChecks_yes w x1 x2 n c k b1 o1 bs h hv (by omega) (by omega)⟩

set_option maxHeartbeats 4000000 in
theorem fnExactTileChecks_walk (w : World) (a b wk : Int) (sa : Option Addr) (n c : Nat) (bs : List Nat) (h : SlF w (.slice sa n c) bs) :
    Calls Try.prog 3 #[.agg #[.int .i64 a, .int .i64 b, .slice sa n c], .int .i64 wk] w fun e w' => e = .returned (.bool true) ∧ Below w.heap.size w w' := by
  obtain ⟨W0, hW0⟩ : ∃ W, W = w.alloc (.cells #[.int .i64 a, .int .i64 b, .slice sa n c] 24) := ⟨_, rfl⟩
  have hb0 : Below w.heap.size w W0 := by rw [hW0]; exact (Below.refl _ _).alloc (Nat.le_refl _) _
  have hx : BoxN W0 w.heap.size #[.int .i64 a, .int .i64 b, .slice sa n c] 24 := by rw [hW0]; exact BoxN.last w _ _
  have KZ := Lib.hid (fun W => szM_any W a b sa n c 1048576 (Nat.le_refl _) h.leT.2)
  rw [show ((1048576 : Nat) : Int) = 1048576 from rfl] at KZ
  have hbl := hx.lt
  obtain ⟨a0, a1, a2⟩ : W0.cell? ⟨w.heap.size, 0, none⟩ = some (.int .i64 a) ∧ W0.cell? ⟨w.heap.size, 1, none⟩ = some (.int .i64 b) ∧ W0.cell? ⟨w.heap.size, 2, none⟩ = some (.slice sa n c) := ⟨hx.cell 0, hx.cell 1, hx.cell 2⟩
  have HX := Lib.hid (And.intro hb0 (And.intro hx h))
  have HW0 := Lib.hid hW0
  rw [hW0] at a0 a1 a2
  clear h hb0 hx hW0
  by_cases hsz : n ≤ 1048576
  · have ez : szL 1048576 n = ((1048576 - n : Nat) : Int) := by unfold szL; rw [if_pos hsz]
    rw [ez] at KZ
    have KD := Lib.hid (fun W (hb : Below w.heap.size w W) => toM_any W a b sa n c bs (HX.out.2.2.below hb) HX.out.2.2.leT.1 hsz)
    unfold MakesP2 at KD
    rw [HX.out.2.2.leT.1] at KD
    have HL := Lib.hid (And.intro HX.out.2.2.leT.1 hsz)
    obtain ⟨z, hz⟩ : ∃ z : Nat, 1048576 - n = z := ⟨_, rfl⟩
    rw [hz] at KZ
    have hd : decide ((z : Int) < 0) = false := decide_eq_false (by omega)
    have HK8 := Lib.hid (ksTC_len a b n wk bs)
    have KS := Lib.hid (fun W s2 c2 (hs : SlF W (.slice s2 n c2) bs) => (tc_any W a b wk s2 n c2 bs hs).1)
    have KI := Lib.hid (fun W s2 c2 (hs : SlF W (.slice s2 n c2) bs) => (tc_any W a b wk s2 n c2 bs hs).2)
    obtain ⟨ks, hks⟩ : ∃ ks, ksTC a b n wk bs = ks := ⟨_, rfl⟩
    obtain ⟨ok, hok⟩ : ∃ ok, okTC a b n wk = ok := ⟨_, rfl⟩
    rw [hks] at HK8 KS KI
    rw [hok] at KS KI
    have hoo : (ok != ok) = false := by simp
    clear ez hz hsz hks hok
    go_enter Try.func3, Try.ntmps3
    go_wp2_with fail
    clear a0 a1 a2
    rw [← HW0.out]
    refine (KZ.out _).mono ?_
    rintro e w1 ⟨rfl, hb1⟩
    have H1 := Lib.hid (HX.out.1.trans (hb1.mono HX.out.1.size))
    have hx1 := HX.out.2.1.below hb1
    obtain ⟨a0, a1, a2⟩ : w1.cell? ⟨w.heap.size, 0, none⟩ = some (.int .i64 a) ∧ w1.cell? ⟨w.heap.size, 1, none⟩ = some (.int .i64 b) ∧ w1.cell? ⟨w.heap.size, 2, none⟩ = some (.slice sa n c) := ⟨hx1.cell 0, hx1.cell 1, hx1.cell 2⟩
    have s1 := hx1.lt
    have HB1 := Lib.hid hx1
    clear hb1 hx1
    go_wp2_with fail
    clear a0 a1 a2
    refine (KD.out _ H1.out).mono ?_
    rintro e w2 ⟨k1, rfl, o1, hb2⟩
    have H2 := Lib.hid (H1.out.trans (hb2.mono H1.out.size))
    have HB2 := Lib.hid (HB1.out.below hb2)
    have KS2 := Lib.hid (KS.out w2 _ _ o1.sl)
    clear o1 hb2
    go_wp2_with fail
    refine KS2.out.mono ?_
    rintro e w3 ⟨v0, rfl, ov0, hb3⟩
    have H3 := Lib.hid (H2.out.trans (hb3.mono H2.out.size))
    have HV0 := Lib.hid ov0
    have hx3 := HB2.out.below hb3
    obtain ⟨a0, a1, a2⟩ : w3.cell? ⟨w.heap.size, 0, none⟩ = some (.int .i64 a) ∧ w3.cell? ⟨w.heap.size, 1, none⟩ = some (.int .i64 b) ∧ w3.cell? ⟨w.heap.size, 2, none⟩ = some (.slice sa n c) := ⟨hx3.cell 0, hx3.cell 1, hx3.cell 2⟩
    have s3 := hx3.lt
    have HB3 := Lib.hid hx3
    clear ov0 hb3 hx3
    go_wp2_with fail
    clear a0 a1 a2
    refine (KD.out _ H3.out).mono ?_
    rintro e w4 ⟨k2, rfl, o2, hb4⟩
    obtain ⟨W4, hW4⟩ : ∃ W, W = w4.alloc (.cells #[.int .i64 a, .int .i64 b, .slice (some ⟨k2, 0, none⟩) n n] 29) := ⟨_, rfl⟩
    have c4 : Below w4.heap.size w4 W4 := by rw [hW4]; exact (Below.refl _ _).alloc (Nat.le_refl _) _
    have x4 : BoxN W4 w4.heap.size #[.int .i64 a, .int .i64 b, .slice (some ⟨k2, 0, none⟩) n n] 29 := by rw [hW4]; exact BoxN.last w4 _ _
    have b34 : Below w3.heap.size w3 W4 := hb4.trans (c4.mono hb4.size)
    have hk2 := (o2.lt (k := k2) rfl)
    have HO2 := Lib.hid (o2.below c4)
    have H4 := Lib.hid (And.intro (H3.out.trans (b34.mono H3.out.size)) (And.intro (HB3.out.below b34) (And.intro x4 b34)))
    obtain ⟨y0, y1, y2⟩ : W4.cell? ⟨w4.heap.size, 0, none⟩ = some (.int .i64 a) ∧ W4.cell? ⟨w4.heap.size, 1, none⟩ = some (.int .i64 b) ∧ W4.cell? ⟨w4.heap.size, 2, none⟩ = some (.slice (some ⟨k2, 0, none⟩) n n) := ⟨x4.cell 0, x4.cell 1, x4.cell 2⟩
    have s4 := x4.lt
    have HW4 := Lib.hid hW4
    rw [hW4] at y0 y1 y2
    clear o2 hb4 c4 x4 b34 hW4
    go_wp2_with fail
    clear y0 y1 y2
    rw [← HW4.out]
    refine (KI.out W4 _ _ HO2.out.sl).mono ?_
    rintro e w5 ⟨v1, rfl, ov1, hb5⟩
    have HV1 := Lib.hid ov1
    have b35 := H4.out.2.2.2.trans (hb5.mono H4.out.2.2.2.size)
    have KE := Lib.hid (eqK_yes w5 _ _ v1 v0 ks ov1 (HV0.out.below b35) (by have := HK8.out; omega))
    have H5 := Lib.hid (And.intro hb5 b35)
    clear ov1 hb5 b35
    go_wp2_with fail
    refine KE.out.mono ?_
    rintro e w6 ⟨rfl, hb6⟩
    have H6 := Lib.hid hb6
    have b46 : Below W4.heap.size W4 w6 := H5.out.1.trans (hb6.mono H5.out.1.size)
    have hx6 := H4.out.2.1.below b46
    have hy6 := H4.out.2.2.1.below b46
    have HB6 := Lib.hid (And.intro hx6 (And.intro hy6 (H4.out.1.trans (b46.mono H4.out.1.size))))
    have SV := Lib.hid (fun W (hW : Below w6.heap.size w6 W) => (show (W.cell? ⟨w4.heap.size, 0, none⟩ = some (.int .i64 a) ∧ W.cell? ⟨w4.heap.size, 1, none⟩ = some (.int .i64 b) ∧ W.cell? ⟨w4.heap.size, 2, none⟩ = some (.slice (some ⟨k2, 0, none⟩) n n) ∧ W.cell? ⟨w.heap.size, 0, none⟩ = some (.int .i64 a) ∧ W.cell? ⟨w.heap.size, 1, none⟩ = some (.int .i64 b) ∧ W.cell? ⟨w.heap.size, 2, none⟩ = some (.slice sa n c)) from
      ⟨(hy6.below hW).cell 0, (hy6.below hW).cell 1, (hy6.below hW).cell 2, (hx6.below hW).cell 0, (hx6.below hW).cell 1, (hx6.below hW).cell 2⟩))
    have HB46 := Lib.hid b46
    clear hb6 hx6 hy6 b46
    go_upto_region 10 with fail
    have hA1 : Below w6.heap.size w6 w6.drew := below_drewN (Below.refl _ _) 1
    have hbA : Below w.heap.size w w6.drew := HB6.out.2.2.trans (hA1.mono HB6.out.2.2.size)
    go_region_held3 (fun W => W.cell? ⟨w4.heap.size, 0, none⟩ = some (.int .i64 a) ∧ W.cell? ⟨w4.heap.size, 1, none⟩ = some (.int .i64 b) ∧ W.cell? ⟨w4.heap.size, 2, none⟩ = some (.slice (some ⟨k2, 0, none⟩) n n) ∧ W.cell? ⟨w.heap.size, 0, none⟩ = some (.int .i64 a) ∧ W.cell? ⟨w.heap.size, 1, none⟩ = some (.int .i64 b) ∧ W.cell? ⟨w.heap.size, 2, none⟩ = some (.slice sa n c))
      (first | exact SV.out _ hbT | exact SV.out _ hbS | exact SV.out _ hA1 | go_keep)
      (first
        | (go_at_call 6; (with_reducible refine (KD.out _ hbA).mono ?_); rintro e wS ⟨j1, rfl, u1, hbS1⟩; have hbS := hA1.trans (hbS1.mono hA1.size); have KE3 := Lib.hid (eqM_yes wS a b (some ⟨k2, 0, none⟩) (some ⟨j1, 0, none⟩) n n n n bs bs (HO2.out.below (HB46.out.trans (hbS.mono HB46.out.size))).sl u1.sl rfl))
        | (go_at_call 9; (with_reducible refine KE3.out.mono ?_); rintro e wT ⟨rfl, hbT1⟩; have hbT := hbS.trans (hbT1.mono hbS.size)))
    obtain ⟨y0, y1, y2, -, -, -⟩ := SV.out wT hbT
    have b5T := H6.out.trans (hbT.mono H6.out.size)
    have bWT := HB46.out.trans (hbT.mono HB46.out.size)
    have HBT := Lib.hid (And.intro b5T (And.intro bWT hbT))
    have KMK := Lib.hid (markM_any wT w3.heap.size a b (some ⟨k2, 0, none⟩) n bs 1 (by have := HL.out; omega) (Nat.le_trans H4.out.2.2.2.size bWT.size) (by rw [HL.out.1]; exact HO2.out.below bWT))
    unfold Marks at KMK
    rw [HL.out.1, show ((1 : Nat) : Int) = 1 from rfl] at KMK
    obtain ⟨kk, hkk⟩ : ∃ kk : Nat, 1 + n = kk := ⟨_, rfl⟩
    rw [hkk] at KMK
    have hkk0 : decide ((kk : Int) < 0) = false := decide_eq_false (by omega)
    clear hbS hbS1 hbT1 hbA hA1 b5T bWT hkk
    go_wp2_with fail
    clear y0 y1 y2
    refine KMK.out.mono ?_
    rintro e w7 ⟨rfl, -, hg7⟩
    have hg7' : wT.grownBy w7 (some k2) := hg7
    have HV1T := Lib.hid (HV1.out.below HBT.out.1)
    have HV0T := Lib.hid (HV0.out.below (H5.out.2.trans (HBT.out.1.mono H5.out.2.size)))
    have ne1 : v1.ownBlock = none ∨ v1.ownBlock ≠ some k2 := by
      cases e : v1.ownBlock with
      | none => exact .inl rfl
      | some g => exact .inr (by intro q; injection q with q; have := (HV1.out.lt e).1; have := H4.out.2.2.1.lt; omega)
    have ne0 : v0.ownBlock = none ∨ v0.ownBlock ≠ some k2 := by
      cases e : v0.ownBlock with
      | none => exact .inl rfl
      | some g => exact .inr (by intro q; injection q with q; have := (HV0.out.lt e).2; omega)
    have q1 := HV1T.out.grown hg7' ne1
    have q0 := HV0T.out.grown hg7' ne0
    have KE7 := Lib.hid (eqK_yes w7 _ _ v1 v0 ks q1 q0 (by have := HK8.out; omega))
    have b7 : Below w.heap.size w w7 := (HB6.out.2.2.trans (HBT.out.2.2.mono HB6.out.2.2.size)).grown hg7' (Nat.le_trans HB6.out.2.2.size HBT.out.2.2.size) (fun k hk => by injection hk with hk; have := H3.out.size; omega)
    have hx7 : BoxN w7 w.heap.size #[.int .i64 a, .int .i64 b, .slice sa n c] 24 := (HB6.out.1.below HBT.out.2.2).grown hg7' (by intro e; injection e with e; omega)
    have H7 := Lib.hid (And.intro q1 (And.intro q0 (And.intro b7 hx7)))
    clear hg7 hg7' ne1 ne0 q1 q0 b7 hx7
    go_wp2_with fail
    refine KE7.out.mono ?_
    rintro e w8 ⟨rfl, hb8⟩
    have KM8 := Lib.hid (markK_any w8 W4.heap.size v1 ks 1 (by omega) (by have := HK8.out; omega) (H7.out.1.below hb8))
    rw [show ((1 : Nat) : Int) = 1 from rfl] at KM8
    have H8 := Lib.hid hb8
    obtain ⟨E, hE⟩ : ∃ E : Nat, 1 + ks.length = E := ⟨_, rfl⟩
    rw [hE] at KM8
    have hE0 : decide ((E : Int) < 0) = false := decide_eq_false (by omega)
    have hEE : ((E : Int) != (E : Int)) = false := by simp
    have HE := Lib.hid hE
    clear hb8 hE
    go_wp2_with fail
    refine KM8.out.mono ?_
    rintro e w9 ⟨rfl, om9, hg9⟩
    have ne09 : v0.ownBlock = none ∨ v0.ownBlock ≠ v1.ownBlock := by
      cases e : v0.ownBlock with
      | none => exact .inl rfl
      | some g =>
        refine .inr (fun q => ?_)
        have h1 := (HV0.out.lt e).2
        have h2 := (HV1.out.lt q.symm).1
        have h3 := H4.out.2.2.2.size
        omega
    have q9 := (H7.out.2.1.below H8.out).grown hg9 ne09
    have b8 := H7.out.2.2.1.trans (H8.out.mono H7.out.2.2.1.size)
    have b9 : Below w.heap.size w w9 := b8.grown hg9 b8.size (fun k hk => by have h2 := (HV1.out.lt hk).1; have h3 := H4.out.1.size; omega)
    have hx9 : BoxN w9 w.heap.size #[.int .i64 a, .int .i64 b, .slice sa n c] 24 := (H7.out.2.2.2.below H8.out).grown hg9 (by intro e; have h2 := (HV1.out.lt e.symm).1; have h3 := H4.out.1.size; have h4 := HX.out.2.1.lt; have h5 := s4; omega)
    have KH9 := Lib.hid (fun W (hW : Below w9.heap.size w9 W) => heldK_yes W W4.heap.size v1 1 ks.length (by omega) (by have := HK8.out; omega) (om9.below hW))
    rw [HE.out, show ((1 : Nat) : Int) = 1 from rfl] at KH9
    have H9 := Lib.hid (And.intro q9 (And.intro b9 hx9))
    clear om9 hg9 ne09 q9 b8 b9
    go_wp2_with fail
    refine (KH9.out _ (Below.refl _ _)).mono ?_
    rintro e wa ⟨rfl, rfl⟩
    obtain ⟨a0, a1, a2⟩ : w9.cell? ⟨w.heap.size, 0, none⟩ = some (.int .i64 a) ∧ w9.cell? ⟨w.heap.size, 1, none⟩ = some (.int .i64 b) ∧ w9.cell? ⟨w.heap.size, 2, none⟩ = some (.slice sa n c) := ⟨hx9.cell 0, hx9.cell 1, hx9.cell 2⟩
    have s9 := hx9.lt
    clear hx9
    go_wp2_with fail
    clear a0 a1 a2
    refine (KD.out _ H9.out.2.1).mono ?_
    rintro e wb ⟨k3, rfl, o3, hbb⟩
    have KI3 := Lib.hid (KI.out wb _ _ o3.sl)
    have HBB := Lib.hid hbb
    clear o3 hbb
    go_wp2_with fail
    refine KI3.out.mono ?_
    rintro e wc ⟨v2, rfl, ov2, hbc⟩
    have b9c := HBB.out.trans (hbc.mono HBB.out.size)
    have KEc := Lib.hid (eqK_yes wc _ _ v2 v0 ks ov2 (H9.out.1.below b9c) (by have := HK8.out; omega))
    have HC := Lib.hid b9c
    clear ov2 hbc b9c
    go_wp2_with fail
    refine KEc.out.mono ?_
    rintro e wd ⟨rfl, hbd⟩
    have HD := Lib.hid (HC.out.trans (hbd.mono HC.out.size))
    clear hbd
    go_wp2_with fail
    refine (KH9.out _ HD.out).mono ?_
    rintro e we ⟨rfl, rfl⟩
    have HF := Lib.hid (H9.out.2.1.trans (HD.out.mono H9.out.2.1.size))
    go_wp2_with fail
    go_ret
    exact ⟨rfl, HF.out⟩
  · have ez : szL 1048576 n = -1 := by unfold szL; rw [if_neg hsz]
    rw [ez] at KZ
    clear ez hsz
    go_enter Try.func3, Try.ntmps3
    go_wp2_with fail
    clear a0 a1 a2
    rw [← HW0.out]
    refine (KZ.out _).mono ?_
    rintro e w1 ⟨rfl, hb1⟩
    have HF := Lib.hid (HX.out.1.trans (hb1.mono HX.out.1.size))
    clear hb1
    go_wp2_with fail
    go_ret
    exact ⟨rfl, HF.out⟩

end Go.Proofs.Ytogojmimflgmmaa

/- The reference's JobVolume and the program's. -/
import Derived.Test.YtabbjilgpfnacaaGreatEn
namespace Go.Proofs.YtabbjilgpfnacaaGreat
open Go.RowKit Ieee
set_option maxRecDepth 100000
set_option linter.unusedVariables false
set_option linter.unusedSimpArgs false

/-- The volume of a job. -/
def jobT (j : JobX) (p q : Tri) (xs ys : List Nat) : VolT :=
  if j.ok && pairV p q then boxT (pairT (decide (j.kind = 0)) p q j.deep xs ys).L p.a.toNat p.b.toNat j.deep.toNat j.reach.toNat else noVol

theorem JobX.ok_spec {j : JobX} (h : j.ok = true) : (j.kind = 0 ∨ j.kind = 1) ∧ (0 ≤ j.reach ∧ j.reach ≤ 3) ∧ (1 ≤ j.deep ∧ j.deep ≤ 8) ∧ prOk j.one j.more = true := by
  unfold JobX.ok inI at h
  simp only [Bool.and_eq_true, decide_eq_true_eq] at h
  exact ⟨by omega, h.2.1, h.2.2.1, h.2.2.2⟩

theorem job_pair {j : JobX} {p q : Tri} (h : j.ok = true) (h2 : pairV p q = true) : pairD p q j.deep = true := by
  obtain ⟨-, -, h3, -⟩ := JobX.ok_spec h
  unfold pairD; rw [h2]; simp [h3.1, h3.2]

theorem vVolE {p q : Tri} {dp : Int} (h : pairD p q dp = true) {wd hi k : Nat} (e1 : p.a = wd) (e2 : p.b = hi) (e3 : dp = k) : vVol wd hi k (wd * hi * k) = true := by
  unfold pairD pairV Tri.ok at h
  simp only [Bool.and_eq_true, decide_eq_true_eq] at h
  obtain ⟨⟨⟨⟨h1, -⟩, -⟩, -⟩, h5, h6⟩ := h
  unfold vPic at h1
  simp only [Bool.and_eq_true] at h1
  rw [e1, e2] at h1
  unfold vVol
  rw [h1.1]
  have h5' : (1 : Int) ≤ (k : Int) := by omega
  have h6' : (k : Int) ≤ 8 := by omega
  rw [decide_eq_true h5', decide_eq_true h6']
  simp

/-- Where the costs lie when they are told. -/
structure VBox (B : Nat) (w wx : World) (ob : Nat) (t : VolT) (s : Option Addr) (c : Nat) (bs : List Nat) : Prop where
  bel : Below B w wx
  box : BoxN wx ob #[.int .i64 t.a, .int .i64 t.b, .int .i64 t.d, .slice s bs.length c] 62
  own : OwnF wx B (.slice s bs.length c) bs
  ne : some ob ≠ (Value.slice s bs.length c).ownBlock
  obf : B ≤ ob
  con : bs.map fl = t.L

theorem VBox.new {B : Nat} {w w2 : World} {t : VolT} {s : Option Addr} {c : Nat} {bs : List Nat} (hb : Below B w w2) (ho : OwnF w2 B (.slice s bs.length c) bs) (hc : bs.map fl = t.L) (hB : B ≤ w2.heap.size) :
    VBox B w (w2.alloc (.cells #[.int .i64 t.a, .int .i64 t.b, .int .i64 t.d, .slice s bs.length c] 62)) w2.heap.size t s c bs :=
  ⟨hb.alloc hB _, BoxN.last _ _ _, ho.below (alE _ _), fun e => by have := (ho.lt e.symm).2; omega, hB, hc⟩

theorem VBox.set {B : Nat} {w W w2 : World} {ob : Nat} {t : VolT} {s : Option Addr} {c : Nat} {bs : List Nat} {cs : Array Value} (hx : BoxN W ob cs 62) (hcs : cs.size = 4) (hw : Below B w W) (hob : B ≤ ob) (hBW : B ≤ W.heap.size) (hb : Below W.heap.size W w2) (ho : OwnF w2 W.heap.size (.slice s bs.length c) bs) (hc : bs.map fl = t.L) :
    VBox B w ((((w2.setCell ⟨ob, 0, none⟩ (.int .i64 t.a)).setCell ⟨ob, 1, none⟩ (.int .i64 t.b)).setCell ⟨ob, 2, none⟩ (.int .i64 t.d)).setCell ⟨ob, 3, none⟩ (.slice s bs.length c)) ob t s c bs := by
  have hl := hx.lt
  refine ⟨below_set4 (hw.trans (hb.mono hBW)) hob _ _ _ _, ?_, (own_set4 ho hl _ _ _ _).mono hBW, fun e => by have := (ho.lt e.symm).1; omega, hob, hc⟩
  have h4 := ((((hx.below hb).set 0 (.int .i64 t.a)).set 1 (.int .i64 t.b)).set 2 (.int .i64 t.d)).set 3 (.slice s bs.length c)
  obtain ⟨l⟩ := cs
  match l, hcs with
  | [a, b, c, d], _ => simpa using h4

set_option maxHeartbeats 4000000 in
theorem l07VolumeE (W : World) (p1 p2 jb : Nat) (p q : Tri) (j : JobX) (xs ys : List Nat) (hp : SlF W (.slice p.s p.l p.c) xs) (hq : SlF W (.slice q.s q.l q.c) ys) (A1 : Box3 W p1 (.int .i64 p.a) (.int .i64 p.b) (.slice p.s p.l p.c) 35) (A2 : Box3 W p2 (.int .i64 q.a) (.int .i64 q.b) (.slice q.s q.l q.c) 35) (AJ : BoxN W jb j.v 39) (hj : j.ok = true) (hv : pairV p q = true) :
    Calls Tryz.prog 29 #[.pointer (some ⟨p1, 0, none⟩), .pointer (some ⟨p2, 0, none⟩), .pointer (some ⟨jb, 0, none⟩)] W (VRes (jobT j p q xs ys) W) := by
  obtain ⟨hk, hr, hd, -⟩ := JobX.ok_spec hj
  have hD := job_pair hj hv
  obtain ⟨wd, hi, k, e1, e2, e3, e4, e5, e6, e7, e8, e9, e10, e11, e12, e13, e14⟩ := pairD_spec hD
  obtain ⟨r, hre⟩ := Int.eq_ofNat_of_zero_le hr.1
  have hjt : jobT j p q xs ys = boxT (pairT (decide (j.kind = 0)) p q j.deep xs ys).L wd hi k r := by
    unfold jobT; rw [hj, hv, e1, e2, e5, hre]; simp
  rw [hjt]
  have hvv := vVolE hD e1 e2 e5
  obtain ⟨W0, hW0⟩ : ∃ W0, W0 = W.alloc (.cells #[.int .i64 0, .int .i64 0, .int .i64 0, .slice none 0 0] 62) := ⟨_, rfl⟩
  obtain ⟨hb0, BZ, hs0⟩ := box_new hW0
  have hT : ∀ s, pairT s p q j.deep xs ys = ⟨true, wd, hi, k, tabV wd k (cmW s xs ys wd hi) (hi * wd * k)⟩ := fun s => pairT_yes hD e1 e2 e5
  have hTL : ∀ s (bs : List Nat), bs.map fl = (pairT s p q j.deep xs ys).L → bs.length = wd * hi * k := fun s bs h => by
    rw [hT] at h
    have := congrArg List.length h
    rw [List.length_map] at this
    rw [this]; show (tabV _ _ _ _).length = _; rw [tabV_len, Nat.mul_comm hi wd]
  obtain ⟨t1, ht1⟩ : ∃ t, pairT true p q j.deep xs ys = t := ⟨_, rfl⟩
  obtain ⟨t2, ht2⟩ : ∃ t, pairT false p q j.deep xs ys = t := ⟨_, rfl⟩
  obtain ⟨t0, ht0⟩ : ∃ t, pairT (decide (j.kind = 0)) p q j.deep xs ys = t := ⟨_, rfl⟩
  have HT0 := Lib.hid (show (j.kind = 0 → t0 = t1) ∧ (j.kind = 1 → t0 = t2) from ⟨fun h => by rw [← ht0, ← ht1, h]; rfl, fun h => by rw [← ht0, ← ht2, h]; rfl⟩)
  rw [ht0]
  have KS0 := (fun V (hb : Below W0.heap.size W0 V) => sSquare_any V p q j.deep xs ys ((hp.below hb0).below hb) ((hq.below hb0).below hb))
  have KZ0 := (fun V (hb : Below W0.heap.size W0 V) => sSize_any V p q j.deep xs ys ((hp.below hb0).below hb) ((hq.below hb0).below hb))
  rw [ht1] at KS0
  rw [ht2] at KZ0
  have KS := Lib.hid KS0
  have KZ := Lib.hid KZ0
  have KB0 : ∀ (t : VolT), (t = t1 ∨ t = t2) → ∀ V s' c (bs : List Nat), OwnF V W0.heap.size (.slice s' bs.length c) bs → bs.map fl = t.L → Calls Tryz.prog 40 #[.agg #[.int .i64 t.a, .int .i64 t.b, .int .i64 t.d, .slice s' bs.length c], .int .i64 (r : Int)] V (VRes (boxT t.L wd hi k r) V) := by
    intro t ht V s' c bs ho hc
    obtain ⟨s, hs⟩ : ∃ s, t = pairT s p q j.deep xs ys := by
      rcases ht with h | h
      · exact ⟨true, by rw [h, ht1]⟩
      · exact ⟨false, by rw [h, ht2]⟩
    have hl := hTL s bs (by rw [← hs]; exact hc)
    obtain ⟨q', rfl⟩ := own_ptrE ho (by rw [hl]; exact Nat.mul_pos (Nat.mul_pos e8 e10) e13)
    have := sBoxE V wd hi k bs.length q' c r bs (by rw [hl]; exact hvv) ho.sl (by omega)
    rw [hc] at this
    have et := hs.trans (hT s)
    have ea : t.a = wd := by rw [et]
    have eb : t.b = hi := by rw [et]
    have ed : t.d = k := by rw [et]
    rw [ea, eb, ed]
    exact this
  have KB := Lib.hid KB0
  have ok1 : t1.ok = true := by rw [← ht1, hT]
  have ok2 : t2.ok = true := by rw [← ht2, hT]
  have hSV : ∀ V, Below W0.heap.size W0 V → (V.cell? ⟨p1, 0, none⟩ = some (.int .i64 p.a) ∧ V.cell? ⟨p1, 1, none⟩ = some (.int .i64 p.b) ∧ V.cell? ⟨p1, 2, none⟩ = some (.slice p.s p.l p.c)) ∧ (V.cell? ⟨p2, 0, none⟩ = some (.int .i64 q.a) ∧ V.cell? ⟨p2, 1, none⟩ = some (.int .i64 q.b) ∧ V.cell? ⟨p2, 2, none⟩ = some (.slice q.s q.l q.c)) ∧ (V.cell? ⟨jb, 0, none⟩ = some (.int .i64 j.kind) ∧ V.cell? ⟨jb, 1, none⟩ = some (.int .i64 r) ∧ V.cell? ⟨jb, 2, none⟩ = some (.int .i64 j.deep)) := fun V hb => by
    have a := ((A1.below hb0).below hb).cells
    have b := ((A2.below hb0).below hb).cells
    have c := six_of_box ((AJ.below hb0).below hb)
    exact ⟨⟨a.1, a.2.1, a.2.2.1⟩, ⟨b.1, b.2.1, b.2.2.1⟩, ⟨c.1, by rw [← hre]; exact c.2.1, c.2.2.1⟩⟩
  have SV := Lib.hid hSV
  have LTS := Lib.hid (And.intro (A1.below hb0).lt (And.intro (A2.below hb0).lt (AJ.below hb0).lt))
  have HB := Lib.hid (And.intro hb0 BZ)
  have HW0 := Lib.hid hW0
  have hp1 : p1 < W0.heap.size := (A1.below hb0).lt
  have hp2 : p2 < W0.heap.size := (A2.below hb0).lt
  have hp3 : jb < W0.heap.size := (AJ.below hb0).lt
  have HTL := Lib.hid hTL
  have HT := Lib.hid hT
  clear KS0 KZ0 KB0 ht0 hjt hvv hD hTL hT hSV hb0 BZ hs0 hW0 hp hq A1 A2 AJ hv hj hr hd e1 e2 e3 e4 e5 e6 e7 e8 e9 e10 e11 e12 e13 e14 hre
  go_enter Tryz.func29, Tryz.ntmps29
  go_upto_region 1 with fail
  rw [← HW0.out]
  go_cut [8, 9] from 11 to 23 (fun v8 v9 wx => ∃ (ob : Nat) (s : Option Addr) (c : Nat) (bs : List Nat), v8 = .pointer (some ⟨ob, 0, none⟩) ∧ v9 = .bool true ∧ VBox W0.heap.size W0 wx ob t1 s c bs)
  case first =>
    have hd1 : Below W0.heap.size W0 W0.drew := below_drewN (Below.refl _ _) 1
    obtain ⟨WA, hWA⟩ : ∃ WA, WA = W0.alloc (.cells #[.int .i64 0, .int .i64 0, .int .i64 0, .slice none 0 0] 62) := ⟨_, rfl⟩
    obtain ⟨hAl, BX, -⟩ := box_new hWA
    have hd2 : Below W0.heap.size W0 WA.drew := below_drewN hAl 1
    have BX := BX.drewN 1
    rw [hWA] at hd2 BX
    clear hWA hAl
    go_region_held3 (fun V => Below W0.heap.size W0 V ∧ (V.cell? ⟨p1, 0, none⟩ = some (.int .i64 p.a) ∧ V.cell? ⟨p1, 1, none⟩ = some (.int .i64 p.b) ∧ V.cell? ⟨p1, 2, none⟩ = some (.slice p.s p.l p.c)) ∧ (V.cell? ⟨p2, 0, none⟩ = some (.int .i64 q.a) ∧ V.cell? ⟨p2, 1, none⟩ = some (.int .i64 q.b) ∧ V.cell? ⟨p2, 2, none⟩ = some (.slice q.s q.l q.c)) ∧ (V.cell? ⟨jb, 0, none⟩ = some (.int .i64 j.kind) ∧ V.cell? ⟨jb, 1, none⟩ = some (.int .i64 r) ∧ V.cell? ⟨jb, 2, none⟩ = some (.int .i64 j.deep)))
      (first | exact ⟨hbc3, SV.out _ hbc3⟩ | exact ⟨hd1, SV.out _ hd1⟩ | exact ⟨hbc4, SV.out _ hbc4⟩ | exact ⟨hd2, SV.out _ hd2⟩ | exact ⟨below_set4 hbc4 (Nat.le_refl _) _ _ _ _, SV.out _ (below_set4 hbc4 (Nat.le_refl _) _ _ _ _)⟩ | exact ⟨hbc3.alloc hbc3.size _, SV.out _ (hbc3.alloc hbc3.size _)⟩ | go_keep)
      (first
        | (go_at_call 38; (with_reducible refine (KS.out W0.drew hd1).mono ?_); rintro e w3 ⟨s3, c3, bs3, rfl, ho3, hc3, hb3⟩; have hbc3 := hd1.trans (hb3.mono hd1.size))
        | (go_at_call 38; (with_reducible refine (KS.out _ hd2).mono ?_); rintro e w3 ⟨s3, c3, bs3, rfl, ho3, hc3, hb3⟩; have hbc4 := hd2.trans (hb3.mono hd2.size); have hbx := BX.below hb3; obtain ⟨o0, o1, o2, o3, g0, g1, g2, g3⟩ := hbx.four))
    all_goals
      go_wp2_with fail
      go_meet
    · exact ⟨_, s3, c3, bs3, rfl, rfl, VBox.new hbc3 (ho3.mono hd1.size) hc3 hbc3.size⟩
    · exact ⟨_, s3, c3, bs3, rfl, rfl, VBox.set BX rfl hd2 (Nat.le_refl _) hd2.size hb3 ho3 hc3⟩
  case rest =>
    obtain ⟨ob, s1, c1, bs1, rfl, rfl, hst⟩ := hcut
    obtain ⟨z1, z2, z3⟩ := SV.out _ hst.bel
    have hob := hst.box.lt
    have hl1 := Nat.lt_of_lt_of_le hp1 hst.bel.size
    have hl2 := Nat.lt_of_lt_of_le hp2 hst.bel.size
    have hl3 := Nat.lt_of_lt_of_le hp3 hst.bel.size
    have HST := Lib.hid hst
    rcases hk with hk | hk
    · have hcz : (j.kind == 1) = false := by rw [hk]; rfl
      have H0 := Lib.hid (HT0.out.1 hk)
      obtain ⟨d0, d1, d2, d3⟩ := four_of_box hst.box
      obtain ⟨tb, htb⟩ : ∃ tb, boxT t1.L wd hi k r = tb := ⟨_, rfl⟩
      have KB1 := Lib.hid (fun V (ho : OwnF V W0.heap.size (.slice s1 bs1.length c1) bs1) => htb ▸ KB.out t1 (.inl rfl) V s1 c1 bs1 ho hst.con)
      have HTB := Lib.hid htb
      clear hst hk ht1 ht2 htb
      go_wp2_with fail
      go_region_law (go_simp; refine (KB1.out _ (HST.out.own.drewN 1)).mono ?_; rintro e w2 ⟨s, c, bs, rfl, ho, hc, hb⟩; have hz := ((HB.out.2.below HST.out.bel).drewN 1).below hb; have hlt3 := hz.lt; obtain ⟨f0, f1, f2, f3, g0, g1, g2, g3⟩ := hz.four; have HF := Lib.hid (And.intro ho (And.intro hc hb)); clear ho hc hb hz)
      all_goals
        go_wp2_with fail
        refine bodyPost_ret (v := .tuple #[.agg #[.int .i64 tb.a, .int .i64 tb.b, .int .i64 tb.d, .slice s bs.length c], .bool tb.ok]) (by simp [results, Tryz.results29, go_sem, f0, f1, f2, f3, hlt3]) rfl ?_
        rw [H0.out, HTB.out]
        have hbw := HB.out.1.trans ((below_drewN HST.out.bel 1).mono HB.out.1.size)
        exact VRes.of_box hbw (Nat.lt_of_lt_of_le HB.out.2.lt (below_drewN HST.out.bel 1).size) (Nat.le_refl _) HF.out.1 HF.out.2.1 HF.out.2.2 _ _ _ _
    · have hcz : (j.kind == 1) = true := by rw [hk]; rfl
      have H0 := Lib.hid (HT0.out.2 hk)
      obtain ⟨tb, htb⟩ : ∃ tb, boxT t2.L wd hi k r = tb := ⟨_, rfl⟩
      have HTB := Lib.hid htb
      clear hst hk ht1 ht2
      go_wp2_with fail
      have hdw : Below W0.heap.size W0 wc.drew := below_drewN HST.out.bel 1
      go_region_held3 (fun V => Below W0.heap.size W0 V ∧ (V.cell? ⟨p1, 0, none⟩ = some (.int .i64 p.a) ∧ V.cell? ⟨p1, 1, none⟩ = some (.int .i64 p.b) ∧ V.cell? ⟨p1, 2, none⟩ = some (.slice p.s p.l p.c)) ∧ (V.cell? ⟨p2, 0, none⟩ = some (.int .i64 q.a) ∧ V.cell? ⟨p2, 1, none⟩ = some (.int .i64 q.b) ∧ V.cell? ⟨p2, 2, none⟩ = some (.slice q.s q.l q.c)) ∧ (V.cell? ⟨jb, 0, none⟩ = some (.int .i64 j.kind) ∧ V.cell? ⟨jb, 1, none⟩ = some (.int .i64 r) ∧ V.cell? ⟨jb, 2, none⟩ = some (.int .i64 j.deep)))
        (first | exact ⟨hbc5, SV.out _ hbc5⟩ | exact ⟨hdw, SV.out _ hdw⟩ | exact ⟨HS5.out.bel, SV.out _ HS5.out.bel⟩ | go_keep)
        (first | (go_at_call 39; (with_reducible refine (KZ.out _ hdw).mono ?_); rintro e w5 ⟨s5, c5, bs5, rfl, ho5, hc5, hb5⟩; have hbc5 := hdw.trans (hb5.mono hdw.size); have hz5 := (HST.out.box.drewN 1).below hb5; have hlt5 := hz5.lt; obtain ⟨d0, d1, d2, d3, g0, g1, g2, g3⟩ := hz5.four; have HS5 := Lib.hid (VBox.set (HST.out.box.drewN 1) rfl hdw HST.out.obf hdw.size hb5 ho5 hc5)))
      obtain ⟨W6, hW6⟩ : ∃ W6, W6 = (((w5.setCell ⟨ob, 0, none⟩ (.int .i64 t2.a)).setCell ⟨ob, 1, none⟩ (.int .i64 t2.b)).setCell ⟨ob, 2, none⟩ (.int .i64 t2.d)).setCell ⟨ob, 3, none⟩ (.slice s5 bs5.length c5) := ⟨_, rfl⟩
      rw [← hW6] at HS5
      have KB1 := Lib.hid (fun V (ho : OwnF V W0.heap.size (.slice s5 bs5.length c5) bs5) => htb ▸ KB.out t2 (.inr rfl) V s5 c5 bs5 ho HS5.out.con)
      have HW6 := Lib.hid hW6
      clear hz5 hlt5 d0 d1 d2 d3 g0 g1 g2 g3 ho5 hc5 hb5 hbc5 hdw z1 z2 z3 hob
      obtain ⟨d0, d1, d2, d3⟩ := four_of_box HS5.out.box
      obtain ⟨z1, z2, z3⟩ := SV.out _ HS5.out.bel
      have hob := HS5.out.box.lt
      rw [hW6] at d0 d1 d2 d3 z1 z2 z3 hob
      clear hW6
      go_wp2_with fail
      rw [← HW6.out]
      clear d0 d1 d2 d3 z1 z2 z3 hob
      obtain ⟨d0, d1, d2, d3⟩ := four_of_box HS5.out.box
      obtain ⟨z1, z2, z3⟩ := SV.out _ HS5.out.bel
      have hob := HS5.out.box.lt
      have hl4 := Nat.lt_of_lt_of_le hp3 HS5.out.bel.size
      go_region_law (go_simp; refine (KB1.out _ (HS5.out.own.drewN 1)).mono ?_; rintro e w2 ⟨s, c, bs, rfl, ho, hc, hb⟩; have hz := ((HB.out.2.below HS5.out.bel).drewN 1).below hb; have hlt3 := hz.lt; obtain ⟨f0, f1, f2, f3, g0, g1, g2, g3⟩ := hz.four; have HF := Lib.hid (And.intro ho (And.intro hc hb)); clear ho hc hb hz)
      all_goals
        go_wp2_with fail
        refine bodyPost_ret (v := .tuple #[.agg #[.int .i64 tb.a, .int .i64 tb.b, .int .i64 tb.d, .slice s bs.length c], .bool tb.ok]) (by simp [results, Tryz.results29, go_sem, f0, f1, f2, f3, hlt3]) rfl ?_
        rw [H0.out, HTB.out]
        have hbw := HB.out.1.trans ((below_drewN HS5.out.bel 1).mono HB.out.1.size)
        exact VRes.of_box hbw (Nat.lt_of_lt_of_le HB.out.2.lt (below_drewN HS5.out.bel 1).size) (Nat.le_refl _) HF.out.1 HF.out.2.1 HF.out.2.2 _ _ _ _

end Go.Proofs.YtabbjilgpfnacaaGreat

/- impl.along: the walk. -/
import Derived.Test.YtfhlpabbacopjaaAl
namespace Go.Proofs.Ytfhlpabbacopjaa
open Go.RowKit
set_option maxRecDepth 100000
set_option linter.unusedVariables false
set_option linter.unusedSimpArgs false

theorem ownsRow_mono {w : World} {B B' : Nat} {T : TypeId} {s n : Nat} {v : Value} {xs : List Value} (h : w.ownsRow B T s v n xs) (hB : B' ≤ B) : w.ownsRow B' T s v n xs := by
  obtain ⟨h1, h2⟩ := h
  refine ⟨h1, ?_⟩
  rcases h2 with h | ⟨g, cap, cur, h4, h5, h6⟩
  · exact .inl h
  · exact .inr ⟨g, cap, cur, h4, by omega, h6⟩
theorem SlF.src {w : World} {g n cap : Nat} {bs : List Nat} (h : SlF w (.slice (some ⟨g, 0, none⟩) n cap) bs) : ∀ (j : Nat) (u : Value), (bs.map (Value.float .f32))[j]? = some u → w.cell? ((⟨g, 0, none⟩ : Addr).add j) = some u := by
  intro j u hu
  rw [List.getElem?_map] at hu
  obtain ⟨x, hx, rfl⟩ := Option.map_eq_some_iff.1 hu
  obtain ⟨hj, rfl⟩ := List.getElem?_eq_some_iff.1 hx
  have := (h.at j hj).1
  rw [← getD_of _ _ hj] at this
  by_cases h0 : j = 0
  · subst h0; simpa [Addr.add] using this
  · simpa [Addr.add, h0] using this
/-- The world in along's loops: the volume that came in, in its box; the result's box; the volume that is told, in its box; the order of the rows. -/
structure AlSt (w wr : World) (wd hi dp b off n c ob q N cq gl cl : Nat) (bs cs : List Nat) (ys : List Int) : Prop where
  bel : Below w.heap.size w wr
  vbox : BoxN wr w.heap.size #[.int .i64 wd, .int .i64 hi, .int .i64 dp, .slice (some ⟨b, off, none⟩) n c] 26
  rbox : BoxN wr (w.heap.size + 1) #[.int .i64 0, .int .i64 0, .int .i64 0, .slice none 0 0] 26
  obox : BoxN wr ob #[.int .i64 wd, .int .i64 hi, .int .i64 dp, .slice (some ⟨q, 0, none⟩) N cq] 26
  own : OwnF wr (w.heap.size + 2) (.slice (some ⟨q, 0, none⟩) N cq) cs
  yl : OwnI wr (w.heap.size + 2) (.slice (some ⟨gl, 0, none⟩) hi cl) ys
  sl : SlF wr (.slice (some ⟨b, off, none⟩) n c) bs
  blt : b < w.heap.size
  ne1 : ob ≠ q
  ne2 : gl ≠ q
theorem AlSt.below {w wr w2 : World} {wd hi dp b off n c ob q N cq gl cl : Nat} {bs cs : List Nat} {ys : List Int} (h : AlSt w wr wd hi dp b off n c ob q N cq gl cl bs cs ys) (hb : Below wr.heap.size wr w2) : AlSt w w2 wd hi dp b off n c ob q N cq gl cl bs cs ys :=
  ⟨h.bel.trans (hb.mono h.bel.size), h.vbox.below hb, h.rbox.below hb, h.obox.below hb, h.own.below hb, h.yl.below hb, h.sl.below hb, h.blt, h.ne1, h.ne2⟩
theorem AlSt.drewN {w wr : World} {wd hi dp b off n c ob q N cq gl cl : Nat} {bs cs : List Nat} {ys : List Int} (h : AlSt w wr wd hi dp b off n c ob q N cq gl cl bs cs ys) (k : Nat) : AlSt w (wr.drewN k) wd hi dp b off n c ob q N cq gl cl bs cs ys := h.below (below_drewN (Below.refl _ _) k)
theorem AlSt.write {w wr w2 : World} {wd hi dp b off n c ob q N cq gl cl : Nat} {bs cs cs2 : List Nat} {ys : List Int} (h : AlSt w wr wd hi dp b off n c ob q N cq gl cl bs cs ys) (hg : wr.grownBy w2 (some q)) (ho : OwnF w2 (w.heap.size + 2) (.slice (some ⟨q, 0, none⟩) N cq) cs2) : AlSt w w2 wd hi dp b off n c ob q N cq gl cl bs cs2 ys := by
  have hq := (h.own.lt (k := q) rfl).1
  have hb := h.blt
  exact ⟨h.bel.grown hg h.bel.size (fun k hk => by injection hk with e; omega), h.vbox.grown hg (by simp; omega), h.rbox.grown hg (by simp; omega), h.obox.grown hg (by simpa using h.ne1), ho, h.yl.grown hg (.inr (by simpa [Value.ownBlock] using h.ne2)),
    ⟨h.sl.1.grown hg (.inr (by simp [Value.ownBlock]; omega)), h.sl.2⟩, h.blt, h.ne1, h.ne2⟩

/-- A volume that is told along a direction. -/
def MakesAl (w : World) (wd hi dp : Nat) (dx dy : Int) (F : Int → Int → List Int → List Int → List Int) (own : Int → Int → List Int) (Ok : Int → Int → List Int → Prop) (e : Ending) (w' : World) : Prop :=
  ∃ (q c : Nat) (bs : List Nat) (P : Int → Int → List Int), e = .returned (.agg #[.int .i64 wd, .int .i64 hi, .int .i64 dp, .slice (some ⟨q, 0, none⟩) (List.length bs) c]) ∧ OwnF w' w.heap.size (.slice (some ⟨q, 0, none⟩) (List.length bs) c) bs ∧ QV bs wd hi dp P ∧ IsAlong F own dx dy wd hi P ∧ (∀ x y, insI x y wd hi → Ok x y (P x y)) ∧ Below w.heap.size w w'

theorem ord_ins {n i : Nat} {step : Int} (h : i < n) : 0 ≤ (ordI n step).getD i 0 ∧ (ordI n step).getD i 0 < n := by
  rw [ordI_get n step i h]; split <;> omega
theorem ord_rk {n i : Nat} {step : Int} (h : i < n) : (if step < 0 then (n : Int) - 1 - (ordI n step).getD i 0 else (ordI n step).getD i 0).toNat = i := by
  rw [ordI_get n step i h]; split <;> omega
theorem isDir_bd {dx dy : Int} (h : isDir dx dy) : -1 ≤ dx ∧ dx ≤ 1 ∧ -1 ≤ dy ∧ dy ≤ 1 := by
  obtain ⟨h1, h2, _⟩ := h; omega

set_option maxHeartbeats 8000000 in
theorem along_any (w : World) (wd hi dp b off c k : Nat) (bs : List Nat) (own : Int → Int → List Int) (Ok : Int → Int → List Int → Prop) (F : Int → Int → List Int → List Int → List Int) (fv : Value)
    (h : VolOk w wd hi dp b off c bs) (hblt : b < w.heap.size) (hq : QV bs wd hi dp own) (hk : k < 8)
    (hqb : ∀ x y, insI x y wd hi → qb2 (own x y)) (hown : ∀ x y, insI x y wd hi → Ok x y (own x y)) (hok3 : ∀ x y l, insI x y wd hi → Ok x y l → qb3 l)
    (hf : GivesA w fv wd hi dp own Ok (wayX k) (wayY k) F) :
    Calls Try.prog 87 #[.agg #[.int .i64 wd, .int .i64 hi, .int .i64 dp, .slice (some ⟨b, off, none⟩) bs.length c], .int .i64 k, fv] w (MakesAl w wd hi dp (wayX k) (wayY k) F own Ok) := by
  obtain ⟨fid, caps, rfl, hcall, hof⟩ := hf
  obtain ⟨d1, d2, d3, d4, d5, d6, d7, d8⟩ := h.dims
  have hdir := way_dir k hk
  obtain ⟨r1, r2, r3, r4⟩ := isDir_bd hdir
  have hV := Lib.hid h
  have hQ := Lib.hid hq
  have HL := Lib.hid h.len
  have K1 := Lib.hid (way_any k hk)
  generalize hdx : wayX k = dx at *
  generalize hdy : wayY k = dy at *
  generalize hnn : bs.length = n at *
  have hn8 : n ≤ 2048 := by omega
  have HNN := Lib.hid hnn
  clear h hq hdx hdy hnn hk
  go_enter Try.func87, Try.ntmps87
  go_wp2_with fail
  have hb0 := below_two w (.cells #[.int .i64 wd, .int .i64 hi, .int .i64 dp, .slice (some ⟨b, off, none⟩) n c] 26) (.cells #[.int .i64 0, .int .i64 0, .int .i64 0, .slice none 0 0] 26)
  have B1 := BoxN.first w #[.int .i64 wd, .int .i64 hi, .int .i64 dp, .slice (some ⟨b, off, none⟩) n c] 26 (.cells #[.int .i64 0, .int .i64 0, .int .i64 0, .slice none 0 0] 26)
  have B2 := BoxN.second w #[.int .i64 0, .int .i64 0, .int .i64 0, .slice none 0 0] 26 (.cells #[.int .i64 wd, .int .i64 hi, .int .i64 dp, .slice (some ⟨b, off, none⟩) n c] 26)
  refine (K1.out _).mono ?_
  rintro e w1 ⟨rfl, bw1⟩
  have hb1 := hb0.trans (bw1.mono hb0.size)
  have B1 := B1.below bw1
  have B2 := B2.below bw1
  have hz1 : w.heap.size + 1 < w1.heap.size := B2.lt
  obtain ⟨c0, c1, c2, c3, f0, f1, f2, f3⟩ := B1.four
  have hP : VolAt w1 w.heap.size wd hi dp b off n c bs := ⟨B1, by have := hV.out.sl.below hb1; rw [HNN.out] at this; exact this, by rw [HNN.out]; exact HL.out⟩
  have HB0 := Lib.hid hb0
  clear bw1 hb0
  go_wp2_with fail
  refine (volumeOf_any w1 wd hi dp _ _ d3 d4 d6 (along1_gives hP d3 d4 d5 d6)).mono ?_
  rintro e w2 ⟨a, cq, cs, rfl, hown2, hcon, bw2⟩
  obtain ⟨q, rfl⟩ := own_addr hown2 (by rw [tab3_len hcon]; exact Nat.mul_pos (Nat.mul_pos (by omega) (by omega)) (by omega))
  have hb2 := hb1.trans (bw2.mono hb1.size)
  have hqv : QV cs wd hi dp own := QV.of_tab hcon (fun x y hx hy => (hQ.out.2 x y hx hy).1) (fun x y hx hy d hd => by have := (hqb x y (by unfold insI; omega)).get d; omega) (fun x y d hx hy hd => by
    show fl (gc bs wd dp x y d) = _
    unfold gc
    rw [(hQ.out.2 x y hx hy).2 d hd]
    exact fl_fq (by have := (hqb x y (by unfold insI; omega)).get d; omega))
  have B1 := B1.below bw2
  have B2 := B2.below bw2
  have hsl2 := hP.sl.below bw2
  have hqlt := hown2.lt (k := q) rfl
  have hz2 := bw2.size
  generalize hNN : cs.length = N at *
  have HN := Lib.hid hNN
  have HQV := Lib.hid hqv
  clear hP hcon hNN hqv c0 c1 c2 c3 f0 f1 f2 f3
  have ha3 : Below w2.heap.size w2 (w2.alloc (.cells #[.int .i64 wd, .int .i64 hi, .int .i64 dp, .slice (some ⟨q, 0, none⟩) N cq] 26)) := (Below.refl _ _).alloc (Nat.le_refl _) _
  have B3 := BoxN.last w2 #[.int .i64 wd, .int .i64 hi, .int .i64 dp, .slice (some ⟨q, 0, none⟩) N cq] 26
  have B1 := B1.below ha3
  have B2 := B2.below ha3
  have hown3 := hown2.below ha3
  have hsl3 := hsl2.below ha3
  have hb3 := hb2.trans (ha3.mono hb2.size)
  obtain ⟨c0, c1, c2, c3, f0, f1, f2, f3⟩ := B1.four
  clear hown2 hsl2 ha3
  go_wp2_with fail
  refine (ordered_any _ hi dy d2 (by omega)).mono ?_
  rintro e w3 ⟨gl, cl, rfl, hyl, bw3⟩
  have start : AlSt w w3 wd hi dp b off n c w2.heap.size q N cq gl cl bs cs (ordI hi dy) := by
    have hglt := (hyl.lt (k := gl) rfl).1
    simp at hglt
    exact ⟨hb3.trans (bw3.mono hb3.size), B1.below bw3, B2.below bw3, B3.below bw3, (hown3.below bw3).mono hz1, ownsRow_mono hyl (by simp; omega), hsl3.below bw3, hblt, by omega, by omega⟩
  clear B1 B2 B3 hown3 hsl3 hyl bw3 hb3 hb2 hb1 c0 c1 c2 c3 f0 f1 f2 f3
  have hinv : InvA F own Ok dx dy wd hi 0 own := InvA.start hown
  generalize hob : w2.heap.size = ob at *
  clear hob hqlt hz1 hz2
  go_wp2_with fail
  go_loopw [34] (fun v34 wr => ∃ (j : Nat) (cs : List Nat) (P : Int → Int → List Int), v34 = .int .i64 j ∧ j ≤ hi ∧ AlSt w wr wd hi dp b off n c ob q N cq gl cl bs cs (ordI hi dy) ∧ QV cs wd hi dp P ∧ InvA F own Ok dx dy wd hi (j * wd) P) (fun v34 _ => hi - (intOf v34).toNat)
  case atStart => exact ⟨0, cs, own, rfl, Nat.zero_le _, start, HQV.out, by rw [Nat.zero_mul]; exact hinv⟩
  case round =>
    clear start hinv HQV HN cs
    obtain ⟨j, cs, P, rfl, hj, hst, hqv, hinv⟩ := hrel
    obtain ⟨c0, c1, c2, c3, f0, f1, f2, f3⟩ := hst.vbox.four
    by_cases hlt : j < hi
    · have ky := hst.yl.cellAt j (by rw [ordI_length]; exact hlt)
      have hyi := ord_ins (step := dy) hlt
      have hyr := ord_rk (step := dy) hlt
      generalize (ordI hi dy).getD j 0 = y at *
      obtain ⟨y, rfl⟩ := Int.eq_ofNat_of_zero_le hyi.1
      have hy : y < hi := by omega
      have by1 : (y : Int) < 24 := by omega
      have HS := Lib.hid hst
      have HQ2 := Lib.hid hqv
      have HI := Lib.hid hinv
      have HYR := Lib.hid hyr
      clear hst hqv hinv hyi hyr
      go_wp2_with fail
      refine (ordered_any _ wd dx d1 (by omega)).mono ?_
      rintro e w4 ⟨gx, cx, rfl, hxl, bw4⟩
      have hst4 := HS.out.below bw4
      have hgx := (hxl.lt (k := gx) rfl).1
      have hqw := (HS.out.own.lt (k := q) rfl).2
      have nex : gx ≠ q := by omega
      have HBW := Lib.hid bw4
      clear bw4 c0 c1 c2 c3 f0 f1 f2 f3 ky
      go_wp2_with fail
      obtain ⟨wo, rfl⟩ : ∃ wo : World, wo = wr := ⟨_, rfl⟩
      go_loopw [43] (fun v43 wr => ∃ (i : Nat) (cs : List Nat) (P : Int → Int → List Int), v43 = .int .i64 i ∧ i ≤ wd ∧ AlSt w wr wd hi dp b off n c ob q N cq gl cl bs cs (ordI hi dy) ∧ OwnI wr wo.heap.size (.slice (some ⟨gx, 0, none⟩) wd cx) (ordI wd dx) ∧ QV cs wd hi dp P ∧ InvA F own Ok dx dy wd hi (j * wd + i) P) (fun v43 _ => wd - (intOf v43).toNat)
      case atStart => exact ⟨0, cs, P, rfl, Nat.zero_le _, hst4, hxl, HQ2.out, HI.out⟩
      case round =>
        clear hst4 hxl HQ2 HI HS HBW cs P
        obtain ⟨i, cs, P, rfl, hi_, hst, hxl, hqv, hinv⟩ := hrel
        by_cases hlx : i < wd
        · have kx := hxl.cellAt i (by rw [ordI_length]; exact hlx)
          have hxi := ord_ins (step := dx) hlx
          have hxr := ord_rk (step := dx) hlx
          generalize (ordI wd dx).getD i 0 = x at *
          obtain ⟨x, rfl⟩ := Int.eq_ofNat_of_zero_le hxi.1
          have hx : x < wd := by omega
          have bx1 : (x : Int) < 24 := by omega
          have hins : insI x y wd hi := by unfold insI; omega
          have hrk : rkI dx dy wd hi x y = j * wd + i := by unfold rkI; rw [hxr, HYR.out]
          have hvb := hst.vbox
          have HS := Lib.hid hst
          have HQ2 := Lib.hid hqv
          have HI := Lib.hid hinv
          have HX := Lib.hid hxl
          have HRK := Lib.hid hrk
          clear hst hqv hinv hxl hrk hxi hxr
          by_cases hp : insI ((x : Int) - dx) ((y : Int) - dy) wd hi
          · have hinb : inB ((x : Int) - dx) ((y : Int) - dy) wd hi = true := inB_iff.2 (by unfold insI at hp; omega)
            have HP := Lib.hid hp
            clear hp
            go_wp2_with fail
            refine (volHas_any _ _ wd hi _ _ _ _ (by omega) (by omega) hvb).mono ?_
            rw [hinb]
            rintro e w5 ⟨rfl, rfl⟩
            clear hinb
            have hqlt := (HS.out.own.lt (k := q) rfl).2
            have hVA : VolAt wr ob wd hi dp q 0 N cq cs := ⟨HS.out.obox, HS.out.own.sl, HQ2.out.1⟩
            have hVB : VolAt wr w.heap.size wd hi dp b off n c bs := ⟨HS.out.vbox, HS.out.sl, by rw [HNN.out]; exact HL.out⟩
            have HVA := Lib.hid hVA
            have HVB := Lib.hid hVB
            clear hVA hVB hvb
            go_wp2_with fail
            refine (cell_any _ ob wd hi dp q 0 N cq cs _ _ x y rfl rfl hx hy d3 d4 d5 d6 HVA.out).mono ?_
            rintro e w5 ⟨rfl, m1, rfl⟩
            go_wp2_with fail
            refine (cell_any _ w.heap.size wd hi dp b off n c bs _ _ x y rfl rfl hx hy d3 d4 d5 d6 (HVB.out.drewN _)).mono ?_
            rintro e w5 ⟨rfl, m2, rfl⟩
            have hp := HP.out
            unfold insI at hp
            obtain ⟨u, hu⟩ := Int.eq_ofNat_of_zero_le hp.1
            obtain ⟨t, ht⟩ := Int.eq_ofNat_of_zero_le hp.2.2.1
            have hu2 : u < wd := by omega
            have ht2 : t < hi := by omega
            have HU := Lib.hid hu
            have HT := Lib.hid ht
            clear hp hu ht
            go_wp2_with fail
            refine (cell_any _ ob wd hi dp q 0 N cq cs _ _ u t HU.out HT.out hu2 ht2 d3 d4 d5 d6 (HVA.out.drewN _)).mono ?_
            rintro e w5 ⟨rfl, m3, rfl⟩
            have hbw : b < wr.heap.size := by have := HS.out.blt; have := HS.out.bel.size; omega
            have hpo := (HQ2.out.2 u t hu2 ht2).1
            rw [← HU.out, ← HT.out] at hpo
            have hok := HI.out.ok _ _ HP.out
            have K := fun Q => hof x y (wr.drewN Q) (P ((x : Int) - dx) ((y : Int) - dy)) b (off + ic wd dp x y) q (0 + ic wd dp u t) hins HP.out (below_drewN HS.out.bel Q) (QV.cell (HS.out.drewN Q).sl hbw hQ.out hx hy) hbw (by have := QV.cell (HS.out.drewN Q).own.sl hqlt HQ2.out hu2 ht2; rw [← HU.out, ← HT.out] at this; exact this) hqlt hpo hok
            simp only [Nat.zero_add] at K
            have hFok := (K 0).1
            have hFl := (K 0).2.1
            have KC := Lib.hid (fun Q => (K Q).2.2)
            have hFq := hok3 _ _ _ hins hFok
            have hfit := ic_le (dp := dp) hx hy
            have HFOK := Lib.hid hFok
            generalize hV_ : F x y (own x y) (P ((x : Int) - dx) ((y : Int) - dy)) = V at *
            have HV := Lib.hid hV_
            have HFL := Lib.hid hFl
            have HFIT := Lib.hid hfit
            clear K hFok hpo hok hV_ hFl hfit
            go_wp2_with fail
            refine (KC.out _).mono ?_
            rintro e w6 ⟨g, cg, rfl, hog, bw6⟩
            have bw6' := below_undrew bw6
            have hst6 := HS.out.below bw6'
            obtain ⟨cur, hheap, hfitc, hown7, hg7⟩ := hst6.own.splice (ic wd dp x y) (news := V.map (fq 2)) (by rw [List.length_map, HFL.out, HQ2.out.1]; exact HFIT.out) (fun z hz => by
              obtain ⟨z, hz2, rfl⟩ := List.mem_map.1 hz
              exact fq_lt (by have := hFq z hz2; omega))
            have hsrc := hog.sl.src
            have hone : ∀ v ∈ (V.map (fq 2)).map (Value.float .f32), v.oneCell' = true := by simp [Value.oneCell']
            have hlen : ((V.map (fq 2)).map (Value.float .f32)).length = Nat.min dp dp := by rw [List.length_map, List.length_map, HFL.out]; exact (Nat.min_self dp).symm
            have hvl := HFL.out
            have hrun := run_copy_row (P := Try.prog) w6 24 24 3 28 q (ic wd dp x y) dp dp ⟨g, 0, none⟩ dp cg cur 28 ((V.map (fq 2)).map (Value.float .f32)) (by rfl) (by rfl) hheap hlen hsrc hfitc hone
            rw [List.append_assoc] at hrun
            generalize w6.setRow q (cur.toList.take (ic wd dp x y) ++ ((V.map (fq 2)).map (Value.float .f32) ++ cur.toList.drop (ic wd dp x y + ((V.map (fq 2)).map (Value.float .f32)).length))).toArray = w7 at *
            have H6 := Lib.hid hst6
            have HW7 := Lib.hid hown7
            have HG7 := Lib.hid hg7
            have HB6 := Lib.hid bw6'
            clear hst6 hown7 hg7 bw6 bw6' hheap hfitc hsrc hlen hog hFq hone
            go_wp2_with fail
            go_roundw
            case rel =>
              refine ⟨i + 1, _, _, by go_num, by omega, AlSt.write H6.out HG7.out HW7.out, (HX.out.below HB6.out).grown HG7.out (.inr (by simpa [Value.ownBlock] using nex)), HQ2.out.put hx hy HFL.out, ?_⟩
              have := InvA.stepIn hdir HI.out hins HRK.out HP.out (by rw [HV.out]; exact HFOK.out)
              rw [HV.out] at this
              exact this
            case measure => simp [intOf]; omega
          · have hinb : inB ((x : Int) - dx) ((y : Int) - dy) wd hi = false := by
              cases e : inB ((x : Int) - dx) ((y : Int) - dy) wd hi
              · rfl
              · exact absurd (inB_iff.1 e) (by unfold insI at hp; omega)
            have HP := Lib.hid hp
            clear hp
            go_wp2_with fail
            refine (volHas_any _ _ wd hi _ _ _ _ (by omega) (by omega) hvb).mono ?_
            rw [hinb]
            rintro e w5 ⟨rfl, rfl⟩
            clear hinb
            go_wp2
            go_roundw
            case rel => exact ⟨i + 1, cs, P, by go_num, by omega, HS.out, HX.out, HQ2.out, HI.out.stepOut hins HRK.out HP.out⟩
            case measure => simp [intOf]; omega
        · have : i = wd := by omega
          subst this
          have HS := Lib.hid hst
          have HQ2 := Lib.hid hqv
          have HI := Lib.hid hinv
          clear hst hqv hinv hxl
          go_wp2
          go_roundw
          case rel => exact ⟨j + 1, cs, P, by go_num, by omega, HS.out, HQ2.out, by rw [Nat.add_mul, Nat.one_mul]; exact HI.out⟩
          case measure => simp [intOf]; omega
    · have : j = hi := by omega
      subst this
      obtain ⟨q0, q1, q2, q3, g0, g1, g2, g3⟩ := hst.obox.four
      obtain ⟨r0, r1, r2, r3, s0, s1, s2, s3⟩ := hst.rbox.four
      have hcl : cs.length = N := hst.own.sl.size.1
      have HS := Lib.hid hst
      have HQ2 := Lib.hid hqv
      have HI := Lib.hid hinv
      have HCL := Lib.hid hcl
      clear hst hqv hinv hcl c0 c1 c2 c3 f0 f1 f2 f3
      go_wp2
      refine bodyPost_ret (v := .agg #[.int .i64 wd, .int .i64 j, .int .i64 dp, .slice (some ⟨q, 0, none⟩) N cq]) (by simp [results, Try.results87, go_sem, r0, r1, r2, r3]) rfl ?_
      have ho := HS.out.own
      have hcl := HCL.out
      refine ⟨q, cq, cs, P, by rw [hcl], ?_, HQ2.out, HI.out.done, HI.out.ok, ((((HS.out.bel.setCell (by simp) _).setCell (by simp) _).setCell (by simp) _).setCell (by simp) _)⟩
      rw [hcl]
      exact ((((ho.set (by simp) _).set (by simp) _).set (by simp) _).set (by simp) _).mono (by omega)

end Go.Proofs.Ytfhlpabbacopjaa

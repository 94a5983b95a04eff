/- Sums of paths. -/
import Derived.Test.YtfhlpabbacopjaaPs
namespace Go.Proofs.Ytfhlpabbacopjaa
open Go.RowKit
set_option maxRecDepth 100000
set_option linter.unusedVariables false
set_option linter.unusedSimpArgs false

/-- The cost in a place of the list of all costs. -/
def fzI (wd dp : Nat) (P : Int → Int → List Int) (i : Nat) : Int := (P ((i / dp % wd : Nat) : Int) ((i / dp / wd : Nat) : Int)).getD (i % dp) 0
theorem place_parts {wd hi dp i : Nat} (hd : 1 ≤ dp) (hw : 1 ≤ wd) (h : i < wd * hi * dp) : i / dp % wd < wd ∧ i / dp / wd < hi ∧ i % dp < dp ∧ ic wd dp (i / dp % wd) (i / dp / wd) + i % dp = i := by
  refine ⟨Nat.mod_lt _ (by omega), ?_, Nat.mod_lt _ (by omega), ?_⟩
  · rw [Nat.div_lt_iff_lt_mul (by omega), Nat.div_lt_iff_lt_mul (by omega), Nat.mul_comm hi wd]; exact h
  · unfold ic
    rw [Nat.mod_add_div, Nat.mul_comm]
    exact Nat.div_add_mod i dp
theorem QV.flat {bs : List Nat} {wd hi dp : Nat} {P : Int → Int → List Int} (h : QV bs wd hi dp P) (hd : 1 ≤ dp) (hw : 1 ≤ wd) : bs = (List.range (wd * hi * dp)).map fun i => fq 2 (fzI wd dp P i) := by
  apply List.ext_getElem
  · simp [h.1]
  · intro i h1 h2
    have hi' : i < wd * hi * dp := by rw [← h.1]; exact h1
    obtain ⟨p1, p2, p3, p4⟩ := place_parts hd hw hi'
    have := (h.2 _ _ p1 p2).2 _ p3
    rw [p4, ← getD_of _ _ h1] at this
    rw [this]
    simp [fzI]
theorem QV.of_flat {bs : List Nat} {wd hi dp : Nat} {P : Int → Int → List Int} (hl : ∀ x y : Nat, x < wd → y < hi → (P x y).length = dp) (hd : 1 ≤ dp) (h : bs = (List.range (wd * hi * dp)).map fun i => fq 2 (fzI wd dp P i)) : QV bs wd hi dp P := by
  refine ⟨by rw [h]; simp, fun x y hx hy => ⟨hl x y hx hy, fun d hdd => ?_⟩⟩
  have hle := ic_le (dp := dp) hx hy
  rw [h, List.getD_eq_getElem?_getD, List.getElem?_map, List.getElem?_range (by omega)]
  obtain ⟨e1, e2, e3, e4⟩ := cell_parts (y := y) hx hdd
  have ei : ic wd dp x y = (y * wd + x) * dp := by unfold ic; rw [Nat.add_comm, Nat.mul_comm wd y]
  show fq 2 (fzI wd dp P _) = _
  unfold fzI
  rw [ei, e1, e2, e3, e4]

/-- The sum of the first volumes, in a place. -/
def sumI8 (wd dp : Nat) (Ps : Nat → Int → Int → List Int) : Nat → Nat → Int
  | 0, _ => 0
  | k + 1, i => sumI8 wd dp Ps k i + fzI wd dp (Ps k) i
theorem sumI8_congr {wd dp : Nat} {Ps Qs : Nat → Int → Int → List Int} (k i : Nat) (h : ∀ j, j < k → Ps j = Qs j) : sumI8 wd dp Ps k i = sumI8 wd dp Qs k i := by
  induction k with
  | zero => rfl
  | succ k ih => unfold sumI8; rw [ih (fun j hj => h j (by omega)), h k (by omega)]
theorem sumI8_bound {wd dp : Nat} {Ps : Nat → Int → Int → List Int} (k i : Nat) (h : ∀ j, j < k → (fzI wd dp (Ps j) i).natAbs ≤ 2000000) : (sumI8 wd dp Ps k i).natAbs ≤ k * 2000000 := by
  induction k with
  | zero => simp [sumI8]
  | succ k ih =>
    have h1 := ih (fun j hj => h j (by omega))
    have h2 := h k (by omega)
    unfold sumI8; omega

/-- The first i places with one volume more. -/
def partI (wd dp L : Nat) (Ps : Nat → Int → Int → List Int) (P : Int → Int → List Int) (k i : Nat) : List Int := (List.range L).map fun j => if j < i then sumI8 wd dp Ps k j + fzI wd dp P j else sumI8 wd dp Ps k j
theorem partI_length (wd dp L : Nat) (Ps : Nat → Int → Int → List Int) (P : Int → Int → List Int) (k i : Nat) : (partI wd dp L Ps P k i).length = L := by simp [partI]
theorem partI_get (wd dp L : Nat) (Ps : Nat → Int → Int → List Int) (P : Int → Int → List Int) (k i j : Nat) (h : j < L) : (partI wd dp L Ps P k i).getD j 0 = if j < i then sumI8 wd dp Ps k j + fzI wd dp P j else sumI8 wd dp Ps k j := getD_range_map _ _ _ h
theorem partI_step (wd dp L : Nat) (Ps : Nat → Int → Int → List Int) (P : Int → Int → List Int) (k i : Nat) (h : i < L) : partI wd dp L Ps P k (i + 1) = (partI wd dp L Ps P k i).set i (sumI8 wd dp Ps k i + fzI wd dp P i) := by
  apply ext_getD
  · simp [partI_length]
  · intro j hj
    rw [partI_length] at hj
    rw [partI_get _ _ _ _ _ _ _ _ hj]
    by_cases e : j = i
    · subst e; rw [getD_set_self _ _ (by rw [partI_length]; exact hj), if_pos (by omega)]
    · rw [getD_set_ne _ _ (Ne.symm e), partI_get _ _ _ _ _ _ _ _ hj]
      by_cases h1 : j < i
      · rw [if_pos h1, if_pos (by omega)]
      · rw [if_neg h1, if_neg (by omega)]

/-- The world in sums' loops. -/
structure SmSt (w wr : World) (wd hi dp b off n c ob q N cq : Nat) (bs cs : List Nat) : Prop where
  bel : Below w.heap.size w wr
  vbox : BoxN wr w.heap.size #[.int .i64 wd, .int .i64 hi, .int .i64 dp, .slice (some ⟨b, off, none⟩) n c] 26
  rbox : BoxN wr (w.heap.size + 1) #[.int .i64 0, .int .i64 0, .int .i64 0, .slice none 0 0] 26
  obox : BoxN wr ob #[.int .i64 wd, .int .i64 hi, .int .i64 dp, .slice (some ⟨q, 0, none⟩) N cq] 26
  own : OwnF wr (w.heap.size + 2) (.slice (some ⟨q, 0, none⟩) N cq) cs
  ne1 : ob ≠ q
theorem SmSt.below {w wr w2 : World} {wd hi dp b off n c ob q N cq : Nat} {bs cs : List Nat} (h : SmSt w wr wd hi dp b off n c ob q N cq bs cs) (hb : Below wr.heap.size wr w2) : SmSt w w2 wd hi dp b off n c ob q N cq bs cs :=
  ⟨h.bel.trans (hb.mono h.bel.size), h.vbox.below hb, h.rbox.below hb, h.obox.below hb, h.own.below hb, h.ne1⟩
theorem SmSt.write {w wr w2 : World} {wd hi dp b off n c ob q N cq : Nat} {bs cs cs2 : List Nat} (h : SmSt w wr wd hi dp b off n c ob q N cq bs cs) (hg : wr.grownBy w2 (some q)) (ho : OwnF w2 (w.heap.size + 2) (.slice (some ⟨q, 0, none⟩) N cq) cs2) : SmSt w w2 wd hi dp b off n c ob q N cq bs cs2 := by
  have hq := (h.own.lt (k := q) rfl).1
  exact ⟨h.bel.grown hg h.bel.size (fun k hk => by injection hk with e; omega), h.vbox.grown hg (by simp; omega), h.rbox.grown hg (by simp; omega), h.obox.grown hg (by simpa using h.ne1), ho, h.ne1⟩

/-- A sum of volumes that are told along the first directions. -/
def MakesSm (w : World) (wd hi dp m : Nat) (pr : Int → Int → Int → Int → Int × Int) (own : Int → Int → List Int) (e : Ending) (w' : World) : Prop :=
  ∃ (q c : Nat) (bs : List Nat) (Ps : Nat → Int → Int → List Int), e = .returned (.agg #[.int .i64 wd, .int .i64 hi, .int .i64 dp, .slice (some ⟨q, 0, none⟩) (List.length bs) c]) ∧ OwnF w' w.heap.size (.slice (some ⟨q, 0, none⟩) (List.length bs) c) bs ∧
    bs = ((List.range (wd * hi * dp)).map fun i => sumI8 wd dp Ps m i).map (fq 2) ∧ (∀ k, k < m → IsAlong (pathG pr (wayX k) (wayY k)) own (wayX k) (wayY k) wd hi (Ps k) ∧ ∀ x y, insI x y wd hi → PathOkI own dp x y (Ps k x y)) ∧ Below w.heap.size w w'

theorem fz_bound {own P : Int → Int → List Int} {wd hi dp i : Nat} (hd : 1 ≤ dp) (hw : 1 ≤ wd) (hb : ∀ x y, insI x y wd hi → qb2 (own x y)) (hok : ∀ x y, insI x y wd hi → PathOkI own dp x y (P x y)) (h : i < wd * hi * dp) : (fzI wd dp P i).natAbs ≤ 2000000 := by
  obtain ⟨p1, p2, p3, p4⟩ := place_parts hd hw h
  have hins : insI ((i / dp % wd : Nat) : Int) ((i / dp / wd : Nat) : Int) wd hi := ⟨Int.natCast_nonneg _, Int.ofNat_lt.2 p1, Int.natCast_nonneg _, Int.ofNat_lt.2 p2⟩
  have h1 := (hok _ _ hins).2 _ p3
  have h2 := (hb _ _ hins).get (i % dp)
  unfold fzI; omega

@[go_sem] theorem run_field_costs (a b c : Int) (o : Option Addr) (n k : Nat) (w : World) : (Instr.field 26 (.agg #[.int .i64 a, .int .i64 b, .int .i64 c, .slice o n k]) 3).run Try.prog w = .ok (.slice o n k) w := by rfl

set_option maxHeartbeats 8000000 in
theorem sums_any (w : World) (wd hi dp b off c m : Nat) (bs : List Nat) (own : Int → Int → List Int) (fv : Value) (pr : Int → Int → Int → Int → Int × Int)
    (h : VolOk w wd hi dp b off c bs) (hblt : b < w.heap.size) (hq : QV bs wd hi dp own) (hm : m ≤ 8) (hqb : ∀ x y, insI x y wd hi → qb2 (own x y)) (hf : GivesP w fv wd hi pr)
    (hpr : ∀ x y u t, insI x y wd hi → insI u t wd hi → 0 ≤ (pr x y u t).1 ∧ 0 ≤ (pr x y u t).2 ∧ (pr x y u t).1 ≤ 1000000 ∧ (pr x y u t).2 ≤ 1000000) :
    Calls Try.prog 53 #[.agg #[.int .i64 wd, .int .i64 hi, .int .i64 dp, .slice (some ⟨b, off, none⟩) bs.length c], .int .i64 m, fv] w (MakesSm w wd hi dp m pr own) := by
  obtain ⟨d1, d2, d3, d4, d5, d6, d7, d8⟩ := h.dims
  have hb0 := below_two w (.cells #[.int .i64 wd, .int .i64 hi, .int .i64 dp, .slice (some ⟨b, off, none⟩) bs.length c] 26) (.cells #[.int .i64 0, .int .i64 0, .int .i64 0, .slice none 0 0] 26)
  have B1 := BoxN.first w #[.int .i64 wd, .int .i64 hi, .int .i64 dp, .slice (some ⟨b, off, none⟩) bs.length c] 26 (.cells #[.int .i64 0, .int .i64 0, .int .i64 0, .slice none 0 0] 26)
  have B2 := BoxN.second w #[.int .i64 0, .int .i64 0, .int .i64 0, .slice none 0 0] 26 (.cells #[.int .i64 wd, .int .i64 hi, .int .i64 dp, .slice (some ⟨b, off, none⟩) bs.length c] 26)
  have hfW : ∀ W, Below w.heap.size w W → GivesP W fv wd hi pr := by
    obtain ⟨fid, recv, caps, h2, h3, h4⟩ := hf
    exact fun W hW => ⟨fid, recv, caps, h2, h3, fun x y u t W' q1 q2 q3 => h4 x y u t W' q1 q2 (hW.trans (q3.mono hW.size))⟩
  have HF := Lib.hid hfW
  obtain ⟨L, hL⟩ : ∃ L, L = wd * hi * dp := ⟨_, rfl⟩
  have hLn := h.len
  rw [← hL] at hLn
  have hL8 : L ≤ 2048 := by omega
  have HH := Lib.hid h
  have HQ := Lib.hid hq
  have HLL := Lib.hid hL
  have HLN := Lib.hid hLn
  clear hfW h hq hL hLn
  go_enter Try.func53, Try.ntmps53
  go_wp2_with fail
  refine (volumeOf_any _ wd hi dp _ _ d3 d4 d6 (sums1_gives _ wd hi dp)).mono ?_
  rintro e w2 ⟨a, cq, cs, rfl, hown2, hcon, bw2⟩
  obtain ⟨q, rfl⟩ := own_addr hown2 (by rw [tab3_len hcon]; exact Nat.mul_pos (Nat.mul_pos (by omega) (by omega)) (by omega))
  have hcl : cs.length = L := by rw [tab3_len hcon, HLL.out, Nat.mul_comm hi wd]
  have hcs : cs = (partI wd dp L (fun _ _ _ => []) (fun _ _ => []) 0 0).map (fq 2) := by
    apply List.ext_getElem
    · simp [partI_length, hcl]
    · intro i h1 h2
      have hiL : i < wd * hi * dp := by rw [← HLL.out]; omega
      obtain ⟨p1, p2, p3, p4⟩ := place_parts d5 d1 hiL
      have := tab3_get hcon p1 p2 p3
      rw [p4, ← getD_of _ _ h1] at this
      have h0 : cs[i] = fq 2 0 := eq_of_fl' (by omega) (by rw [this, fq_zero])
      rw [h0]
      simp [partI, sumI8]
  have hz2 := bw2.size
  simp at hz2
  have hqlt := hown2.lt (k := q) rfl
  simp at hqlt
  have hb2 := hb0.trans (bw2.mono (by simp; omega))
  have B1 := B1.below bw2
  have B2 := B2.below bw2
  have hown4 : OwnF w2 (w.heap.size + 2) (.slice (some ⟨q, 0, none⟩) cs.length cq) cs := hown2.mono (by simp)
  rw [hcl] at hown4 ⊢
  have ha3 : Below w2.heap.size w2 (w2.alloc (.cells #[.int .i64 wd, .int .i64 hi, .int .i64 dp, .slice (some ⟨q, 0, none⟩) L cq] 26)) := (Below.refl _ _).alloc (Nat.le_refl _) _
  have start : SmSt w (w2.alloc (.cells #[.int .i64 wd, .int .i64 hi, .int .i64 dp, .slice (some ⟨q, 0, none⟩) L cq] 26)) wd hi dp b off bs.length c w2.heap.size q L cq bs cs :=
    ⟨hb2.trans (ha3.mono hb2.size), B1.below ha3, B2.below ha3, BoxN.last w2 _ _, hown4.below ha3, by omega⟩
  have HCS := Lib.hid hcs
  clear ha3 hb2 hb0 B1 B2 hown2 hown4 hcon bw2 hcs hcl hz2
  go_wp2_with fail
  generalize hob : w2.heap.size = ob at *
  clear hob hqlt
  go_loopw [19] (fun v19 wr => ∃ (k : Nat) (cs : List Nat) (Ps : Nat → Int → Int → List Int), v19 = .int .i64 k ∧ k ≤ m ∧ SmSt w wr wd hi dp b off bs.length c ob q L cq bs cs ∧ cs = (partI wd dp L Ps (fun _ _ => []) k 0).map (fq 2) ∧ (∀ j, j < k → IsAlong (pathG pr (wayX j) (wayY j)) own (wayX j) (wayY j) wd hi (Ps j) ∧ ∀ x y, insI x y wd hi → PathOkI own dp x y (Ps j x y))) (fun v19 _ => m - (intOf v19).toNat)
  case atStart => exact ⟨0, cs, fun _ _ _ => [], rfl, Nat.zero_le _, start, HCS.out, fun j hj => absurd hj (Nat.not_lt_zero _)⟩
  case round =>
    clear start HCS cs
    obtain ⟨k, cs, Ps, rfl, hk, hst, hcs, hps⟩ := hrel
    by_cases hlt : k < m
    · obtain ⟨c0, c1, c2, c3, f0, f1, f2, f3⟩ := hst.vbox.four
      have hv2 := HH.out.below hst.bel
      have hbw : b < wr.heap.size := by have := hst.bel.size; omega
      have HS := Lib.hid hst
      have HC := Lib.hid hcs
      have HP := Lib.hid hps
      have HV := Lib.hid hv2
      clear hst hcs hps hv2
      go_wp2_with fail
      refine (path_any wr wd hi dp b off c k bs own fv pr HV.out hbw HQ.out (by omega) hqb (HF.out wr HS.out.bel) hpr).mono ?_
      rintro e w3 ⟨g, cg, ps, P, rfl, hog, hqv, hal, hok, bw3⟩
      have hpl : ps.length = L := by rw [hqv.1, HLL.out]
      have hflat := hqv.flat d5 d1
      rw [← HLL.out] at hflat
      rw [hpl] at hog ⊢
      have hst3 := HS.out.below bw3
      have hglt := hog.lt (k := g) rfl
      have hqw := (HS.out.own.lt (k := q) rfl).2
      have hgq : g ≠ q := by omega
      have hstart : cs = (partI wd dp L Ps P k 0).map (fq 2) := by rw [HC.out]; unfold partI; simp
      have HS3 := Lib.hid hst3
      have HOG := Lib.hid hog.sl
      have HAL := Lib.hid hal
      have HOK := Lib.hid hok
      have HFL := Lib.hid hflat
      have HST := Lib.hid hstart
      clear hst3 hog hqv hal hok bw3 hpl hflat HS HC hstart c0 c1 c2 c3 f0 f1 f2 f3
      go_wp2_with fail
      go_loopw [28] (fun v28 wr => ∃ (i : Nat) (cs : List Nat), v28 = .int .i64 i ∧ i ≤ L ∧ SmSt w wr wd hi dp b off bs.length c ob q L cq bs cs ∧ SlF wr (.slice (some ⟨g, 0, none⟩) L cg) ps ∧ cs = (partI wd dp L Ps P k i).map (fq 2)) (fun v28 _ => L - (intOf v28).toNat)
      case atStart => exact ⟨0, cs, rfl, Nat.zero_le _, HS3.out, HOG.out, HST.out⟩
      case round =>
        clear HS3 HOG HST cs
        obtain ⟨i, cs, rfl, hi_, hst, hsg, hcs⟩ := hrel
        by_cases hli : i < L
        · obtain ⟨c0, c1, c2, c3, f0, f1, f2, f3⟩ := hst.obox.four
          have hcl : cs.length = L := by rw [hcs, List.length_map, partI_length]
          have k1 := (hst.own.sl.at i (by omega)).1
          have k2 := (hsg.at i (by rw [HFL.out]; simpa using hli)).1
          have e1 : cs.getD i 0 = fq 2 (sumI8 wd dp Ps k i) := by rw [hcs, getD_map_fq 2 _ i (by rw [partI_length]; exact hli), partI_get _ _ _ _ _ _ _ _ hli, if_neg (by omega)]
          have e2 : ps.getD i 0 = fq 2 (fzI wd dp P i) := by rw [HFL.out, List.getD_eq_getElem?_getD, List.getElem?_map, List.getElem?_range hli]; rfl
          rw [e1, Nat.zero_add] at k1
          rw [e2, Nat.zero_add] at k2
          have kf : wr.frozen? ⟨q, i, none⟩ = false := World.ownsRow.frozenAt (n := L) (by have := hst.own.1; rw [hcl] at this; exact this) i
          have hLi : i < wd * hi * dp := by rw [← HLL.out]; exact hli
          have bd1 := fz_bound d5 d1 hqb HOK.out hLi
          have bd2 := sumI8_bound (wd := wd) (dp := dp) (Ps := Ps) k i (fun j hj => fz_bound d5 d1 hqb (HP.out j hj).2 hLi)
          have bd3 : k * 2000000 ≤ 7 * 2000000 := Nat.mul_le_mul_right _ (by omega)
          have hstep := partI_step wd dp L Ps P k i hli
          have HSTP := Lib.hid hstep
          generalize sumI8 wd dp Ps k i = s at *
          generalize fzI wd dp P i = p at *
          have a1 := fq_add (g := 2) (a := s) (b := p) (by omega) (by omega) (by omega)
          have hput := hst.own.put i (r := fq 2 (s + p)) (fq_lt (by omega))
          have HPUT := Lib.hid hput
          generalize hvs : fq 2 s = vs at *
          generalize hvp : fq 2 p = vp at *
          generalize hvr : fq 2 (s + p) = vr at *
          have HVR := Lib.hid hvr
          have r1 := fres_some a1
          have r2 := fdr_some a1
          have hd0 : ∀ W : World, W.drewN 0 = W := fun _ => rfl
          have HS := Lib.hid hst
          have HG := Lib.hid hsg
          have HC := Lib.hid hcs
          clear hst hsg hcs hput hvs hvp hvr a1 e1 e2 bd1 bd2 bd3 hstep hcl
          go_wp2
          go_roundw
          case rel =>
            refine ⟨i + 1, _, by go_num, by omega, HS.out.write (grown_setCell _ _ _) HPUT.out, ⟨HG.out.1.grown (grown_setCell _ _ _) (.inr (by simpa [Value.ownBlock] using hgq)), HG.out.2⟩, ?_⟩
            rw [HSTP.out, List.map_set, HVR.out, HC.out]
          case measure => simp [intOf]; omega
        · have : i = L := by omega
          subst this
          have HS := Lib.hid hst
          have HC := Lib.hid hcs
          clear hst hsg hcs
          go_wp2
          go_roundw
          case rel =>
            refine ⟨k + 1, cs, fun j => if j = k then P else Ps j, by go_num, by omega, HS.out, ?_, fun j hj => ?_⟩
            · rw [HC.out]
              congr 1
              unfold partI
              refine List.map_congr_left fun j hj => ?_
              rw [if_pos (List.mem_range.1 hj), if_neg (Nat.not_lt_zero _)]
              show _ = sumI8 wd dp _ k j + fzI wd dp (if k = k then P else Ps k) j
              rw [if_pos rfl, sumI8_congr (Ps := fun j => if j = k then P else Ps j) (Qs := Ps) k j (fun a ha => if_neg (by omega))]
            · by_cases e : j = k
              · subst e; simp only [if_true]; exact ⟨HAL.out, HOK.out⟩
              · simp only [if_neg e]; exact HP.out j (by omega)
          case measure => simp [intOf]; omega
    · have : k = m := by omega
      subst this
      obtain ⟨q0, q1, q2, q3, g0, g1, g2, g3⟩ := hst.obox.four
      obtain ⟨r0, r1, r2, r3, s0, s1, s2, s3⟩ := hst.rbox.four
      have hcl : cs.length = L := hst.own.sl.size.1
      have HS := Lib.hid hst
      have HC := Lib.hid hcs
      have HP := Lib.hid hps
      have HCL := Lib.hid hcl
      clear hst hcs hps hcl
      go_wp2
      refine bodyPost_ret (v := .agg #[.int .i64 wd, .int .i64 hi, .int .i64 dp, .slice (some ⟨q, 0, none⟩) L cq]) (by simp [results, Try.results53, go_sem, r0, r1, r2, r3]) rfl ?_
      have ho := HS.out.own
      have hcl := HCL.out
      refine ⟨q, cq, cs, Ps, by rw [hcl], ?_, ?_, HP.out, ((((HS.out.bel.setCell (by simp) _).setCell (by simp) _).setCell (by simp) _).setCell (by simp) _)⟩
      · rw [hcl]
        exact ((((ho.set (by simp) _).set (by simp) _).set (by simp) _).set (by simp) _).mono (by omega)
      · rw [HC.out, ← HLL.out]
        unfold partI
        simp

end Go.Proofs.Ytfhlpabbacopjaa

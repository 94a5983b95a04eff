/- Ranks: lists alike; the plain law. -/
import Derived.Test.YtialajgobpokmaaRe
namespace Go.Proofs.Ytialajgobpokmaa
open Go.RowKit
set_option maxRecDepth 100000
set_option linter.unusedVariables false
set_option linter.unusedSimpArgs false

theorem r8List_yes (w : World) (B1 B2 g1 c1 g2 c2 n : Nat) (L : List Int) (h1 : OwnI w B1 (.slice (some ⟨g1, 0, none⟩) n c1) L) (h2 : OwnI w B2 (.slice (some ⟨g2, 0, none⟩) n c2) L) :
    Calls Try.prog 21 #[.slice (some ⟨g1, 0, none⟩) n c1, .slice (some ⟨g2, 0, none⟩) n c2] w fun e w' => e = .returned (.bool true) ∧ ∃ k, w' = w.drewN k := by
  obtain ⟨l1, l2, l3⟩ := h1.len
  have hm : n ≤ 9223372036854775807 := by unfold maxLen at l3; omega
  have HL := Lib.hid l1
  have C1 := Lib.hid (fun i hi => h1.cellAt i hi)
  have C2 := Lib.hid (fun i hi => h2.cellAt i hi)
  clear l1 l2 l3 h1 h2
  go_enter Try.func21, Try.ntmps21
  go_wp2_with fail
  go_loopw [5] (fun v5 wr => ∃ i k : Nat, v5 = .int .i64 i ∧ i ≤ n ∧ wr = w.drewN k) (fun v5 _ => n - (intOf v5).toNat)
  case atStart => exact ⟨0, 0, rfl, Nat.zero_le _, rfl⟩
  case round =>
    obtain ⟨i, k, rfl, hi_, rfl⟩ := hrel
    by_cases hlt : i < n
    · have c1 := C1.out i (by rw [HL.out]; exact hlt)
      have c2 := C2.out i (by rw [HL.out]; exact hlt)
      obtain ⟨V, hV⟩ : ∃ V, V = L.getD i 0 := ⟨_, rfl⟩
      rw [← hV] at c1 c2
      have k1 : (i : Int) < (n : Int) := by omega
      clear hV
      go_wp2_with fail
      go_quiet (fail)
      go_wp2
      go_roundw
      case rel => exact ⟨i + 1, _, by go_num, by omega, rfl⟩
      case measure => simp [intOf]; omega
    · obtain rfl : i = n := by omega
      go_wp2
      go_ret
      exact ⟨rfl, k, rfl⟩

theorem xor_zero (a b : Nat) : a ^^^ b = 0 ↔ a = b := by
  constructor
  · intro h
    have := congrArg (fun z => z ^^^ b) h
    simpa [Nat.xor_assoc, Nat.xor_self] using this
  · rintro rfl; exact Nat.xor_self a
theorem rkL_scale {ks : List Int} {wd hi r m : Nat} (hl : ks.length = wd * hi) (hw : 0 < wd) (hh : 0 < hi) : rkL (ks.map fun k => 2 * k + 12) wd hi r m = rkL ks wd hi r m := by
  unfold rkL
  congr 1
  funext i
  rw [rankF_scale hl hw hh]
theorem rkL_at {ks : List Int} {wd hi r N x y : Nat} (hN : N = wd * hi) (hx : x < wd) (hy : y < hi) : (rkL ks wd hi r N).getD (x + wd * y) 0 = (rankF ks wd hi r x y : Nat) := by
  have hlt : x + wd * y < N := by
    rw [hN]
    calc x + wd * y < wd + wd * y := by omega
      _ = wd * (y + 1) := by rw [Nat.mul_add, Nat.mul_one, Nat.add_comm]
      _ ≤ wd * hi := Nat.mul_le_mul_left _ hy
  unfold rkL
  rw [tabI_get hlt, md1 hx, md2 hx]

/-- Words by a table. -/
theorem words_at {bs : List Nat} {wd hi N : Nat} {g : Nat → Nat → Nat} (hl : bs.length = N) (hN : N = wd * hi) (h : bs.map fl = tab (hi * wd) fun i => g (i % wd) (i / wd)) {x y : Nat} (hx : x < wd) (hy : y < hi) (hn : nan32 (g x y) = false) : bs.getD (x + wd * y) 0 = g x y := by
  have := tab_at h hx hy
  rw [md1 hx, md2 hx] at this
  have hb : nan32 (bs.getD (x + wd * y) 0) = false := by rw [← nan32_fl, this]; exact hn
  rw [fl_eq hb] at this
  exact this
theorem ix_ex (X Y : Int) {wd hi : Nat} (hw : 0 < wd) (hh : 0 < hi) : ∃ x y, x < wd ∧ y < hi ∧ ix X Y wd hi = x + wd * y := ⟨cl X wd, cl Y hi, cl_lt X hw, cl_lt Y hh, rfl⟩
theorem list_at {bs cs : List Nat} {wd hi N : Nat} (h1 : bs.length = N) (h2 : cs.length = N) (hN : N = wd * hi) (hw : 0 < wd) (h : ∀ x y, x < wd → y < hi → bs.getD (x + wd * y) 0 = cs.getD (x + wd * y) 0) : bs = cs := by
  apply List.ext_getElem (by rw [h1, h2])
  intro i g1 g2
  have e := h (i % wd) (i / wd) (Nat.mod_lt i hw) ((Nat.div_lt_iff_lt_mul hw).2 (by rw [Nat.mul_comm, ← hN, ← h1]; exact g1))
  rw [Nat.mod_add_div, List.getD_eq_getElem?_getD, List.getD_eq_getElem?_getD, List.getElem?_eq_getElem g1, List.getElem?_eq_getElem g2] at e
  exact e

theorem slp_tab : ∀ d : Fin 33, fop .quo (fq 2 ((d.val : Int) - 16)) 1073741824 = fq 3 ((d.val : Int) - 16) ∧ fop .add (fop .mul (fq 3 (16 - (d.val : Int))) 3212836864) 0 = fq 3 ((d.val : Int) - 16) := by decide +kernel
theorem slp_q {d : Int} (h1 : -16 ≤ d) (h2 : d ≤ 16) : fop .quo (fq 2 d) 1073741824 = fq 3 d ∧ fop .add (fop .mul (fq 3 (-d)) 3212836864) 0 = fq 3 d := by
  have := slp_tab ⟨(d + 16).toNat, by omega⟩
  simp only at this
  rw [show (((d + 16).toNat : Int) - 16) = d by omega, show (16 - ((d + 16).toNat : Int)) = -d by omega] at this
  exact this
theorem scl_tab : ∀ k : Fin 17, fop .add (fop .mul (fq 2 (k.val : Int)) 1073741824) 1077936128 = fq 2 (2 * (k.val : Int) + 12) := by decide +kernel
theorem scl_q {k : Int} (h1 : 0 ≤ k) (h2 : k ≤ 16) : fop .add (fop .mul (fq 2 k) 1073741824) 1077936128 = fq 2 (2 * k + 12) := by
  have := scl_tab ⟨k.toNat, by omega⟩
  simp only at this
  rw [show ((k.toNat : Int)) = k by omega] at this
  exact this
theorem q16 {ks : List Int} (hk : ∀ k ∈ ks, 0 ≤ k ∧ k ≤ 16) (i : Nat) : 0 ≤ ks.getD i 0 ∧ ks.getD i 0 ≤ 16 := by
  rw [List.getD_eq_getElem?_getD]
  cases e : ks[i]? with
  | none => exact ⟨Int.le_refl _, by decide⟩
  | some z => exact hk z (List.mem_of_getElem? e)
theorem fl_q16 {ks : List Int} {wd hi : Nat} (hl : ks.length = wd * hi) (hk : ∀ k ∈ ks, 0 ≤ k ∧ k ≤ 16) (X Y : Int) (hw : 0 < wd) (hh : 0 < hi) : fl ((ks.map (fq 2)).getD (ix X Y wd hi) 0) = fq 2 (ks.getD (ix X Y wd hi) 0) := by
  have e : (ks.map (fq 2)).getD (ix X Y wd hi) 0 = fq 2 (ks.getD (ix X Y wd hi) 0) := by
    rw [List.getD_eq_getElem?_getD, List.getD_eq_getElem?_getD, List.getElem?_map, List.getElem?_eq_getElem (by rw [hl]; exact ix_lt X Y hw hh)]; rfl
  rw [e, fl_fq (by have := q16 hk (ix X Y wd hi); omega)]
def slpK (ks : List Int) (wd hi : Nat) (x y : Nat) : Int := ks.getD (ix ((x : Int) + 1) y wd hi) 0 - ks.getD (ix ((x : Int) - 1) y wd hi) 0
theorem slpK_bd {ks : List Int} (hk : ∀ k ∈ ks, 0 ≤ k ∧ k ≤ 16) (wd hi x y : Nat) : -16 ≤ slpK ks wd hi x y ∧ slpK ks wd hi x y ≤ 16 := by
  have a := q16 hk (ix ((x : Int) + 1) y wd hi)
  have b := q16 hk (ix ((x : Int) - 1) y wd hi)
  unfold slpK; omega
theorem slpG_q {ks : List Int} {wd hi : Nat} (hl : ks.length = wd * hi) (hk : ∀ k ∈ ks, 0 ≤ k ∧ k ≤ 16) (hw : 0 < wd) (hh : 0 < hi) (x y : Nat) : slpG (ks.map (fq 2)) wd hi x y = fq 3 (slpK ks wd hi x y) := by
  have a := q16 hk (ix ((x : Int) + 1) y wd hi)
  have b := q16 hk (ix ((x : Int) - 1) y wd hi)
  unfold slpG
  rw [fl_q16 hl hk _ _ hw hh, fl_q16 hl hk _ _ hw hh, fop_sub (by omega) (by omega) (by omega)]
  exact (slp_q (by omega) (by omega)).1
theorem slpK_mir {ks : List Int} {wd hi : Nat} (hw : 0 < wd) (hh : 0 < hi) {x y : Nat} (hx : x < wd) : slpK (mirK ks wd hi) wd hi (wd - 1 - x) y = -slpK ks wd hi x y := by
  unfold slpK
  rw [mirK_get ks hw hh, mirK_get ks hw hh, show (wd : Int) - 1 - (((wd - 1 - x : Nat) : Int) + 1) = (x : Int) - 1 by omega, show (wd : Int) - 1 - (((wd - 1 - x : Nat) : Int) - 1) = (x : Int) + 1 by omega]
  omega
/-- The slopes of a mirrored picture, mirrored, are the opposite ones. -/
theorem slp_back {ks : List Int} {wd hi N : Nat} {b1 b2 b3 b4 b5 : List Nat} (hv : vPic wd hi N = true) (hl : ks.length = N) (hk : ∀ k ∈ ks, 0 ≤ k ∧ k ≤ 16)
    (l1 : b1.length = N) (l3 : b3.length = N) (l4 : b4.length = N) (l5 : b5.length = N)
    (h1 : b1.map fl = tab (hi * wd) fun i => slpG (ks.map (fq 2)) wd hi (i % wd) (i / wd))
    (h2 : b2.map fl = tab (hi * wd) fun i => (fun x y => fl ((ks.map (fq 2)).getD (ix ((wd : Int) - 1 - (x : Nat)) (y : Nat) wd hi) 0)) (i % wd) (i / wd))
    (h3 : b3.map fl = tab (hi * wd) fun i => slpG b2 wd hi (i % wd) (i / wd))
    (h4 : b4.map fl = tab (hi * wd) fun i => (fun x y => fl (b3.getD (ix ((wd : Int) - 1 - (x : Nat)) (y : Nat) wd hi) 0)) (i % wd) (i / wd))
    (h5 : b5.map fl = tab (hi * wd) fun i => (fun x y => fop .add (fop .mul (fl (b4.getD (ix x y wd hi) 0)) (fl 3212836864)) (fl 0)) (i % wd) (i / wd)) : b5 = b1 := by
  obtain ⟨e1, e2, d1, d2, d3, d4, e7⟩ := vN hv
  have hm := mir_words hv hl hk h2
  subst hm
  have hkm := mirK_mem (ks := ks) (wd := wd) (hi := hi) (by rw [hl, e1]) d1 d2
  have hk2 : ∀ k ∈ mirK ks wd hi, 0 ≤ k ∧ k ≤ 16 := fun k h => hk k (hkm k h)
  have hl2 : (mirK ks wd hi).length = wd * hi := tabI_length _ _
  have hfl : ∀ x y, fl (fq 3 (slpK ks wd hi x y)) = fq 3 (slpK ks wd hi x y) := fun x y => fl_fq (by have := slpK_bd hk wd hi x y; omega)
  have w1 : ∀ x y, x < wd → y < hi → b1.getD (x + wd * y) 0 = fq 3 (slpK ks wd hi x y) := by
    intro x y hx hy
    rw [words_at l1 e1 h1 hx hy (by rw [slpG_q (by rw [hl, e1]) hk d1 d2]; exact fq_nan (by have := slpK_bd hk wd hi x y; omega)), slpG_q (by rw [hl, e1]) hk d1 d2]
  have w3 : ∀ x y, x < wd → y < hi → b3.getD (x + wd * y) 0 = fq 3 (slpK (mirK ks wd hi) wd hi x y) := by
    intro x y hx hy
    rw [words_at l3 e1 h3 hx hy (by rw [slpG_q hl2 hk2 d1 d2]; exact fq_nan (by have := slpK_bd hk2 wd hi x y; omega)), slpG_q hl2 hk2 d1 d2]
  have w4 : ∀ x y, x < wd → y < hi → b4.getD (x + wd * y) 0 = fq 3 (-slpK ks wd hi x y) := by
    intro x y hx hy
    have ei : ix ((wd : Int) - 1 - (x : Nat)) (y : Nat) wd hi = (wd - 1 - x) + wd * y := by
      rw [show (wd : Int) - 1 - (x : Nat) = ((wd - 1 - x : Nat) : Int) by omega]; exact ix_in (by omega) hy
    have ev : fl (b3.getD (ix ((wd : Int) - 1 - (x : Nat)) (y : Nat) wd hi) 0) = fq 3 (-slpK ks wd hi x y) := by
      rw [ei, w3 _ _ (by omega) hy, slpK_mir d1 d2 hx, fl_fq (by have := slpK_bd hk wd hi x y; omega)]
    have := words_at (g := fun x y => fl (b3.getD (ix ((wd : Int) - 1 - (x : Nat)) (y : Nat) wd hi) 0)) l4 e1 h4 hx hy (by show nan32 _ = false; rw [ev]; exact fq_nan (by have := slpK_bd hk wd hi x y; omega))
    rw [this]; exact ev
  have c0 : fl 3212836864 = 3212836864 := by decide
  refine list_at l5 l1 e1 d1 fun x y hx hy => ?_
  have hb := slpK_bd hk wd hi x y
  have ev : fop .add (fop .mul (fl (b4.getD (ix x y wd hi) 0)) (fl 3212836864)) (fl 0) = fq 3 (slpK ks wd hi x y) := by
    rw [ix_in hx hy, w4 x y hx hy, fl_fq (by omega), c0, fl_zero]
    exact (slp_q hb.1 hb.2).2
  have := words_at (g := fun x y => fop .add (fop .mul (fl (b4.getD (ix x y wd hi) 0)) (fl 3212836864)) (fl 0)) l5 e1 h5 hx hy (by show nan32 _ = false; rw [ev]; exact fq_nan (by omega))
  rw [this, w1 x y hx hy]; exact ev
theorem slp_fin {ks : List Int} {wd hi N : Nat} {b1 : List Nat} (hv : vPic wd hi N = true) (hl : ks.length = N) (hk : ∀ k ∈ ks, 0 ≤ k ∧ k ≤ 16) (l1 : b1.length = N)
    (h1 : b1.map fl = tab (hi * wd) fun i => slpG (ks.map (fq 2)) wd hi (i % wd) (i / wd)) : ∀ z ∈ b1, fin32 z = true := by
  obtain ⟨e1, e2, d1, d2, d3, d4, e7⟩ := vN hv
  intro z hz
  obtain ⟨i, hi_, rfl⟩ := List.mem_iff_getElem.1 hz
  have hx := Nat.mod_lt i d1
  have hy : i / wd < hi := (Nat.div_lt_iff_lt_mul d1).2 (by rw [Nat.mul_comm, ← e1, ← l1]; exact hi_)
  have hb := slpK_bd hk wd hi (i % wd) (i / wd)
  have := words_at l1 e1 h1 hx hy (by rw [slpG_q (by rw [hl, e1]) hk d1 d2]; exact fq_nan (by omega))
  rw [slpG_q (by rw [hl, e1]) hk d1 d2, Nat.mod_add_div, List.getD_eq_getElem?_getD, List.getElem?_eq_getElem hi_] at this
  rw [show b1[i] = _ from this]
  exact fq_fin (by omega)
/-- Twice as great and moved. -/
theorem scl_words {ks : List Int} {wd hi N : Nat} {b : List Nat} (hv : vPic wd hi N = true) (hl : ks.length = N) (hk : ∀ k ∈ ks, 0 ≤ k ∧ k ≤ 16) (lb : b.length = N)
    (h : b.map fl = tab (hi * wd) fun i => (fun x y => fop .add (fop .mul (fl ((ks.map (fq 2)).getD (ix (x : Nat) (y : Nat) wd hi) 0)) (fl 1073741824)) (fl 1077936128)) (i % wd) (i / wd)) : b = (ks.map fun k => 2 * k + 12).map (fq 2) := by
  obtain ⟨e1, e2, d1, d2, d3, d4, e7⟩ := vN hv
  have c1 : fl 1077936128 = 1077936128 := by decide
  refine list_at lb (by rw [List.length_map, List.length_map, hl]) e1 d1 fun x y hx hy => ?_
  have hb := q16 hk (x + wd * y)
  have ev : fop .add (fop .mul (fl ((ks.map (fq 2)).getD (ix x y wd hi) 0)) (fl 1073741824)) (fl 1077936128) = fq 2 (2 * ks.getD (x + wd * y) 0 + 12) := by
    rw [fl_q16 (by rw [hl, e1]) hk _ _ d1 d2, ix_in hx hy, fl_c2, c1]
    exact scl_q hb.1 hb.2
  have := words_at (g := fun x y => fop .add (fop .mul (fl ((ks.map (fq 2)).getD (ix (x : Nat) (y : Nat) wd hi) 0)) (fl 1073741824)) (fl 1077936128)) lb e1 h hx hy (by show nan32 _ = false; rw [ev]; exact fq_nan (by omega))
  rw [this]
  show fop .add (fop .mul (fl ((ks.map (fq 2)).getD (ix x y wd hi) 0)) (fl 1073741824)) (fl 1077936128) = _
  rw [ev]
  have hlt : x + wd * y < ks.length := by rw [hl, e1, ← ix_in hx hy]; exact ix_lt _ _ d1 d2
  rw [List.getD_eq_getElem?_getD, List.getD_eq_getElem?_getD, List.getElem?_map, List.getElem?_map, List.getElem?_eq_getElem hlt]; rfl

theorem nrm_tab : ∀ m n : Fin 17, 0 < m.val → n.val ≤ m.val → fin32 (nrm n.val m.val) = true ∧ nrm n.val m.val < 4294967296 ∧ 0 ≤ vv (nrm n.val m.val) ∧ vv (nrm n.val m.val) ≤ vv 1065353216 ∧ (nrm n.val m.val = 0 ∨ 0 < vv (nrm n.val m.val)) ∧ (nrm n.val m.val = 1065353216 ∨ vv (nrm n.val m.val) < vv 1065353216) ∧ (n.val = 0 → nrm n.val m.val = 0) ∧ (n.val = m.val → nrm n.val m.val = 1065353216) := by decide +kernel
theorem vv_zero : vv 0 = 0 := by decide +kernel
/-- The range of a norm. -/
theorem nrm_range {ks : List Int} {wd hi N : Nat} {b : List Nat} {L H : Int} (hv : vPic wd hi N = true) (hl : ks.length = N) (hk : ∀ k ∈ ks, 0 ≤ k ∧ k ≤ 16) (g1 : (rwF (ks.map (fq 2))).1 = fq 2 L) (g2 : (rwF (ks.map (fq 2))).2.1 = fq 2 H) (hL : 0 ≤ L) (hLH : L ≤ H) (hH : H ≤ 16) (hb : ∀ i, i < N → L ≤ ks.getD i 0 ∧ ks.getD i 0 ≤ H) (lb : b.length = N)
    (h : b.map fl = tab (hi * wd) fun i => (fun (x y : Nat) => nrmF L H (ks.getD (ix x y wd hi) 0)) (i % wd) (i / wd)) :
    (∀ z ∈ b, fin32 z = true) ∧ (rwF b).2.2 = true ∧ (rwF b).1 = 0 ∧ (L = H → (rwF b).2.1 = 0) ∧ (L < H → (rwF b).2.1 = 1065353216) := by
  obtain ⟨e1, e2, d1, d2, d3, d4, e7⟩ := vN hv
  have hw : ∀ i, i < N → nan32 (nrmF L H (ks.getD i 0)) = false ∧ fin32 (nrmF L H (ks.getD i 0)) = true := by
    intro i hi_
    have hbi := hb i hi_
    unfold nrmF
    by_cases e : L = H
    · rw [if_pos e]; decide
    · rw [if_neg e]
      have := nrm_tab ⟨(H - L).toNat, by omega⟩ ⟨(ks.getD i 0 - L).toNat, by omega⟩ (by simp only; omega) (by simp only; omega)
      exact ⟨nan_of_fin32 this.1, this.1⟩
  have hbw : ∀ i, i < N → b.getD i 0 = nrmF L H (ks.getD i 0) := by
    intro i hi_
    have hx := Nat.mod_lt i d1
    have hy : i / wd < hi := (Nat.div_lt_iff_lt_mul d1).2 (by rw [Nat.mul_comm, ← e1]; exact hi_)
    have em : i % wd + wd * (i / wd) = i := Nat.mod_add_div i wd
    have ei : ix (i % wd : Nat) (i / wd : Nat) wd hi = i := by rw [ix_in hx hy]; exact em
    have := words_at (g := fun (x y : Nat) => nrmF L H (ks.getD (ix x y wd hi) 0)) lb e1 h hx hy (by show nan32 (nrmF L H (ks.getD (ix (i % wd : Nat) (i / wd : Nat) wd hi) 0)) = false; rw [ei]; exact (hw i hi_).1)
    rw [em] at this
    rw [this]
    show nrmF L H (ks.getD (ix (i % wd : Nat) (i / wd : Nat) wd hi) 0) = _
    rw [ei]
  have hfin : ∀ z ∈ b, fin32 z = true := by
    intro z hz
    obtain ⟨i, hi_, rfl⟩ := List.mem_iff_getElem.1 hz
    have := hbw i (by rw [← lb]; exact hi_)
    rw [List.getD_eq_getElem?_getD, List.getElem?_eq_getElem hi_] at this
    rw [show b[i] = _ from this]
    exact (hw i (by rw [← lb]; exact hi_)).2
  have hfk : ∀ z ∈ ks.map (fq 2), fin32 z = true := by
    intro z hz
    obtain ⟨k, k1, rfl⟩ := List.mem_map.1 hz
    exact fq_fin (by have := hk k k1; omega)
  obtain ⟨a1, a2, a3, a4, a5⟩ := rw_inv b hfin b.length (Nat.le_refl _)
  obtain ⟨c1, c2, c3, c4, c5⟩ := rw_inv (ks.map (fq 2)) hfk (ks.map (fq 2)).length (Nat.le_refl _)
  rw [List.take_length] at a1 a2 a3 a4 a5 c1 c2 c3 c4 c5
  have eb : b.foldl rwS (0, 0, false) = rwF b := rfl
  have ek : (ks.map (fq 2)).foldl rwS (0, 0, false) = rwF (ks.map (fq 2)) := rfl
  rw [eb, lb] at a1 a4 a5
  rw [ek, g1, g2, List.length_map, hl] at c5
  obtain ⟨⟨j1, p1, p2⟩, ⟨j2, p3, p4⟩⟩ := a5 e2
  obtain ⟨⟨j3, p5, p6⟩, ⟨j4, p7, p8⟩⟩ := c5 e2
  have hgk : ∀ j, j < N → (ks.map (fq 2)).getD j 0 = fq 2 (ks.getD j 0) := by
    intro j hj
    rw [List.getD_eq_getElem?_getD, List.getD_eq_getElem?_getD, List.getElem?_map, List.getElem?_eq_getElem (by rw [hl]; exact hj)]; rfl
  rw [hgk _ p5] at p6
  rw [hgk _ p7] at p8
  have q3 := q16 hk j3
  have q4 := q16 hk j4
  have r3 : L = ks.getD j3 0 := fq_inj (by omega) (by omega) p6
  have r4 : H = ks.getD j4 0 := fq_inj (by omega) (by omega) p8
  refine ⟨hfin, by rw [a1]; simpa using e2, ?_⟩
  by_cases e : L = H
  · have hz : ∀ i, i < N → b.getD i 0 = 0 := fun i hi_ => by rw [hbw i hi_]; unfold nrmF; rw [if_pos e]
    refine ⟨by rw [p2, hz j1 p1], fun _ => by rw [p4, hz j2 p3], fun g => by omega⟩
  · have hz : ∀ i, i < N → b.getD i 0 = nrm (ks.getD i 0 - L).toNat (H - L).toNat := fun i hi_ => by rw [hbw i hi_]; unfold nrmF; rw [if_neg e]
    have t := fun i (hi_ : i < N) => nrm_tab ⟨(H - L).toNat, by omega⟩ ⟨(ks.getD i 0 - L).toNat, by have := hb i hi_; omega⟩ (by simp only; omega) (by have := hb i hi_; simp only; omega)
    simp only at t
    have t1 := t j1 p1
    have t2 := t j2 p3
    have t3 := t j3 p5
    have t4 := t j4 p7
    rw [← hz j1 p1] at t1
    rw [← hz j2 p3] at t2
    have z3 : b.getD j3 0 = 0 := by rw [hz j3 p5]; exact t3.2.2.2.2.2.2.1 (by omega)
    have z4 : b.getD j4 0 = 1065353216 := by rw [hz j4 p7]; exact t4.2.2.2.2.2.2.2 (by omega)
    have u3 := (a4 j3 p5).1
    have u4 := (a4 j4 p7).2
    rw [z3, vv_zero, p2] at u3
    rw [z4, p4] at u4
    refine ⟨?_, fun g => absurd g e, fun _ => ?_⟩
    · rw [p2]
      rcases t1.2.2.2.2.1 with g | g
      · exact g
      · omega
    · rw [p4]
      rcases t2.2.2.2.2.2.1 with g | g
      · exact g
      · omega

end Go.Proofs.Ytialajgobpokmaa

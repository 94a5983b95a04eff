/- Cells that nothing leads to. -/
import Derived.Test.YtmpbnmmpniganaaKk
import Derived.Test.YtmpbnmmpniganaaOi
namespace Go.Proofs.Ytmpbnmmpniganaa
open Go.RowKit
set_option maxRecDepth 100000
set_option linter.unusedVariables false
set_option linter.unusedSimpArgs false

theorem info_bool : (Try.prog.info? 4).map (fun i => (i.zero, i.size, i.bytes)) = some (some (.bool false), 1, 1) := by kernel_rfl
def tabB (n : Nat) (f : Nat → Bool) : List Value := (List.range n).map fun i => Value.bool (f i)
/-- A slice of Booleans of the call's own. -/
def OwnB (w : World) (B : Nat) (v : Value) (n : Nat) (f : Nat → Bool) : Prop := w.ownsRow B 4 1 v n (tabB n f)
theorem OwnB.cellAt {w : World} {B g n cap : Nat} {f : Nat → Bool} (h : OwnB w B (.slice (some ⟨g, 0, none⟩) n cap) n f) (i : Nat) (hi : i < n) : w.cell? ⟨g, i, none⟩ = some (.bool (f i)) := by
  have := World.ownsRow.cells (g := g) h rfl i (Value.bool (f i)) (by simp [tabB, hi])
  by_cases h0 : i = 0
  · subst h0; simpa [Addr.add] using this
  · simpa [Addr.add, h0] using this
theorem OwnB.free {w : World} {B g n cap : Nat} {f : Nat → Bool} (h : OwnB w B (.slice (some ⟨g, 0, none⟩) n cap) n f) (i : Nat) : w.frozen? ⟨g, i, none⟩ = false := World.ownsRow.frozenAt (n := n) h i
def updB (f : Nat → Bool) (j : Nat) (v : Bool) : Nat → Bool := fun i => if i = j then v else f i
theorem tabB_set (n : Nat) (f : Nat → Bool) (j : Nat) (v : Bool) : (tabB n f).set j (.bool v) = tabB n (updB f j v) := by
  apply List.ext_getElem
  · simp [tabB]
  · intro i h1 h2
    rw [List.getElem_set]
    have t : ∀ (F : Nat → Bool) (h : i < (tabB n F).length), (tabB n F)[i] = .bool (F i) := fun F h => by simp [tabB]
    rw [t, t]
    unfold updB
    by_cases e : j = i
    · subst e; rw [if_pos rfl, if_pos rfl]
    · rw [if_neg e, if_neg (fun h => e h.symm)]
theorem OwnB.put {w : World} {B g n cap : Nat} {f : Nat → Bool} (h : OwnB w B (.slice (some ⟨g, 0, none⟩) n cap) n f) (i : Nat) (z : Bool) : OwnB (w.setCell ⟨g, i, none⟩ (.bool z)) B (.slice (some ⟨g, 0, none⟩) n cap) n (updB f i z) := by
  have := (World.ownsRow.stored h i (.bool z)).1
  rw [tabB_set] at this
  exact this
theorem OwnB.grown {w w' : World} {B n : Nat} {v : Value} {f : Nat → Bool} {r : Option Nat} (h : OwnB w B v n f) (hg : w.grownBy w' r) (hne : v.ownBlock = none ∨ v.ownBlock ≠ r) : OwnB w' B v n f := World.ownsRow.kept h hg hne
theorem OwnB.below {w w' : World} {B n : Nat} {v : Value} {f : Nat → Bool} (h : OwnB w B v n f) (hb : Below w.heap.size w w') : OwnB w' B v n f := h.grown (grown_below hb none) (by cases v.ownBlock <;> simp)
theorem OwnB.lt {w : World} {B n : Nat} {v : Value} {f : Nat → Bool} (h : OwnB w B v n f) {k : Nat} (hk : v.ownBlock = some k) : B ≤ k ∧ k < w.heap.size := World.ownsRow.lt h k hk
/-- A slice of Booleans made anew. -/
theorem makeB (w : World) (n B : Nat) (hB : B ≤ w.heap.size) (hn : n ≤ 1000) :
    ∃ w', (Instr.makeSlice 66 (.int .i64 (n : Int)) (.int .i64 (n : Int))).run Try.prog w = .ok (.slice (some ⟨w.heap.size, 0, none⟩) n n) w' ∧ OwnB w' B (.slice (some ⟨w.heap.size, 0, none⟩) n n) n (fun _ => false) ∧ Below w.heap.size w w' ∧ w.heap.size < w'.heap.size := by
  obtain ⟨i0, hi0, hz0, hz1, hz2⟩ := info_parts info_bool
  obtain ⟨w', h1, h2, h3⟩ := run_makeSlice_full (P := Try.prog) (w := w) B 66 4 i0 (.bool false) 1 (by rfl) hi0 hz0 hz1 .i64 .i64 n (by omega) (by rw [hz2]; omega) (by unfold maxLen; omega) hB
  have h4 : (madeCells (Value.cells (.bool false)) (n * 1)).toList = tabB n fun _ => false := by
    rw [Nat.mul_one]
    have e : tabB n (fun _ => false) = List.replicate n (Value.bool false) := by unfold tabB; rw [List.map_const', List.length_range]
    rw [e]; exact toList_madeCells_one _ _
  refine ⟨w', h1, ?_, below_of_grown2 h3, ?_⟩
  · unfold OwnB; rw [← h4]; exact h2
  · exact (World.ownsRow.lt h2 w.heap.size rfl).2

/-- Does the cell lead to another one, and which are seen? -/
def leads (ks : List Int) (wd i : Nat) : Bool := decide (0 ≤ ks.getD i 0) && decide (plq (ks.getD i 0) ≤ ((i % wd : Nat) : Int))
def seenF (ks : List Int) (wd : Nat) : Nat → Nat → Bool
  | 0 => fun _ => false
  | n + 1 => if leads ks wd n = true then updB (seenF ks wd n) (n - (plq (ks.getD n 0)).toNat) true else seenF ks wd n
def unsL (f : Nat → Bool) : Nat → List Int
  | 0 => []
  | i + 1 => if f i = true then unsL f i else unsL f i ++ [(i : Int)]
theorem unsL_len (f : Nat → Bool) : ∀ i, (unsL f i).length ≤ i := by
  intro i
  induction i with
  | zero => exact Nat.le_refl _
  | succ i ih =>
    unfold unsL
    split
    · omega
    · rw [List.length_append]; simp; omega
theorem OwnI.baseK {w : World} {B B' g n cap : Nat} {ks : List Int} (h : OwnI w B (.slice (some ⟨g, 0, none⟩) n cap) ks) (hB : B' ≤ B) : OwnI w B' (.slice (some ⟨g, 0, none⟩) n cap) ks := by
  rcases h with ⟨h1, h2 | ⟨g', cap', cur, e1, e2, e3⟩⟩
  · cases h2.1
  · exact ⟨h1, .inr ⟨g', cap', cur, e1, Nat.le_trans hB e2, e3⟩⟩
def MakesLst (w : World) (L : List Int) (e : Ending) (w' : World) : Prop :=
  ∃ g c, e = .returned (.tuple #[.slice (some ⟨g, 0, none⟩) L.length c, .bool true]) ∧ OwnI w' w.heap.size (.slice (some ⟨g, 0, none⟩) L.length c) L ∧ Below w.heap.size w w'

set_option maxHeartbeats 8000000 in
theorem unseenOf_q (w : World) (wd hi N q c : Nat) (ks : List Int) (hv : vPic wd hi N = true) (h : MQ w q c N ks) (hk : ∀ k ∈ ks, k = -4 ∨ 0 ≤ k ∧ k ≤ 19) :
    Calls Try.prog 35 #[.agg #[.int .i64 wd, .int .i64 hi, .slice (some ⟨q, 0, none⟩) N c]] w (MakesLst w (unsL (seenF ks wd N) N)) := by
  obtain ⟨i0, hi0, hz0, hz1, hz2⟩ := info_parts info_i64
  obtain ⟨e1, e2, e3, e4, e5, e6, e7⟩ := vPic_mul hv
  have hb0 := alb1 w (.cells #[.int .i64 wd, .int .i64 hi, .slice (some ⟨q, 0, none⟩) N c] 27)
  have B := box_last w (.int .i64 wd) (.int .i64 hi) (.slice (some ⟨q, 0, none⟩) N c) 27
  obtain ⟨W0, hW0⟩ : ∃ W0, W0 = w.alloc (.cells #[.int .i64 wd, .int .i64 hi, .slice (some ⟨q, 0, none⟩) N c] 27) := ⟨_, rfl⟩
  rw [← hW0] at hb0 B
  have KP := Lib.hid (fun w1 (hb1 : Below W0.heap.size W0 w1) => (h.below hb0).pic hb1 (B.below hb1) e1)
  have KM := Lib.hid (fun w' (hb1 : Below W0.heap.size W0 w') x y X Y hX hY (hx : x < wd) (hy : y < hi) => mat_q w' w.heap.size wd hi _ ks x y X Y hX hY hx hy (by omega) (by omega) (KP.out w' hb1))
  have hq : ∀ i, i < N → ks.getD i 0 = -4 ∨ 0 ≤ ks.getD i 0 ∧ ks.getD i 0 ≤ 19 := fun i hi_ => by
    have hm : ks.getD i 0 ∈ ks := by rw [List.getD_eq_getElem?_getD, List.getElem?_eq_getElem (by rw [h.len]; exact hi_)]; exact List.getElem_mem _
    exact hk _ hm
  have hcap := h.cap
  have HQ := Lib.hid hq
  have HW0 := Lib.hid hW0
  have HB0 := Lib.hid hb0
  have HNN := Lib.hid e1
  have hsB : w.heap.size < W0.heap.size := B.lt
  clear e1 h hW0 B hb0 hk hq
  go_enter Try.func35, Try.ntmps35
  go_wp2_with fail
  rw [← HW0.out]
  refine (validMap_any _ _ _ _ _ (by omega) _).mono ?_
  rw [hv]
  rintro e w1 ⟨rfl, hb1⟩
  have hs1 := hb1.size
  obtain ⟨gs, hgs⟩ : ∃ gs, gs = w1.heap.size := ⟨_, rfl⟩
  obtain ⟨wK, hmk, oB, bK, hsK⟩ := makeB w1 N w1.heap.size (Nat.le_refl _) (by omega)
  rw [← hgs] at hmk oB
  obtain ⟨z0, z1, z2, -, -, -⟩ := (KP.out _ hb1).box.cells
  obtain ⟨y0, y1, y2, -, -, -⟩ := (KP.out _ (hb1.trans (bK.mono hs1))).box.cells
  have HST := Lib.hid (And.intro oB (hb1.trans (bK.mono hs1)))
  have HGS := Lib.hid hgs
  have wdI : (wd : Int) ≤ 24 := by omega
  have hiI : (hi : Int) ≤ 24 := by omega
  clear oB bK hb1 hv hgs
  go_wp2_with fail
  clear hmk z0 z1 z2 y0 y1 y2
  go_loopw [20] (fun v20 wr => ∃ y : Nat, v20 = .int .i64 y ∧ y ≤ hi ∧ OwnB wr gs (.slice (some ⟨gs, 0, none⟩) N N) N (seenF ks wd (y * wd)) ∧ Below W0.heap.size W0 wr) (fun v20 _ => hi - (intOf v20).toNat)
  case atStart => exact ⟨0, rfl, Nat.zero_le _, by rw [Nat.zero_mul]; exact HST.out.1, HST.out.2⟩
  case round =>
    clear HST
    obtain ⟨y, rfl, hy, hob, hbl⟩ := hrel
    obtain ⟨z0, z1, z2, -, -, -⟩ := (KP.out _ hbl).box.cells
    have HOB := Lib.hid hob
    have HBL := Lib.hid hbl
    clear hob hbl
    by_cases hlt : y < hi
    · go_wp2_with fail
      clear z0 z1 z2
      go_loopw [25] (fun v25 wr => ∃ x : Nat, v25 = .int .i64 x ∧ x ≤ wd ∧ OwnB wr gs (.slice (some ⟨gs, 0, none⟩) N N) N (seenF ks wd (y * wd + x)) ∧ Below W0.heap.size W0 wr) (fun v25 _ => wd - (intOf v25).toNat)
      case atStart => exact ⟨0, rfl, Nat.zero_le _, HOB.out, HBL.out⟩
      case round =>
        clear HOB HBL
        obtain ⟨x, rfl, hx, hob, hbl⟩ := hrel
        have HOB := Lib.hid hob
        have HBL := Lib.hid hbl
        by_cases hlx : x < wd
        · have hi1 : x + wd * y < N := by rw [HNN.out]; exact xy_lt hlx hlt
          have hidx : y * wd + x = x + wd * y := by rw [Nat.mul_comm, Nat.add_comm]
          have kq := HQ.out _ hi1
          have hst : seenF ks wd (y * wd + (x + 1)) = if leads ks wd (x + wd * y) = true then updB (seenF ks wd (x + wd * y)) (x + wd * y - (plq (ks.getD (x + wd * y) 0)).toNat) true else seenF ks wd (x + wd * y) := by rw [← Nat.add_assoc, hidx]; rfl
          have hld : leads ks wd (x + wd * y) = (decide (0 ≤ ks.getD (x + wd * y) 0) && decide (plq (ks.getD (x + wd * y) 0) ≤ (x : Int))) := by unfold leads; rw [xy_mod hlx]
          rw [hld] at hst
          have KA := Lib.hid (fun w' (hb' : Below W0.heap.size W0 w') => KM.out w' hb' x y x y rfl rfl hlx hlt)
          have KPL := Lib.hid (fun w' => place_q (ks.getD (x + wd * y) 0) w' (by omega) (by omega))
          have l1 := le0_fq (k := ks.getD (x + wd * y) 0) (by omega)
          rw [hidx] at HOB
          generalize ks.getD (x + wd * y) 0 = k at *
          obtain ⟨vk, hvk⟩ : ∃ v, fq 2 k = v := ⟨_, rfl⟩
          rw [hvk] at KA KPL l1
          have HST := Lib.hid hst
          clear hst hld hvk hob hbl
          have xI : (x : Int) < (wd : Int) := by omega
          have yI : (y : Int) < (hi : Int) := by omega
          by_cases h0 : 0 ≤ k
          · obtain ⟨p0, p1⟩ := plq_pos h0 (by omega)
            obtain ⟨P, hP⟩ := Int.eq_ofNat_of_zero_le p0
            rw [hP] at KPL HST p1
            rw [decide_eq_true h0] at l1 HST
            have HL1 := Lib.hid l1
            clear l1 hP p0 kq h0
            by_cases hPx : P ≤ x
            · rw [decide_eq_true (show (P : Int) ≤ (x : Int) by omega), Int.toNat_natCast] at HST
              have hjN : x + wd * y - P < N := by omega
              have cj := HOB.out.cellAt (x + wd * y - P) hjN
              have fj := HOB.out.free (x + wd * y - P)
              have hput := HOB.out.put (x + wd * y - P) true
              have HPUT := Lib.hid hput
              have hml : ((wd : Int) * (y : Int)) = ((wd * y : Nat) : Int) := by simp
              have hmul : wd * y ≤ 24 * 24 := Nat.mul_le_mul e3 (by omega)
              have w0 : IntKind.i64.wrap ((wd : Int) * (y : Int)) = (wd : Int) * (y : Int) := IntWalk.i64_in _ (by rw [hml]; omega)
              have w1_ : IntKind.i64.wrap ((x : Int) - (P : Int)) = (x : Int) - (P : Int) := IntWalk.i64_in _ (by omega)
              have w2_ : IntKind.i64.wrap ((x : Int) - (P : Int) + (wd : Int) * (y : Int)) = (x : Int) - (P : Int) + (wd : Int) * (y : Int) := IntWalk.i64_in _ (by rw [hml]; omega)
              have w3_ : (0 : Int) ≤ (x : Int) - (P : Int) + (wd : Int) * (y : Int) := by rw [hml]; omega
              have w4_ : (x : Int) - (P : Int) + (wd : Int) * (y : Int) < (N : Int) := by rw [hml]; omega
              have w5_ : ((x : Int) - (P : Int) + (wd : Int) * (y : Int)).toNat = x + wd * y - P := by rw [hml]; omega
              have HWW := Lib.hid (And.intro w0 (And.intro w1_ (And.intro w2_ (And.intro w3_ (And.intro w4_ w5_)))))
              clear hml w0 w1_ w2_ w3_ w4_ w5_ hput
              go_wp2_with fail
              refine (KA.out _ (by first | exact HBL.out | exact below_drewN HBL.out _ | exact below_drewN (below_drewN HBL.out _) _ | exact below_drewN (below_drewN (below_drewN HBL.out _) _) _)).mono ?_
              rintro e w' ⟨rfl, n1, rfl⟩
              go_wp2_with fail
              refine (KPL.out _).mono ?_
              rintro e w' ⟨rfl, n2, rfl⟩
              go_wp2_with fail
              refine (KA.out _ (by first | exact HBL.out | exact below_drewN HBL.out _ | exact below_drewN (below_drewN HBL.out _) _ | exact below_drewN (below_drewN (below_drewN HBL.out _) _) _)).mono ?_
              rintro e w' ⟨rfl, n3, rfl⟩
              go_wp2_with fail
              refine (noHole_any _ _).mono ?_
              rw [HL1.out]
              rintro e w' ⟨rfl, rfl⟩
              obtain ⟨n4, hn4⟩ : ∃ n4, n1 + n2 + n3 = n4 := ⟨_, rfl⟩
              obtain ⟨z0, z1, z2, -, -, -⟩ := (KP.out _ (below_drewN HBL.out n4)).box.cells
              try rw [hn4]
              go_wp2_with fail
              refine (in_any _ _ _ _).mono ?_
              rw [decide_eq_true (show (0 : Int) ≤ (x : Int) - (P : Int) by omega), decide_eq_true (show (x : Int) - (P : Int) ≤ (wd : Int) - 1 by omega)]
              rintro e w' ⟨rfl, rfl⟩
              obtain ⟨w0, w1_, w2_, w3_, w4_, w5_⟩ := HWW.out
              go_wp2_with fail
              go_roundw
              case rel =>
                refine ⟨x + 1, by go_num, by omega, ?_, (below_drewN HBL.out n4).setCell (p := ⟨gs, _, none⟩) (by have := HGS.out; show W0.heap.size ≤ gs; omega) _⟩
                rw [HST.out]
                exact (HOB.out.below (below_drewN (Below.refl _ _) n4)).put _ true
              case measure => simp [intOf]; omega
            · rw [decide_eq_false (show ¬ (P : Int) ≤ (x : Int) by omega)] at HST
              go_wp2_with fail
              refine (KA.out _ (by first | exact HBL.out | exact below_drewN HBL.out _ | exact below_drewN (below_drewN HBL.out _) _ | exact below_drewN (below_drewN (below_drewN HBL.out _) _) _)).mono ?_
              rintro e w' ⟨rfl, n1, rfl⟩
              go_wp2_with fail
              refine (KPL.out _).mono ?_
              rintro e w' ⟨rfl, n2, rfl⟩
              go_wp2_with fail
              refine (KA.out _ (by first | exact HBL.out | exact below_drewN HBL.out _ | exact below_drewN (below_drewN HBL.out _) _ | exact below_drewN (below_drewN (below_drewN HBL.out _) _) _)).mono ?_
              rintro e w' ⟨rfl, n3, rfl⟩
              go_wp2_with fail
              refine (noHole_any _ _).mono ?_
              rw [HL1.out]
              rintro e w' ⟨rfl, rfl⟩
              obtain ⟨n4, hn4⟩ : ∃ n4, n1 + n2 + n3 = n4 := ⟨_, rfl⟩
              obtain ⟨z0, z1, z2, -, -, -⟩ := (KP.out _ (below_drewN HBL.out n4)).box.cells
              try rw [hn4]
              go_wp2_with fail
              refine (in_any _ _ _ _).mono ?_
              rw [decide_eq_false (show ¬ (0 : Int) ≤ (x : Int) - (P : Int) by omega), Bool.false_and]
              rintro e w' ⟨rfl, rfl⟩
              go_wp2_with fail
              go_roundw
              case rel =>
                refine ⟨x + 1, by go_num, by omega, ?_, below_drewN HBL.out n4⟩
                rw [HST.out]
                exact HOB.out.below (below_drewN (Below.refl _ _) n4)
              case measure => simp [intOf]; omega
          · rw [decide_eq_false h0] at l1 HST
            have HL1 := Lib.hid l1
            clear l1 kq h0
            generalize plq k = P at *
            go_wp2_with fail
            refine (KA.out _ (by first | exact HBL.out | exact below_drewN HBL.out _ | exact below_drewN (below_drewN HBL.out _) _ | exact below_drewN (below_drewN (below_drewN HBL.out _) _) _)).mono ?_
            rintro e w' ⟨rfl, n1, rfl⟩
            go_wp2_with fail
            refine (KPL.out _).mono ?_
            rintro e w' ⟨rfl, n2, rfl⟩
            go_wp2_with fail
            refine (KA.out _ (by first | exact HBL.out | exact below_drewN HBL.out _ | exact below_drewN (below_drewN HBL.out _) _ | exact below_drewN (below_drewN (below_drewN HBL.out _) _) _)).mono ?_
            rintro e w' ⟨rfl, n3, rfl⟩
            go_wp2_with fail
            refine (noHole_any _ _).mono ?_
            rw [HL1.out]
            rintro e w' ⟨rfl, rfl⟩
            obtain ⟨n4, hn4⟩ : ∃ n4, n1 + n2 + n3 = n4 := ⟨_, rfl⟩
            obtain ⟨z0, z1, z2, -, -, -⟩ := (KP.out _ (below_drewN HBL.out n4)).box.cells
            try rw [hn4]
            go_wp2_with fail
            go_roundw
            case rel =>
              refine ⟨x + 1, by go_num, by omega, ?_, below_drewN HBL.out n4⟩
              rw [HST.out]
              exact HOB.out.below (below_drewN (Below.refl _ _) n4)
            case measure => simp [intOf]; omega
        · obtain rfl : x = wd := by omega
          go_wp2_with fail
          go_roundw
          case rel =>
            refine ⟨y + 1, by go_num, by omega, ?_, HBL.out⟩
            rw [Nat.add_mul, Nat.one_mul]
            exact HOB.out
          case measure => simp [intOf]; omega
    · obtain rfl : y = hi := by omega
      rw [show y * wd = N by rw [HNN.out, Nat.mul_comm]] at HOB
      obtain ⟨F, hF⟩ : ∃ F, seenF ks wd N = F := ⟨_, rfl⟩
      rw [hF] at HOB ⊢
      have hgsz := (HOB.out.lt (k := gs) rfl).2
      have hsz0 := HBL.out.size
      have start : OwnI (wr.alloc (.cells #[] 2)) (gs + 1) (.slice (some ⟨wr.heap.size, 0, none⟩) (unsL F 0).length 0) (unsL F 0) :=
        ⟨rfl, .inr ⟨wr.heap.size, 0, #[], rfl, by omega, heap_alloc_new wr _, Nat.le_refl _, by unfold maxLen; omega, rfl, rfl⟩⟩
      have HOB3 := Lib.hid (HOB.out.below (alb1 wr (.cells #[] 2)))
      have HBL3 := Lib.hid (HBL.out.trans ((alb1 wr (.cells #[] 2)).mono hsz0))
      have HST := Lib.hid start
      have HSZ := Lib.hid hgsz
      have HF := Lib.hid hF
      clear start hF hgsz hsz0 z0 z1 z2
      go_wp2_with fail
      go_loopw [8, 60] (fun v8 v60 wr => ∃ i m g cap : Nat, v60 = .int .i64 i ∧ i ≤ N ∧ m = (unsL F i).length ∧ v8 = .slice (some ⟨g, 0, none⟩) m cap ∧ OwnI wr (gs + 1) (.slice (some ⟨g, 0, none⟩) m cap) (unsL F i) ∧ OwnB wr gs (.slice (some ⟨gs, 0, none⟩) N N) N F ∧ Below W0.heap.size W0 wr ∧ gs < wr.heap.size) (fun _ v60 _ => N - (intOf v60).toNat)
      case atStart => exact ⟨0, 0, _, _, rfl, Nat.zero_le _, rfl, rfl, HST.out, HOB3.out, HBL3.out, by have := HSZ.out; simp; omega⟩
      case round =>
        clear HST HOB3 HBL3 HSZ
        obtain ⟨i, m, g, cap, rfl, hiN, hm, rfl, hown, hob, hbl, hs6⟩ := hrel
        have HO6 := Lib.hid hown
        have HB6 := Lib.hid hbl
        have HBB := Lib.hid hob
        have HML := Lib.hid hm
        have hml := unsL_len F i
        have hmI : m ≤ 256 := by omega
        clear hown hob hbl hm hml
        by_cases hl3 : i < N
        · have cj := HBB.out.cellAt i hl3
          have HSL := Lib.hid (show unsL F (i + 1) = if F i = true then unsL F i else unsL F i ++ [(i : Int)] from rfl)
          cases hfi : F i
          · rw [hfi] at cj HSL
            have hos := HO6.out
            unfold OwnI at hos
            rw [← HML.out] at hos
            clear hfi
            go_wp2_with (at_builtin; refine wpList_append_lies _ (by rfl) _ _ _ (by rfl) (gs + 1) 2 i0 _ 1 8 Try.underlying63 hi0 hz0 hz1 hz2 rfl (by omega) (.slice (some ⟨g, 0, none⟩) m cap) m _ (by rfl) (World.ownsRow.alloc hos _) ⟨wr.heap.size, 0, none⟩ 1 1 [.int .i64 i] (by rfl) (by rfl) (cell_one_new _ _ _) (by simp [Value.oneCell']) (by omega) (by unfold maxLen; omega) (by omega) (by simp; omega) (wr.heap.size + 1) (by simp) ?_; intro g2 cs2 w2 hown2 hgrow2 hat2 hlt2)
            go_roundw
            case rel =>
              have hg := (HO6.out.lt (k := g) rfl).1
              refine ⟨i + 1, m + 1, g2, cs2, by go_num, by omega, by rw [HSL.out]; simp [← HML.out], rfl, ?_, ?_, ?_, ?_⟩
              · rw [HSL.out]
                unfold OwnI
                simp only [Bool.false_eq_true, if_false, List.length_append, List.map_append, List.length_singleton, ← HML.out]
                exact hown2
              · exact (HBB.out.below (alb1 wr _)).grown hgrow2 (.inr (by simp [Value.ownBlock]; omega))
              · exact (HB6.out.alloc HB6.out.size _).grown hgrow2 (by have := HB6.out.size; simp; omega) (fun k hk => by simp [Value.ownBlock] at hk; have := HGS.out; omega)
              · have := hgrow2.size; simp at this; omega
            case measure => simp [intOf]; omega
          · rw [hfi] at cj HSL
            clear hfi
            go_wp2_with fail
            go_roundw
            case rel => exact ⟨i + 1, m, g, cap, by go_num, by omega, by rw [HSL.out]; exact HML.out, rfl, by rw [HSL.out]; exact HO6.out, HBB.out, HB6.out, hs6⟩
            case measure => simp [intOf]; omega
        · obtain rfl : N = i := by omega
          go_wp2_with fail
          first | go_ret2 | go_ret
          have h0 := HO6.out
          have hbb := HB0.out.trans (HB6.out.mono HB0.out.size)
          rw [HML.out] at h0 ⊢
          rw [← HF.out] at h0 ⊢
          exact ⟨g, cap, rfl, OwnI.baseK (B' := w.heap.size) h0 (by have := HB0.out.size; have := HGS.out; omega), hbb⟩

end Go.Proofs.Ytmpbnmmpniganaa

/- The reference's shifted picture, by words. -/
import Derived.Test.YtmcmcppleikajaaDoorGen
import Derived.Deep.RegionHeld3
import Derived.Deep.CutRange
namespace Go.Proofs.YtmcmcppleikajaaDoor
open Go.RowKit
set_option maxRecDepth 100000
set_option linter.unusedVariables false
set_option linter.unusedSimpArgs false

def mnI (a b : Int) : Int := if a < b then a else b
def mxI (a b : Int) : Int := if b < a then a else b
theorem l00Min_any (a b : Int) (w : World) : Calls Tryd.prog 60 #[.int .i64 a, .int .i64 b] w fun e w' => e = .returned (.int .i64 (mnI a b)) ∧ w = w' := by
  by_cases h : a < b
  · have e : mnI a b = a := if_pos h
    rw [e]; clear e
    go_enter Tryd.func60, Tryd.ntmps60
    go_wp2
    go_ret
    exact ⟨rfl, rfl⟩
  · have e : mnI a b = b := if_neg h
    rw [e]; clear e
    go_enter Tryd.func60, Tryd.ntmps60
    go_wp2
    go_ret
    exact ⟨rfl, rfl⟩
theorem l00Max_any (a b : Int) (w : World) : Calls Tryd.prog 59 #[.int .i64 a, .int .i64 b] w fun e w' => e = .returned (.int .i64 (mxI a b)) ∧ w = w' := by
  by_cases h : b < a
  · have e : mxI a b = a := if_pos h
    rw [e]; clear e
    go_enter Tryd.func59, Tryd.ntmps59
    go_wp2
    go_ret
    exact ⟨rfl, rfl⟩
  · have e : mxI a b = b := if_neg h
    rw [e]; clear e
    go_enter Tryd.func59, Tryd.ntmps59
    go_wp2
    go_ret
    exact ⟨rfl, rfl⟩
theorem mx_mn (x : Int) {n : Nat} (h : 0 < n) : mxI 0 (mnI ((n : Int) - 1) x) = (cl x n : Nat) := by unfold mxI mnI cl; split <;> split <;> omega

set_option maxHeartbeats 1000000 in
theorem l02At_any (W : World) (pb wd hi : Nat) (v : Value) (bs : List Nat) (x y : Int) (hw : 0 < wd) (hh : 0 < hi) (hw2 : wd ≤ 1000) (hh2 : hi ≤ 1000) (h : PicAt W pb wd hi v bs 28) :
    Calls Tryd.prog 48 #[.pointer (some ⟨pb, 0, none⟩), .int .i64 x, .int .i64 y] W fun e w' => e = .returned (.float .f32 (bs.getD (ix x y wd hi) 0)) ∧ ∃ n, w' = W.drewN n := by
  obtain ⟨c0, c1, c2, -, -, -⟩ := h.box.cells
  have hix := ix_lt x y hw hh
  have hne : bs ≠ [] := by intro e; rw [e] at h; have := h.len; simp at this; omega
  obtain ⟨b, off, cap, rfl, hb, hc⟩ := h.sl.form hne
  have hl := h.len
  have hc1 := hc (ix x y wd hi) (by omega)
  rw [getD_of bs _ (by omega)] at hc1
  have hmul : cl y hi * wd ≤ 1000 * 1000 := Nat.mul_le_mul (by have := cl_lt y hh; omega) hw2
  have hlb : bs.length ≤ 1000000 := by rw [hl]; exact Nat.mul_le_mul hw2 hh2
  have hA := cl_lt x hw
  unfold ix at hix hc1 ⊢
  have e1 : IntKind.i64.wrap ((wd : Int) * (cl y hi : Nat)) = (wd : Int) * (cl y hi : Nat) := IntWalk.i64_in _ (by rw [← Int.natCast_mul, Nat.mul_comm]; omega)
  have e2 : IntKind.i64.wrap (((cl x wd : Nat) : Int) + (wd : Int) * (cl y hi : Nat)) = ((cl x wd : Nat) : Int) + (wd : Int) * (cl y hi : Nat) := IntWalk.i64_in _ (by rw [← Int.natCast_mul, Nat.mul_comm]; omega)
  have e3 : (0 : Int) ≤ ((cl x wd : Nat) : Int) + (wd : Int) * (cl y hi : Nat) := by rw [← Int.natCast_mul]; omega
  have e4 : ((cl x wd : Nat) : Int) + (wd : Int) * (cl y hi : Nat) < (bs.length : Int) := by rw [← Int.natCast_mul]; omega
  have e5 : (((cl x wd : Nat) : Int) + (wd : Int) * (cl y hi : Nat)).toNat = cl x wd + wd * cl y hi := by rw [← Int.natCast_mul]; omega
  have e6 : IntKind.i64.wrap ((hi : Int) - 1) = (hi : Int) - 1 := IntWalk.i64_in _ (by omega)
  have f1 := mx_mn x hw
  have f2 := mx_mn y hh
  clear hc hl hmul h
  generalize hca : cl x wd = ca at *
  generalize hcb : cl y hi = cb at *
  have M1 := Lib.hid (fun w => l00Min_any ((wd : Int) - 1) x w)
  have M2 := Lib.hid (fun w => l00Min_any ((hi : Int) - 1) y w)
  have K1 := Lib.hid (fun w => l00Max_any 0 (mnI ((wd : Int) - 1) x) w)
  have K2 := Lib.hid (fun w => l00Max_any 0 (mnI ((hi : Int) - 1) y) w)
  rw [f1] at K1
  rw [f2] at K2
  clear f1 f2 hca hcb
  generalize mnI ((wd : Int) - 1) x = mx at *
  generalize mnI ((hi : Int) - 1) y = my at *
  go_enter Tryd.func48, Tryd.ntmps48
  go_wp2_with fail
  refine (M1.out _).mono ?_
  rintro e w' ⟨rfl, rfl⟩
  go_wp2_with fail
  refine (K1.out _).mono ?_
  rintro e w' ⟨rfl, rfl⟩
  go_wp2_with fail
  go_quiet ((first | with_reducible exact quiet_same (M2.out _) | with_reducible exact quiet_same (K2.out _)))
  go_wp2
  go_ret
  exact ⟨rfl, _, rfl⟩

theorem alb_k (w : World) (o : Obj) : Below w.heap.size w (w.alloc o) := (Below.refl _ _).alloc (Nat.le_refl _) _
/-- A loop that appends numbers to the slice of a picture of its own. -/
structure AccP (w wr : World) (ob wd hi : Nat) (v : Value) (bs : List Nat) : Prop where
  bel : Below w.heap.size w wr
  box : Box3 wr ob (.int .i64 wd) (.int .i64 hi) v 28
  own : OwnF wr w.heap.size v bs
  ne : some ob ≠ v.ownBlock
  obf : w.heap.size ≤ ob
theorem AccP.step {w wr w1 w2 : World} {ob wd hi r : Nat} {v : Value} {bs : List Nat} {T : TypeId} {gg cap : Nat} (h : AccP w wr ob wd hi v bs)
    (hb : Below wr.heap.size wr w1) (hr : r < 4294967296)
    (hown : w2.ownsRow w.heap.size 66 1 (.slice (some ⟨gg, 0, none⟩) (bs.length + 1) cap) (bs.length + 1) (bs.map (Value.float .f32) ++ [.float .f32 r]))
    (hg : (w1.alloc (.cells #[.float .f32 r] T)).grownBy w2 v.ownBlock) (hat : v.ownBlock = some gg ∨ gg = w1.heap.size + 1) :
    AccP w (w2.setCell ⟨ob, 2, none⟩ (.slice (some ⟨gg, 0, none⟩) (bs.length + 1) cap)) ob wd hi (.slice (some ⟨gg, 0, none⟩) (bs.length + 1) cap) (bs ++ [r]) := by
  have hal : Below w1.heap.size w1 (w1.alloc (.cells #[.float .f32 r] T)) := (Below.refl _ _).alloc (Nat.le_refl _) _
  have hlt := h.box.lt
  have s1 : wr.heap.size ≤ w1.heap.size := hb.size
  have hgg : gg ≠ ob := by
    rcases hat with e | e
    · intro q; exact h.ne (by rw [e, q])
    · omega
  have b2 : Below w.heap.size w w2 := ((h.bel.trans (hb.mono h.bel.size)).trans (hal.mono (Nat.le_trans h.bel.size s1))).grown hg (by simp; have := h.bel.size; omega) (fun k hk => by have := (h.own.lt hk).1; omega)
  refine ⟨b2.setCell h.obf _, ((((h.box.below hb).below hal).grown hg h.ne).set2 _), ⟨?_, ?_⟩, by simp [Value.ownBlock]; exact fun e => hgg e.symm, h.obf⟩
  · have k := hown.kept (grown_setCell w2 ⟨ob, 2, none⟩ (.slice (some ⟨gg, 0, none⟩) (bs.length + 1) cap)) (.inr (by simp [Value.ownBlock]; exact hgg))
    simpa using k
  · intro b hb'
    rcases List.mem_append.1 hb' with h1 | h1
    · exact h.own.2 b h1
    · simp at h1; omega

theorem own_ptr_k {w : World} {B n c : Nat} {a : Option Addr} {bs : List Nat} (h : OwnF w B (.slice a n c) bs) (h0 : 0 < bs.length) : ∃ q, a = some ⟨q, 0, none⟩ := by
  rcases h.form with ⟨h1, h2⟩ | ⟨q, cap, h1, h2⟩
  · rw [h2] at h0; simp at h0
  · injection h1 with h1; exact ⟨q, h1⟩
/-- The cells of a shifted picture. -/
def shW (bs : List Nat) (wd hi by_ : Nat) (i : Nat) : Nat := bs.getD (ix ((i % wd : Nat) + (by_ : Int)) (i / wd : Nat) wd hi) 0
theorem shW_at {bs : List Nat} {wd hi by_ x y : Nat} (hx : x < wd) : shW bs wd hi by_ (y * wd + x) = bs.getD (ix ((x : Int) + (by_ : Int)) (y : Int) wd hi) 0 := by
  unfold shW
  have e1 : (y * wd + x) % wd = x := by rw [Nat.mul_comm, Nat.mul_add_mod, Nat.mod_eq_of_lt hx]
  have e2 : (y * wd + x) / wd = y := by rw [Nat.mul_comm, Nat.mul_add_div (by omega), Nat.div_eq_of_lt hx, Nat.add_zero]
  rw [e1, e2]
def MakesSh (w : World) (wd hi : Nat) (bs : List Nat) (e : Ending) (w' : World) : Prop :=
  ∃ q c, e = .returned (.agg #[.int .i64 wd, .int .i64 hi, .slice (some ⟨q, 0, none⟩) (wd * hi) c]) ∧ OwnF w' w.heap.size (.slice (some ⟨q, 0, none⟩) (wd * hi) c) bs ∧ bs.length = wd * hi ∧ Below w.heap.size w w'

set_option maxHeartbeats 4000000 in
theorem l02Shift_any (w : World) (pb wd hi k : Nat) (v : Value) (bs : List Nat) (hw : 1 ≤ wd) (hh : 1 ≤ hi) (hw2 : wd ≤ 24) (hh2 : hi ≤ 24) (hk : k ≤ 24) (h : PicAt w pb wd hi v bs 28) :
    Calls Tryd.prog 38 #[.pointer (some ⟨pb, 0, none⟩), .int .i64 k] w (MakesSh w wd hi (tab (wd * hi) (shW bs wd hi k))) := by
  obtain ⟨i0, hi0, hz0, hz1, hz2⟩ := info_parts info_f32
  have hpl := h.box.lt
  obtain ⟨wA, hwA⟩ : ∃ wA, wA = w.alloc (.cells #[.int .i64 0, .int .i64 0, .slice none 0 0] 28) := ⟨_, rfl⟩
  have hbA : Below w.heap.size w wA := by rw [hwA]; exact (Below.refl _ _).alloc (Nat.le_refl _) _
  have BR : Box3 wA w.heap.size (.int .i64 0) (.int .i64 0) (.slice none 0 0) 28 := by rw [hwA]; exact box_last w _ _ _ _
  have hP := h.below hbA
  have KA := Lib.hid (fun W (hb : Below wA.heap.size wA W) x y => l02At_any W pb wd hi v bs x y (by omega) (by omega) (by omega) (by omega) (hP.below hb))
  have Z := Lib.hid (fun W (hb : Below wA.heap.size wA W) => (hP.below hb).box.cells)
  obtain ⟨z0, z1, -, -, -, -⟩ := hP.box.cells
  have HBL := Lib.hid h.sl.2
  have HWA := Lib.hid hwA
  have HBA := Lib.hid hbA
  have HBR := Lib.hid BR
  have hrl : w.heap.size < wA.heap.size := BR.lt
  have hbd1 : Below wA.heap.size wA wA.drew := below_drewN (Below.refl _ _) 1
  clear h hP hwA hbA BR z0 z1
  go_enter Tryd.func38, Tryd.ntmps38
  go_upto_region 1 with fail
  rw [← HWA.out]
  go_cut [5] from 8 to 16 (fun v5 wx => ∃ ob g : Nat, v5 = .pointer (some ⟨ob, 0, none⟩) ∧ AccP wA wx ob wd hi (.slice (some ⟨g, 0, none⟩) 0 0) [])
  case first =>
    have hbd2 : Below wA.heap.size wA (wA.alloc (.cells #[.int .i64 0, .int .i64 0, .slice none 0 0] 28)).drew := below_drewN ((Below.refl _ _).alloc (Nat.le_refl _) _) 1
    have hbx0 : BoxN (wA.alloc (.cells #[.int .i64 0, .int .i64 0, .slice none 0 0] 28)).drew wA.heap.size #[.int .i64 0, .int .i64 0, .slice none 0 0] 28 := (BoxN.last wA #[.int .i64 0, .int .i64 0, .slice none 0 0] 28).drewN 1
    have Z2 := Lib.hid (fun W (hb : Below wA.heap.size wA W) => And.intro (Z.out W hb).1 (Z.out W hb).2.1)
    go_region_held3 (fun W => Below wA.heap.size wA W ∧ W.cell? ⟨pb, 0, none⟩ = some (.int .i64 wd) ∧ W.cell? ⟨pb, 1, none⟩ = some (.int .i64 hi))
      (first | exact ⟨hbc3, Z2.out _ hbc3⟩ | exact ⟨hbd1, Z2.out _ hbd1⟩ | exact ⟨hbc4, Z2.out _ hbc4⟩ | exact ⟨hbd2, Z2.out _ hbd2⟩ | exact ⟨((hbc4.setCell (Nat.le_refl _) _).setCell (Nat.le_refl _) _).setCell (Nat.le_refl _) _, Z2.out _ (((hbc4.setCell (Nat.le_refl _) _).setCell (Nat.le_refl _) _).setCell (Nat.le_refl _) _)⟩ | exact ⟨hbc3.alloc hbc3.size _, Z2.out _ (hbc3.alloc hbc3.size _)⟩ | go_keep)
      ((first | (go_at_call 47; with_reducible refine (l02New_any wA.drew _ _).mono ?_; rintro e w3 ⟨rfl, hown, hb3, hlt3⟩; have hbc3 := hbd1.trans (hb3.mono hbd1.size)) | (go_at_call 47; with_reducible refine (l02New_any (wA.alloc (.cells #[.int .i64 0, .int .i64 0, .slice none 0 0] 28)).drew _ _).mono ?_; rintro e w3 ⟨rfl, hown, hb3, hlt3⟩; have hbc4 := hbd2.trans (hb3.mono hbd2.size); have hbx : BoxN w3 wA.heap.size #[.int .i64 0, .int .i64 0, .slice none 0 0] 28 := hbx0.below hb3; obtain ⟨o0, o1, o2, g0, g1, g2⟩ := hbx.three.cells)))
    all_goals
      go_wp2_with fail
      go_meet
    · exact ⟨w3.heap.size, wA.heap.size + 1, rfl, hbc3.alloc hbc3.size _, box_last w3 _ _ _ _, (hown.below (alb_k w3 _)).mono (Nat.le_succ _), by simp [Value.ownBlock]; have := hlt3; simp at this; omega, hbc3.size⟩
    · refine ⟨wA.heap.size, wA.heap.size + 1 + 1, rfl, ((hbc4.setCell (Nat.le_refl _) _).setCell (Nat.le_refl _) _).setCell (Nat.le_refl _) _, ?_, ?_, by simp [Value.ownBlock]; omega, Nat.le_refl _⟩
      · have := ((hbx.set 0 (.int .i64 wd)).set 1 (.int .i64 hi)).set 2 (.slice (some ⟨wA.heap.size + 1 + 1, 0, none⟩) 0 0)
        have := this.three
        simpa using this
      · have q := (((hown.grown (grown_setCell _ ⟨wA.heap.size, 0, none⟩ (.int .i64 wd)) (.inr (by simp [Value.ownBlock]; omega))).grown (grown_setCell _ ⟨wA.heap.size, 1, none⟩ (.int .i64 hi)) (.inr (by simp [Value.ownBlock]; omega))).grown (grown_setCell _ ⟨wA.heap.size, 2, none⟩ (.slice (some ⟨wA.heap.size + 1 + 1, 0, none⟩) 0 0)) (.inr (by simp [Value.ownBlock]; omega))).mono (B' := wA.heap.size) (by simp; omega)
        simpa using q
  case rest =>
    obtain ⟨ob, g, rfl, hacc⟩ := hcut
    have HACC := Lib.hid hacc
    clear hacc hbd1
    have wdI : (wd : Int) ≤ 24 := by omega
    have hiI : (hi : Int) ≤ 24 := by omega
    have kI : (k : Int) ≤ 24 := by omega
    go_wp2_with fail
    go_loopw [6] (fun v6 wr => ∃ (y : Nat) (v : Value) (cs : List Nat), v6 = .int .i64 y ∧ y ≤ hi ∧ AccP wA wr ob wd hi v cs ∧ cs = tab (y * wd) (shW bs wd hi k)) (fun v6 _ => hi - (intOf v6).toNat)
    case atStart => exact ⟨0, _, [], rfl, Nat.zero_le _, HACC.out, by rw [Nat.zero_mul]; rfl⟩
    case round =>
      clear HACC
      obtain ⟨y, v1, cs, rfl, hy, hacc, hcs⟩ := hrel
      obtain ⟨z0, z1, -, -, -, -⟩ := Z.out _ hacc.bel
      have HACC := Lib.hid hacc
      have HCS := Lib.hid hcs
      clear hacc hcs
      by_cases hlt : y < hi
      · go_wp2_with fail
        clear z0 z1
        go_loopw [7] (fun v7 wr => ∃ (x : Nat) (v : Value) (cs : List Nat), v7 = .int .i64 x ∧ x ≤ wd ∧ AccP wA wr ob wd hi v cs ∧ cs = tab (y * wd + x) (shW bs wd hi k)) (fun v7 _ => wd - (intOf v7).toNat)
        case atStart => exact ⟨0, v1, cs, rfl, Nat.zero_le _, HACC.out, HCS.out⟩
        case round =>
          clear HACC HCS
          obtain ⟨x, v2, cs2, rfl, hx, hacc, hcs⟩ := hrel
          obtain ⟨z0, z1, -, -, -, -⟩ := Z.out _ hacc.bel
          by_cases hlx : x < wd
          · have hbel := hacc.bel
            have hown := hacc.own
            have hne := hacc.ne
            have hobf := hacc.obf
            have hbox := hacc.box
            have hL : cs2.length ≤ 600 := by
              have h1 : y * wd ≤ 24 * 24 := Nat.mul_le_mul (by omega) hw2
              rw [hcs, tab_length]; omega
            have hB := hacc.box.lt
            have HSX := Lib.hid (shW_at (bs := bs) (hi := hi) (by_ := k) (y := y) hlx)
            have hBs := hbel.size
            have HS := Lib.hid hacc
            have HCS := Lib.hid hcs
            have sx : IntKind.i64.wrap ((x : Int) + (k : Int)) = (x : Int) + (k : Int) := IntWalk.i64_in _ (by omega)
            clear hacc hcs
            have KAT := Lib.hid (fun n => KA.out (wr.drewN n) (below_drewN hbel n) ((x : Int) + (k : Int)) (y : Int))
            obtain ⟨rr, hrr⟩ : ∃ rr, rr = bs.getD (ix ((x : Int) + (k : Int)) (y : Int) wd hi) 0 := ⟨_, rfl⟩
            rw [← hrr] at KAT HSX
            have hrl : rr < 4294967296 := by
              rw [hrr, List.getD_eq_getElem?_getD]
              cases e : bs[ix ((x : Int) + (k : Int)) (y : Int) wd hi]? with
              | none => decide
              | some z => exact HBL.out z (List.mem_of_getElem? e)
            have HRLT := Lib.hid hrl
            clear hrr hrl
            go_wp2_with fail
            clear z0 z1
            obtain ⟨-, -, c2, -, -, -⟩ := hbox.cells
            go_region_law (first
              | (refine step_append_lies _ (by rfl) _ _ _ (by rfl) wA.heap.size 66 i0 _ 1 4 Tryd.underlying26 hi0 hz0 hz1 hz2 rfl (by omega) v2 cs2.length _ (by rfl) (World.ownsRow.alloc hown1.1 _) ⟨w1.heap.size, 0, none⟩ 1 1 [.float .f32 rr] (by rfl) (by rfl) (cell_one_new _ _ _) (by simp [Value.oneCell']) (by omega) (by unfold maxLen; omega) (by omega) (by simp; omega) (w1.heap.size + 1) (by simp) ?_; intro gg cap w2 hown2 hgrow hat hlt2; obtain ⟨q0, q1, q2, g0, g1, g2⟩ := ((hbox1.below ((Below.refl w1.heap.size w1).alloc (Nat.le_refl _) _)).grown hgrow hne).cells)
              | (go_simp; refine (KAT.out _).mono ?_; rintro e w1 ⟨rfl, nn, hw1⟩; have hb2 : Below wr.heap.size wr w1 := (by rw [hw1]; exact below_drewN (below_drewN (Below.refl _ _) _) _); have hbox1 := hbox.below hb2; have c2' := hbox1.cells.2.2.1; have c4 : ∀ o, (w1.alloc o).cell? ⟨ob, 2, none⟩ = some v2 := (fun o => (hbox1.below ((Below.refl w1.heap.size w1).alloc (Nat.le_refl _) o)).cells.2.2.1); have hown1 := hown.below hb2; have hz2' : wA.heap.size ≤ w1.heap.size := (by have := hb2.size; omega); clear hw1))
            all_goals
              go_wp2
              go_roundw
              case rel => exact ⟨x + 1, _, cs2 ++ [rr], by go_num, by omega, HS.out.step hb2 HRLT.out hown2 hgrow hat, by rw [HCS.out, ← Nat.add_assoc, tab_succ, HSX.out]⟩
              case measure => simp [intOf]; omega
          · obtain rfl : wd = x := by omega
            have HS := Lib.hid hacc
            have HCS := Lib.hid hcs
            clear hacc hcs
            go_wp2_with fail
            go_roundw
            case rel => exact ⟨y + 1, v2, cs2, by go_num, by omega, HS.out, by rw [HCS.out, Nat.add_mul, Nat.one_mul]⟩
            case measure => simp [intOf]; omega
      · obtain rfl : hi = y := by omega
        have hl : cs.length = wd * hi := by rw [HCS.out, tab_length, Nat.mul_comm]
        have hob := HACC.out.own
        obtain ⟨va, vc, rfl⟩ := hob.sl.len
        obtain ⟨q, rfl⟩ := own_ptr_k hob (by rw [hl]; exact Nat.mul_pos (by omega) (by omega))
        obtain ⟨c0, c1, c2, -, -, -⟩ := HACC.out.box.cells
        obtain ⟨d0, d1, d2, d3, d4, d5⟩ := (HBR.out.below HACC.out.bel).cells
        rw [hl] at c2 hob
        have HOB := Lib.hid hob
        have HLL := Lib.hid hl
        clear hob hl
        go_wp2_with fail
        refine bodyPost_ret (v := .agg #[.int .i64 wd, .int .i64 hi, .slice (some ⟨q, 0, none⟩) (wd * hi) vc]) (by simp [results, Tryd.results38, go_sem, d0, d1, d2]) rfl ?_
        have hcs := HCS.out
        rw [Nat.mul_comm] at hcs
        have hbb := HBA.out.trans (HACC.out.bel.mono HBA.out.size)
        refine ⟨q, vc, rfl, ?_, by rw [tab_length], ((hbb.setCell (by simp) _).setCell (by simp) _).setCell (by simp) _⟩
        rw [← hcs]
        exact (((HOB.out.set (by omega) _).set (by omega) _).set (by omega) _).mono HBA.out.size

end Go.Proofs.YtmcmcppleikajaaDoor

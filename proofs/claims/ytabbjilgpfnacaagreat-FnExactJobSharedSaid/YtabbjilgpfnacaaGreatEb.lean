/- Volumes of two pictures, by words: the reference's l03Pair, l02At, l03Compare at any places of blocks. -/
import Derived.Test.YtabbjilgpfnacaaGreatAj
import Derived.Test.YtabbjilgpfnacaaGreatVl
import Derived.Deep.RegionHeld3
import Derived.Deep.CutRange
namespace Go.Proofs.YtabbjilgpfnacaaGreat
section
open Go.RowKit Ieee
set_option maxRecDepth 100000
set_option linter.unusedVariables false
set_option linter.unusedSimpArgs false

theorem SlF.leE {w : World} {s : Option Addr} {n c : Nat} {bs : List Nat} (h : SlF w (.slice s n c) bs) : bs.length = n ∧ n ≤ 9223372036854775807 := by
  obtain ⟨a, cap, e, h1, h2, -⟩ := h.1
  injection e with e1 e2 e3
  rw [List.length_map] at e2 h1
  omega

/-- The absolute value by a difference is that by the word. -/
theorem sub_zero_neg {z : Nat} (hz : z < 4294967296) (h : le32 z 0 = true) : floatBits .sub .f32 0 z = some (z % 2147483648) := by
  unfold le32 at h
  simp only [Bool.and_eq_true, Bool.not_eq_true', decide_eq_true_eq] at h
  obtain ⟨⟨h1, -⟩, h2⟩ := h
  have hr : z % 2147483648 ≤ 2139095040 := by unfold nan32 at h1; simpa using h1
  by_cases hi : z % 2147483648 = 2139095040
  · have : z = 4286578688 := by
      unfold sr32 at h2
      have e0 : (0 : Nat) / 2147483648 % 2 = 0 := by decide
      rw [e0] at h2
      split at h2 <;> simp at h2 <;> omega
    subst this
    decide +kernel
  · have hf : isFin single z := (fin32_iff z).2 (by unfold fin32; simp; omega)
    have hf0 : isFin single 0 := (fin32_iff 0).2 (by decide)
    have hsv0 : sv single 0 = 0 := by decide
    have hrg : rg single z = z % 2147483648 := by unfold rg; rw [sg_sw]
    have hsz : sv single z = -((unit single (z % 2147483648) : Nat) : Int) := by
      unfold sv
      rw [hrg]
      split
      · rfl
      · rename_i hs
        have hz0 : z % 2147483648 = 0 := by
          unfold sgn at hs
          rw [sg_sw] at hs
          unfold sr32 at h2
          have e0 : (0 : Nat) / 2147483648 % 2 = 0 := by decide
          rw [e0] at h2
          simp at hs
          split at h2 <;> simp at h2 <;> omega
        rw [hz0, unit_zero]; rfl
    show single.sub 0 z = _
    rw [sub_fin _ hf0 hf, hsv0, hsz]
    have e1 : (0 : Int) - -((unit single (z % 2147483648) : Nat) : Int) = ((unit single (z % 2147483648) : Nat) : Int) := by omega
    rw [e1, Int.natAbs_natCast]
    have e2 : (if ((unit single (z % 2147483648) : Nat) : Int) = 0 then sgn single 0 && !(sgn single z) else decide (((unit single (z % 2147483648) : Nat) : Int) < 0)) = false := by
      split
      · rfl
      · exact decide_eq_false (by omega)
    rw [e2, rnd_exact single (by decide) false (N := unit single (z % 2147483648)) (k := 0) (r := z % 2147483648) (by simp) (by rw [sg_inf]; exact hr)]
    unfold Format.word
    simp
/-- The absolute value of a word. -/
def abW (z : Nat) : Nat := fl (z % 2147483648)
theorem nan_abs (z : Nat) : nan32 (z % 2147483648) = nan32 z := by unfold nan32; rw [Nat.mod_mod]
theorem abW_fl (z : Nat) : abW (fl z) = abW z := by
  unfold abW
  cases h : nan32 z
  · rw [fl_eq h]
  · rw [fl_nan (b := z % 2147483648) (by rw [nan_abs]; exact h), fl_nan h]; rfl

theorem l03Size_w (b : Nat) (hb : b < 4294967296) (W : World) : Calls Tryz.prog 87 #[.float .f32 b] W fun e w' => ∃ r n, e = .returned (.float .f32 r) ∧ r < 4294967296 ∧ fl r = abW b ∧ w' = W.drewN n := by
  cases h : le32 b 0
  · go_enter Tryz.func87, Tryz.ntmps87
    go_wp2
    go_ret
    refine ⟨_, 0, rfl, hb, ?_, rfl⟩
    unfold abW
    cases hn : nan32 b
    · have : b < 2147483648 := by
        unfold le32 at h
        rw [hn] at h
        have e0 : nan32 0 = false := by decide
        have e1 : sr32 0 = 0 := by decide
        rw [e0, e1] at h
        simp at h
        unfold sr32 at h
        split at h <;> omega
      rw [Nat.mod_eq_of_lt this]
    · rw [fl_nan (b := b % 2147483648) (by rw [nan_abs]; exact hn), fl_nan hn]
  · have e := sub_zero_neg hb h
    go_enter Tryz.func87, Tryz.ntmps87
    go_wp2
    go_ret
    refine ⟨_, _, rfl, fres_lt _ _ _ _, ?_, rfl⟩
    rw [fres_some e]; rfl

/-- What is asked of two pictures and a number of disparities. -/
def pairD (p q : Tri) (dp : Int) : Bool := pairV p q && (decide (1 ≤ dp) && decide (dp ≤ 8))
theorem quiet_sameA {P : Program} {f : FuncId} {args : Array Value} {W : World} {n : Nat} {v : Value} (h : Calls P f args (W.drewN n) fun e w' => e = .returned v ∧ (W.drewN n) = w') : Calls P f args (W.drewN n) fun e w' => e = .returned v ∧ ∃ m, w' = W.drewN m :=
  h.mono fun e w' ⟨he, hm⟩ => ⟨he, n, hm.symm⟩

set_option maxHeartbeats 2000000 in
theorem l03Pair_gen (W : World) (p1 p2 o1 o2 : Nat) (p q : Tri) (dp : Int) (hp : p.at_ W p1 o1) (hq : q.at_ W p2 o2) (hl : p.l ≤ 9223372036854775807) (hl2 : q.l ≤ 9223372036854775807) :
    Calls Tryz.prog 56 #[.pointer (some ⟨p1, o1, none⟩), .pointer (some ⟨p2, o2, none⟩), .int .i64 dp] W fun e w' => e = .returned (.bool (pairD p q dp)) ∧ ∃ k, w' = W.drewN k := by
  have K1 := Lib.hid (fun n => quiet_drewA (W := W) (n := n) (l02Is_gen (W.drewN n) p1 o1 p.a p.b p.s p.l p.c hl hp.1 hp.2.1 hp.2.2))
  have K2 := Lib.hid (fun n => quiet_drewA (W := W) (n := n) (l02Is_gen (W.drewN n) p2 o2 q.a q.b q.s q.l q.c hl2 hq.1 hq.2.1 hq.2.2))
  have K3 := Lib.hid (fun n => quiet_sameA (W := W) (n := n) (s00In_any dp 1 8 (W.drewN n)))
  obtain ⟨c0, c1, -⟩ := hp
  obtain ⟨d0, d1, -⟩ := hq
  unfold pairD pairV Tri.ok
  cases v1 : vPic p.a p.b p.l
  case false =>
    rw [v1] at K1
    clear v1
    go_enter Tryz.func56, Tryz.ntmps56
    go_wp2_with fail
    go_quiet (first | with_reducible exact K1.out _ | with_reducible exact K2.out _ | with_reducible exact K3.out _)
    go_wp2_with fail
    go_ret
    exact ⟨rfl, _, rfl⟩
  case true =>
    obtain ⟨y1, y2, g1, g2, g3, g4, g5, g6, g7, g8⟩ := vPic_spec v1
    rw [v1] at K1
    clear v1
    generalize vPic q.a q.b q.l = v2 at *
    obtain ⟨x1, hx1⟩ : ∃ x, (p.a == q.a) = x := ⟨_, rfl⟩
    obtain ⟨x2, hx2⟩ : ∃ x, (p.b == q.b) = x := ⟨_, rfl⟩
    obtain ⟨x3, hx3⟩ : ∃ x, (decide (1 ≤ dp) && decide (dp ≤ 8)) = x := ⟨_, rfl⟩
    rw [hx1, hx2, hx3]
    rw [hx3] at K3
    have hdp : x3 = true → 1 ≤ dp ∧ dp ≤ 8 := by rintro rfl; simpa using hx3
    have HG := Lib.hid (And.intro g1 (And.intro g2 (And.intro g3 (And.intro g4 (And.intro g5 (And.intro g6 (And.intro g7 g8)))))))
    clear hx3 g1 g2 g3 g4 g5 g6 g7 g8 hl hl2
    cases v2
    case false =>
      clear hdp
      go_enter Tryz.func56, Tryz.ntmps56
      go_wp2_with fail
      go_quiet (first | with_reducible exact K1.out _ | with_reducible exact K2.out _ | with_reducible exact K3.out _)
      go_wp2_with fail
      go_ret
      exact ⟨rfl, _, rfl⟩
    case true =>
      cases x1
      case false =>
        clear hdp
        go_enter Tryz.func56, Tryz.ntmps56
        go_wp2_with fail
        go_quiet (first | with_reducible exact K1.out _ | with_reducible exact K2.out _ | with_reducible exact K3.out _)
        go_wp2_with fail
        go_ret
        exact ⟨rfl, _, rfl⟩
      case true =>
        cases x2
        case false =>
          clear hdp
          go_enter Tryz.func56, Tryz.ntmps56
          go_wp2_with fail
          go_quiet (first | with_reducible exact K1.out _ | with_reducible exact K2.out _ | with_reducible exact K3.out _)
          go_wp2_with fail
          go_ret
          exact ⟨rfl, _, rfl⟩
        case true =>
          cases x3
          case false =>
            clear hdp
            go_enter Tryz.func56, Tryz.ntmps56
            go_wp2_with fail
            go_quiet (first | with_reducible exact K1.out _ | with_reducible exact K2.out _ | with_reducible exact K3.out _)
            go_wp2_with fail
            go_ret
            exact ⟨rfl, _, rfl⟩
          case true =>
            obtain ⟨g1, g2, g3, g4, g5, g6, g7, g8⟩ := HG.out
            obtain ⟨h1, h2⟩ := hdp rfl
            have e5 : p.a * p.b ≤ 256 := by rw [g1, g2, ← Int.natCast_mul]; omega
            have e5' : 0 ≤ p.a * p.b := by rw [g1, g2, ← Int.natCast_mul]; omega
            have e6 : p.a * p.b * dp ≤ 2048 := Int.le_trans (Int.mul_le_mul_of_nonneg_left h2 e5') (by omega)
            have e6' : 0 ≤ p.a * p.b * dp := Int.mul_nonneg e5' (by omega)
            have w5 : IntKind.i64.wrap (p.a * p.b) = p.a * p.b := IntWalk.i64_in _ (by omega)
            have w6 : IntKind.i64.wrap (p.a * p.b * dp) = p.a * p.b * dp := IntWalk.i64_in _ (by omega)
            have d6 : decide (p.a * p.b * dp ≤ 2048) = true := decide_eq_true (by omega)
            clear g1 g2 g3 g4 g5 g6 g7 g8 hdp h1 h2
            go_enter Tryz.func56, Tryz.ntmps56
            go_wp2_with fail
            go_quiet (first | with_reducible exact K1.out _ | with_reducible exact K2.out _ | with_reducible exact K3.out _)
            go_wp2_with fail
            go_ret
            exact ⟨rfl, _, rfl⟩
end

section
open Go.RowKit Ieee
set_option maxRecDepth 100000
set_option linter.unusedVariables false
set_option linter.unusedSimpArgs false

def mnE (a b : Int) : Int := if a < b then a else b
def mxE (a b : Int) : Int := if b < a then a else b
theorem eMin_any (a b : Int) (w : World) : Calls Tryz.prog 102 #[.int .i64 a, .int .i64 b] w fun e w' => e = .returned (.int .i64 (mnE a b)) ∧ w = w' := by
  by_cases h : a < b
  · have e : mnE a b = a := if_pos h
    rw [e]; clear e
    go_enter Tryz.func102, Tryz.ntmps102
    go_wp2
    go_ret
    exact ⟨rfl, rfl⟩
  · have e : mnE a b = b := if_neg h
    rw [e]; clear e
    go_enter Tryz.func102, Tryz.ntmps102
    go_wp2
    go_ret
    exact ⟨rfl, rfl⟩
theorem eMax_any (a b : Int) (w : World) : Calls Tryz.prog 101 #[.int .i64 a, .int .i64 b] w fun e w' => e = .returned (.int .i64 (mxE a b)) ∧ w = w' := by
  by_cases h : b < a
  · have e : mxE a b = a := if_pos h
    rw [e]; clear e
    go_enter Tryz.func101, Tryz.ntmps101
    go_wp2
    go_ret
    exact ⟨rfl, rfl⟩
  · have e : mxE a b = b := if_neg h
    rw [e]; clear e
    go_enter Tryz.func101, Tryz.ntmps101
    go_wp2
    go_ret
    exact ⟨rfl, rfl⟩
theorem mx_mnE (x : Int) {n : Nat} (h : 0 < n) : mxE 0 (mnE ((n : Int) - 1) x) = (cl x n : Nat) := by unfold mxE mnE cl; split <;> split <;> omega

/-- A picture at any place of a block. -/
structure PicI (W : World) (pb o wd hi : Nat) (v : Value) (bs : List Nat) : Prop where
  c0 : W.cell? ⟨pb, o, none⟩ = some (.int .i64 wd)
  c1 : W.cell? ⟨pb, o + 1, none⟩ = some (.int .i64 hi)
  c2 : W.cell? ⟨pb, o + 2, none⟩ = some v
  sl : SlF W v bs
  len : bs.length = wd * hi
  lt : pb < W.heap.size
theorem PicI.below {W W' : World} {pb o wd hi : Nat} {v : Value} {bs : List Nat} (h : PicI W pb o wd hi v bs) (hb : Below W.heap.size W W') : PicI W' pb o wd hi v bs :=
  ⟨by rw [(bcell2 hb).1 _ _ h.lt]; exact h.c0, by rw [(bcell2 hb).1 _ _ h.lt]; exact h.c1, by rw [(bcell2 hb).1 _ _ h.lt]; exact h.c2, h.sl.below hb, h.len, Nat.lt_of_lt_of_le h.lt hb.size⟩
theorem PicI.of (W : World) {pb wd hi : Nat} {v : Value} {bs : List Nat} {T : TypeId} (h : PicAt W pb wd hi v bs T) : PicI W pb 0 wd hi v bs :=
  ⟨h.box.cells.1, h.box.cells.2.1, h.box.cells.2.2.1, h.sl, h.len, h.box.lt⟩

set_option maxHeartbeats 1000000 in
theorem l02At_gen (W : World) (pb o wd hi : Nat) (v : Value) (bs : List Nat) (x y : Int) (hw : 0 < wd) (hh : 0 < hi) (hw2 : wd ≤ 1000) (hh2 : hi ≤ 1000) (h : PicI W pb o wd hi v bs) :
    Calls Tryz.prog 86 #[.pointer (some ⟨pb, o, none⟩), .int .i64 x, .int .i64 y] W fun e w' => e = .returned (.float .f32 (bs.getD (ix x y wd hi) 0)) ∧ ∃ n, w' = W.drewN n := by
  obtain ⟨c0, c1, c2, hsl, hl, hpl⟩ := h
  have hix := ix_lt x y hw hh
  have hne : bs ≠ [] := by intro e; rw [e] at hl; simp at hl; omega
  obtain ⟨b, off, cap, rfl, hb, hc⟩ := hsl.form hne
  have hc1 := hc (ix x y wd hi) (by omega)
  rw [getD_of2 bs _ (by omega)] at hc1
  have hmul : cl y hi * wd ≤ 1000 * 1000 := Nat.mul_le_mul (by have := cl_lt y hh; omega) hw2
  have hlb : bs.length ≤ 1000000 := by rw [hl]; exact Nat.mul_le_mul hw2 hh2
  have hA := cl_lt x hw
  unfold ix at hix hc1 ⊢
  have e1 : IntKind.i64.wrap ((wd : Int) * (cl y hi : Nat)) = (wd : Int) * (cl y hi : Nat) := IntWalk.i64_in _ (by rw [← Int.natCast_mul, Nat.mul_comm]; omega)
  have e2 : IntKind.i64.wrap (((cl x wd : Nat) : Int) + (wd : Int) * (cl y hi : Nat)) = ((cl x wd : Nat) : Int) + (wd : Int) * (cl y hi : Nat) := IntWalk.i64_in _ (by rw [← Int.natCast_mul, Nat.mul_comm]; omega)
  have e3 : (0 : Int) ≤ ((cl x wd : Nat) : Int) + (wd : Int) * (cl y hi : Nat) := by rw [← Int.natCast_mul]; omega
  have e4 : ((cl x wd : Nat) : Int) + (wd : Int) * (cl y hi : Nat) < (bs.length : Int) := by rw [← Int.natCast_mul]; omega
  have e5 : (((cl x wd : Nat) : Int) + (wd : Int) * (cl y hi : Nat)).toNat = cl x wd + wd * cl y hi := by rw [← Int.natCast_mul]; omega
  have e6 : IntKind.i64.wrap ((hi : Int) - 1) = (hi : Int) - 1 := IntWalk.i64_in _ (by omega)
  have f1 := mx_mnE x hw
  have f2 := mx_mnE y hh
  clear hc hl hmul hsl hne
  generalize hca : cl x wd = ca at *
  generalize hcb : cl y hi = cb at *
  have M1 := Lib.hid (fun w => eMin_any ((wd : Int) - 1) x w)
  have M2 := Lib.hid (fun w => eMin_any ((hi : Int) - 1) y w)
  have K1 := Lib.hid (fun w => eMax_any 0 (mnE ((wd : Int) - 1) x) w)
  have K2 := Lib.hid (fun w => eMax_any 0 (mnE ((hi : Int) - 1) y) w)
  rw [f1] at K1
  rw [f2] at K2
  clear f1 f2 hca hcb
  generalize mnE ((wd : Int) - 1) x = mx at *
  generalize mnE ((hi : Int) - 1) y = my at *
  go_enter Tryz.func86, Tryz.ntmps86
  go_wp2_with fail
  refine (M1.out _).mono ?_
  rintro e w' ⟨rfl, rfl⟩
  go_wp2_with fail
  refine (K1.out _).mono ?_
  rintro e w' ⟨rfl, rfl⟩
  go_wp2_with fail
  go_quiet ((first | with_reducible exact quiet_same (M2.out _) | with_reducible exact quiet_same (K2.out _)))
  go_wp2
  go_ret
  exact ⟨rfl, _, rfl⟩

/-- A loop that appends numbers to the costs of a volume of its own. -/
structure AccE (w wr : World) (ob : Nat) (a b d : Int) (v : Value) (bs : List Nat) (L : List Nat) : Prop where
  bel : Below w.heap.size w wr
  box : BoxN wr ob #[.int .i64 a, .int .i64 b, .int .i64 d, v] 62
  own : OwnF wr w.heap.size v bs
  ne : some ob ≠ v.ownBlock
  obf : w.heap.size ≤ ob
  con : bs.map fl = L
theorem AccE.step {w wr w1 w2 : World} {ob : Nat} {a b d : Int} {r : Nat} {v : Value} {bs L : List Nat} {T : TypeId} {gg cap z : Nat} (h : AccE w wr ob a b d v bs L)
    (hb : Below wr.heap.size wr w1) (hr : r < 4294967296) (hfl : fl r = z)
    (hown : w2.ownsRow w.heap.size 25 1 (.slice (some ⟨gg, 0, none⟩) (bs.length + 1) cap) (bs.length + 1) (bs.map (Value.float .f32) ++ [.float .f32 r]))
    (hg : (w1.alloc (.cells #[.float .f32 r] T)).grownBy w2 v.ownBlock) (hat : v.ownBlock = some gg ∨ gg = w1.heap.size + 1) :
    AccE w (w2.setCell ⟨ob, 3, none⟩ (.slice (some ⟨gg, 0, none⟩) (bs.length + 1) cap)) ob a b d (.slice (some ⟨gg, 0, none⟩) (bs.length + 1) cap) (bs ++ [r]) (L ++ [z]) := by
  have hal : Below w1.heap.size w1 (w1.alloc (.cells #[.float .f32 r] T)) := (Below.refl _ _).alloc (Nat.le_refl _) _
  have hlt := h.box.lt
  have s1 : wr.heap.size ≤ w1.heap.size := hb.size
  have hgg : gg ≠ ob := by
    rcases hat with e | e
    · intro q; exact h.ne (by rw [e, q])
    · omega
  have b2 : Below w.heap.size w w2 := ((h.bel.trans (hb.mono h.bel.size)).trans (hal.mono (Nat.le_trans h.bel.size s1))).grown hg (by simp; have := h.bel.size; omega) (fun k hk => by have := (h.own.lt hk).1; omega)
  refine ⟨b2.setCell h.obf _, by have := ((h.box.below hb).below hal).grown hg h.ne; have := this.set 3 (.slice (some ⟨gg, 0, none⟩) (bs.length + 1) cap); simpa using this, ⟨?_, ?_⟩, by simp [Value.ownBlock]; exact fun e => hgg e.symm, h.obf, by rw [List.map_append, h.con]; simp [hfl]⟩
  · have k := hown.kept (grown_setCell w2 ⟨ob, 3, none⟩ (.slice (some ⟨gg, 0, none⟩) (bs.length + 1) cap)) (.inr (by simp [Value.ownBlock]; exact hgg))
    simpa using k
  · intro b hb'
    rcases List.mem_append.1 hb' with h1 | h1
    · exact h.own.2 b h1
    · simp at h1; omega
/-- A part of a volume's table. -/
def tabV (wd dp : Nat) (g : Nat → Nat → Nat → Nat) (m : Nat) : List Nat := tab m fun i => g (i / dp % wd) (i / dp / wd) (i % dp)
theorem tabV_step {wd dp x y d : Nat} (g : Nat → Nat → Nat → Nat) (hx : x < wd) (hd : d < dp) : tabV wd dp g ((y * wd + x) * dp + d) ++ [g x y d] = tabV wd dp g ((y * wd + x) * dp + (d + 1)) := by
  obtain ⟨e1, e2, e3, e4⟩ := cell_parts (y := y) hx hd
  unfold tabV
  rw [← Nat.add_assoc, tab_succ]
  congr 1
  rw [e1, e2, e3, e4]
theorem tabV_len (wd dp : Nat) (g : Nat → Nat → Nat → Nat) (m : Nat) : (tabV wd dp g m).length = m := tab_length _ _
theorem own_ptrE {w : World} {B n c : Nat} {a : Option Addr} {bs : List Nat} (h : OwnF w B (.slice a n c) bs) (h0 : 0 < bs.length) : ∃ q, a = some ⟨q, 0, none⟩ := by
  rcases h.form with ⟨h1, h2⟩ | ⟨q, cap, h1, h2⟩
  · rw [h2] at h0; simp at h0
  · injection h1 with h1; exact ⟨q, h1⟩

/-- A volume of words, made anew. -/
def MakesVE (w : World) (a b d : Int) (L : List Nat) (e : Ending) (w' : World) : Prop :=
  ∃ s c bs, e = .returned (.agg #[.int .i64 a, .int .i64 b, .int .i64 d, .slice s (List.length bs) c]) ∧ OwnF w' w.heap.size (.slice s (List.length bs) c) bs ∧ bs.map fl = L ∧ Below w.heap.size w w'

/-- The cost of two cells: the square of their difference, or its absolute value. -/
def dfW (bs1 bs2 : List Nat) (wd hi x y d : Nat) : Nat := fop .sub (fl (bs1.getD (ix x y wd hi) 0)) (fl (bs2.getD (ix ((x : Int) - d) y wd hi) 0))
def cmW (s : Bool) (bs1 bs2 : List Nat) (wd hi x y d : Nat) : Nat := if s then fop .mul (dfW bs1 bs2 wd hi x y d) (dfW bs1 bs2 wd hi x y d) else abW (dfW bs1 bs2 wd hi x y d)

set_option maxHeartbeats 4000000 in
theorem l03Compare_gen (w : World) (p1 p2 o1 o2 wd hi dp : Nat) (v1 v2 : Value) (bs1 bs2 : List Nat) (s : Bool) (h1 : 1 ≤ wd) (h2 : wd ≤ 24) (h3 : 1 ≤ hi) (h4 : hi ≤ 24) (d1 : 1 ≤ dp) (d2 : dp ≤ 8)
    (hA : PicI w p1 o1 wd hi v1 bs1) (hB : PicI w p2 o2 wd hi v2 bs2) :
    Calls Tryz.prog 57 #[.pointer (some ⟨p1, o1, none⟩), .pointer (some ⟨p2, o2, none⟩), .int .i64 dp, .bool s] w (MakesVE w wd hi dp (tabV wd dp (cmW s bs1 bs2 wd hi) (hi * wd * dp))) := by
  obtain ⟨i0, hi0, hz0, hz1, hz2⟩ := info_parts info_f32
  have hpl := hA.lt
  obtain ⟨wA, hwA⟩ : ∃ wA, wA = w.alloc (.cells #[.int .i64 0, .int .i64 0, .int .i64 0, .slice none 0 0] 62) := ⟨_, rfl⟩
  have hbA : Below w.heap.size w wA := by rw [hwA]; exact (Below.refl _ _).alloc (Nat.le_refl _) _
  have BR : BoxN wA w.heap.size #[.int .i64 0, .int .i64 0, .int .i64 0, .slice none 0 0] 62 := by rw [hwA]; exact BoxN.last w _ _
  have hP1 := hA.below hbA
  have hP2 := hB.below hbA
  have KA := Lib.hid (fun W (hb : Below wA.heap.size wA W) x y => l02At_gen W p1 o1 wd hi _ bs1 x y (by omega) (by omega) (by omega) (by omega) (hP1.below hb))
  have KB := Lib.hid (fun W (hb : Below wA.heap.size wA W) x y => l02At_gen W p2 o2 wd hi _ bs2 x y (by omega) (by omega) (by omega) (by omega) (hP2.below hb))
  have Z := Lib.hid (fun W (hb : Below wA.heap.size wA W) => And.intro (hP1.below hb).c0 (hP1.below hb).c1)
  have HWA := Lib.hid hwA
  have HBA := Lib.hid hbA
  have HBR := Lib.hid BR
  have hrl : w.heap.size < wA.heap.size := BR.lt
  have hpA : p1 < wA.heap.size := hP1.lt
  have hg0 : ∀ x y d, cmW s bs1 bs2 wd hi x y d = if s then fop .mul (dfW bs1 bs2 wd hi x y d) (dfW bs1 bs2 wd hi x y d) else abW (dfW bs1 bs2 wd hi x y d) := fun _ _ _ => rfl
  have HG := Lib.hid hg0
  clear hg0
  generalize cmW s bs1 bs2 wd hi = G at *
  clear hA hB hP1 hP2 hwA hbA BR
  go_enter Tryz.func57, Tryz.ntmps57
  go_upto_region 1 with fail
  rw [← HWA.out]
  go_cut [9] from 14 to 23 (fun v9 wx => ∃ ob : Nat, v9 = .pointer (some ⟨ob, 0, none⟩) ∧ AccE wA wx ob wd hi dp (.slice none 0 0) [] [])
  case first =>
    obtain ⟨z0, z1⟩ := Z.out wA (Below.refl _ _)
    have hal : ∀ (W : World) (o : Obj), Below W.heap.size W (W.alloc o) := fun W o => (Below.refl _ _).alloc (Nat.le_refl _) _
    have hal0 := hal wA (.cells #[.int .i64 0, .int .i64 0, .int .i64 0, .slice none 0 0] 62)
    obtain ⟨y0, y1⟩ := Z.out _ hal0
    go_region
    all_goals go_wp2_with fail
    all_goals go_meet
    exact ⟨wA.heap.size, rfl, below_drewN (hal _ _) 1, (BoxN.last wA _ _).drewN 1, OwnF.nil _ _, by simp [Value.ownBlock], Nat.le_refl _, rfl⟩
  case rest =>
    obtain ⟨ob, rfl, hacc⟩ := hcut
    have HACC := Lib.hid hacc
    clear hacc
    have wdI : (wd : Int) ≤ 24 := by omega
    have hiI : (hi : Int) ≤ 24 := by omega
    have dpI : (dp : Int) ≤ 8 := by omega
    go_wp2_with fail
    go_loopw [10] (fun v10 wr => ∃ (y : Nat) (v : Value) (cs : List Nat), v10 = .int .i64 y ∧ y ≤ hi ∧ AccE wA wr ob wd hi dp v cs (tabV wd dp G (y * wd * dp))) (fun v10 _ => hi - (intOf v10).toNat)
    case atStart => exact ⟨0, _, [], rfl, Nat.zero_le _, by rw [Nat.zero_mul, Nat.zero_mul]; exact HACC.out⟩
    case round =>
      clear HACC
      obtain ⟨y, v1, cs, rfl, hy, hacc⟩ := hrel
      obtain ⟨z0, z1⟩ := Z.out _ hacc.bel
      have HACC := Lib.hid hacc
      clear hacc
      by_cases hlt : y < hi
      · go_wp2_with fail
        clear z0 z1
        go_loopw [11] (fun v11 wr => ∃ (x : Nat) (v : Value) (cs : List Nat), v11 = .int .i64 x ∧ x ≤ wd ∧ AccE wA wr ob wd hi dp v cs (tabV wd dp G ((y * wd + x) * dp))) (fun v11 _ => wd - (intOf v11).toNat)
        case atStart => exact ⟨0, v1, cs, rfl, Nat.zero_le _, HACC.out⟩
        case round =>
          clear HACC
          obtain ⟨x, v2, cs2, rfl, hx, hacc⟩ := hrel
          obtain ⟨z0, z1⟩ := Z.out _ hacc.bel
          have HACC := Lib.hid hacc
          clear hacc
          by_cases hlx : x < wd
          · go_wp2_with fail
            clear z0 z1
            go_loopw [12] (fun v12 wr => ∃ (d : Nat) (v : Value) (cs : List Nat), v12 = .int .i64 d ∧ d ≤ dp ∧ AccE wA wr ob wd hi dp v cs (tabV wd dp G ((y * wd + x) * dp + d))) (fun v12 _ => dp - (intOf v12).toNat)
            case atStart => exact ⟨0, v2, cs2, rfl, Nat.zero_le _, HACC.out⟩
            case round =>
              clear HACC
              obtain ⟨d, v3, cs3, rfl, hd, hacc⟩ := hrel
              by_cases hld : d < dp
              · have hbel := hacc.bel
                have hown := hacc.own
                have hne := hacc.ne
                have hobf := hacc.obf
                have hbox := hacc.box
                have hL : cs3.length ≤ 5000 := by
                  have h5 : (y * wd + x) * dp ≤ 600 * 8 := Nat.mul_le_mul (by have : y * wd ≤ 23 * 24 := Nat.mul_le_mul (by omega) h2; omega) d2
                  have h6 : cs3.length = (y * wd + x) * dp + d := by have := congrArg List.length hacc.con; rwa [List.length_map, tabV_len] at this
                  omega
                have hB := hacc.box.lt
                have hBs := hbel.size
                have HS := Lib.hid hacc
                clear hacc
                have KAT := Lib.hid (fun n => KA.out (wr.drewN n) (below_drewN hbel n) (x : Int) (y : Int))
                have KBT := Lib.hid (fun n => KB.out (wr.drewN n) (below_drewN hbel n) ((x : Int) - (d : Int)) (y : Int))
                have hg1 := HG.out x y d
                unfold dfW at hg1
                have HG1 := Lib.hid hg1
                clear hg1
                generalize bs1.getD (ix (x : Int) (y : Int) wd hi) 0 = za at *
                generalize bs2.getD (ix ((x : Int) - (d : Int)) (y : Int) wd hi) 0 = zb at *
                have sx : IntKind.i64.wrap ((x : Int) - (d : Int)) = (x : Int) - (d : Int) := IntWalk.i64_in _ (by omega)
                go_wp2_with fail
                refine (KAT.out 0).mono ?_
                rintro e w' ⟨rfl, n1, rfl⟩
                go_wp2_with fail
                refine (KBT.out _).mono ?_
                rintro e w' ⟨rfl, n2, rfl⟩
                cases s
                · have SZ := Lib.hid (fun W => l03Size_w (fres .sub .f32 za zb (wr.drewN (n1 + n2))) (fres_lt _ _ _ _) W)
                  have HZ := Lib.hid (fl_fres .sub za zb (wr.drewN (n1 + n2)))
                  go_wp2_with fail
                  generalize fres .sub .f32 za zb (wr.drewN (n1 + n2)) = ze at *
                  generalize n1 + n2 + fdr .sub .f32 za zb = nk at *
                  obtain ⟨-, -, -, c3, -, -, -, -⟩ := hbox.four
                  have wk : Below wr.heap.size wr (wr.drewN nk) := below_drewN (Below.refl _ _) _
                  go_region_law (first
                    | (refine step_append_lies _ (by rfl) _ _ _ (by rfl) wA.heap.size 25 i0 _ 1 4 Tryz.underlying22 hi0 hz0 hz1 hz2 rfl (by omega) v3 cs3.length _ (by rfl) (World.ownsRow.alloc hown1.1 _) ⟨w1.heap.size, 0, none⟩ 1 1 [.float .f32 rr] (by rfl) (by rfl) (cell_one_new _ _ _) (by simp [Value.oneCell']) (by omega) (by unfold maxLen; omega) (by omega) (by simp; omega) (w1.heap.size + 1) (by simp) ?_; intro gg cap w2 hown2 hgrow hat hlt2; obtain ⟨q0, q1, q2, q3, g0, g1, g2, g3⟩ := ((hbox1.below ((Below.refl w1.heap.size w1).alloc (Nat.le_refl _) _)).grown hgrow hne).four)
                    | (go_simp; refine (SZ.out _).mono ?_; rintro e w1 ⟨rr, nn, rfl, hrl, hrf, hw1⟩; have HRF := Lib.hid hrf; have hb2 : Below wr.heap.size wr w1 := (by rw [hw1]; first | exact below_drewN (Below.refl _ _) _ | exact below_drewN (below_drewN (Below.refl _ _) _) _); have hbox1 := hbox.below hb2; have c3' := hbox1.four.2.2.2.1; have c4 : ∀ o, (w1.alloc o).cell? ⟨ob, 3, none⟩ = some v3 := (fun o => (hbox1.below ((Below.refl w1.heap.size w1).alloc (Nat.le_refl _) o)).four.2.2.2.1); have hown1 := hown.below hb2; have hz2' : wA.heap.size ≤ w1.heap.size := (by have := hb2.size; omega); clear hw1 hrf))
                  all_goals
                    go_wp2
                    go_roundw
                    case rel =>
                      have hst := HS.out.step (z := G x y d) hb2 hrl (by rw [HRF.out, ← abW_fl, HZ.out, HG1.out]; rfl) hown2 hgrow hat
                      rw [tabV_step G hlx hld] at hst
                      exact ⟨d + 1, _, cs3 ++ [rr], by go_num, by omega, hst⟩
                    case measure => simp [intOf]; omega
                · obtain ⟨-, -, -, c3, -, -, -, -⟩ := hbox.four
                  go_wp2_with (at_builtin; refine wpList_append_lies _ (by rfl) _ _ _ (by rfl) wA.heap.size 25 i0 _ 1 4 Tryz.underlying22 hi0 hz0 hz1 hz2 rfl (by omega) v3 cs3.length _ (by rfl) (World.ownsRow.alloc (hown.below (below_drewN (Below.refl wr.heap.size wr) _)).1 _) ⟨wr.heap.size, 0, none⟩ 1 1 [.float .f32 _] (by rfl) (by rfl) (cell_one_new _ _ _) (by simp [Value.oneCell']) (by omega) (by unfold maxLen; omega) (by omega) (by simp; omega) (wr.heap.size + 1) (by simp) ?_; intro gg cap w2 hown2 hgrow hat hlt2; obtain ⟨q0, q1, q2, q3, g0, g1, g2, g3⟩ := (((hbox.below (below_drewN (Below.refl wr.heap.size wr) _)).below ((Below.refl _ _).alloc (Nat.le_refl _) _)).grown hgrow hne).four)
                  go_roundw
                  case rel =>
                    have hst := HS.out.step (z := G x y d) (below_drewN (Below.refl _ _) _) (fres_lt _ _ _ _) (by rw [fl_fres, fl_fres, HG1.out]; rfl) hown2 hgrow hat
                    rw [tabV_step G hlx hld] at hst
                    exact ⟨d + 1, _, cs3 ++ [_], by go_num, by omega, hst⟩
                  case measure => simp [intOf]; omega
              · obtain rfl : dp = d := by omega
                have HS := Lib.hid hacc
                clear hacc
                go_wp2_with fail
                go_roundw
                case rel => exact ⟨x + 1, v3, cs3, by go_num, by omega, by rw [← Nat.add_assoc, Nat.add_mul (y * wd + x) 1, Nat.one_mul]; exact HS.out⟩
                case measure => simp [intOf]; omega
          · obtain rfl : wd = x := by omega
            go_wp2_with fail
            go_roundw
            case rel => exact ⟨y + 1, v2, cs2, by go_num, by omega, by rw [Nat.add_mul y 1 wd, Nat.one_mul]; exact HACC.out⟩
            case measure => simp [intOf]; omega
      · obtain rfl : hi = y := by omega
        have hob := HACC.out.own
        have hcon := HACC.out.con
        obtain ⟨va, vc, rfl⟩ := hob.sl.len
        have hl : 0 < cs.length := by have := congrArg List.length hcon; rw [List.length_map, tabV_len] at this; rw [this]; exact Nat.mul_pos (Nat.mul_pos (by omega) (by omega)) (by omega)
        obtain ⟨q, rfl⟩ := own_ptrE hob hl
        obtain ⟨c0, c1, c2, c3, -, -, -, -⟩ := HACC.out.box.four
        obtain ⟨e0, e1, e2, e3, e4, e5, e6, e7⟩ := (HBR.out.below HACC.out.bel).four
        have hlt2 := (HBR.out.below HACC.out.bel).lt
        have hqw := hob.lt (k := q) rfl
        have HOB := Lib.hid (And.intro hob hcon)
        clear hob hcon hl
        go_wp2_with fail
        refine bodyPost_ret (v := .agg #[.int .i64 wd, .int .i64 hi, .int .i64 dp, .slice (some ⟨q, 0, none⟩) cs.length vc]) (by simp [results, Tryz.results57, go_sem, e0, e1, e2, e3, hlt2]) rfl ?_
        have hbb := HBA.out.trans (HACC.out.bel.mono HBA.out.size)
        refine ⟨_, vc, cs, rfl, ?_, HOB.out.2, (((hbb.setCell (by simp) _).setCell (by simp) _).setCell (by simp) _).setCell (by simp) _⟩
        exact ((((HOB.out.1.set (by omega) _).set (by omega) _).set (by omega) _).set (by omega) _).mono HBA.out.size
end

end Go.Proofs.YtabbjilgpfnacaaGreat

/- Numbers that are near; pictures that are alike; boxes. -/
import Derived.Test.YtialajgobpokmaaPd
namespace Go.Proofs.Ytialajgobpokmaa
open Go.RowKit
set_option maxRecDepth 100000
set_option linter.unusedVariables false
set_option linter.unusedSimpArgs false

theorem andNot_abs (b : Nat) (hb : b < 4294967296) : bits .andNot .u32 (b : Int) 2147483648 = ((b % 2147483648 : Nat) : Int) := by
  show IntKind.u32.wrap ((BitVec.ofInt 32 ((b : Nat) : Int) &&& ~~~ BitVec.ofInt 32 2147483648).toNat : Int) = _
  have e1 : (~~~ BitVec.ofInt 32 2147483648 : BitVec 32) = BitVec.ofNat 32 2147483647 := by decide
  have e2 : b &&& 2147483647 = b % 2147483648 := Nat.and_two_pow_sub_one_eq_mod b 31
  rw [e1, BitVec.ofInt_natCast, BitVec.toNat_and, BitVec.toNat_ofNat, BitVec.toNat_ofNat, Nat.mod_eq_of_lt (by omega), show 2147483647 % 2 ^ 32 = 2147483647 from rfl, e2]
  have := Nat.mod_lt b (show 0 < 2147483648 by omega)
  show (((b % 2147483648 : Nat) : Int)) % 4294967296 = _
  omega

theorem abs_any (b : Nat) (hb : b < 4294967296) (w : World) : Calls Try.prog 65 #[.float .f32 b] w fun e w' => e = .returned (.float .f32 (b % 2147483648)) ∧ w = w' := by
  have e := andNot_abs b hb
  go_enter Try.func65, Try.ntmps65
  go_wp2
  go_ret
  exact ⟨by simp [e], rfl⟩

/-- Are two numbers near? -/
def ntF (a b near : Nat) : Bool := le32 (fop .sub (fl a) (fl b) % 2147483648) near
theorem nan_mod (b : Nat) : nan32 (b % 2147483648) = nan32 b := by unfold nan32; rw [Nat.mod_mod]
theorem le32_nan {a b : Nat} (h : nan32 a = true) : le32 a b = false := by unfold le32; rw [h]; rfl
theorem ntF_fres (a b near : Nat) (w : World) : le32 (fres .sub .f32 a b w % 2147483648) near = ntF a b near := by
  unfold ntF
  rw [← fl_fres .sub a b w]
  generalize fres .sub .f32 a b w = r
  cases h : nan32 r
  · rw [fl_eq h]
  · rw [le32_nan (by rw [nan_mod]; exact h), le32_nan (by rw [nan_mod, nan32_fl]; exact h)]
theorem nearTo_any (a b near : Nat) (w : World) : Calls Try.prog 71 #[.float .f32 a, .float .f32 b, .float .f32 near] w fun e w' => e = .returned (.bool (ntF a b near)) ∧ ∃ n, w' = w.drewN n := by
  have h1 := ntF_fres a b near w
  have h2 := fres_lt .sub a b w
  go_enter Try.func71, Try.ntmps71
  go_wp2_with fail
  refine (abs_any _ h2 _).mono ?_
  rintro e w' ⟨rfl, rfl⟩
  go_wp2
  go_ret
  exact ⟨by simp [h1], _, rfl⟩
theorem ntF_self {a near : Nat} (h : fin32 a = true) (hn : le32 0 near = true) : ntF a a near = true := by
  unfold ntF
  obtain ⟨r, e, f, l, q1, q2⟩ := sub_bd (a := a) (b := a) (lo := fq 2 0) (hi := fq 2 0) h h (fq_fin (by decide)) (fq_fin (by decide)) (by rw [vv_fq (by decide)]; omega) (by rw [vv_fq (by decide)]; omega)
  rw [vv_fq (by decide), Int.zero_mul] at q1 q2
  have hv : vv r = 0 := by omega
  have hu : unit Ieee.single (rg Ieee.single r) = 0 := by
    unfold vv sv at hv
    split at hv <;> omega
  have hr : rg Ieee.single r = 0 := unit_inj Ieee.single (by rw [hu, unit_zero])
  have hm : r % 2147483648 = 0 := by unfold rg at hr; rw [sg_sw] at hr; exact hr
  have hf : fop .sub (fl a) (fl a) = r := by
    rw [fl_eq (nan_of_fin32 h)]
    unfold fop; rw [e]
    exact fl_eq (nan_of_fin32 f)
  rw [hf, hm]; exact hn

set_option maxHeartbeats 1000000 in
/-- Two lists that are one are not unlike. -/
theorem unlike_self (w : World) (b off n c b2 off2 c2 : Nat) (bs : List Nat) (near : Nat) (h : SlF w (.slice (some ⟨b, off, none⟩) n c) bs) (h2 : SlF w (.slice (some ⟨b2, off2, none⟩) n c2) bs) (hf : ∀ b ∈ bs, fin32 b = true) (hn : n ≤ 256) (hl : bs.length = n) (hcap : n ≤ c ∧ n ≤ c2 ∧ c ≤ 9223372036854775807 ∧ c2 ≤ 9223372036854775807) (hnr : le32 0 near = true) :
    Calls Try.prog 47 #[.slice (some ⟨b, off, none⟩) n c, .slice (some ⟨b2, off2, none⟩) n c2, .float .f32 near] w fun e w' => e = .returned (.int .i64 0) ∧ ∃ m, w' = w.drewN m := by
  have HG := Lib.hid h.cellAt
  have HG2 := Lib.hid h2.cellAt
  have HL := Lib.hid hl
  have HF := Lib.hid hf
  clear h h2 hl hf
  obtain ⟨k1, k2, k3, k4⟩ := hcap
  go_enter Try.func47, Try.ntmps47
  go_wp2_with fail
  go_loopw [7, 12] (fun v7 v12 wr => ∃ i m : Nat, v7 = .int .i64 0 ∧ v12 = .int .i64 i ∧ i ≤ n ∧ wr = w.drewN m) (fun _ v12 _ => n - (intOf v12).toNat)
  case atStart => exact ⟨0, 0, rfl, rfl, Nat.zero_le _, rfl⟩
  case round =>
    obtain ⟨i, m, rfl, rfl, hi, rfl⟩ := hrel
    by_cases hlt : i < n
    · have q1 := (HG.out i (by rw [HL.out]; exact hlt)).1
      have q2 := (HG2.out i (by rw [HL.out]; exact hlt)).1
      have hx : fin32 (bs.getD i 0) = true := by
        rw [List.getD_eq_getElem?_getD, List.getElem?_eq_getElem (by rw [HL.out]; exact hlt)]; exact HF.out _ (List.getElem_mem _)
      have hi2 : (i : Int) < n := by omega
      generalize bs.getD i 0 = x at *
      have hnt := ntF_self hx hnr
      go_wp2_with fail
      refine (nearTo_any _ _ _ _).mono ?_
      rw [hnt]
      rintro e w' ⟨rfl, m2, rfl⟩
      go_wp2
      go_roundw
      case rel => exact ⟨i + 1, _, rfl, by go_num, by omega, rfl⟩
      case measure => simp [intOf]; omega
    · obtain rfl : n = i := by omega
      go_wp2
      go_ret
      exact ⟨rfl, m, rfl⟩

theorem pairOk_yes (w : World) (wd hi N : Nat) (s1 s2 : Option Addr) (c1 c2 : Nat) (hv : vPic wd hi N = true) :
    Calls Try.prog 46 #[.agg #[.int .i64 wd, .int .i64 hi, .slice s1 N c1], .agg #[.int .i64 wd, .int .i64 hi, .slice s2 N c2]] w fun e w' => e = .returned (.bool true) ∧ Below w.heap.size w w' := by
  obtain ⟨x1, x2, e1, e2, e3, b1, b2, b3, b4, b5⟩ := vPic_spec hv
  have hn : N ≤ 256 := by omega
  clear e1 e2 e3 b1 b2 b3 b4 b5
  have hb0 := below_two w (.cells #[.int .i64 wd, .int .i64 hi, .slice s1 N c1] 26) (.cells #[.int .i64 wd, .int .i64 hi, .slice s2 N c2] 26)
  have B1 := box_first w (.int .i64 wd) (.int .i64 hi) (.slice s1 N c1) 26 (.cells #[.int .i64 wd, .int .i64 hi, .slice s2 N c2] 26)
  have B2 := box_second w (.int .i64 wd) (.int .i64 hi) (.slice s2 N c2) 26 (.cells #[.int .i64 wd, .int .i64 hi, .slice s1 N c1] 26)
  go_enter Try.func46, Try.ntmps46
  go_wp2_with fail
  refine (validPicture_any _ _ _ _ _ (by omega) _).mono ?_
  rw [hv]
  rintro e w1 ⟨rfl, hb1⟩
  have hbb := hb0.trans (hb1.mono hb0.size)
  have B1 := B1.below hb1
  have B2 := B2.below hb1
  obtain ⟨c0, c1, c2', -, -, -⟩ := B1.cells
  obtain ⟨d0, d1, d2', -, -, -⟩ := B2.cells
  clear hb0 hb1
  go_wp2_with fail
  refine (validPicture_any _ _ _ _ _ (by omega) _).mono ?_
  rw [hv]
  rintro e w2 ⟨rfl, hb2⟩
  have hbb := hbb.trans (hb2.mono hbb.size)
  obtain ⟨c0, c1, c2', -, -, -⟩ := (B1.below hb2).cells
  obtain ⟨d0, d1, d2', -, -, -⟩ := (B2.below hb2).cells
  go_wp2
  go_ret
  exact ⟨rfl, hbb⟩

theorem countUnlike_self (w : World) (wd hi N q c q2 c2 : Nat) (bs : List Nat) (near : Nat) (hv : vPic wd hi N = true) (h : SlF w (.slice (some ⟨q, 0, none⟩) N c) bs) (h2 : SlF w (.slice (some ⟨q2, 0, none⟩) N c2) bs) (hf : ∀ b ∈ bs, fin32 b = true) (hl : bs.length = N) (hnr : le32 0 near = true) :
    Calls Try.prog 14 #[.agg #[.int .i64 wd, .int .i64 hi, .slice (some ⟨q, 0, none⟩) N c], .agg #[.int .i64 wd, .int .i64 hi, .slice (some ⟨q2, 0, none⟩) N c2], .float .f32 near] w fun e w' => e = .returned (.tuple #[.int .i64 0, .bool true]) ∧ Below w.heap.size w w' := by
  obtain ⟨x1, x2, e1, e2, e3, b1, b2, b3, b4, b5⟩ := vPic_spec hv
  have hn : N ≤ 256 := by omega
  clear e1 e2 e3 b1 b2 b3 b4 b5
  have hcp : ∀ (q c : Nat), SlF w (.slice (some ⟨q, 0, none⟩) N c) bs → N ≤ c ∧ c ≤ 9223372036854775807 := by
    intro q c h
    obtain ⟨a', c', e, g1, g2, _⟩ := h.1
    simp only [Value.slice.injEq, List.length_map] at e g1
    omega
  have hc1 := hcp q c h
  have hc2 := hcp q2 c2 h2
  have hb0 := below_two w (.cells #[.int .i64 wd, .int .i64 hi, .slice (some ⟨q, 0, none⟩) N c] 26) (.cells #[.int .i64 wd, .int .i64 hi, .slice (some ⟨q2, 0, none⟩) N c2] 26)
  have B1 := box_first w (.int .i64 wd) (.int .i64 hi) (.slice (some ⟨q, 0, none⟩) N c) 26 (.cells #[.int .i64 wd, .int .i64 hi, .slice (some ⟨q2, 0, none⟩) N c2] 26)
  have B2 := box_second w (.int .i64 wd) (.int .i64 hi) (.slice (some ⟨q2, 0, none⟩) N c2) 26 (.cells #[.int .i64 wd, .int .i64 hi, .slice (some ⟨q, 0, none⟩) N c] 26)
  have H1 := Lib.hid h
  have H2 := Lib.hid h2
  clear h h2 hcp
  go_enter Try.func14, Try.ntmps14
  go_wp2_with fail
  refine (pairOk_yes _ wd hi N _ _ c c2 hv).mono ?_
  rintro e w1 ⟨rfl, hb1⟩
  have hbb := hb0.trans (hb1.mono hb0.size)
  obtain ⟨c0, c1, c2', -, -, -⟩ := (B1.below hb1).cells
  obtain ⟨d0, d1, d2', -, -, -⟩ := (B2.below hb1).cells
  have K := Lib.hid (unlike_self w1 q 0 N c q2 0 c2 bs near (H1.out.below hbb) (H2.out.below hbb) hf hn hl ⟨hc1.1, hc2.1, hc1.2, hc2.2⟩ hnr)
  clear hb0 hb1 B1 B2
  go_wp2_with fail
  refine K.out.mono ?_
  rintro e w2 ⟨rfl, m, rfl⟩
  go_wp2
  go_ret2
  exact ⟨rfl, below_drewN hbb _⟩

end Go.Proofs.Ytialajgobpokmaa

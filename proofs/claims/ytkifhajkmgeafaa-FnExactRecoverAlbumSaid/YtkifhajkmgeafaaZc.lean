/- CheckOf. -/
import Derived.Test.YtkifhajkmgeafaaZa
namespace Go.Proofs.Ytkifhajkmgeafaa
open Go.RowKit
set_option maxRecDepth 100000
set_option linter.unusedVariables false
set_option linter.unusedSimpArgs false

theorem in_yes (n lo hi : Int) (h1 : lo ≤ n) (h2 : n ≤ hi) (w : World) : Calls Try.prog 42 #[.int .i64 n, .int .i64 lo, .int .i64 hi] w fun e w' => e = .returned (.bool true) ∧ w = w' := by
  have := in_any n lo hi w
  rw [decide_eq_true h1, decide_eq_true h2] at this
  exact this
theorem ckF_next {s : ByteArray} {i : Nat} (z : Nat) (h : i < s.size) : ckF z (s.data.toList.take (i + 1)) = (727 * ckF z (s.data.toList.take i) + byteN s i + 59) % 65003 := by
  have hl : i < s.data.toList.length := by rw [ba_size]; exact h
  rw [List.take_succ_eq_append_getElem hl, ckF_app]
  unfold byteN
  rw [List.getD_eq_getElem?_getD, List.getElem?_eq_getElem hl]
  rfl

theorem checkOf_any (w : World) (z : Nat) (s : ByteArray) (hz : z < 65003) (hs : s.size ≤ 2000000) :
    Calls Try.prog 34 #[.int .i64 z, .string s] w fun e w' => e = .returned (.tuple #[.int .i64 (ckF z s.data.toList : Nat), .bool true]) ∧ w = w' := by
  have KI := Lib.hid (fun w => in_yes (z : Int) 0 65002 (by omega) (by omega) w)
  obtain ⟨n, hn⟩ : ∃ n, s.size = n := ⟨_, rfl⟩
  have HN := Lib.hid hn
  have hT := Lib.hid (show s.data.toList.take n = s.data.toList by rw [← hn, ← ba_size, List.take_length])
  have HZ := Lib.hid hz
  clear hz
  go_enter Try.func34, Try.ntmps34
  go_wp2_with fail
  refine (KI.out _).mono ?_
  rintro e w' ⟨rfl, rfl⟩
  go_wp2_with fail
  go_loop [0, 12] (fun v0 v12 => ∃ i : Nat, v12 = .int .i64 i ∧ i ≤ n ∧ v0 = .int .i64 (ckF z (s.data.toList.take i) : Nat)) (fun _ v12 => n - (intOf v12).toNat)
  case atStart => exact ⟨0, rfl, Nat.zero_le _, rfl⟩
  case round =>
    obtain ⟨i, rfl, hi, rfl⟩ := hrel
    by_cases hlt : i < n
    · have hx : ∀ W', (Instr.index 9 (.string s) (.int .i64 (i : Int))).run Try.prog W' = .ok (.int .u8 ((byteN s i : Nat) : Int)) W' := fun W' => by
        have := idx_at W' s (i : Int) (by omega) (by rw [HN.out]; omega)
        rwa [Int.toNat_natCast] at this
      have hst := ckF_next z (show i < s.size by rw [HN.out]; exact hlt)
      have HST := Lib.hid hst
      have hb := byteN_lt s i
      have hc := ckF_lt HZ.out (s.data.toList.take i)
      generalize ckF z (s.data.toList.take i) = c at *
      generalize byteN s i = b at *
      have hiI : (i : Int) < (n : Int) := by omega
      clear hst
      go_wp2_with fail
      go_roundw
      case rel => exact ⟨i + 1, by go_num, by omega, by rw [HST.out]; go_num⟩
      case measure => simp [intOf]; omega
    · obtain rfl : n = i := by omega
      rw [hT.out]
      go_wp2_with fail
      go_ret2
      exact ⟨rfl, rfl⟩

end Go.Proofs.Ytkifhajkmgeafaa

/- The check of a text. -/
import Derived.Test.YtogojmimflgmmaaTy
import Derived.Test.YtogojmimflgmmaaPic
namespace Go.Proofs.Ytogojmimflgmmaa
open Go.RowKit
set_option maxRecDepth 100000
set_option linter.unusedVariables false
set_option linter.unusedSimpArgs false

def byteT (s : ByteArray) (i : Nat) : Nat := (s.data.toList.getD i 0).toNat
theorem byteT_lt (s : ByteArray) (i : Nat) : byteT s i < 256 := UInt8.toNat_lt _

theorem idx_atT (w : World) (s : ByteArray) (i : Int) (h0 : 0 ≤ i) (h1 : i < s.size) : (Instr.index 9 (.string s) (.int .i64 i)).run Try.prog w = .ok (.int .u8 (byteT s i.toNat : Nat)) w := by
  rw [run_index_string w 9 s .i64 i (by rfl), dif_pos ⟨h0, h1⟩]
  unfold byteT
  have h2 : i.toNat < s.data.toList.length := by
    rw [Array.length_toList]
    have : s.data.size = s.size := rfl
    omega
  rw [List.getD_eq_getElem?_getD, List.getElem?_eq_getElem h2, Option.getD_some]
  congr 3

def ckT (z : Nat) (l : List UInt8) : Nat := l.foldl (fun a b => (727 * a + b.toNat + 59) % 65003) z
theorem ckT_app (z : Nat) (l m : List UInt8) : ckT z (l ++ m) = ckT (ckT z l) m := List.foldl_append
theorem ckT_lt {z : Nat} (hz : z < 65003) : ∀ l, ckT z l < 65003 := fun l => by
  rcases List.eq_nil_or_concat l with rfl | ⟨l, b, rfl⟩
  · exact hz
  · rw [List.concat_eq_append, ckT_app]; exact Nat.mod_lt _ (by decide)

theorem in_yesT (n lo hi : Int) (h1 : lo ≤ n) (h2 : n ≤ hi) (w : World) : Calls Try.prog 29 #[.int .i64 n, .int .i64 lo, .int .i64 hi] w fun e w' => e = .returned (.bool true) ∧ w = w' := by
  have := in_any n lo hi w
  rw [decide_eq_true h1, decide_eq_true h2] at this
  exact this

theorem ckT_next {s : ByteArray} {i : Nat} (z : Nat) (h : i < s.size) : ckT z (s.data.toList.take (i + 1)) = (727 * ckT z (s.data.toList.take i) + byteT s i + 59) % 65003 := by
  have hl : i < s.data.toList.length := by rw [ba_sizeT]; exact h
  rw [List.take_succ_eq_append_getElem hl, ckT_app]
  unfold byteT
  rw [List.getD_eq_getElem?_getD, List.getElem?_eq_getElem hl]
  rfl

theorem checkOfT_any (w : World) (z : Nat) (s : ByteArray) (hz : z < 65003) (hs : s.size ≤ 2000000) :
    Calls Try.prog 23 #[.int .i64 z, .string s] w fun e w' => e = .returned (.tuple #[.int .i64 (ckT z s.data.toList : Nat), .bool true]) ∧ w = w' := by
  have KI := Lib.hid (fun w => in_yesT (z : Int) 0 65002 (by omega) (by omega) w)
  obtain ⟨n, hn⟩ : ∃ n, s.size = n := ⟨_, rfl⟩
  have HN := Lib.hid hn
  have hT := Lib.hid (show s.data.toList.take n = s.data.toList by rw [← hn, ← ba_sizeT, List.take_length])
  have HZ := Lib.hid hz
  clear hz
  go_enter Try.func23, Try.ntmps23
  go_wp2_with fail
  refine (KI.out _).mono ?_
  rintro e w' ⟨rfl, rfl⟩
  go_wp2_with fail
  go_loop [0, 12] (fun v0 v12 => ∃ i : Nat, v12 = .int .i64 i ∧ i ≤ n ∧ v0 = .int .i64 (ckT z (s.data.toList.take i) : Nat)) (fun _ v12 => n - (intOf v12).toNat)
  case atStart => exact ⟨0, rfl, Nat.zero_le _, rfl⟩
  case round =>
    obtain ⟨i, rfl, hi, rfl⟩ := hrel
    by_cases hlt : i < n
    · have hx : ∀ W', (Instr.index 9 (.string s) (.int .i64 (i : Int))).run Try.prog W' = .ok (.int .u8 ((byteT s i : Nat) : Int)) W' := fun W' => by
        have := idx_atT W' s (i : Int) (by omega) (by rw [HN.out]; omega)
        rwa [Int.toNat_natCast] at this
      have hst := ckT_next z (show i < s.size by rw [HN.out]; exact hlt)
      have HST := Lib.hid hst
      have hb := byteT_lt s i
      have hc := ckT_lt HZ.out (s.data.toList.take i)
      generalize ckT z (s.data.toList.take i) = c at *
      generalize byteT s i = b at *
      have hiI : (i : Int) < (n : Int) := by omega
      clear hst
      go_wp2_with fail
      go_roundw
      case rel => exact ⟨i + 1, by go_num, by omega, by rw [HST.out]; go_num⟩
      case measure => simp [intOf]; omega
    · obtain rfl : n = i := by omega
      rw [hT.out]
      go_wp2_with fail
      go_ret2
      exact ⟨rfl, rfl⟩

theorem s01CheckT_any (w : World) (z : Nat) (s : ByteArray) (hz : z < 65003) (hs : s.size ≤ 2000000) :
    Calls Try.prog 18 #[.int .i64 z, .string s] w fun e w' => e = .returned (.int .i64 (ckT z s.data.toList : Nat)) ∧ w = w' := by
  obtain ⟨n, hn⟩ : ∃ n, s.size = n := ⟨_, rfl⟩
  have HN := Lib.hid hn
  have hT := Lib.hid (show s.data.toList.take n = s.data.toList by rw [← hn, ← ba_sizeT, List.take_length])
  have HZ := Lib.hid hz
  clear hz
  go_enter Try.func18, Try.ntmps18
  go_wp2_with fail
  go_loop [0, 5] (fun v0 v5 => ∃ i : Nat, v5 = .int .i64 i ∧ i ≤ n ∧ v0 = .int .i64 (ckT z (s.data.toList.take i) : Nat)) (fun _ v5 => n - (intOf v5).toNat)
  case atStart => exact ⟨0, rfl, Nat.zero_le _, rfl⟩
  case round =>
    obtain ⟨i, rfl, hi, rfl⟩ := hrel
    by_cases hlt : i < n
    · have hx : ∀ W', (Instr.index 9 (.string s) (.int .i64 (i : Int))).run Try.prog W' = .ok (.int .u8 ((byteT s i : Nat) : Int)) W' := fun W' => by
        have := idx_atT W' s (i : Int) (by omega) (by rw [HN.out]; omega)
        rwa [Int.toNat_natCast] at this
      have hst := ckT_next z (show i < s.size by rw [HN.out]; exact hlt)
      have HST := Lib.hid hst
      have hb := byteT_lt s i
      have hc := ckT_lt HZ.out (s.data.toList.take i)
      generalize ckT z (s.data.toList.take i) = c at *
      generalize byteT s i = b at *
      have hiI : (i : Int) < (n : Int) := by omega
      clear hst
      go_wp2_with fail
      go_roundw
      case rel => exact ⟨i + 1, by go_num, by omega, by rw [HST.out]; go_num⟩
      case measure => simp [intOf]; omega
    · obtain rfl : n = i := by omega
      rw [hT.out]
      go_wp2_with fail
      go_ret
      exact ⟨rfl, rfl⟩

end Go.Proofs.Ytogojmimflgmmaa

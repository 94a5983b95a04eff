/- Pictures that are stored and loaded: the pieces. -/
import Derived.Test.YtkifhajkmgeafaaUe
import Derived.Test.YtkifhajkmgeafaaMade
namespace Go.Proofs.Ytkifhajkmgeafaa
open Go.RowKit
set_option maxRecDepth 100000
set_option linter.unusedVariables false
set_option linter.unusedSimpArgs false

theorem hasPrefix_yes (w : World) (s : ByteArray) (hl : 4 ≤ s.size) (hl2 : s.size ≤ 2000000) (h : s.extract 0 4 = ⟨#[69, 89, 69, 49]⟩) :
    Calls Try.prog 82 #[.string s, .string ⟨#[69, 89, 69, 49]⟩] w fun e w' => e = .returned (.bool true) ∧ w = w' := by
  have hz4 : ({ data := #[69, 89, 69, 49] } : ByteArray).size = 4 := rfl
  have hl3 : (4 : Int) ≤ (s.size : Int) := by omega
  go_enter Try.func82, Try.ntmps82
  go_wp2
  go_ret
  exact ⟨rfl, rfl⟩

/-- A string's bytes as numbers. -/
def byteN (s : ByteArray) (i : Nat) : Nat := (s.data.toList.getD i 0).toNat
theorem byteN_lt (s : ByteArray) (i : Nat) : byteN s i < 256 := UInt8.toNat_lt _
theorem idx_at (w : World) (s : ByteArray) (i : Int) (h0 : 0 ≤ i) (h1 : i < s.size) : (Instr.index 9 (.string s) (.int .i64 i)).run Try.prog w = .ok (.int .u8 (byteN s i.toNat : Nat)) w := by
  rw [run_index_string w 9 s .i64 i (by rfl), dif_pos ⟨h0, h1⟩]
  unfold byteN
  have h2 : i.toNat < s.data.toList.length := by
    rw [Array.length_toList]
    have : s.data.size = s.size := rfl
    omega
  rw [List.getD_eq_getElem?_getD, List.getElem?_eq_getElem h2, Option.getD_some]
  congr 3

set_option maxHeartbeats 1000000 in
theorem load1_any (W : World) (p1 p2 wd x y : Nat) (s : ByteArray) (q : Nat) (hq : q < 4294967296) (hx : x < wd) (hwd : wd ≤ 24) (hy : y < 24) (hsz : 10 + 4 * (x + wd * y) ≤ s.size) (hsz2 : s.size ≤ 2000000)
    (c0 : W.cell? ⟨p1, 0, none⟩ = some (.int .i64 wd)) (c1 : W.cell? ⟨p2, 0, none⟩ = some (.string s)) (hb : ∀ j, j < 4 → byteN s (6 + 4 * (x + wd * y) + j) = q / 256 ^ j % 256) :
    Calls Try.prog 84 #[.int .i64 x, .int .i64 y, .pointer (some ⟨p1, 0, none⟩), .pointer (some ⟨p2, 0, none⟩)] W fun e w' => e = .returned (.float .f32 q) ∧ ∃ n, w' = W.drewN n := by
  have hwy : wd * y ≤ 24 * 24 := Nat.mul_le_mul hwd (by omega)
  have em : (wd : Int) * (y : Int) = ((wd * y : Nat) : Int) := by simp
  obtain ⟨P, hP⟩ : ∃ P, P = wd * y := ⟨_, rfl⟩
  rw [← hP] at em hwy hsz hb
  have HB := Lib.hid hb
  have ew : IntKind.i64.wrap ((P : Nat) : Int) = (P : Int) := IntWalk.i64_in _ (by omega)
  have c0' := fun n => (show (W.drewN n).cell? ⟨p1, 0, none⟩ = some (.int .i64 wd) from c0)
  have c1' := fun n => (show (W.drewN n).cell? ⟨p2, 0, none⟩ = some (.string s) from c1)
  have hx24 : (x : Int) < 24 := by omega
  clear hb hP
  go_enter Try.func84, Try.ntmps84
  go_wp2_with fail
  go_loopw [8, 9] (fun v8 v9 wr => ∃ j m : Nat, j ≤ 4 ∧ v9 = .int .i64 (3 - (j : Int)) ∧ v8 = .int .i64 ((q / 256 ^ (4 - j) : Nat) : Int) ∧ W.drewN m = wr) (fun _ v9 _ => (intOf v9 + 1).toNat)
  case atStart => exact ⟨0, 0, by omega, rfl, by rw [Nat.sub_zero, Nat.div_eq_of_lt (show q < 256 ^ 4 by omega)]; rfl, rfl⟩
  case round =>
    obtain ⟨j, m, hj, rfl, rfl, hw⟩ := hrel
    have c0w : wr.cell? ⟨p1, 0, none⟩ = some (.int .i64 wd) := by rw [← hw]; exact c0
    have c1w : wr.cell? ⟨p2, 0, none⟩ = some (.string s) := by rw [← hw]; exact c1
    have HW := Lib.hid hw
    clear hw
    by_cases hlt : j < 4
    · obtain ⟨r, hr⟩ : ∃ r, r = q / 256 ^ (3 - j) := ⟨_, rfl⟩
      have e1 : q / 256 ^ (4 - j) = r / 256 := by rw [hr, show 4 - j = 3 - j + 1 by omega, Nat.pow_succ, Nat.div_div_eq_div_mul]
      have hr2 : r < 4294967296 := by rw [hr]; exact Nat.lt_of_le_of_lt (Nat.div_le_self _ _) hq
      have hby := HB.out (3 - j) (by omega)
      rw [← hr] at hby
      have hidx : ∀ W', (Instr.index 9 (.string s) (.int .i64 (6 + 4 * ((x : Int) + (P : Int)) + (3 - (j : Int))))).run Try.prog W' = .ok (.int .u8 ((r % 256 : Nat) : Int)) W' := by
        intro W'
        rw [idx_at W' s _ (by omega) (by omega), show (6 + 4 * ((x : Int) + (P : Int)) + (3 - (j : Int))).toNat = 6 + 4 * (x + P) + (3 - j) by omega, hby]
      rw [e1]
      have HR := Lib.hid hr
      have hjI : (j : Int) < 4 := by omega
      clear hby hr e1
      obtain ⟨R, hR⟩ : ∃ R, R = r / 256 := ⟨_, rfl⟩
      have hR2 : R ≤ 16777215 := by omega
      obtain ⟨b, hb⟩ : ∃ b, b = r % 256 := ⟨_, rfl⟩
      rw [← hb] at hidx
      rw [← hR]
      have hb2 : b < 256 := by omega
      have HRB := Lib.hid (show r = R * 256 + b by omega)
      clear hR hb
      go_wp2_with fail
      go_roundw
      case rel => exact ⟨j + 1, m, by omega, by go_num, by rw [show 4 - (j + 1) = 3 - j by omega, ← HR.out, HRB.out]; go_num, HW.out⟩
      case measure => simp [intOf]; omega
    · obtain rfl : j = 4 := by omega
      have hq2 : IntKind.i64.wrap (q : Int) = (q : Int) := IntWalk.i64_in _ (by omega)
      rw [show q / 256 ^ (4 - 4) = q by simp]
      go_wp2_with fail
      refine (fromBits_ok q _ hq).mono ?_
      rintro e w' ⟨rfl, hw'⟩
      go_wp2_with fail
      go_ret
      exact ⟨rfl, m, by rw [HW.out]; first | exact hw'.symm | rfl⟩

end Go.Proofs.Ytkifhajkmgeafaa

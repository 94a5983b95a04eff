/- Strings: their bytes, their check. -/
import Derived.Test.YtmcmcppleikajaaDoorUb
import Derived.Test.YtmcmcppleikajaaDoorNum
namespace Go.Proofs.YtmcmcppleikajaaDoor
open Go.RowKit
set_option maxRecDepth 100000
set_option linter.unusedVariables false
set_option linter.unusedSimpArgs false

/-- A string's bytes as numbers. -/
def byteN (s : ByteArray) (i : Nat) : Nat := (s.data.toList.getD i 0).toNat

theorem byteN_lt (s : ByteArray) (i : Nat) : byteN s i < 256 := UInt8.toNat_lt _

theorem idx_at (w : World) (s : ByteArray) (i : Int) (h0 : 0 ≤ i) (h1 : i < s.size) : (Instr.index 9 (.string s) (.int .i64 i)).run Tryd.prog w = .ok (.int .u8 (byteN s i.toNat : Nat)) w := by
  rw [run_index_string w 9 s .i64 i (by rfl), dif_pos ⟨h0, h1⟩]
  unfold byteN
  have h2 : i.toNat < s.data.toList.length := by
    rw [Array.length_toList]
    have : s.data.size = s.size := rfl
    omega
  rw [List.getD_eq_getElem?_getD, List.getElem?_eq_getElem h2, Option.getD_some]
  congr 3

theorem ba_loop (s : ByteArray) : ∀ (k i : Nat) (r : List UInt8), i + k = s.size → ByteArray.toList.loop s i r = r.reverse ++ s.data.toList.drop i := by
  intro k
  induction k with
  | zero =>
    intro i r h
    rw [ByteArray.toList.loop, if_neg (by omega), List.drop_of_length_le (by rw [Array.length_toList]; show s.size ≤ i; omega)]; simp
  | succ k ih =>
    intro i r h
    rw [ByteArray.toList.loop, if_pos (by omega), ih (i + 1) _ (by omega)]
    have hl : i < s.data.toList.length := by rw [Array.length_toList]; show i < s.size; omega
    have hl2 : i < s.data.size := by rwa [Array.length_toList] at hl
    rw [List.drop_eq_getElem_cons hl, List.reverse_cons, List.append_assoc]
    congr 1
    show [s.get! i] ++ _ = _
    have : s.get! i = s.data.toList[i] := by
      show s.data[i]! = _
      rw [getElem!_pos s.data i hl2]; rfl
    rw [this]; rfl

theorem ba_toList (s : ByteArray) : s.toList = s.data.toList := by
  unfold ByteArray.toList
  rw [ba_loop s s.size 0 [] (by omega)]; simp

theorem ba_beq (s t : ByteArray) : (s.toList == t.toList) = decide (s = t) := by
  rw [ba_toList, ba_toList]
  by_cases h : s = t
  · subst h; simp
  · rw [decide_eq_false h, beq_eq_false_iff_ne]
    intro e; exact h (by apply ByteArray.ext; apply Array.ext'; exact e)

/-- The check of some bytes. -/
def ckF (z : Nat) (l : List UInt8) : Nat := l.foldl (fun a b => (727 * a + b.toNat + 59) % 65003) z

theorem ckF_app (z : Nat) (l m : List UInt8) : ckF z (l ++ m) = ckF (ckF z l) m := List.foldl_append

theorem ckF_lt {z : Nat} (hz : z < 65003) : ∀ l, ckF z l < 65003 := fun l => by
  rcases List.eq_nil_or_concat l with rfl | ⟨l, b, rfl⟩
  · exact hz
  · rw [List.concat_eq_append, ckF_app]; exact Nat.mod_lt _ (by decide)

theorem ext_list (s : ByteArray) (a b : Nat) : (s.extract a b).data.toList = (s.data.toList.take b).drop a := by
  rw [ByteArray.data_extract, Array.toList_extract, List.extract_eq_drop_take']

theorem ba_of {s : ByteArray} {l : List UInt8} (h : s.data.toList = l) : s = ⟨l.toArray⟩ := by
  apply ByteArray.ext; apply Array.ext'; rw [h]

theorem ba_eq {s : ByteArray} {l : List UInt8} (h : s = ⟨l.toArray⟩) : s.data.toList = l := by rw [h]

theorem ba_size (s : ByteArray) : s.data.toList.length = s.size := by rw [Array.length_toList]; rfl

theorem ba_app (s t : ByteArray) : (s ++ t).data.toList = s.data.toList ++ t.data.toList := by rw [ByteArray.data_append, Array.toList_append]

theorem in_yes (n lo hi : Int) (h1 : lo ≤ n) (h2 : n ≤ hi) (w : World) : Calls Tryd.prog 31 #[.int .i64 n, .int .i64 lo, .int .i64 hi] w fun e w' => e = .returned (.bool true) ∧ w = w' := by
  have := in_any n lo hi w
  rw [decide_eq_true h1, decide_eq_true h2] at this
  exact this

theorem ckF_next {s : ByteArray} {i : Nat} (z : Nat) (h : i < s.size) : ckF z (s.data.toList.take (i + 1)) = (727 * ckF z (s.data.toList.take i) + byteN s i + 59) % 65003 := by
  have hl : i < s.data.toList.length := by rw [ba_size]; exact h
  rw [List.take_succ_eq_append_getElem hl, ckF_app]
  unfold byteN
  rw [List.getD_eq_getElem?_getD, List.getElem?_eq_getElem hl]
  rfl

theorem checkOf_any (w : World) (z : Nat) (s : ByteArray) (hz : z < 65003) (hs : s.size ≤ 2000000) :
    Calls Tryd.prog 16 #[.int .i64 z, .string s] w fun e w' => e = .returned (.tuple #[.int .i64 (ckF z s.data.toList : Nat), .bool true]) ∧ w = w' := by
  have KI := Lib.hid (fun w => in_yes (z : Int) 0 65002 (by omega) (by omega) w)
  obtain ⟨n, hn⟩ : ∃ n, s.size = n := ⟨_, rfl⟩
  have HN := Lib.hid hn
  have hT := Lib.hid (show s.data.toList.take n = s.data.toList by rw [← hn, ← ba_size, List.take_length])
  have HZ := Lib.hid hz
  clear hz
  go_enter Tryd.func16, Tryd.ntmps16
  go_wp2_with fail
  refine (KI.out _).mono ?_
  rintro e w' ⟨rfl, rfl⟩
  go_wp2_with fail
  go_loop [0, 12] (fun v0 v12 => ∃ i : Nat, v12 = .int .i64 i ∧ i ≤ n ∧ v0 = .int .i64 (ckF z (s.data.toList.take i) : Nat)) (fun _ v12 => n - (intOf v12).toNat)
  case atStart => exact ⟨0, rfl, Nat.zero_le _, rfl⟩
  case round =>
    obtain ⟨i, rfl, hi, rfl⟩ := hrel
    by_cases hlt : i < n
    · have hx : ∀ W', (Instr.index 9 (.string s) (.int .i64 (i : Int))).run Tryd.prog W' = .ok (.int .u8 ((byteN s i : Nat) : Int)) W' := fun W' => by
        have := idx_at W' s (i : Int) (by omega) (by rw [HN.out]; omega)
        rwa [Int.toNat_natCast] at this
      have hst := ckF_next z (show i < s.size by rw [HN.out]; exact hlt)
      have HST := Lib.hid hst
      have hb := byteN_lt s i
      have hc := ckF_lt HZ.out (s.data.toList.take i)
      generalize ckF z (s.data.toList.take i) = c at *
      generalize byteN s i = b at *
      have hiI : (i : Int) < (n : Int) := by omega
      clear hst
      go_wp2_with fail
      go_roundw
      case rel => exact ⟨i + 1, by go_num, by omega, by rw [HST.out]; go_num⟩
      case measure => simp [intOf]; omega
    · obtain rfl : n = i := by omega
      rw [hT.out]
      go_wp2_with fail
      go_ret2
      exact ⟨rfl, rfl⟩

end Go.Proofs.YtmcmcppleikajaaDoor

/- Strings: their bytes, their check. -/
import Derived.Test.YtjibghjongplpaaDoorUb
import Derived.Test.YtjibghjongplpaaDoorNum
namespace Go.Proofs.YtjibghjongplpaaDoor
open Go.RowKit
set_option maxRecDepth 100000
set_option linter.unusedVariables false
set_option linter.unusedSimpArgs false

/-- A string's bytes as numbers. -/
def byteN (s : ByteArray) (i : Nat) : Nat := (s.data.toList.getD i 0).toNat

theorem byteN_lt (s : ByteArray) (i : Nat) : byteN s i < 256 := UInt8.toNat_lt _

theorem idx_at (w : World) (s : ByteArray) (i : Int) (h0 : 0 ≤ i) (h1 : i < s.size) : (Instr.index 9 (.string s) (.int .i64 i)).run Tryd.prog w = .ok (.int .u8 (byteN s i.toNat : Nat)) w := by
  rw [run_index_string w 9 s .i64 i (by rfl), dif_pos ⟨h0, h1⟩]
  unfold byteN
  have h2 : i.toNat < s.data.toList.length := by
    rw [Array.length_toList]
    have : s.data.size = s.size := rfl
    omega
  rw [List.getD_eq_getElem?_getD, List.getElem?_eq_getElem h2, Option.getD_some]
  congr 3

theorem ba_loop (s : ByteArray) : ∀ (k i : Nat) (r : List UInt8), i + k = s.size → ByteArray.toList.loop s i r = r.reverse ++ s.data.toList.drop i := by
  intro k
  induction k with
  | zero =>
    intro i r h
    rw [ByteArray.toList.loop, if_neg (by omega), List.drop_of_length_le (by rw [Array.length_toList]; show s.size ≤ i; omega)]; simp
  | succ k ih =>
    intro i r h
    rw [ByteArray.toList.loop, if_pos (by omega), ih (i + 1) _ (by omega)]
    have hl : i < s.data.toList.length := by rw [Array.length_toList]; show i < s.size; omega
    have hl2 : i < s.data.size := by rwa [Array.length_toList] at hl
    rw [List.drop_eq_getElem_cons hl, List.reverse_cons, List.append_assoc]
    congr 1
    show [s.get! i] ++ _ = _
    have : s.get! i = s.data.toList[i] := by
      show s.data[i]! = _
      rw [getElem!_pos s.data i hl2]; rfl
    rw [this]; rfl

theorem ba_toList (s : ByteArray) : s.toList = s.data.toList := by
  unfold ByteArray.toList
  rw [ba_loop s s.size 0 [] (by omega)]; simp

theorem ba_beq (s t : ByteArray) : (s.toList == t.toList) = decide (s = t) := by
  rw [ba_toList, ba_toList]
  by_cases h : s = t
  · subst h; simp
  · rw [decide_eq_false h, beq_eq_false_iff_ne]
    intro e; exact h (by apply ByteArray.ext; apply Array.ext'; exact e)

/-- The check of some bytes. -/
def ckF (z : Nat) (l : List UInt8) : Nat := l.foldl (fun a b => (727 * a + b.toNat + 59) % 65003) z

theorem ckF_app (z : Nat) (l m : List UInt8) : ckF z (l ++ m) = ckF (ckF z l) m := List.foldl_append

theorem ckF_lt {z : Nat} (hz : z < 65003) : ∀ l, ckF z l < 65003 := fun l => by
  rcases List.eq_nil_or_concat l with rfl | ⟨l, b, rfl⟩
  · exact hz
  · rw [List.concat_eq_append, ckF_app]; exact Nat.mod_lt _ (by decide)

theorem ext_list (s : ByteArray) (a b : Nat) : (s.extract a b).data.toList = (s.data.toList.take b).drop a := by
  rw [ByteArray.data_extract, Array.toList_extract, List.extract_eq_drop_take']

theorem ba_of {s : ByteArray} {l : List UInt8} (h : s.data.toList = l) : s = ⟨l.toArray⟩ := by
  apply ByteArray.ext; apply Array.ext'; rw [h]

theorem ba_eq {s : ByteArray} {l : List UInt8} (h : s = ⟨l.toArray⟩) : s.data.toList = l := by rw [h]

theorem ba_size (s : ByteArray) : s.data.toList.length = s.size := by rw [Array.length_toList]; rfl

theorem ba_app (s t : ByteArray) : (s ++ t).data.toList = s.data.toList ++ t.data.toList := by rw [ByteArray.data_append, Array.toList_append]

theorem in_yes (n lo hi : Int) (h1 : lo ≤ n) (h2 : n ≤ hi) (w : World) : Calls Tryd.prog 37 #[.int .i64 n, .int .i64 lo, .int .i64 hi] w fun e w' => e = .returned (.bool true) ∧ w = w' := by
  have := in_any n lo hi w
  rw [decide_eq_true h1, decide_eq_true h2] at this
  exact this

theorem ckF_next {s : ByteArray} {i : Nat} (z : Nat) (h : i < s.size) : ckF z (s.data.toList.take (i + 1)) = (727 * ckF z (s.data.toList.take i) + byteN s i + 59) % 65003 := by
  have hl : i < s.data.toList.length := by rw [ba_size]; exact h
  rw [List.take_succ_eq_append_getElem hl, ckF_app]
  unfold byteN
  rw [List.getD_eq_getElem?_getD, List.getElem?_eq_getElem hl]
  rfl

end Go.Proofs.YtjibghjongplpaaDoor

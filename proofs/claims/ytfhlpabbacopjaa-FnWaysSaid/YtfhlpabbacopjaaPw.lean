/- Paths: the least of a list, jumps. The numbers are quarters. -/
import Derived.Test.YtfhlpabbacopjaaVm
import Derived.Test.YtfhlpabbacopjaaQf
import Derived.Test.YtfhlpabbacopjaaPp
namespace Go.Proofs.Ytfhlpabbacopjaa
open Go.RowKit
set_option maxRecDepth 100000
set_option linter.unusedVariables false
set_option linter.unusedSimpArgs false

theorem getD_map_fq (g : Nat) (ks : List Int) (i : Nat) (h : i < ks.length) : (ks.map (fq g)).getD i 0 = fq g (ks.getD i 0) := by
  rw [List.getD_eq_getElem?_getD, List.getD_eq_getElem?_getD, List.getElem?_map, List.getElem?_eq_getElem h]; rfl
/-- The bound of all quarters. -/
def qb (ks : List Int) : Prop := ∀ k ∈ ks, k.natAbs ≤ 4000000
theorem qb.get {ks : List Int} (h : qb ks) (i : Nat) : (ks.getD i 0).natAbs ≤ 4000000 := by
  rw [List.getD_eq_getElem?_getD]
  cases e : ks[i]? with
  | none => show (0 : Int).natAbs ≤ _; omega
  | some z => exact h z (List.mem_of_getElem? e)
theorem minL_take (ks : List Int) (i : Nat) (h : i + 1 < ks.length) : minL (ks.take (i + 2)) = if ks.getD (i + 1) 0 < minL (ks.take (i + 1)) then ks.getD (i + 1) 0 else minL (ks.take (i + 1)) := by
  cases ks with
  | nil => simp at h
  | cons a l =>
    have hl : i < l.length := by simpa using h
    show (l.take (i + 1)).foldl (fun o y => if y < o then y else o) a = if l.getD i 0 < (l.take i).foldl (fun o y => if y < o then y else o) a then l.getD i 0 else (l.take i).foldl (fun o y => if y < o then y else o) a
    rw [List.take_add_one, List.getElem?_eq_getElem hl, List.foldl_append, List.getD_eq_getElem?_getD, List.getElem?_eq_getElem hl]
    rfl

theorem leastOf_any (w : World) (v : Value) (ks : List Int) (h : SlF w v (ks.map (fq 2))) (hb : qb ks) (h0 : 0 < ks.length) (hl : ks.length ≤ 1000) :
    Calls Try.prog 89 #[v] w fun e w' => e = .returned (.float .f32 (fq 2 (minL ks))) ∧ w = w' := by
  obtain ⟨b, off, cap, rfl, hbb, hc⟩ := h.form (by intro e; have := congrArg List.length e; simp at this; rw [this] at h0; simp at h0)
  have hcap := h.size
  rw [List.length_map] at hcap ⊢
  have hz : ∀ i, i < ks.length → w.cell? ⟨b, off + i, none⟩ = some (.float .f32 (fq 2 (ks.getD i 0))) := fun i hi => by
    have := (h.at i (by simpa using hi)).1
    rwa [getD_map_fq 2 ks i hi] at this
  have hz0 := hz 0 h0
  rw [Nat.add_zero] at hz0
  have HT := Lib.hid (minL_take ks)
  obtain ⟨n, hn⟩ : ∃ n, n = ks.length := ⟨_, rfl⟩
  rw [← hn] at hz h0 hl hcap HT ⊢
  have HN := Lib.hid hn
  have HZ := Lib.hid hz
  obtain ⟨m, rfl⟩ : ∃ m, n = m + 1 := ⟨n - 1, by omega⟩
  have c1 : m + 1 ≤ cap := by omega
  have c2 : cap ≤ 9223372036854775807 := by omega
  have hd : (cap = 1 ∧ m = 0) ∨ ¬ cap = 1 := by omega
  have c3 : (1 : Int) ≤ ((m + 1 : Nat) : Int) := by omega
  clear hc h hn hz hcap
  rcases hd with ⟨rfl, rfl⟩ | hd
  · have e1 : minL ks = ks.getD 0 0 := by
      match ks, HN.out with
      | [a], _ => rfl
    go_enter Try.func89, Try.ntmps89
    go_wp2_with fail
    have E1 := Lib.hid e1
    clear e1
    go_loop [12, 3] (fun v12 v3 => v12 = .int .i64 0 ∧ v3 = .float .f32 (fq 2 (minL ks))) (fun v12 v3 => 0)
    case atStart => exact ⟨rfl, by rw [E1.out, List.getD_eq_getElem?_getD]⟩
    case round =>
      obtain ⟨rfl, rfl⟩ := hrel
      go_wp2
      go_ret
      exact ⟨rfl, rfl⟩
  · go_enter Try.func89, Try.ntmps89
    go_wp2_with fail
    go_loop [12, 3] (fun v12 v3 => ∃ i : Nat, v12 = .int .i64 i ∧ v3 = .float .f32 (fq 2 (minL (ks.take (i + 1)))) ∧ i ≤ m) (fun v12 v3 => m - (intOf v12).toNat)
    case atStart => exact ⟨0, rfl, by
      match ks, HN.out with
      | a :: l, _ => rfl, Nat.zero_le _⟩
    case round =>
      obtain ⟨i, rfl, rfl, hi⟩ := hrel
      by_cases hlt : i < m
      · have k1 := HZ.out (i + 1) (by omega)
        have ht := HT.out i (by omega)
        have hx := hb.get (i + 1)
        have hm : (minL (ks.take (i + 1))).natAbs ≤ 4000000 := by
          have hne : ks.take (i + 1) ≠ [] := List.ne_nil_of_length_pos (by rw [List.length_take, ← HN.out]; omega)
          exact hb _ (List.mem_of_mem_take (minL_mem hne))
        have hcmp := lt32_fq (g := 2) (a := ks.getD (i + 1) 0) (b := minL (ks.take (i + 1))) (by omega) (by omega)
        have HT2 := Lib.hid ht
        generalize ks.getD (i + 1) 0 = x at *
        generalize minL (ks.take (i + 1)) = y at *
        rw [show off + (i + 1) = off + 1 + i by omega] at k1
        clear ht hm hx hz0
        by_cases hxy : x < y
        · have hc2 : lt32 (fq 2 x) (fq 2 y) = true := by rw [hcmp]; simpa using hxy
          have HX := Lib.hid hxy
          clear hxy hcmp
          go_wp2
          go_round
          case rel => exact ⟨i + 1, by go_num, by rw [HT2.out, if_pos HX.out], by omega⟩
          case measure => simp [intOf]; omega
        · have hc2 : lt32 (fq 2 x) (fq 2 y) = false := by rw [hcmp]; simpa using hxy
          have HX := Lib.hid hxy
          clear hxy hcmp
          go_wp2
          go_round
          case rel => exact ⟨i + 1, by go_num, by rw [HT2.out, if_neg HX.out], by omega⟩
          case measure => simp [intOf]; omega
      · have : i = m := by omega
        subst this
        have hfull : ks.take (i + 1) = ks := by rw [HN.out, List.take_length]
        rw [hfull]
        clear hfull
        go_wp2
        go_ret
        exact ⟨rfl, rfl⟩

end Go.Proofs.Ytfhlpabbacopjaa

/- Journals of lines: the plain law; lists of strings that come in: szStringS, toStringS. -/
import Derived.Test.YtmcmcppleikajaaDoorBe
import Derived.Test.YtmcmcppleikajaaDoorBh
import Derived.Laws.MakeOwn
namespace Go.Proofs.YtmcmcppleikajaaDoor
open Go.RowKit
set_option maxRecDepth 100000
set_option linter.unusedVariables false
set_option linter.unusedSimpArgs false

/-- A line of a journal. -/
def entJ (z : Nat) (p : List UInt8) : List UInt8 := Lib.decDigits (ckF z p) ++ [32] ++ p ++ [10]
def jrn : Nat → List (List UInt8) → List UInt8
  | _, [] => []
  | z, p :: ps => entJ z p ++ jrn (ckF z p) ps
def zJ (z : Nat) (ps : List (List UInt8)) : Nat := ps.foldl ckF z
theorem zJ_snoc (z : Nat) (ps : List (List UInt8)) (p : List UInt8) : zJ z (ps ++ [p]) = ckF (zJ z ps) p := by unfold zJ; rw [List.foldl_append]; rfl
theorem zJ_lt : ∀ (ps : List (List UInt8)) (z : Nat), z < 65003 → zJ z ps < 65003
  | [], z, h => h
  | p :: ps, z, h => zJ_lt ps (ckF z p) (ckF_lt h p)
theorem jrn_app : ∀ (ps qs : List (List UInt8)) (z : Nat), jrn z (ps ++ qs) = jrn z ps ++ jrn (zJ z ps) qs
  | [], qs, z => rfl
  | p :: ps, qs, z => by
    show entJ z p ++ jrn (ckF z p) (ps ++ qs) = (entJ z p ++ jrn (ckF z p) ps) ++ _
    rw [jrn_app ps qs (ckF z p), List.append_assoc]; rfl
theorem jrn_snoc (ps : List (List UInt8)) (p : List UInt8) (z : Nat) : jrn z (ps ++ [p]) = jrn z ps ++ entJ (zJ z ps) p := by
  rw [jrn_app]; simp [jrn]
theorem dig_pos (n : Nat) : 1 ≤ (Lib.decDigits n).length := by
  by_cases h : n < 10
  · rw [Lib.decDigits_one h]; simp
  · rw [Lib.decDigits, dif_neg h]; simp
theorem entJ_len (z : Nat) (p : List UInt8) : p.length + 3 ≤ (entJ z p).length := by
  have := dig_pos (ckF z p)
  unfold entJ
  simp only [List.length_append, List.length_singleton]
  omega
theorem digits_leJ {n : Nat} (h : n < 65003) : (Lib.decDigits n).length ≤ 21 := by
  have h1 := Lib.itoa_length_le (n : Int) (by omega) (by omega)
  rwa [Lib.itoa_nonneg] at h1
theorem entJ_le {z : Nat} (hz : z < 65003) (p : List UInt8) : (entJ z p).length ≤ p.length + 23 := by
  have := digits_leJ (ckF_lt hz p)
  unfold entJ
  simp only [List.length_append, List.length_singleton]
  omega
def sumJ (ps : List (List UInt8)) : Nat := ps.foldl (fun a p => a + (p.length + 3)) 0
theorem sumJ_snoc (ps : List (List UInt8)) (p : List UInt8) : sumJ (ps ++ [p]) = sumJ ps + (p.length + 3) := by unfold sumJ; rw [List.foldl_append]; rfl
theorem sumJ_acc : ∀ (ps : List (List UInt8)) (a : Nat), ps.foldl (fun a p => a + (p.length + 3)) a = a + sumJ ps
  | [], a => rfl
  | p :: ps, a => by
    unfold sumJ
    rw [List.foldl_cons, List.foldl_cons, sumJ_acc ps, sumJ_acc ps]
    omega
theorem sumJ_app (ps qs : List (List UInt8)) : sumJ (ps ++ qs) = sumJ ps + sumJ qs := by
  conv => lhs; unfold sumJ
  rw [List.foldl_append, sumJ_acc]; rfl
theorem sumJ_jrn : ∀ (ps : List (List UInt8)) (z : Nat), sumJ ps ≤ (jrn z ps).length
  | [], z => by simp [sumJ, jrn]
  | p :: ps, z => by
    have h1 := entJ_len z p
    have h2 := sumJ_jrn ps (ckF z p)
    have h3 : sumJ (p :: ps) = (p.length + 3) + sumJ ps := sumJ_app [p] ps |>.trans (by unfold sumJ; simp)
    have h4 : jrn z (p :: ps) = entJ z p ++ jrn (ckF z p) ps := rfl
    rw [h3, h4, List.length_append]
    omega
theorem sumJ_len : ∀ (ps : List (List UInt8)), 3 * ps.length ≤ sumJ ps
  | [] => by simp
  | p :: ps => by
    have h2 := sumJ_len ps
    have h3 : sumJ (p :: ps) = (p.length + 3) + sumJ ps := sumJ_app [p] ps |>.trans (by unfold sumJ; simp)
    rw [h3, List.length_cons]; omega
theorem jrn_le : ∀ (ps : List (List UInt8)) (z : Nat), z < 65003 → (jrn z ps).length ≤ sumJ ps + 20 * ps.length
  | [], z, _ => by simp [jrn]
  | p :: ps, z, hz => by
    have h1 := entJ_le hz p
    have h2 := jrn_le ps (ckF z p) (ckF_lt hz p)
    have h3 : sumJ (p :: ps) = (p.length + 3) + sumJ ps := sumJ_app [p] ps |>.trans (by unfold sumJ; simp)
    have h4 : jrn z (p :: ps) = entJ z p ++ jrn (ckF z p) ps := rfl
    rw [h3, h4, List.length_append, List.length_cons]
    omega
/-- Whether lines have a journal, and this. -/
def noNl (p : List UInt8) : Bool := !p.contains 10
def jOk (P : List (List UInt8)) : Bool := P.all noNl && decide ((jrn 0 P).length ≤ 12000)
def jTxt (P : List (List UInt8)) : List UInt8 := if jOk P then jrn 0 P else []
theorem jOk_sum {P : List (List UInt8)} {i : Nat} (h : 12000 < sumJ (P.take i)) : jOk P = false := by
  unfold jOk
  have h1 := sumJ_jrn P 0
  have h2 : sumJ P = sumJ (P.take i) + sumJ (P.drop i) := by rw [← sumJ_app, List.take_append_drop]
  rw [decide_eq_false (by omega), Bool.and_false]
theorem jOk_part {P : List (List UInt8)} {i : Nat} (h : 12000 < (jrn 0 (P.take i)).length) : jOk P = false := by
  unfold jOk
  have h2 : (jrn 0 P).length = (jrn 0 (P.take i)).length + (jrn (zJ 0 (P.take i)) (P.drop i)).length := by rw [← List.length_append, ← jrn_app, List.take_append_drop]
  rw [decide_eq_false (by omega), Bool.and_false]
theorem jOk_nl {P : List (List UInt8)} {p : List UInt8} (hp : p ∈ P) (h : noNl p = false) : jOk P = false := by
  unfold jOk
  have : P.all noNl = false := by rw [List.all_eq_false]; exact ⟨p, hp, by rw [h]; simp⟩
  rw [this, Bool.false_and]
theorem jOk_long {P : List (List UInt8)} {p : List UInt8} {i : Nat} (hp : P[i]? = some p) (h : 12000 < p.length) : jOk P = false := by
  refine jOk_sum (i := i + 1) ?_
  have hi : i < P.length := (List.getElem?_eq_some_iff.1 hp).1
  have he : P[i] = p := (List.getElem?_eq_some_iff.1 hp).2
  rw [List.take_succ_eq_append_getElem hi, he, sumJ_snoc]
  omega
theorem take_snocJ {P : List (List UInt8)} {p : List UInt8} {i : Nat} (hp : P[i]? = some p) : P.take (i + 1) = P.take i ++ [p] := by
  have hi : i < P.length := (List.getElem?_eq_some_iff.1 hp).1
  have he : P[i] = p := (List.getElem?_eq_some_iff.1 hp).2
  rw [List.take_succ_eq_append_getElem hi, he]

/-- A slice of strings that comes in. -/
def SlS (w : World) (v : Value) (xs : List ByteArray) : Prop := ∃ a c, v = .slice a xs.length c ∧ (xs = [] ∨ ∃ b o, a = some ⟨b, o, none⟩ ∧ b < w.heap.size ∧ ∀ i, i < xs.length → w.cell? ⟨b, o + i, none⟩ = some (.string (xs.getD i ⟨#[]⟩)))
theorem SlS.below {w w' : World} {v : Value} {xs : List ByteArray} (h : SlS w v xs) (hb : Below w.heap.size w w') : SlS w' v xs := by
  obtain ⟨a, c, hv, h⟩ := h
  refine ⟨a, c, hv, ?_⟩
  rcases h with h | ⟨b, o, h1, h2, h3⟩
  · exact .inl h
  · exact .inr ⟨b, o, h1, Nat.lt_of_lt_of_le h2 hb.size, fun i hi => (hb.cell (p := ⟨b, o + i, none⟩) h2).trans (h3 i hi)⟩
def sumZ (xs : List ByteArray) : Nat := xs.foldl (fun a x => a + x.size) 0
theorem sumZ_snoc (xs : List ByteArray) (x : ByteArray) : sumZ (xs ++ [x]) = sumZ xs + x.size := by unfold sumZ; rw [List.foldl_append]; rfl
theorem sumZ_acc : ∀ (ps : List ByteArray) (a : Nat), ps.foldl (fun a p => a + p.size) a = a + sumZ ps
  | [], a => rfl
  | p :: ps, a => by
    unfold sumZ
    rw [List.foldl_cons, List.foldl_cons, sumZ_acc ps, sumZ_acc ps]
    omega
theorem sumZ_take (xs : List ByteArray) (i : Nat) : sumZ (xs.take i) ≤ sumZ xs := by
  have h : sumZ xs = sumZ (xs.take i) + sumZ (xs.drop i) := by
    conv => lhs; rw [← List.take_append_drop i xs]
    unfold sumZ
    rw [List.foldl_append, sumZ_acc]; rfl
  omega
theorem sumZ_mem {xs : List ByteArray} {i : Nat} {x : ByteArray} (h : xs[i]? = some x) : sumZ (xs.take (i + 1)) = sumZ (xs.take i) + x.size := by
  have hi : i < xs.length := (List.getElem?_eq_some_iff.1 h).1
  have he : xs[i] = x := (List.getElem?_eq_some_iff.1 h).2
  rw [List.take_succ_eq_append_getElem hi, he, sumZ_snoc]

theorem makeS (w : World) (n B : Nat) (hB : B ≤ w.heap.size) (hn : n ≤ 1048576) :
    ∃ w', (Instr.makeSlice 24 (.int .i64 (n : Int)) (.int .i64 (n : Int))).run Tryd.prog w = .ok (.slice (some ⟨w.heap.size, 0, none⟩) n n) w' ∧ OwnS w' B (.slice (some ⟨w.heap.size, 0, none⟩) n n) (List.replicate n []) ∧ Below w.heap.size w w' := by
  obtain ⟨i0, hi0, hz0, hz1, hz2⟩ := info_parts info_strT
  obtain ⟨w', h1, h2, h3⟩ := run_makeSlice_full (P := Tryd.prog) (w := w) B 24 9 i0 (.string ⟨#[]⟩) 1 (by rfl) hi0 hz0 hz1 .i64 .i64 n (by omega) (by rw [hz2]; omega) (by unfold maxLen; omega) hB
  have h4 : (madeCells (Value.cells (.string ⟨#[]⟩)) (n * 1)).toList = sCells (List.replicate n []) := by
    unfold sCells
    rw [Nat.mul_one, List.map_replicate]; exact toList_madeCells_one _ _
  refine ⟨w', h1, by unfold OwnS; rw [List.length_replicate, ← h4]; exact h2, ?_⟩
  exact ⟨h3.os, h3.tape, h3.output, h3.size, fun k hk => h3.block k hk (by simp)⟩

/-- The bytes of strings. -/
def bytesL (xs : List ByteArray) : List (List UInt8) := xs.map fun x => x.data.toList
theorem bytesL_len (xs : List ByteArray) : (bytesL xs).length = xs.length := by simp [bytesL]
def MakesS (w : World) (xs : List ByteArray) (e : Ending) (w' : World) : Prop := ∃ g, e = .returned (.slice (some ⟨g, 0, none⟩) xs.length xs.length) ∧ OwnS w' w.heap.size (.slice (some ⟨g, 0, none⟩) xs.length xs.length) (bytesL xs) ∧ Below w.heap.size w w'

end Go.Proofs.YtmcmcppleikajaaDoor

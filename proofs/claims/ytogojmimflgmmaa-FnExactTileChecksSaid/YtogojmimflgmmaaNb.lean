/- Tiles: rows divided among workers. -/
import Derived.Test.YtogojmimflgmmaaNa
import Derived.Test.YtogojmimflgmmaaBox
import Derived.Deep.Cut
namespace Go.Proofs.Ytogojmimflgmmaa
open Go.RowKit
set_option maxRecDepth 100000
set_option linter.unusedVariables false
set_option linter.unusedSimpArgs false

/-- How many rows the k-th of so many workers has. -/
def tileN (h wk k : Nat) : Nat := h / wk + if k < h % wk then 1 else 0
/-- The tiles of the first k workers, and the row behind them. -/
def tileG (h wk : Nat) : Nat → List (Nat × Nat) × Nat
  | 0 => ([], 0)
  | k + 1 => (if 0 < tileN h wk k then (tileG h wk k).1 ++ [((tileG h wk k).2, tileN h wk k)] else (tileG h wk k).1, (tileG h wk k).2 + tileN h wk k)
theorem tileG_len (h wk : Nat) : ∀ k, (tileG h wk k).1.length ≤ k
  | 0 => Nat.le_refl _
  | k + 1 => by
    have ih := tileG_len h wk k
    unfold tileG; dsimp only
    split
    · rw [List.length_append, List.length_singleton]; omega
    · omega
theorem tileG_at (h wk : Nat) : ∀ k, (tileG h wk k).2 = k * (h / wk) + min k (h % wk)
  | 0 => by simp [tileG]
  | k + 1 => by
    have ih := tileG_at h wk k
    unfold tileG; dsimp only
    rw [ih]
    unfold tileN
    rw [Nat.succ_mul]
    split <;> omega
theorem tileG_le {h wk k : Nat} (hk : k ≤ wk) (hw : 0 < wk) : (tileG h wk k).2 ≤ h := by
  rw [tileG_at]
  have h1 := Nat.div_add_mod h wk
  have h2 : k * (h / wk) ≤ wk * (h / wk) := Nat.mul_le_mul_right _ hk
  omega
theorem tileG_in {h wk : Nat} (hw : 0 < wk) : ∀ k, k ≤ wk → ∀ t ∈ (tileG h wk k).1, t.1 + t.2 ≤ h ∧ 1 ≤ t.2
  | 0, _ => by simp [tileG]
  | k + 1, hk => by
    intro t ht
    have hle := tileG_le (h := h) hk hw
    unfold tileG at ht hle
    dsimp only at ht hle
    split at ht
    · rename_i hpos
      rcases List.mem_append.1 ht with ht | ht
      · exact tileG_in hw k (by omega) t ht
      · rw [List.mem_singleton] at ht; subst ht; exact ⟨hle, hpos⟩
    · exact tileG_in hw k (by omega) t ht

def tCells (ts : List (Nat × Nat)) : List Value := ts.flatMap fun t => [.int .i64 (t.1 : Int), .int .i64 (t.2 : Int)]
theorem tCells_snoc (ts : List (Nat × Nat)) (t : Nat × Nat) : tCells (ts ++ [t]) = tCells ts ++ [.int .i64 (t.1 : Int), .int .i64 (t.2 : Int)] := by unfold tCells; rw [List.flatMap_append]; simp
theorem tCells_get : ∀ (ts : List (Nat × Nat)) (i : Nat) (t : Nat × Nat), ts[i]? = some t → (tCells ts)[2 * i]? = some (.int .i64 (t.1 : Int)) ∧ (tCells ts)[2 * i + 1]? = some (.int .i64 (t.2 : Int))
  | [], i, t, h => by simp at h
  | x :: xs, 0, t, h => by simp at h; subst h; exact ⟨rfl, rfl⟩
  | x :: xs, i + 1, t, h => by
    have ih := tCells_get xs i t (by simpa using h)
    have e : ∀ j, (tCells (x :: xs))[2 * (i + 1) + j]? = (tCells xs)[2 * i + j]? := fun j => by
      show ([Value.int .i64 (x.1 : Int), .int .i64 (x.2 : Int)] ++ tCells xs)[_]? = _
      rw [List.getElem?_append_right (by simp; omega)]
      congr 1; simp; omega
    exact ⟨by have := e 0; rw [Nat.add_zero, Nat.add_zero] at this; rw [this]; exact ih.1, by rw [e 1]; exact ih.2⟩
/-- Tiles in a block of one's own. -/
def OwnT (w : World) (B : Nat) (v : Value) (ts : List (Nat × Nat)) : Prop := w.ownsRow B 43 2 v ts.length (tCells ts)
theorem OwnT.below {w w' : World} {B : Nat} {v : Value} {ts : List (Nat × Nat)} (h : OwnT w B v ts) (hb : Below w.heap.size w w') : OwnT w' B v ts := World.ownsRow.kept h (grown_below hb none) (by cases v.ownBlock <;> simp)
theorem OwnT.lt {w : World} {B : Nat} {v : Value} {ts : List (Nat × Nat)} (h : OwnT w B v ts) {k : Nat} (hk : v.ownBlock = some k) : B ≤ k ∧ k < w.heap.size := World.ownsRow.lt h k hk
theorem OwnT.start (w : World) (B : Nat) (hB : B ≤ w.heap.size) : OwnT (w.alloc (.cells #[] 43)) B (.slice (some ⟨w.heap.size, 0, none⟩) 0 0) [] :=
  ⟨rfl, .inr ⟨w.heap.size, 0, #[], rfl, hB, heap_alloc_new w _, Nat.le_refl _, by unfold maxLen; omega, rfl, rfl⟩⟩
theorem OwnT.form {w : World} {B : Nat} {v : Value} {ts : List (Nat × Nat)} (h : OwnT w B v ts) : ∃ a c, v = .slice a ts.length c := by
  rcases h.2 with ⟨q1, q2⟩ | ⟨g, cap, cur, e, r⟩
  · exact ⟨none, 0, by rw [q1, q2]⟩
  · exact ⟨_, _, e⟩
/-- A tile's cells. -/
theorem OwnT.at_ {w : World} {B : Nat} {sa : Option Addr} {k sc : Nat} {ts : List (Nat × Nat)} {t : Nat × Nat} (h : OwnT w B (.slice sa k sc) ts) (i : Nat) (hi : ts[i]? = some t) : ∃ g, sa = some ⟨g, 0, none⟩ ∧ g < w.heap.size ∧
    w.cell? ⟨g, i * 2, none⟩ = some (.int .i64 (t.1 : Int)) ∧ w.cell? ⟨g, i * 2 + 1, none⟩ = some (.int .i64 (t.2 : Int)) := by
  have hlt : i < ts.length := (List.getElem?_eq_some_iff.1 hi).1
  obtain ⟨g0, g1⟩ := tCells_get ts i t hi
  rw [Nat.mul_comm 2 i] at g0 g1
  rcases h.2 with ⟨h1, h2⟩ | ⟨g, cap, cur, e, hg, hh, h3, h4, r⟩
  · omega
  · have hc := World.ownsRow.cells h (g := g) (by rw [e]; rfl)
    have z : ∀ j, (⟨g, 0, none⟩ : Addr).add j = ⟨g, j, none⟩ := fun j => by simp [Addr.add]; try omega
    injection e with e1 e2 e3
    refine ⟨g, e1, (World.ownsRow.lt h g (by rw [e1]; rfl)).2, ?_, ?_⟩
    · have := hc _ _ g0; rwa [z] at this
    · have := hc _ _ g1; rwa [z] at this
theorem cells_newT (w : World) (a b : Value) (T : TypeId) : ∀ j u, [a, b][j]? = some u → (w.alloc (.cells #[a, b] T)).cell? ((⟨w.heap.size, 0, none⟩ : Addr).add j) = some u := by
  intro j u h
  have hb := BoxN.last w #[a, b] T
  have z : (⟨w.heap.size, 0, none⟩ : Addr).add j = ⟨w.heap.size, j, none⟩ := by simp [Addr.add]; try omega
  rw [z, hb.cell j]
  rw [← h]; simp

theorem wrap_divN (k wd : Nat) (h : k ≤ 1000000) : wrap64 ((k : Int) / (wd : Int)) = ((k / wd : Nat) : Int) := by
  have e : ((k : Int) / (wd : Int)) = ((k / wd : Nat) : Int) := by simp
  have h2 : k / wd ≤ k := Nat.div_le_self _ _
  rw [e]
  generalize k / wd = q at *
  unfold wrap64; omega
theorem wrap_sumN (a b : Nat) (h : a + b ≤ 1000000) : wrap64 ((a : Int) + (b : Int)) = (a : Int) + (b : Int) := by
  unfold wrap64; omega
theorem wrap_natN (a : Nat) (h : a ≤ 1000000) : wrap64 (a : Int) = (a : Int) := by
  unfold wrap64; omega
theorem wrap_succN {q n : Nat} (h : q + 1 = n) (hb : n ≤ 1000000) : wrap64 ((q : Int) + 1) = (n : Int) := by
  unfold wrap64; omega

theorem info_tile : (Try.prog.info? 43).map (fun i => (i.zero, i.size, i.bytes)) = some (some (.agg #[.int .i64 0, .int .i64 0]), 2, 16) := by kernel_rfl

set_option maxHeartbeats 2000000 in
theorem sTiles_any (w : World) (h wk : Nat) (h1 : 1 ≤ h) (h2 : h ≤ 24) (k1 : 1 ≤ wk) (k2 : wk ≤ 8) :
    Calls Try.prog 16 #[.int .i64 h, .int .i64 wk] w fun e w' => ∃ v, e = .returned v ∧ OwnT w' w.heap.size v (tileG h wk wk).1 ∧ Below w.heap.size w w' := by
  obtain ⟨i0, hi0, hz0, hz1, hz2⟩ := info_parts info_tile
  have HS := Lib.hid (OwnT.start w w.heap.size (Nat.le_refl _))
  have hb0 : Below w.heap.size w (w.alloc (.cells #[] 43)) := (Below.refl _ _).alloc (Nat.le_refl _) _
  have HB := Lib.hid hb0
  have hk0 : ((wk : Int) == 0) = false := by simp; omega
  have hk0' : ¬ (wk : Int) = 0 := by omega
  have hh0 : (0 : Int) ≤ (h : Int) := by omega
  have hkp : (0 : Int) ≤ (wk : Int) := by omega
  have hd24 : h / wk ≤ 24 := Nat.le_trans (Nat.div_le_self _ _) h2
  clear hb0
  go_enter Try.func16, Try.ntmps16
  go_wp2_with fail
  go_loopw [5, 6, 7] (fun v5 v6 v7 wr => ∃ (k : Nat) (v : Value), v7 = .int .i64 k ∧ k ≤ wk ∧ v6 = .int .i64 ((tileG h wk k).2 : Nat) ∧ v = v5 ∧ OwnT wr w.heap.size v (tileG h wk k).1 ∧ Below w.heap.size w wr) (fun _ _ v7 _ => wk - (intOf v7).toNat)
  case atStart => exact ⟨0, _, rfl, Nat.zero_le _, rfl, rfl, HS.out, HB.out⟩
  case round =>
    clear HS HB
    obtain ⟨k, v, rfl, hk, rfl, rfl, hown, hb⟩ := hrel
    by_cases hlt : k < wk
    · have hltI : (k : Int) < (wk : Int) := by omega
      have hat := tileG_le (h := h) (show k + 1 ≤ wk from hlt) (by omega)
      have hlen := tileG_len h wk k
      obtain ⟨q, hq⟩ : ∃ q, h / wk = q := ⟨_, rfl⟩
      obtain ⟨r, hr⟩ : ∃ r, h % wk = r := ⟨_, rfl⟩
      have d1 : wrap64 ((h : Int) / (wk : Int)) = (q : Int) := by rw [← hq]; exact wrap_divN h wk (by omega)
      have m1 : (h : Int) % (wk : Int) = (r : Int) := by rw [← hr]; simp
      have hT : tileN h wk k = q + if k < r then 1 else 0 := by unfold tileN; rw [hq, hr]
      have hS : tileG h wk (k + 1) = (if 0 < tileN h wk k then (tileG h wk k).1 ++ [((tileG h wk k).2, tileN h wk k)] else (tileG h wk k).1, (tileG h wk k).2 + tileN h wk k) := rfl
      rw [hS] at hat
      obtain ⟨f, hf⟩ : ∃ f, (tileG h wk k).2 = f := ⟨_, rfl⟩
      obtain ⟨ts, hts⟩ : ∃ ts, (tileG h wk k).1 = ts := ⟨_, rfl⟩
      rw [hf] at hS hat ⊢
      rw [hts] at hS hown hlen
      dsimp only at hat
      have HSS := Lib.hid hS
      have HTT := Lib.hid hT
      have HB := Lib.hid hb
      have HD := Lib.hid (And.intro d1 m1)
      have HOW := Lib.hid hown
      have hrow : wr.ownsRow w.heap.size 43 2 v ts.length (tCells ts) := hown
      have hbn := hb.size
      clear hS hf hts hq hr hown hb
      by_cases hkr : k < r
      · obtain ⟨n, hn⟩ : ∃ n, q + 1 = n := ⟨_, rfl⟩
        have HN := Lib.hid (show tileN h wk k = n by rw [HTT.out, if_pos hkr, hn])
        have hn0 : 0 < n := by omega
        have t1 : decide ((k : Int) < (r : Int)) = true := decide_eq_true (Int.ofNat_lt.2 hkr)
        have hkrI : (k : Int) < (r : Int) := Int.ofNat_lt.2 hkr
        have hnI : (0 : Int) < (n : Int) := Int.natCast_pos.2 hn0
        have t3 : decide ((0 : Int) < (n : Int)) = true := decide_eq_true hnI
        have hfn : f + n ≤ h := by rw [HN.out] at hat; exact hat
        have hn6 : n ≤ 1000000 := by omega
        have hf6 : f + n ≤ 1000000 := by omega
        have HT4 := Lib.hid (wrap_sumN f n hf6)
        have t2 : wrap64 ((q : Int) + 1) = (n : Int) := wrap_succN hn hn6
        clear hn hat
        obtain ⟨d1, m1⟩ := HD.out
        go_upto_region 10 with fail
        rw [t2]
        clear d1 m1 hnI t1 t2 t3 hkrI
        go_wp2_with (at_builtin; refine wpList_append_lies _ (by rfl) _ _ _ (by rfl) w.heap.size 43 i0 _ 2 16 Try.underlying40 hi0 hz0 hz1 hz2 rfl (by omega) v ts.length _ (by rfl) (World.ownsRow.alloc hrow _) ⟨wr.heap.size, 0, none⟩ 1 1 [.int .i64 (f : Int), .int .i64 (n : Int)] (by rfl) (by rfl) (cells_newT _ _ _ _) (by simp [Value.oneCell']) (by omega) (by unfold maxLen; omega) (by omega) (by simp; omega) (wr.heap.size + 1) (by simp) ?_; intro gg cap w2 hown2 hgrow hat2 hlt2)
        refine ⟨⟨k + 1, _, by go_num, by omega, by rw [HSS.out]; dsimp only; rw [HN.out, Int.natCast_add], rfl, ?_, ?_⟩, by simp [intOf]; omega⟩
        · rw [HSS.out]; dsimp only
          rw [HN.out, if_pos hn0]
          unfold OwnT
          rw [List.length_append, List.length_singleton, tCells_snoc]
          exact hown2
        · exact (HB.out.alloc HB.out.size _).grown hgrow (by have := HB.out.size; simp; omega) (fun k hk => (HOW.out.lt hk).1)
      · by_cases hq0 : 0 < q
        · have hn0 : 0 < q := hq0
          have HN := Lib.hid (show tileN h wk k = q by rw [HTT.out, if_neg hkr]; rfl)
          have t1' : ¬ (k : Int) < (r : Int) := fun e => hkr (Int.ofNat_lt.1 e)
          have t1 : decide ((k : Int) < (r : Int)) = false := decide_eq_false t1'
          have hnI : (0 : Int) < (q : Int) := Int.natCast_pos.2 hq0
          have t3 : decide ((0 : Int) < (q : Int)) = true := decide_eq_true hnI
          have hfn : f + q ≤ h := by rw [HN.out] at hat; exact hat
          have hf6 : f + q ≤ 1000000 := by omega
          have HT4 := Lib.hid (wrap_sumN f q hf6)
          clear hat
          obtain ⟨d1, m1⟩ := HD.out
          go_upto_region 10 with fail
          rw [d1]
          clear d1 m1 hnI t1 t1' t3
          go_wp2_with (at_builtin; refine wpList_append_lies _ (by rfl) _ _ _ (by rfl) w.heap.size 43 i0 _ 2 16 Try.underlying40 hi0 hz0 hz1 hz2 rfl (by omega) v ts.length _ (by rfl) (World.ownsRow.alloc hrow _) ⟨wr.heap.size, 0, none⟩ 1 1 [.int .i64 (f : Int), .int .i64 (q : Int)] (by rfl) (by rfl) (cells_newT _ _ _ _) (by simp [Value.oneCell']) (by omega) (by unfold maxLen; omega) (by omega) (by simp; omega) (wr.heap.size + 1) (by simp) ?_; intro gg cap w2 hown2 hgrow hat2 hlt2)
          refine ⟨⟨k + 1, _, by go_num, by omega, by rw [HSS.out]; dsimp only; rw [HN.out, Int.natCast_add], rfl, ?_, ?_⟩, by simp [intOf]; omega⟩
          · rw [HSS.out]; dsimp only
            rw [HN.out, if_pos hn0]
            unfold OwnT
            rw [List.length_append, List.length_singleton, tCells_snoc]
            exact hown2
          · exact (HB.out.alloc HB.out.size _).grown hgrow (by have := HB.out.size; simp; omega) (fun k hk => (HOW.out.lt hk).1)
        · have hq1 : q = 0 := by omega
          have HN := Lib.hid (show tileN h wk k = 0 by rw [HTT.out, if_neg hkr, hq1])
          have HQ1 := Lib.hid hq1
          have t1' : ¬ (k : Int) < (r : Int) := fun e => hkr (Int.ofNat_lt.1 e)
          have t1 : decide ((k : Int) < (r : Int)) = false := decide_eq_false t1'
          have hfn : f + 0 ≤ h := by rw [HN.out] at hat; exact hat
          have hf6 : f ≤ 1000000 := by omega
          have HT4 := Lib.hid (wrap_natN f hf6)
          obtain ⟨d1, m1⟩ := HD.out
          rw [hq1] at d1
          rw [show ((0 : Nat) : Int) = 0 from rfl] at d1
          clear hat hq1 hq0
          go_wp2_with fail
          clear d1 m1
          refine ⟨⟨k + 1, v, by go_num, by omega, by rw [HSS.out]; dsimp only; rw [HN.out, Nat.add_zero]; simp [HQ1.out], rfl, ?_, HB.out⟩, by simp [intOf]; omega⟩
          rw [HSS.out]; dsimp only
          rw [HN.out, if_neg (by omega)]
          exact HOW.out
    · obtain rfl : wk = k := by omega
      go_wp2_with fail
      go_ret
      exact ⟨_, rfl, hown, hb⟩

set_option maxHeartbeats 2000000 in
theorem iTiles_yes (w : World) (h wk : Nat) (h1 : 1 ≤ h) (h2 : h ≤ 24) (k1 : 1 ≤ wk) (k2 : wk ≤ 8) :
    Calls Try.prog 20 #[.int .i64 h, .int .i64 wk] w fun e w' => ∃ v, e = .returned (.tuple #[v, .bool true]) ∧ OwnT w' w.heap.size v (tileG h wk wk).1 ∧ Below w.heap.size w w' := by
  obtain ⟨i0, hi0, hz0, hz1, hz2⟩ := info_parts info_tile
  have HS := Lib.hid (OwnT.start w w.heap.size (Nat.le_refl _))
  have hb0 : Below w.heap.size w (w.alloc (.cells #[] 43)) := (Below.refl _ _).alloc (Nat.le_refl _) _
  have HB := Lib.hid hb0
  have K1 := Lib.hid (fun W => in_yesT (h : Int) 1 24 (by omega) (by omega) W)
  have K2 := Lib.hid (fun W => in_yesT (wk : Int) 1 8 (by omega) (by omega) W)
  have hk0 : ((wk : Int) == 0) = false := by simp; omega
  have hk0' : ¬ (wk : Int) = 0 := by omega
  have hh0 : (0 : Int) ≤ (h : Int) := by omega
  have hkp : (0 : Int) ≤ (wk : Int) := by omega
  have hd24 : h / wk ≤ 24 := Nat.le_trans (Nat.div_le_self _ _) h2
  clear hb0
  go_enter Try.func20, Try.ntmps20
  go_wp2_with fail
  refine (K1.out _).mono ?_
  rintro e w1 ⟨rfl, rfl⟩
  go_wp2_with fail
  refine (K2.out _).mono ?_
  rintro e w1 ⟨rfl, rfl⟩
  go_wp2_with fail
  go_loopw [6, 7, 20] (fun v5 v6 v7 wr => ∃ (k : Nat) (v : Value), v7 = .int .i64 k ∧ k ≤ wk ∧ v6 = .int .i64 ((tileG h wk k).2 : Nat) ∧ v = v5 ∧ OwnT wr w.heap.size v (tileG h wk k).1 ∧ Below w.heap.size w wr) (fun _ _ v7 _ => wk - (intOf v7).toNat)
  case atStart => exact ⟨0, _, rfl, Nat.zero_le _, rfl, rfl, HS.out, HB.out⟩
  case round =>
    clear HS HB
    obtain ⟨k, v, rfl, hk, rfl, rfl, hown, hb⟩ := hrel
    by_cases hlt : k < wk
    · have hltI : (k : Int) < (wk : Int) := by omega
      have hat := tileG_le (h := h) (show k + 1 ≤ wk from hlt) (by omega)
      have hlen := tileG_len h wk k
      obtain ⟨q, hq⟩ : ∃ q, h / wk = q := ⟨_, rfl⟩
      obtain ⟨r, hr⟩ : ∃ r, h % wk = r := ⟨_, rfl⟩
      have d1 : wrap64 ((h : Int) / (wk : Int)) = (q : Int) := by rw [← hq]; exact wrap_divN h wk (by omega)
      have m1 : (h : Int) % (wk : Int) = (r : Int) := by rw [← hr]; simp
      have hT : tileN h wk k = q + if k < r then 1 else 0 := by unfold tileN; rw [hq, hr]
      have hS : tileG h wk (k + 1) = (if 0 < tileN h wk k then (tileG h wk k).1 ++ [((tileG h wk k).2, tileN h wk k)] else (tileG h wk k).1, (tileG h wk k).2 + tileN h wk k) := rfl
      rw [hS] at hat
      obtain ⟨f, hf⟩ : ∃ f, (tileG h wk k).2 = f := ⟨_, rfl⟩
      obtain ⟨ts, hts⟩ : ∃ ts, (tileG h wk k).1 = ts := ⟨_, rfl⟩
      rw [hf] at hS hat ⊢
      rw [hts] at hS hown hlen
      dsimp only at hat
      have HSS := Lib.hid hS
      have HTT := Lib.hid hT
      have HB := Lib.hid hb
      have HD := Lib.hid (And.intro d1 m1)
      have HOW := Lib.hid hown
      have hrow : wr.ownsRow w.heap.size 43 2 v ts.length (tCells ts) := hown
      have hbn := hb.size
      clear hS hf hts hq hr hown hb
      by_cases hkr : k < r
      · obtain ⟨n, hn⟩ : ∃ n, q + 1 = n := ⟨_, rfl⟩
        have HN := Lib.hid (show tileN h wk k = n by rw [HTT.out, if_pos hkr, hn])
        have hn0 : 0 < n := by omega
        have t1 : decide ((k : Int) < (r : Int)) = true := decide_eq_true (Int.ofNat_lt.2 hkr)
        have hkrI : (k : Int) < (r : Int) := Int.ofNat_lt.2 hkr
        have hnI : (0 : Int) < (n : Int) := Int.natCast_pos.2 hn0
        have t3 : decide ((0 : Int) < (n : Int)) = true := decide_eq_true hnI
        have hfn : f + n ≤ h := by rw [HN.out] at hat; exact hat
        have hn6 : n ≤ 1000000 := by omega
        have hf6 : f + n ≤ 1000000 := by omega
        have HT4 := Lib.hid (wrap_sumN f n hf6)
        have t2 : wrap64 ((q : Int) + 1) = (n : Int) := wrap_succN hn hn6
        clear hn hat
        obtain ⟨d1, m1⟩ := HD.out
        go_upto_region 11 with fail
        rw [t2]
        clear d1 m1 hnI t1 t2 t3 hkrI
        go_wp2_with (at_builtin; refine wpList_append_lies _ (by rfl) _ _ _ (by rfl) w.heap.size 43 i0 _ 2 16 Try.underlying40 hi0 hz0 hz1 hz2 rfl (by omega) v ts.length _ (by rfl) (World.ownsRow.alloc hrow _) ⟨wr.heap.size, 0, none⟩ 1 1 [.int .i64 (f : Int), .int .i64 (n : Int)] (by rfl) (by rfl) (cells_newT _ _ _ _) (by simp [Value.oneCell']) (by omega) (by unfold maxLen; omega) (by omega) (by simp; omega) (wr.heap.size + 1) (by simp) ?_; intro gg cap w2 hown2 hgrow hat2 hlt2)
        refine ⟨⟨k + 1, _, by go_num, by omega, by rw [HSS.out]; dsimp only; rw [HN.out, Int.natCast_add], rfl, ?_, ?_⟩, by simp [intOf]; omega⟩
        · rw [HSS.out]; dsimp only
          rw [HN.out, if_pos hn0]
          unfold OwnT
          rw [List.length_append, List.length_singleton, tCells_snoc]
          exact hown2
        · exact (HB.out.alloc HB.out.size _).grown hgrow (by have := HB.out.size; simp; omega) (fun k hk => (HOW.out.lt hk).1)
      · by_cases hq0 : 0 < q
        · have hn0 : 0 < q := hq0
          have HN := Lib.hid (show tileN h wk k = q by rw [HTT.out, if_neg hkr]; rfl)
          have t1' : ¬ (k : Int) < (r : Int) := fun e => hkr (Int.ofNat_lt.1 e)
          have t1 : decide ((k : Int) < (r : Int)) = false := decide_eq_false t1'
          have hnI : (0 : Int) < (q : Int) := Int.natCast_pos.2 hq0
          have t3 : decide ((0 : Int) < (q : Int)) = true := decide_eq_true hnI
          have hfn : f + q ≤ h := by rw [HN.out] at hat; exact hat
          have hf6 : f + q ≤ 1000000 := by omega
          have HT4 := Lib.hid (wrap_sumN f q hf6)
          clear hat
          obtain ⟨d1, m1⟩ := HD.out
          go_upto_region 11 with fail
          rw [d1]
          clear d1 m1 hnI t1 t1' t3
          go_wp2_with (at_builtin; refine wpList_append_lies _ (by rfl) _ _ _ (by rfl) w.heap.size 43 i0 _ 2 16 Try.underlying40 hi0 hz0 hz1 hz2 rfl (by omega) v ts.length _ (by rfl) (World.ownsRow.alloc hrow _) ⟨wr.heap.size, 0, none⟩ 1 1 [.int .i64 (f : Int), .int .i64 (q : Int)] (by rfl) (by rfl) (cells_newT _ _ _ _) (by simp [Value.oneCell']) (by omega) (by unfold maxLen; omega) (by omega) (by simp; omega) (wr.heap.size + 1) (by simp) ?_; intro gg cap w2 hown2 hgrow hat2 hlt2)
          refine ⟨⟨k + 1, _, by go_num, by omega, by rw [HSS.out]; dsimp only; rw [HN.out, Int.natCast_add], rfl, ?_, ?_⟩, by simp [intOf]; omega⟩
          · rw [HSS.out]; dsimp only
            rw [HN.out, if_pos hn0]
            unfold OwnT
            rw [List.length_append, List.length_singleton, tCells_snoc]
            exact hown2
          · exact (HB.out.alloc HB.out.size _).grown hgrow (by have := HB.out.size; simp; omega) (fun k hk => (HOW.out.lt hk).1)
        · have hq1 : q = 0 := by omega
          have HN := Lib.hid (show tileN h wk k = 0 by rw [HTT.out, if_neg hkr, hq1])
          have HQ1 := Lib.hid hq1
          have t1' : ¬ (k : Int) < (r : Int) := fun e => hkr (Int.ofNat_lt.1 e)
          have t1 : decide ((k : Int) < (r : Int)) = false := decide_eq_false t1'
          have hfn : f + 0 ≤ h := by rw [HN.out] at hat; exact hat
          have hf6 : f ≤ 1000000 := by omega
          have HT4 := Lib.hid (wrap_natN f hf6)
          obtain ⟨d1, m1⟩ := HD.out
          rw [hq1] at d1
          rw [show ((0 : Nat) : Int) = 0 from rfl] at d1
          clear hat hq1 hq0
          go_wp2_with fail
          clear d1 m1
          refine ⟨⟨k + 1, v, by go_num, by omega, by rw [HSS.out]; dsimp only; rw [HN.out, Nat.add_zero]; simp [HQ1.out], rfl, ?_, HB.out⟩, by simp [intOf]; omega⟩
          rw [HSS.out]; dsimp only
          rw [HN.out, if_neg (by omega)]
          exact HOW.out
    · obtain rfl : wk = k := by omega
      go_wp2_with fail
      go_ret2
      exact ⟨_, rfl, hown, hb⟩

end Go.Proofs.Ytogojmimflgmmaa

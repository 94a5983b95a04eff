/- Sums in their orders: the program's loops and what they compute. -/
import Derived.Test.YtkbcdgkpgfojkaaEx
import Derived.Test.YtkbcdgkpgfojkaaQf
namespace Go.Proofs.Ytkbcdgkpgfojkaa
open Go.RowKit Ieee
set_option maxRecDepth 100000
set_option linter.unusedVariables false
set_option linter.unusedSimpArgs false

/-- A sum from the left, told up to the not-a-numbers. -/
def sumL (xs : List Nat) : Nat := xs.foldl (fun a x => fop .add a (fl x)) 0

theorem sumL_take (xs : List Nat) (i : Nat) (h : i < xs.length) : sumL (xs.take (i + 1)) = fop .add (sumL (xs.take i)) (fl (xs.getD i 0)) := by
  unfold sumL
  rw [List.take_add_one, List.getElem?_eq_getElem h, List.foldl_append]
  simp [List.getD_eq_getElem?_getD, List.getElem?_eq_getElem h]

theorem sum_any (w : World) (v : Value) (xs : List Nat) (h : SlF w v xs) :
    Calls Try.prog 80 #[v] w fun e w' => ∃ r q, e = .returned (.float .f32 r) ∧ r < 4294967296 ∧ fl r = sumL xs ∧ w' = w.drewN q := by
  obtain ⟨a1, c1, rfl⟩ := h.len
  have hcap : xs.length ≤ 9223372036854775807 := by
    obtain ⟨_, cap, q1, q2, q3, _⟩ := h.1
    simp at q1 q2; omega
  have hz : ∀ i : Nat, i < xs.length → ∃ b1 o1, a1 = some ⟨b1, o1, none⟩ ∧ (∀ q, (w.drewN q).cell? ⟨b1, o1 + i, none⟩ = some (.float .f32 (xs.getD i 0))) := by
    intro i hi
    obtain ⟨b1, o1, _, q1, _, _⟩ := h.form (by intro e; rw [e] at hi; simp at hi)
    simp only [Value.slice.injEq] at q1
    obtain ⟨rfl, _⟩ := q1
    exact ⟨b1, o1, rfl, fun _ => (cellAt2 h i hi).1⟩
  clear h
  have HT := Lib.hid (sumL_take xs)
  obtain ⟨n, hn⟩ : ∃ n, n = xs.length := ⟨_, rfl⟩
  rw [← hn] at hz hcap HT ⊢
  have HN := Lib.hid hn
  clear hn
  go_enter Try.func80, Try.ntmps80
  go_wp2_with fail
  go_loopw [8, 3] (fun v8 v3 wr => ∃ (i r q : Nat), v8 = .int .i64 i ∧ v3 = .float .f32 r ∧ i ≤ n ∧ r < 4294967296 ∧ fl r = sumL (xs.take i) ∧ wr = w.drewN q) (fun v8 v3 _ => n - (intOf v8).toNat)
  case atStart => exact ⟨0, 0, 0, rfl, rfl, Nat.zero_le _, by omega, (show fl 0 = 0 by decide), rfl⟩
  case round =>
    obtain ⟨i, r, q, rfl, rfl, hi, hr, hf, rfl⟩ := hrel
    have HF := Lib.hid hf
    clear hf
    by_cases hlt : i < n
    · obtain ⟨b1, o1, rfl, k1⟩ := hz i hlt
      clear hz
      go_wp2
      go_roundw
      case rel => exact ⟨i + 1, _, _, by go_num, rfl, by omega, fres_lt _ _ _ _, by rw [fl_fres, HF.out, HT.out i hlt, List.getD_eq_getElem?_getD], rfl⟩
      case measure => simp [intOf]; omega
    · have : i = n := by omega
      subst this
      go_wp2
      go_ret
      exact ⟨r, q, rfl, hr, by rw [HF.out, HN.out, List.take_length], rfl⟩

/-- A sum of products from the left. -/
def dotL (xs ys : List Nat) : Nat := (xs.zip ys).foldl (fun a p => fop .add a (fop .mul (fl p.1) (fl p.2))) 0

theorem fl_fop (op : BinOp) (x y : Nat) (w : World) : fl (fop op (fl x) (fl y)) = fop op (fl x) (fl y) := by
  rw [← fl_fres op x y w, fl_fl]

theorem dotL_take (xs ys : List Nat) (i : Nat) (h : i < xs.length) (hy : xs.length = ys.length) : dotL (xs.take (i + 1)) (ys.take (i + 1)) = fop .add (dotL (xs.take i) (ys.take i)) (fop .mul (fl (xs.getD i 0)) (fl (ys.getD i 0))) := by
  unfold dotL
  rw [List.take_add_one, List.take_add_one, List.getElem?_eq_getElem h, List.getElem?_eq_getElem (show i < ys.length by omega)]
  rw [List.zip_append (by simp; omega), List.foldl_append]
  simp [List.getD_eq_getElem?_getD, List.getElem?_eq_getElem h, List.getElem?_eq_getElem (show i < ys.length by omega)]

theorem dot_any (w : World) (v u : Value) (xs ys : List Nat) (h : SlF w v xs) (hu : SlF w u ys) (hl : xs.length = ys.length) :
    Calls Try.prog 81 #[v, u] w fun e w' => ∃ r q, e = .returned (.float .f32 r) ∧ r < 4294967296 ∧ fl r = dotL xs ys ∧ w' = w.drewN q := by
  obtain ⟨a1, c1, rfl⟩ := h.len
  obtain ⟨a2, c2, rfl⟩ := hu.len
  have hcap : xs.length ≤ 9223372036854775807 := by
    obtain ⟨_, cap, q1, q2, q3, _⟩ := h.1
    simp at q1 q2; omega
  have hz : ∀ i : Nat, i < xs.length → ∃ b1 o1 b2 o2, a1 = some ⟨b1, o1, none⟩ ∧ a2 = some ⟨b2, o2, none⟩ ∧ (∀ q, (w.drewN q).cell? ⟨b1, o1 + i, none⟩ = some (.float .f32 (xs.getD i 0))) ∧ (∀ q, (w.drewN q).cell? ⟨b2, o2 + i, none⟩ = some (.float .f32 (ys.getD i 0))) := by
    intro i hi
    obtain ⟨b1, o1, _, q1, _, _⟩ := h.form (by intro e; rw [e] at hi; simp at hi)
    obtain ⟨b2, o2, _, q2, _, _⟩ := hu.form (by intro e; rw [e] at hl; simp at hl; rw [hl] at hi; simp at hi)
    simp only [Value.slice.injEq] at q1 q2
    obtain ⟨rfl, _⟩ := q1
    obtain ⟨rfl, _⟩ := q2
    exact ⟨b1, o1, b2, o2, rfl, rfl, fun _ => (cellAt2 h i hi).1, fun _ => (cellAt2 hu i (by omega)).1⟩
  clear h hu
  have HT := Lib.hid (fun i h => dotL_take xs ys i h hl)
  rw [← hl]
  have HL := Lib.hid hl
  clear hl
  obtain ⟨n, hn⟩ : ∃ n, n = xs.length := ⟨_, rfl⟩
  rw [← hn] at hz hcap ⊢
  have HN := Lib.hid hn
  clear hn
  go_enter Try.func81, Try.ntmps81
  go_wp2_with fail
  go_loopw [10, 5] (fun v10 v5 wr => ∃ (i r q : Nat), v10 = .int .i64 i ∧ v5 = .float .f32 r ∧ i ≤ n ∧ r < 4294967296 ∧ fl r = dotL (xs.take i) (ys.take i) ∧ wr = w.drewN q) (fun v10 v5 _ => n - (intOf v10).toNat)
  case atStart => exact ⟨0, 0, 0, rfl, rfl, Nat.zero_le _, by omega, (show fl 0 = 0 by decide), rfl⟩
  case round =>
    obtain ⟨i, r, q, rfl, rfl, hi, hr, hf, rfl⟩ := hrel
    have HF := Lib.hid hf
    clear hf
    by_cases hlt : i < n
    · obtain ⟨b1, o1, b2, o2, rfl, rfl, k1, k2⟩ := hz i hlt
      clear hz
      go_wp2
      go_roundw
      case rel => exact ⟨i + 1, _, _, by go_num, rfl, by omega, fres_lt _ _ _ _, by rw [fl_fres, fl_fres, HF.out, HT.out i (by rw [← HN.out]; exact hlt), List.getD_eq_getElem?_getD, List.getD_eq_getElem?_getD], rfl⟩
      case measure => simp [intOf]; omega
    · have : i = n := by omega
      subst this
      go_wp2
      go_ret
      exact ⟨r, q, rfl, hr, by rw [HF.out, HN.out, List.take_length, HL.out, List.take_length], rfl⟩

theorem listOk_any (w : World) (a : Option Addr) (n c : Nat) (hn : n ≤ 64) : Calls Try.prog 79 #[.slice a n c] w fun e w' => e = .returned (.bool true) ∧ w = w' := by
  have h : (n : Int) ≤ 64 := by omega
  go_enter Try.func79, Try.ntmps79
  go_wp2
  go_ret
  simp
  omega

theorem sumNumbers_any (w : World) (v : Value) (xs : List Nat) (h : SlF w v xs) (hn : xs.length ≤ 64) :
    Calls Try.prog 37 #[v] w fun e w' => ∃ r q, e = .returned (.tuple #[.float .f32 r, .bool true]) ∧ r < 4294967296 ∧ fl r = sumL xs ∧ w' = w.drewN q := by
  have K := Lib.hid (sum_any w v xs h)
  obtain ⟨a1, c1, rfl⟩ := h.len
  have K2 := Lib.hid (listOk_any w a1 xs.length c1 hn)
  go_enter Try.func37, Try.ntmps37
  go_wp2_with fail
  refine K2.out.mono ?_
  rintro e w' ⟨rfl, rfl⟩
  go_wp2_with fail
  refine K.out.mono ?_
  rintro e w' ⟨r, q, rfl, h1, h2, rfl⟩
  go_wp2
  go_ret2
  exact ⟨r, q, rfl, h1, h2, rfl⟩

theorem dotNumbers_any (w : World) (v u : Value) (xs ys : List Nat) (h : SlF w v xs) (hu : SlF w u ys) (hl : xs.length = ys.length) (hn : xs.length ≤ 64) :
    Calls Try.prog 38 #[v, u] w fun e w' => ∃ r q, e = .returned (.tuple #[.float .f32 r, .bool true]) ∧ r < 4294967296 ∧ fl r = dotL xs ys ∧ w' = w.drewN q := by
  have K := Lib.hid (dot_any w v u xs ys h hu hl)
  obtain ⟨a1, c1, rfl⟩ := h.len
  obtain ⟨a2, c2, rfl⟩ := hu.len
  have K2 := Lib.hid (listOk_any w a1 xs.length c1 hn)
  clear h hu
  rw [← hl] at K ⊢
  clear hl
  go_enter Try.func38, Try.ntmps38
  go_wp2_with fail
  refine K2.out.mono ?_
  rintro e w' ⟨rfl, rfl⟩
  go_wp2_with fail
  refine K.out.mono ?_
  rintro e w' ⟨r, q, rfl, h1, h2, rfl⟩
  go_wp2
  go_ret2
  exact ⟨r, q, rfl, h1, h2, rfl⟩

theorem SlF.take {w : World} {b off n cap : Nat} {xs : List Nat} (h : SlF w (.slice (some ⟨b, off, none⟩) n cap) xs) (k : Nat) (hk : k ≤ xs.length) : SlF w (.slice (some ⟨b, off, none⟩) k cap) (xs.take k) := by
  refine ⟨?_, fun x hx => h.2 x (List.mem_of_mem_take hx)⟩
  obtain ⟨a', c', e, h1, h2, h3⟩ := h.1
  simp only [Value.slice.injEq, List.length_map] at e h1
  obtain ⟨rfl, rfl, rfl⟩ := e
  refine ⟨some ⟨b, off, none⟩, cap, by simp [Nat.min_eq_left hk], by simp; omega, h2, ?_⟩
  rcases h3 with h3 | ⟨b', off', e, hb, hc⟩
  · left; simp at h3; simp [h3]
  · simp only [Option.some.injEq, Addr.mk.injEq] at e
    obtain ⟨rfl, rfl, _⟩ := e
    refine .inr ⟨_, _, rfl, hb, fun i hi => ?_⟩
    simp at hi
    have := hc i (by simp; omega)
    rw [this]; simp

theorem SlF.drop {w : World} {b off n cap : Nat} {xs : List Nat} (h : SlF w (.slice (some ⟨b, off, none⟩) n cap) xs) (k : Nat) (hk : k ≤ xs.length) : SlF w (.slice (some ⟨b, off + k, none⟩) (n - k) (cap - k)) (xs.drop k) := by
  refine ⟨?_, fun x hx => h.2 x (List.mem_of_mem_drop hx)⟩
  obtain ⟨a', c', e, h1, h2, h3⟩ := h.1
  simp only [Value.slice.injEq, List.length_map] at e h1
  obtain ⟨rfl, rfl, rfl⟩ := e
  refine ⟨some ⟨b, off + k, none⟩, cap - k, by simp, by simp; omega, by omega, ?_⟩
  rcases h3 with h3 | ⟨b', off', e, hb, hc⟩
  · left; simp at h3; simp [h3]
  · simp only [Option.some.injEq, Addr.mk.injEq] at e
    obtain ⟨rfl, rfl, _⟩ := e
    refine .inr ⟨_, _, rfl, hb, fun i hi => ?_⟩
    simp at hi
    have := hc (k + i) (by simp; omega)
    rw [Nat.add_assoc, this]; simp

/-- The sum of the sums of both halves. -/
def pairsN : Nat → List Nat → Nat
  | 0, _ => 0
  | f + 1, xs => if xs.length = 0 then 0 else if xs.length = 1 then fl (xs.getD 0 0) else fop .add (pairsN f (xs.take ((xs.length + 1) / 2))) (pairsN f (xs.drop ((xs.length + 1) / 2)))

theorem sumPairs_any : ∀ (f : Nat) (w : World) (v : Value) (xs : List Nat), SlF w v xs → xs.length ≤ f → f ≤ 64 →
    Calls Try.prog 82 #[v] w fun e w' => ∃ r q, e = .returned (.float .f32 r) ∧ r < 4294967296 ∧ fl r = pairsN (f + 1) xs ∧ w' = w.drewN q := by
  intro f
  induction f with
  | zero =>
    intro w v xs h hf hf2
    obtain ⟨a1, c1, rfl⟩ := h.len
    have e : xs.length = 0 := by omega
    rw [e]
    go_enter Try.func82, Try.ntmps82
    go_wp2
    go_ret
    exact ⟨0, 0, rfl, by omega, by unfold pairsN; rw [if_pos e]; decide, rfl⟩
  | succ f ih =>
    intro w v xs h hf hf2
    by_cases e0 : xs.length = 0
    · obtain ⟨a1, c1, rfl⟩ := h.len
      rw [e0]
      go_enter Try.func82, Try.ntmps82
      go_wp2
      go_ret
      exact ⟨0, 0, rfl, by omega, by unfold pairsN; rw [if_pos e0]; decide, rfl⟩
    · obtain ⟨b, off, cap, rfl, hb, hc⟩ := h.form (fun e => e0 (by rw [e]; rfl))
      by_cases e1 : xs.length = 1
      · have k := (cellAt2 h 0 (by omega)).1
        have kl := (cellAt2 h 0 (by omega)).2
        rw [Nat.add_zero] at k
        obtain ⟨x, hx⟩ : ∃ x, x = xs.getD 0 0 := ⟨_, rfl⟩
        rw [← hx] at k kl
        have HX := Lib.hid hx
        have HE := Lib.hid e1
        rw [e1]
        clear hc h hx e1 e0
        go_enter Try.func82, Try.ntmps82
        go_wp2
        go_ret
        exact ⟨x, 0, rfl, kl, by unfold pairsN; rw [if_neg (by rw [HE.out]; omega), if_pos HE.out, HX.out], rfl⟩
      · have hlen := (h.len)
        obtain ⟨n, hn⟩ : ∃ n, n = xs.length := ⟨_, rfl⟩
        obtain ⟨m, hm⟩ : ∃ m : Nat, m = (n + 1) / 2 := ⟨_, rfl⟩
        have hcap : n ≤ cap ∧ cap ≤ 9223372036854775807 := by
          obtain ⟨a', c', e, q1, q2, q3⟩ := h.1
          simp only [Value.slice.injEq, List.length_map] at e q1
          omega
        have n2 : 2 ≤ n := by omega
        have n3 : n ≤ 64 := by omega
        have m1 : m ≤ n := by omega
        have m2 : m ≤ cap := by omega
        have m3 : ¬ cap = m := by omega
        have m4 : n ≤ cap := by omega
        have K1 := Lib.hid (fun q => ih (w.drewN q) _ (xs.take m) (SlF.take ⟨h.1.drewN q, h.2⟩ m (by omega)) (by simp; omega) (by omega))
        have K2 := Lib.hid (fun q => ih (w.drewN q) _ (xs.drop m) (SlF.drop ⟨h.1.drewN q, h.2⟩ m (by omega)) (by simp; omega) (by omega))
        have hP : pairsN (f + 1 + 1) xs = fop .add (pairsN (f + 1) (xs.take m)) (pairsN (f + 1) (xs.drop m)) := by
          rw [pairsN, if_neg e0, if_neg e1, hm, hn]
        rw [hP]
        rw [← hn] at K2 ⊢
        have hm2 : ((n : Int) + 1) / 2 = m := by omega
        have hm3 : ((n : Int) + 1).tdiv 2 = m := by rw [Int.tdiv_eq_ediv_of_nonneg (by omega)]; exact hm2
        clear h hc hlen e0 e1 hf hP ih hm hn
        generalize hA : pairsN (f + 1) (xs.take m) = A at *
        generalize hB : pairsN (f + 1) (xs.drop m) = B at *
        clear hA hB
        have k0 : Calls Try.prog 82 #[.slice (some ⟨b, off, none⟩) m cap] w.drew fun e w' => ∃ r q, e = .returned (.float .f32 r) ∧ r < 4294967296 ∧ fl r = A ∧ w' = w.drewN (1 + q) := by
          refine (K1.out 1).mono ?_
          rintro e w' ⟨r, q, h1, h2, h3, h4⟩
          exact ⟨r, q, h1, h2, h3, by rw [h4]; simp⟩
        have k2 : ∀ u, Calls Try.prog 82 #[.slice (some ⟨b, off + m, none⟩) (n - m) (cap - m)] (w.drewN u) fun e w' => ∃ r q, e = .returned (.float .f32 r) ∧ r < 4294967296 ∧ fl r = B ∧ w' = w.drewN (u + q) := by
          intro u
          refine (K2.out u).mono ?_
          rintro e w' ⟨r, q, h1, h2, h3, h4⟩
          exact ⟨r, q, h1, h2, h3, by rw [h4]; simp⟩
        have H1 := Lib.hid k0
        have H2 := Lib.hid k2
        clear K1 K2 k0 k2
        go_enter Try.func82, Try.ntmps82
        go_wp2_with fail
        go_region_law (first
          | (go_simp; (with_reducible refine H1.out.mono ?_); rintro e w' ⟨r1, q1, rfl, hr1, hf1, rfl⟩)
          | (go_simp; (with_reducible refine (H2.out _).mono ?_); rintro e w' ⟨r2, q2, rfl, hr2, hf2, rfl⟩))
        all_goals
          go_wp2
          go_ret
          exact ⟨_, _, rfl, fres_lt _ _ _ _, by rw [fl_fres, hf1, hf2], rfl⟩

theorem sumPairsX_any (w : World) (v : Value) (xs : List Nat) (h : SlF w v xs) (hn : xs.length ≤ 63) :
    Calls Try.prog 39 #[v] w fun e w' => ∃ r q, e = .returned (.tuple #[.float .f32 r, .bool true]) ∧ r < 4294967296 ∧ fl r = pairsN (xs.length + 1) xs ∧ w' = w.drewN q := by
  have K := Lib.hid (sumPairs_any xs.length w v xs h (Nat.le_refl _) (by omega))
  obtain ⟨a1, c1, rfl⟩ := h.len
  have K2 := Lib.hid (listOk_any w a1 xs.length c1 (by omega))
  go_enter Try.func39, Try.ntmps39
  go_wp2_with fail
  refine K2.out.mono ?_
  rintro e w' ⟨rfl, rfl⟩
  go_wp2_with fail
  refine K.out.mono ?_
  rintro e w' ⟨r, q, rfl, h1, h2, rfl⟩
  go_wp2
  go_ret2
  exact ⟨r, q, rfl, h1, h2, rfl⟩

/-! ### Small integers: each order gives one number -/
def sumI (ks : List Int) : Int := ks.sum
theorem sum_bound (M : Nat) (ks : List Int) (h : ∀ k ∈ ks, k.natAbs ≤ M) : (ks.sum).natAbs ≤ ks.length * M := by
  induction ks with
  | nil => simp
  | cons k ks ih =>
    have h1 := ih (fun x hx => h x (List.mem_cons_of_mem _ hx))
    have h2 := h k (List.mem_cons_self)
    rw [List.sum_cons, List.length_cons, Nat.add_mul]
    omega

theorem foldl_fq (g M : Nat) (hM : M ≤ 16777216) (ks : List Int) (h : ∀ k ∈ ks, k.natAbs ≤ M) (s : Int) (hs : s.natAbs + ks.length * M ≤ 16777216) :
    (ks.map (fq g)).foldl (fun a x => fop .add a (fl x)) (fq g s) = fq g (s + ks.sum) := by
  induction ks generalizing s with
  | nil => simp
  | cons k ks ih =>
    have h2 := h k (List.mem_cons_self)
    rw [List.length_cons, Nat.add_mul] at hs
    rw [List.map_cons, List.foldl_cons, fl_fq (by omega), fop_add (by omega) (by omega) (by omega), ih (fun x hx => h x (List.mem_cons_of_mem _ hx)) _ (by omega), List.sum_cons]
    congr 1; omega

theorem sumL_fq (g M : Nat) (ks : List Int) (h : ∀ k ∈ ks, k.natAbs ≤ M) (hM : M ≤ 16777216) (hb : ks.length * M ≤ 16777216) : sumL (ks.map (fq g)) = fq g ks.sum := by
  have := foldl_fq g M hM ks h 0 (by simpa using hb)
  rw [fq_zero, Int.zero_add] at this
  exact this

theorem pairsN_fq (g M : Nat) (hM : M ≤ 16777216) : ∀ (f : Nat) (ks : List Int), ks.length ≤ f → (∀ k ∈ ks, k.natAbs ≤ M) → ks.length * M ≤ 16777216 → pairsN (f + 1) (ks.map (fq g)) = fq g ks.sum := by
  intro f
  induction f with
  | zero =>
    intro ks hf _ _
    have : ks = [] := List.length_eq_zero_iff.1 (by omega)
    subst this; simp [pairsN, fq_zero]
  | succ f ih =>
    intro ks hf h hb
    unfold pairsN
    rw [List.length_map]
    by_cases e0 : ks.length = 0
    · have : ks = [] := List.length_eq_zero_iff.1 e0
      subst this; simp [fq_zero]
    · rw [if_neg e0]
      by_cases e1 : ks.length = 1
      · rw [if_pos e1]
        obtain ⟨k, rfl⟩ := List.length_eq_one_iff.1 e1
        have := h k (by simp)
        simp only [List.map_cons, List.map_nil, List.sum_cons, List.sum_nil]
        show fl (fq g k) = _
        rw [fl_fq (by omega)]; congr 1; omega
      · rw [if_neg e1, ← List.map_take, ← List.map_drop]
        have hm : (ks.length + 1) / 2 ≤ f := by omega
        have hm2 : (ks.length + 1) / 2 ≤ ks.length := by omega
        have l1 : (ks.take ((ks.length + 1) / 2)).length = (ks.length + 1) / 2 := by simp; omega
        have l2 : (ks.drop ((ks.length + 1) / 2)).length = ks.length - (ks.length + 1) / 2 := by simp
        have b1 : ((ks.length + 1) / 2) * M ≤ ks.length * M := Nat.mul_le_mul_right _ hm2
        have b2 : (ks.length - (ks.length + 1) / 2) * M ≤ ks.length * M := Nat.mul_le_mul_right _ (by omega)
        have t1 := fun k hk => h k (List.mem_of_mem_take (i := (ks.length + 1) / 2) hk)
        have t2 := fun k hk => h k (List.mem_of_mem_drop (i := (ks.length + 1) / 2) hk)
        have s1 := sum_bound M _ t1
        have s2 := sum_bound M _ t2
        have s3 := sum_bound M _ h
        rw [l1] at s1
        rw [l2] at s2
        rw [ih _ (by omega) t1 (by rw [l1]; omega), ih _ (by omega) t2 (by rw [l2]; omega)]
        have hs : (ks.take ((ks.length + 1) / 2)).sum + (ks.drop ((ks.length + 1) / 2)).sum = ks.sum := by
          rw [← List.sum_append, List.take_append_drop]
        rw [fop_add (by omega) (by omega) (by omega), hs]

/-- The sum of the squares. -/
def sqs (ks : List Int) : Int := (ks.map fun k => k * k).sum
theorem sq_bound {k : Int} (h : k.natAbs ≤ 100) : (k * k).natAbs ≤ 10000 := by
  rw [Int.natAbs_mul]; exact Nat.mul_le_mul h h
theorem sqs_bound (ks : List Int) (h : ∀ k ∈ ks, k.natAbs ≤ 100) : (sqs ks).natAbs ≤ ks.length * 10000 := by
  have := sum_bound 10000 (ks.map fun k => k * k) (by
    intro k hk
    obtain ⟨z, hz, rfl⟩ := List.mem_map.1 hk
    exact sq_bound (h z hz))
  simpa [sqs] using this
theorem take_snoc_getD (ks : List Int) (i : Nat) (h : i < ks.length) : ks.take (i + 1) = ks.take i ++ [ks.getD i 0] := by
  rw [List.take_add_one, List.getElem?_eq_getElem h, List.getD_eq_getElem?_getD, List.getElem?_eq_getElem h]; rfl
theorem sqs_take (ks : List Int) (i : Nat) (h : i < ks.length) : sqs (ks.take (i + 1)) = sqs (ks.take i) + ks.getD i 0 * ks.getD i 0 := by
  unfold sqs
  rw [take_snoc_getD ks i h, List.map_append, List.sum_append]
  simp only [List.map_cons, List.map_nil, List.sum_cons, List.sum_nil]; omega
theorem sum_take (ks : List Int) (i : Nat) (h : i < ks.length) : (ks.take (i + 1)).sum = (ks.take i).sum + ks.getD i 0 := by
  rw [take_snoc_getD ks i h, List.sum_append]
  simp only [List.sum_cons, List.sum_nil]; omega

theorem dot_fold (ks : List Int) (h : ∀ k ∈ ks, k.natAbs ≤ 100) (s : Int) (hs : s.natAbs + ks.length * 10000 ≤ 16777216) :
    ((ks.map (fq 0)).zip (ks.map (fq 0))).foldl (fun a p => fop .add a (fop .mul (fl p.1) (fl p.2))) (fq 0 s) = fq 0 (s + sqs ks) := by
  induction ks generalizing s with
  | nil => simp [sqs]
  | cons k ks ih =>
    have h2 := h k (List.mem_cons_self)
    have h3 := sq_bound h2
    rw [List.length_cons, Nat.add_mul] at hs
    rw [List.map_cons, List.zip_cons_cons, List.foldl_cons, fl_fq (by omega), fop_mul (by omega) (by omega) (by omega) (by omega) (by
      intro e
      have : k = 0 := by rcases Int.mul_eq_zero.1 e with g | g <;> exact g
      omega), fop_add (by omega) (by omega) (by omega), ih (fun x hx => h x (List.mem_cons_of_mem _ hx)) _ (by omega)]
    congr 1
    unfold sqs; rw [List.map_cons, List.sum_cons]; omega
theorem dotL_fq (ks : List Int) (h : ∀ k ∈ ks, k.natAbs ≤ 100) (hs : ks.length * 10000 ≤ 16777216) : dotL (ks.map (fq 0)) (ks.map (fq 0)) = fq 0 (sqs ks) := by
  have := dot_fold ks h 0 (by simpa using hs)
  rw [fq_zero, Int.zero_add] at this
  exact this

/-- Products with 1 are the numbers. -/
theorem mul_one_word {x : Nat} (hx : x < 4294967296) : fop .mul (fl x) 1065353216 = fl x := by
  cases hn : nan32 x
  · rw [fl_eq hn]
    by_cases hf : fin32 x = true
    · have h1 := (fin32_iff x).2 hf
      have h2 : isFin single 1065353216 := by unfold isFin rg; decide
      have e : floatBits .mul .f32 x 1065353216 = some x := by
        show single.mul x 1065353216 = some x
        rw [mul_fin single (by rw [sg_L]; omega) h1 h2]
        have u1 : unit single (rg single 1065353216) = 2 ^ 149 := by decide +kernel
        have g1 : sgn single 1065353216 = false := by decide
        rw [u1, g1, Bool.xor_false]
        have : (-single.leastPlace).toNat = 149 := by rw [sg_L]; rfl
        rw [this, rnd_exact single (by decide) _ (r := rg single x) rfl (Nat.le_of_lt h1), word32 hx]
      unfold fop; rw [e]; exact fl_eq hn
    · have hi : rg single x = single.infRung := by
        unfold rg; rw [sg_sw, sg_inf]; unfold fin32 at hf; unfold nan32 at hn; simp at *; omega
      have e : x = single.word (sgn single x) single.infRung := by rw [← hi]; exact (word32 hx).symm
      rw [e]
      cases sgn single x <;> decide +kernel
  · rw [fl_nan hn]; decide +kernel

theorem dotL_ones (xs : List Nat) (h : ∀ x ∈ xs, x < 4294967296) : dotL xs (List.replicate xs.length 1065353216) = sumL xs := by
  unfold dotL sumL
  generalize (0 : Nat) = s
  induction xs generalizing s with
  | nil => rfl
  | cons x xs ih =>
    have h1 : fl 1065353216 = 1065353216 := by decide
    rw [List.length_cons, List.replicate_succ, List.zip_cons_cons, List.foldl_cons, List.foldl_cons, h1, mul_one_word (h x List.mem_cons_self)]
    exact ih (fun y hy => h y (List.mem_cons_of_mem _ hy)) _

/-- The law of the pairs, where there are two at least. -/
theorem pairsN_fuel : ∀ (f g : Nat) (xs : List Nat), xs.length < f → xs.length < g → pairsN f xs = pairsN g xs := by
  intro f
  induction f with
  | zero => intro g xs h; omega
  | succ f ih =>
    intro g xs h1 h2
    obtain ⟨g, rfl⟩ : ∃ k, g = k + 1 := ⟨g - 1, by omega⟩
    unfold pairsN
    by_cases e0 : xs.length = 0
    · rw [if_pos e0, if_pos e0]
    · rw [if_neg e0, if_neg e0]
      by_cases e1 : xs.length = 1
      · rw [if_pos e1, if_pos e1]
      · rw [if_neg e1, if_neg e1]
        rw [ih g _ (by simp; omega) (by simp; omega), ih g (xs.drop _) (by simp; omega) (by simp; omega)]
theorem pairs_law (xs : List Nat) (h : 1 < xs.length) : pairsN (xs.length + 1) xs = fop .add (pairsN ((xs.take ((xs.length + 1) / 2)).length + 1) (xs.take ((xs.length + 1) / 2))) (pairsN ((xs.drop ((xs.length + 1) / 2)).length + 1) (xs.drop ((xs.length + 1) / 2))) := by
  rw [pairsN, if_neg (by omega), if_neg (by omega)]
  rw [pairsN_fuel xs.length _ (xs.take ((xs.length + 1) / 2)) (by simp; omega) (Nat.lt_succ_self _), pairsN_fuel xs.length _ (xs.drop ((xs.length + 1) / 2)) (by simp; omega) (Nat.lt_succ_self _)]

theorem dotWide_whole (w : World) (v u : Value) (ks : List Int) (h : SlF w v (ks.map (fq 0))) (hu : SlF w u (ks.map (fq 0))) (hk : ∀ k ∈ ks, k.natAbs ≤ 100) (hn : ks.length ≤ 64) :
    Calls Try.prog 41 #[v, u] w fun e w' => e = .returned (.tuple #[.float .f32 (fq 0 (sqs ks)), .bool true]) ∧ w = w' := by
  obtain ⟨a1, c1, rfl⟩ := h.len
  obtain ⟨a2, c2, rfl⟩ := hu.len
  have hz : ∀ i : Nat, i < ks.length → ∃ b1 o1 b2 o2, a1 = some ⟨b1, o1, none⟩ ∧ a2 = some ⟨b2, o2, none⟩ ∧ w.cell? ⟨b1, o1 + i, none⟩ = some (.float .f32 (fq 0 (ks.getD i 0))) ∧ w.cell? ⟨b2, o2 + i, none⟩ = some (.float .f32 (fq 0 (ks.getD i 0))) := by
    intro i hi
    have hi2 : i < (ks.map (fq 0)).length := by simpa using hi
    obtain ⟨b1, o1, _, q1, _, _⟩ := h.form (by intro e; rw [e] at hi2; simp at hi2)
    obtain ⟨b2, o2, _, q2, _, _⟩ := hu.form (by intro e; rw [e] at hi2; simp at hi2)
    simp only [Value.slice.injEq] at q1 q2
    obtain ⟨rfl, _⟩ := q1
    obtain ⟨rfl, _⟩ := q2
    have hg : (ks.map (fq 0)).getD i 0 = fq 0 (ks.getD i 0) := by
      rw [List.getD_eq_getElem?_getD, List.getD_eq_getElem?_getD, List.getElem?_map, List.getElem?_eq_getElem hi]; rfl
    have k1 := (cellAt2 h i hi2).1
    have k2 := (cellAt2 hu i hi2).1
    rw [hg] at k1 k2
    exact ⟨b1, o1, b2, o2, rfl, rfl, k1, k2⟩
  clear h hu
  have HT := Lib.hid (sqs_take ks)
  have hsb : ∀ i, i ≤ ks.length → (sqs (ks.take i)).natAbs ≤ 640000 := by
    intro i hi
    have := sqs_bound (ks.take i) (fun k hk' => hk k (List.mem_of_mem_take hk'))
    rw [List.length_take, Nat.min_eq_left hi] at this
    have := Nat.mul_le_mul_right 10000 (show i ≤ 64 by omega)
    omega
  have hkb : ∀ i, i < ks.length → (ks.getD i 0).natAbs ≤ 100 := by
    intro i hi
    rw [List.getD_eq_getElem?_getD, List.getElem?_eq_getElem hi]
    exact hk _ (List.getElem_mem hi)
  have HSB := Lib.hid hsb
  clear hsb hk
  rw [List.length_map]
  obtain ⟨n, hnn⟩ : ∃ n, n = ks.length := ⟨_, rfl⟩
  rw [← hnn] at hz hn HT HSB hkb ⊢
  have HN := Lib.hid hnn
  clear hnn
  have K2 := Lib.hid (listOk_any w a1 n c1 hn)
  go_enter Try.func41, Try.ntmps41
  go_wp2_with fail
  refine K2.out.mono ?_
  rintro e w' ⟨rfl, rfl⟩
  go_wp2_with fail
  go_loop [21, 6] (fun v21 v6 => ∃ (i : Nat), v21 = .int .i64 i ∧ v6 = .float .f64 (dq 0 (sqs (ks.take i))) ∧ i ≤ n) (fun v21 v6 => n - (intOf v21).toNat)
  case atStart => exact ⟨0, rfl, by rw [List.take_zero, show sqs [] = 0 from rfl, dq_zero], Nat.zero_le _⟩
  case round =>
    obtain ⟨i, rfl, rfl, hi⟩ := hrel
    by_cases hlt : i < n
    · obtain ⟨b1, o1, b2, o2, rfl, rfl, k1, k2⟩ := hz i hlt
      have s1 := HSB.out i hi
      have s2 := HSB.out (i + 1) (by omega)
      have hkk := hkb i hlt
      have ht := HT.out i hlt
      rw [ht] at s2
      have HT2 := Lib.hid ht
      generalize ks.getD i 0 = k at *
      generalize sqs (ks.take i) = s at *
      clear hz hkb ht
      have e1 := cvr_some (fq_wide (g := 0) (by omega) (k := k) (by omega))
      have e2 := cvd_some (fq_wide (g := 0) (by omega) (k := k) (by omega))
      have hs := sq_bound hkk
      have m0 := dq_mul (g := 0) (h := 0) (by omega) (a := k) (b := k) (by omega) (by omega) (by omega) (by
        intro e
        have : k = 0 := by rcases Int.mul_eq_zero.1 e with g | g <;> exact g
        omega)
      have e3 := fres_some m0
      have e4 := fdr_some m0
      have a0 := dq_add (g := 0) (a := s) (b := k * k) (by omega) (by omega) (by omega)
      have e5 := fres_some a0
      have e6 := fdr_some a0
      have hd0 : ∀ w : World, w.drewN 0 = w := fun _ => rfl
      clear m0 a0 s1 s2 hs
      go_wp2
      go_round
      case rel => exact ⟨i + 1, by go_num, by rw [HT2.out], by omega⟩
      case measure => simp [intOf]; omega
    · have : i = n := by omega
      subst this
      have s1 := HSB.out i (Nat.le_refl _)
      have hfull : ks.take i = ks := by rw [HN.out, List.take_length]
      rw [hfull] at s1 ⊢
      have e1 := cvr_some (fq_narrow (g := 0) (by omega) (k := sqs ks) (by omega))
      have e2 := cvd_some (fq_narrow (g := 0) (by omega) (k := sqs ks) (by omega))
      have hd0 : ∀ w : World, w.drewN 0 = w := fun _ => rfl
      clear hz hkb hfull
      go_wp2
      go_ret2
      exact ⟨rfl, rfl⟩

theorem eq_of_fl {r g : Nat} {k : Int} (hk : k.natAbs ≤ 16777216) (h : fl r = fq g k) : r = fq g k := by
  have h1 : nan32 r = false := by rw [← nan32_fl, h]; exact fq_nan hk
  rw [← h]; exact (fl_eq h1).symm
theorem SlF.news {w : World} {g n cap : Nat} {bs : List Nat} (h : SlF w (.slice (some ⟨g, 0, none⟩) n cap) bs) : ∀ (j : Nat) (u : Value), (bs.map (Value.float .f32))[j]? = some u → w.cell? ((⟨g, 0, none⟩ : Addr).add j) = some u := by
  intro j u hu
  rw [List.getElem?_map] at hu
  obtain ⟨x, hx, rfl⟩ := Option.map_eq_some_iff.1 hu
  obtain ⟨hj, rfl⟩ := List.getElem?_eq_some_iff.1 hx
  have := (cellAt2 h j hj).1
  rw [← getD_of2 _ _ hj] at this
  by_cases h0 : j = 0
  · subst h0; simpa [Addr.add] using this
  · simpa [Addr.add, h0] using this
theorem SlF.drop_end {w : World} {a : Option Addr} {n cap : Nat} {xs : List Nat} (h : SlF w (.slice a n cap) xs) (k : Nat) (hk : cap = k) : SlF w (.slice a (n - k) (cap - k)) (xs.drop k) := by
  obtain ⟨a', c', e, h1, h2, h3⟩ := h.1
  simp only [Value.slice.injEq, List.length_map] at e h1
  obtain ⟨rfl, rfl, rfl⟩ := e
  have hx : xs.drop k = [] := List.drop_eq_nil_of_le (by omega)
  refine ⟨⟨a, cap - k, ?_, by rw [hx]; simp, by omega, .inl (by rw [hx]; rfl)⟩, by rw [hx]; simp⟩
  rw [hx]; simp; omega
theorem SlF.caps {w : World} {a : Option Addr} {n cap : Nat} {xs : List Nat} (h : SlF w (.slice a n cap) xs) : xs.length = n ∧ n ≤ cap ∧ cap ≤ 9223372036854775807 := by
  obtain ⟨a', c', e, h1, h2, h3⟩ := h.1
  simp only [Value.slice.injEq, List.length_map] at e h1
  omega
theorem below_grown_own {w w2 : World} {v : Value} {B : Nat} {bs : List Nat} {o : Obj} (wr : World) (h : Below B w wr) (hB : B ≤ wr.heap.size) (hg : (wr.alloc o).grownBy w2 v.ownBlock) (hv : OwnF wr B v bs) : Below B w w2 :=
  (h.alloc hB o).grown hg (by simp; omega) (fun k hk => (hv.lt hk).1)

end Go.Proofs.Ytkbcdgkpgfojkaa

/- The reference's prices, costs and costs of a cell, by words; how a row is led back. -/
import Derived.Test.YtabbjilgpfnacaaGreatEu
import Derived.Maps.AppendAt
namespace Go.Proofs.YtabbjilgpfnacaaGreat
open Go.RowKit Go.Shelf
set_option maxRecDepth 100000
set_option linter.unusedVariables false
set_option linter.unusedSimpArgs false

/-- Prices at a place of a block. -/
def PrcAt (W : World) (pb po o m : Nat) : Prop := pb < W.heap.size ∧ W.cell? ⟨pb, po, none⟩ = some (.float .f32 o) ∧ W.cell? ⟨pb, po + 1, none⟩ = some (.float .f32 m)
theorem PrcAt.below {W W' : World} {pb po o m : Nat} (h : PrcAt W pb po o m) (hb : Below W.heap.size W W') : PrcAt W' pb po o m :=
  ⟨Nat.lt_of_lt_of_le h.1 hb.size, (hb.cell (p := ⟨pb, po, none⟩) h.1).trans h.2.1, (hb.cell (p := ⟨pb, po + 1, none⟩) h.1).trans h.2.2⟩

theorem l04PriceE (w : World) (pb po o m a b : Nat) (A B : Int) (hA : A = a) (hB : B = b) (hP : PrcAt w pb po o m) (ha : a < 100) (hb : b < 100) :
    Calls Tryz.prog 91 #[.pointer (some ⟨pb, po, none⟩), .int .i64 A, .int .i64 B] w fun e w' => e = .returned (.float .f32 (prW o m a b)) ∧ ∃ k, w' = w.drewN k := by
  subst hA hB
  obtain ⟨-, c0, c1⟩ := hP
  by_cases h1 : a = b
  · have e : prW o m a b = 0 := by unfold prW; rw [if_pos h1]
    rw [e]
    clear e
    subst h1
    go_enter Tryz.func91, Tryz.ntmps91
    go_wp2
    go_ret
    exact ⟨rfl, 0, rfl⟩
  · have k0 : ((a : Int) == (b : Int)) = false := by rw [beq_eq_false_iff_ne]; omega
    have aI : (a : Int) < 100 := by omega
    have bI : (b : Int) < 100 := by omega
    by_cases h2 : a = b + 1
    · have e : prW o m a b = o := by unfold prW; rw [if_neg h1, if_pos (.inl h2)]
      have k1 : ((a : Int) == (b : Int) + 1) = true := by rw [beq_iff_eq]; omega
      rw [e]
      clear e h1 h2
      go_enter Tryz.func91, Tryz.ntmps91
      go_wp2
      go_ret
      exact ⟨rfl, 0, rfl⟩
    · have k1 : ((a : Int) == (b : Int) + 1) = false := by rw [beq_eq_false_iff_ne]; omega
      by_cases h3 : b = a + 1
      · have e : prW o m a b = o := by unfold prW; rw [if_neg h1, if_pos (.inr h3)]
        have k2 : ((b : Int) == (a : Int) + 1) = true := by rw [beq_iff_eq]; omega
        rw [e]
        clear e h1 h2 h3
        go_enter Tryz.func91, Tryz.ntmps91
        go_wp2
        go_ret
        exact ⟨rfl, 0, rfl⟩
      · have e : prW o m a b = m := by unfold prW; rw [if_neg h1, if_neg (fun g => g.elim h2 h3)]
        have k2 : ((b : Int) == (a : Int) + 1) = false := by rw [beq_eq_false_iff_ne]; omega
        rw [e]
        clear e h1 h2 h3
        go_enter Tryz.func91, Tryz.ntmps91
        go_wp2
        go_ret
        exact ⟨rfl, 0, rfl⟩

theorem icI {wd dp x y : Nat} (hw : wd ≤ 24) (hx : x < wd) (hy : y < 24) (hd : dp ≤ 8) :
    IntKind.i64.wrap ((wd : Int) * (y : Int)) = (wd : Int) * y ∧ IntKind.i64.wrap ((x : Int) + (wd : Int) * y) = (x : Int) + (wd : Int) * y ∧
    IntKind.i64.wrap (((x : Int) + (wd : Int) * y) * (dp : Int)) = ((ic wd dp x y : Nat) : Int) ∧ ic wd dp x y ≤ 5000 := by
  have m1 : wd * y ≤ 24 * 24 := Nat.mul_le_mul hw (by omega)
  have m2 : (x + wd * y) * dp ≤ 600 * 8 := Nat.mul_le_mul (by omega) hd
  refine ⟨?_, ?_, ?_, by unfold ic; omega⟩
  · rw [← Int.natCast_mul]; exact IntWalk.i64_in _ (by omega)
  · rw [← Int.natCast_mul, ← Int.natCast_add]; exact IntWalk.i64_in _ (by omega)
  · unfold ic
    rw [← Int.natCast_mul wd y, ← Int.natCast_add, ← Int.natCast_mul]; exact IntWalk.i64_in _ (by omega)

theorem l04CostE (W : World) (pb wd hi dp b n c : Nat) (bs : List Nat) (X Y D : Int) (x y d : Nat) (hX : X = x) (hY : Y = y) (hD : D = d) (hx : x < wd) (hy : y < hi) (hd : d < dp) (hw : wd ≤ 24) (hh : hi ≤ 24) (hd2 : dp ≤ 8) (h : VolAt W pb wd hi dp b 0 n c bs) :
    Calls Tryz.prog 89 #[.pointer (some ⟨pb, 0, none⟩), .int .i64 X, .int .i64 Y, .int .i64 D] W fun e w' => e = .returned (.float .f32 (gc bs wd dp x y d)) ∧ ∃ m, w' = W.drewN m := by
  subst hX hY hD
  obtain ⟨c0, c1, c2, c3, -, -, -, -⟩ := h.box.four
  have hle := ic_le (dp := dp) hx hy
  obtain ⟨e1, e2, e3, hk⟩ := icI (dp := dp) hw hx (show y < 24 by omega) hd2
  have hl := h.len
  obtain ⟨s1, s2, s3⟩ := h.sl.size
  have z := (h.cost hx hy hd).1
  rw [Nat.zero_add] at z
  have b0 : ic wd dp x y + d < n := by omega
  have e4 : IntKind.i64.wrap (((ic wd dp x y : Nat) : Int) + (d : Int)) = ((ic wd dp x y + d : Nat) : Int) := by rw [← Int.natCast_add]; exact IntWalk.i64_in _ (by omega)
  generalize gc bs wd dp x y d = v at *
  obtain ⟨k, hkk⟩ : ∃ k, k = ic wd dp x y + d := ⟨_, rfl⟩
  rw [← hkk] at z b0 e4
  generalize ic wd dp x y = k0 at *
  have b1 : (k : Int) < n := by omega
  have b2 : (0 : Int) ≤ (k : Int) := by omega
  clear hl s1 s2 s3 hle h hkk hk
  go_enter Tryz.func89, Tryz.ntmps89
  go_wp2_with fail
  go_quiet (fail)
  go_wp2
  go_ret
  exact ⟨rfl, _, rfl⟩

theorem own_of_lit {w w' : World} {B g cap n : Nat} {F : Nat → Nat} (h : w'.ownsRow B 25 1 (.slice (some ⟨g, 0, none⟩) n cap) n ((tab n F).map (Value.float .f32))) (hF : ∀ i, i < n → F i < 4294967296) : OwnF w' B (.slice (some ⟨g, 0, none⟩) n cap) (tab n F) :=
  ⟨by rw [tab_length]; exact h, fun b hb => by obtain ⟨i, hi, rfl⟩ := List.mem_map.1 hb; exact hF i (List.mem_range.1 hi)⟩

theorem l04CostsE (w : World) (pb wd hi dp b n c : Nat) (bs : List Nat) (X Y : Int) (x y : Nat) (hX : X = x) (hY : Y = y) (hx : x < wd) (hy : y < hi) (hw : wd ≤ 24) (hh : hi ≤ 24) (hd1 : 1 ≤ dp) (hd2 : dp ≤ 8) (h : VolAt w pb wd hi dp b 0 n c bs) (hb : b < w.heap.size) :
    Calls Tryz.prog 90 #[.pointer (some ⟨pb, 0, none⟩), .int .i64 X, .int .i64 Y] w fun e w' => ∃ g cc, e = .returned (.slice (some ⟨g, 0, none⟩) dp cc) ∧ OwnF w' w.heap.size (.slice (some ⟨g, 0, none⟩) dp cc) (tab dp (gc bs wd dp x y)) ∧ Below w.heap.size w w' := by
  subst hX hY
  obtain ⟨i0, hi0, hz0, hz1, hz2⟩ := info_parts info_f32d
  have hS := rowSl h hb hx hy
  rw [Nat.zero_add] at hS
  have hF : ∀ i, i < dp → gc bs wd dp x y i < 4294967296 := fun i hi_ => (h.cost (d := i) hx hy hi_).2
  obtain ⟨c0, c1, c2, c3, -, -, -, -⟩ := h.box.four
  have hle := ic_le (dp := dp) hx hy
  obtain ⟨e1, e2, e3, hk⟩ := icI (dp := dp) hw hx (show y < 24 by omega) hd2
  have hl := h.len
  obtain ⟨s1, s2, s3⟩ := h.sl.size
  obtain ⟨L, hL⟩ : ∃ L, L = tab dp (gc bs wd dp x y) := ⟨_, rfl⟩
  have hlen : L.length = dp := by rw [hL, tab_length]
  rw [← hL] at hS
  have HL := Lib.hid (And.intro hL hF)
  have VA := Lib.hid (fun W (hW : Below w.heap.size w W) => (h.below hW).box)
  have SA := Lib.hid (fun W (hW : Below w.heap.size w W) => hS.below hW)
  clear h hS hL hF
  generalize ic wd dp x y = k at *
  have b1 : (k : Int) ≤ 5000 := by omega
  have b2 : (1 : Int) ≤ (dp : Int) := by omega
  have b3 : (dp : Int) ≤ 8 := by omega
  have k1 : k + dp ≤ c := by omega
  have e4 : IntKind.i64.wrap ((k : Int) + (dp : Int)) = (k : Int) + dp := IntWalk.i64_in _ (by omega)
  have p1 : (k : Int) ≤ (k : Int) + dp := by omega
  have p2 : (k : Int) + dp ≤ (c : Int) := by omega
  have p3 : ((k : Int) + dp).toNat = k + dp := by omega
  have p4 : (0 : Int) ≤ (k : Int) + dp := by omega
  have k2 : ¬ dp = 0 := by omega
  have k5 : k + dp - k = dp := by omega
  have ck : ¬ c = k := by omega
  clear hl s1 hle
  go_enter Tryz.func90, Tryz.ntmps90
  go_wp2_with fail
  go_quiet (fail)
  obtain ⟨W1, hW1⟩ : ∃ W1, W1 = w.drewN nq := ⟨_, rfl⟩
  have hbW : Below w.heap.size w W1 := by rw [hW1]; exact below_drewN (Below.refl _ _) nq
  rw [← hW1]
  have hbA := hbW.alloc hbW.size (.cells #[] 25)
  have hn := news_of (SA.out _ (hbW.trans ((below_drewN (Below.refl _ _) 1).mono hbW.size))) (.cells #[] 25)
  obtain ⟨c0, c1, c2, c3, -, -, -, -⟩ := (VA.out _ hbW).four
  obtain ⟨d0, d1, d2, d3, -, -, -, -⟩ := (VA.out _ hbA).four
  have hown0 : (W1.alloc (.cells #[] 25)).drew.ownsRow W1.heap.size 25 1 (.slice (some ⟨W1.heap.size, 0, none⟩) 0 0) 0 [] := World.ownsRow_lit (base := W1.heap.size) (size := 1) (e := 25) W1 #[] 0 (Nat.le_refl _) (Nat.zero_le _) rfl
  have HA := Lib.hid (And.intro hbW hbA)
  clear hbW hbA hW1 c0 c1 c2 c3
  obtain ⟨c0, c1, c2, c3, -, -, -, -⟩ := (VA.out _ HA.out.1).four
  subst hlen
  go_upto_region 2 with fail
  go_region_law (first
    | (refine step_append_lies _ (by rfl) _ _ _ (by rfl) W1.heap.size 25 i0 _ 1 4 Tryz.underlying22 hi0 hz0 hz1 hz2 rfl (by omega) (.slice (some ⟨W1.heap.size, 0, none⟩) 0 0) 0 [] (by rfl) hown0 ⟨b, k, none⟩ L.length _ (L.map (Value.float .f32)) (by rfl) (by simp) hn (by simp [Value.oneCell']) (by omega) (by unfold maxLen; omega) (by omega) (by simp) (W1.heap.size + 1) (by simp) ?_; intro gg cap' w2 hown2 hgrow hat hlt2)
    | fail)
  all_goals
    have hbF := (HA.out.2.trans ((below_drewN (Below.refl _ _) 1).mono HA.out.2.size)).grown hgrow (by have := HA.out.1.size; simp; omega) (fun k hk => by have := HA.out.1.size; simp [Value.ownBlock] at hk; omega)
    go_wp2
    go_ret
    refine ⟨gg, cap', rfl, ?_, hbF⟩
    obtain ⟨q1, q2⟩ := HL.out
    have hown3 : OwnF w2 W1.heap.size (.slice (some ⟨gg, 0, none⟩) L.length cap') L := ⟨by simpa using hown2, fun b hb => by rw [q1] at hb; obtain ⟨i, hi, rfl⟩ := List.mem_map.1 hb; exact q2 i (List.mem_range.1 hi)⟩
    rw [← q1]
    exact hown3.mono HA.out.1.size

/-- A row that is led back from its last place. -/
def bkW (T : Nat → Nat → Nat) : Nat → Nat → Nat → Nat
  | 0, d, _ => d
  | n + 1, d, k => if k = n + 1 then d else bkW T n (T n d) k
theorem bkW_end (T : Nat → Nat → Nat) (n d : Nat) : bkW T n d n = d := by
  cases n with
  | zero => rfl
  | succ n => unfold bkW; rw [if_pos rfl]
theorem bkW_step (T : Nat → Nat → Nat) : ∀ n d k, k < n → bkW T n d k = T k (bkW T n d (k + 1)) := by
  intro n
  induction n with
  | zero => intro d k h; omega
  | succ n ih =>
    intro d k h
    have e1 : bkW T (n + 1) d k = bkW T n (T n d) k := by rw [bkW, if_neg (by omega)]
    rw [e1]
    by_cases hk : k = n
    · subst hk
      rw [bkW_end, bkW_end]
    · have e2 : bkW T (n + 1) d (k + 1) = bkW T n (T n d) (k + 1) := by rw [bkW, if_neg (by omega)]
      rw [e2]; exact ih _ _ (by omega)
theorem bkW_lt {T : Nat → Nat → Nat} {dp : Nat} (hT : ∀ x d, T x d < dp) : ∀ n d, d < dp → ∀ k, bkW T n d k < dp := by
  intro n
  induction n with
  | zero => intro d h k; exact h
  | succ n ih =>
    intro d h k
    unfold bkW
    split
    · exact h
    · exact ih _ (hT n d) k
def downL : Nat → List Nat
  | 0 => []
  | n + 1 => n :: downL n
theorem downL_snoc (n : Nat) : ∀ k, (List.range k).map (fun j => n + k - 1 - j) ++ downL n = downL (n + k) := by
  intro k
  induction k generalizing n with
  | zero => rfl
  | succ k ih =>
    have h := ih (n + 1)
    rw [show n + (k + 1) = n + 1 + k by omega, ← h, List.range_succ, List.map_append, List.append_assoc]
    show (List.range k).map (fun j => n + 1 + k - 1 - j) ++ ((n + 1 + k - 1 - k) :: downL n) = _ ++ (n :: downL n)
    rw [show n + 1 + k - 1 - k = n by omega]
theorem downL_map (n : Nat) : (List.range n).map (fun j => n - 1 - j) = downL n := by
  have h := downL_snoc 0 n
  simp only [Nat.zero_add] at h
  rw [← h]; exact (List.append_nil _).symm
theorem dn_map {len : Nat} : ∀ k, k ≤ len → (dn len k).map (·.1) = (List.range k).map (fun j => len - 1 - j) := by
  intro k
  induction k with
  | zero => intro _; rfl
  | succ k ih => intro h; rw [dn_succ (by omega), List.map_append, ih (by omega), List.range_succ, List.map_append]; rfl
/-- A list of integers that is told by their places. -/
def tabZ (n : Nat) (F : Nat → Nat) : List Int := (List.range n).map fun k => (F k : Int)
theorem tabZ_len (n : Nat) (F : Nat → Nat) : (tabZ n F).length = n := by simp [tabZ]
theorem tabZ_getD {n k : Nat} {F : Nat → Nat} (h : k < n) : (tabZ n F).getD k 0 = F k := by
  unfold tabZ
  rw [List.getD_eq_getElem?_getD, List.getElem?_map, List.getElem?_range h]; rfl
theorem tabZ_succ (n : Nat) (F : Nat → Nat) : tabZ (n + 1) F = tabZ n F ++ [(F n : Int)] := by simp [tabZ, List.range_succ]
theorem back_list (T : Nat → Nat → Nat) : ∀ n d acc, ((downL n).foldl (stp T) (d, acc ++ [(d : Int)])).2 = acc ++ (tabZ (n + 1) (bkW T n d)).reverse := by
  intro n
  induction n with
  | zero => intro d acc; rfl
  | succ n ih =>
    intro d acc
    have h := ih (T n d) (acc ++ [(d : Int)])
    show ((downL n).foldl (stp T) (T n d, (acc ++ [(d : Int)]) ++ [(T n d : Int)])).2 = _
    rw [h, tabZ_succ (n + 1), List.reverse_append, List.append_assoc]
    congr 1
    show [(d : Int)] ++ _ = [(bkW T (n + 1) d (n + 1) : Int)] ++ _
    rw [bkW_end]
    congr 2
    unfold tabZ
    refine List.map_congr_left fun k hk => ?_
    have hk := List.mem_range.1 hk
    show (bkW T n (T n d) k : Int) = ((if k = n + 1 then d else bkW T n (T n d) k : Nat) : Int)
    rw [if_neg (by omega)]
theorem outs_back (T : Nat → Nat → Nat) (n d : Nat) : (outs T d (dn n n)).2.reverse = tabZ (n + 1) (bkW T n d) := by
  unfold outs
  rw [dn_map n (Nat.le_refl _), downL_map]
  have h := back_list T n d []
  rw [List.nil_append, List.nil_append] at h
  rw [h, List.reverse_reverse]
/-- The disparity of a solved row. -/
def rowD (C : Nat → Nat → Nat) (o m dp wd : Nat) : Nat → Nat := bkW (tW C o m dp) (wd - 1) (fstW (vW C o m dp (wd - 1)) dp)
theorem rowE_eq {C : Nat → Nat → Nat} {o m dp wd : Nat} (h : 1 ≤ wd) : rowE C o m dp wd = tabZ wd (rowD C o m dp wd) := by
  unfold rowE
  rw [outs_back, show wd - 1 + 1 = wd by omega]
  rfl

end Go.Proofs.YtabbjilgpfnacaaGreat

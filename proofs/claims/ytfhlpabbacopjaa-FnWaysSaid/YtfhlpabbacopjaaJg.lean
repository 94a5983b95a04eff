/- SolveRow. -/
import Derived.Test.YtfhlpabbacopjaaJf
import Derived.Test.YtfhlpabbacopjaaJb
namespace Go.Proofs.Ytfhlpabbacopjaa
open Go.RowKit Go.Shelf
set_option maxRecDepth 100000
set_option linter.unusedVariables false
set_option linter.unusedSimpArgs false

def CY (P : Int → Int → List Int) (y : Nat) : Nat → Nat → Int := fun x d => cC P x y d
/-- The row that is solved: its last disparity, the row, its cost. -/
def solD (P : Int → Int → List Int) (one more : Int) (dp wd y : Nat) : Nat := fstA (tabI dp (dpG (CY P y) (prI one more) dp (wd - 1))) dp
def solR (P : Int → Int → List Int) (one more : Int) (dp wd y : Nat) : Nat → Nat := backR (CY P y) (prI one more) dp (wd - 1) (solD P one more dp wd y)
def solC (P : Int → Int → List Int) (one more : Int) (dp wd y : Nat) : Int := dpG (CY P y) (prI one more) dp (wd - 1) (solD P one more dp wd y)
def downL : Nat → List Nat
  | 0 => []
  | n + 1 => n :: downL n
theorem downL_snoc (n : Nat) : ∀ k, (List.range k).map (fun j => n + k - 1 - j) ++ downL n = downL (n + k) := by
  intro k
  induction k generalizing n with
  | zero => rfl
  | succ k ih =>
    have h := ih (n + 1)
    rw [show n + (k + 1) = n + 1 + k by omega, ← h, List.range_succ, List.map_append, List.append_assoc]
    show (List.range k).map (fun j => n + 1 + k - 1 - j) ++ ((n + 1 + k - 1 - k) :: downL n) = _ ++ (n :: downL n)
    rw [show n + 1 + k - 1 - k = n by omega]
theorem downL_map (n : Nat) : (List.range n).map (fun j => n - 1 - j) = downL n := by
  have h := downL_snoc 0 n
  simp only [Nat.zero_add] at h
  rw [← h]; exact (List.append_nil _).symm
theorem dn_map {len : Nat} : ∀ k, k ≤ len → (dn len k).map (·.1) = (List.range k).map (fun j => len - 1 - j) := by
  intro k
  induction k with
  | zero => intro _; rfl
  | succ k ih => intro h; rw [dn_succ (by omega), List.map_append, ih (by omega), List.range_succ, List.map_append]; rfl
theorem back_list (C : Nat → Nat → Int) (pr : Nat → Nat → Int) (dp : Nat) : ∀ n d acc, ((downL n).foldl (stp (dpT C pr dp)) (d, acc ++ [(d : Int)])).2 = acc ++ (tabI (n + 1) fun k => (backR C pr dp n d k : Int)).reverse := by
  intro n
  induction n with
  | zero => intro d acc; rfl
  | succ n ih =>
    intro d acc
    have h := ih (dpT C pr dp n d) (acc ++ [(d : Int)])
    show ((downL n).foldl (stp (dpT C pr dp)) (dpT C pr dp n d, (acc ++ [(d : Int)]) ++ [(dpT C pr dp n d : Int)])).2 = _
    rw [h, tabI_succ (n + 1), List.reverse_append, List.append_assoc]
    congr 1
    show [(d : Int)] ++ _ = [(backR C pr dp (n + 1) d (n + 1) : Int)] ++ _
    rw [backR_end]
    congr 2
    unfold tabI
    refine List.map_congr_left fun k hk => ?_
    have hk := List.mem_range.1 hk
    show (backR C pr dp n (dpT C pr dp n d) k : Int) = ((if k = n + 1 then d else backR C pr dp n (dpT C pr dp n d) k : Nat) : Int)
    rw [if_neg (by omega)]
theorem outs_back (C : Nat → Nat → Int) (pr : Nat → Nat → Int) (dp n d : Nat) : (outs (dpT C pr dp) d (dn n n)).2.reverse = tabI (n + 1) fun k => (backR C pr dp n d k : Int) := by
  unfold outs
  rw [dn_map n (Nat.le_refl _), downL_map]
  have h := back_list C pr dp n d []
  rw [List.nil_append, List.nil_append] at h
  rw [h, List.reverse_reverse]
theorem dpG_bd {C : Nat → Nat → Int} {pr : Nat → Nat → Int} {dp wd : Nat} (h1 : 1 ≤ dp) (hC : ∀ x d, x < wd → d < dp → 0 ≤ C x d ∧ C x d ≤ 100) (hp : ∀ a b, 0 ≤ pr a b ∧ pr a b ≤ 100) : ∀ x, x < wd → ∀ d, d < dp → 0 ≤ dpG C pr dp x d ∧ dpG C pr dp x d ≤ 100 + 200 * x := by
  intro x
  induction x with
  | zero => intro hx d hd; have := hC 0 d hx hd; exact ⟨this.1, by show C 0 d ≤ _; omega⟩
  | succ x ih =>
    intro hx d hd
    have a := ih (by omega) _ (dpT_lt C pr dp h1 x d)
    have b := hC (x + 1) d hx hd
    have c := hp (dpT C pr dp x d) d
    rw [dpG_at C pr dp h1]
    omega
theorem sol_lt {P : Int → Int → List Int} {one more : Int} {dp wd y : Nat} (h : 1 ≤ dp) (k : Nat) : solR P one more dp wd y k < dp := backR_lt _ _ dp h _ _ (fstA_ok _ dp h).1 k
theorem sol_cost {P : Int → Int → List Int} {one more : Int} {dp wd y : Nat} (h : 1 ≤ dp) : rowC (CY P y) (prI one more) (solR P one more dp wd y) (wd - 1) = solC P one more dp wd y := backR_cost _ _ dp h _ _
/-- No row costs less than the one that is solved. -/
theorem sol_least {P : Int → Int → List Int} {one more : Int} {dp wd y : Nat} (h : 1 ≤ dp) (v : Nat → Nat) (hv : ∀ k, k ≤ wd - 1 → v k < dp) : solC P one more dp wd y ≤ rowC (CY P y) (prI one more) v (wd - 1) := by
  have a := dpG_least (CY P y) (prI one more) dp h v (wd - 1) hv
  have b := (fstA_ok (tabI dp (dpG (CY P y) (prI one more) dp (wd - 1))) dp h)
  have c := b.2.1 (v (wd - 1)) (hv _ (Nat.le_refl _))
  rw [tabI_get b.1, tabI_get (hv _ (Nat.le_refl _))] at c
  unfold solC solD
  omega

theorem solve_is (w : World) (vb wd hi dp N qv Nv cv y : Nat) (bs : List Nat) (P : Int → Int → List Int) (one more : Int) (hC : Cst P bs wd hi dp N Nv one more)
    (hV : VolAt w vb wd hi dp qv 0 Nv cv bs) (hy : y < hi) (hqv : qv < w.heap.size) :
    Calls Try.prog 57 #[.pointer (some ⟨vb, 0, none⟩), .agg #[.float .f32 (fq 2 one), .float .f32 (fq 2 more)], .int .i64 y] w fun e w' => ∃ g c, e = .returned (.tuple #[.slice (some ⟨g, 0, none⟩) wd c, .float .f32 (fq 2 (solC P one more dp wd y)), .bool true]) ∧ OwnI w' w.heap.size (.slice (some ⟨g, 0, none⟩) wd c) (tabI wd fun k => (solR P one more dp wd y k : Int)) ∧ Below w.heap.size w w' := by
  obtain ⟨d1, d2, d3, d4, d5, d6, d7, d8, d9, d10⟩ := hC.dims
  have hcc : ∀ x d, x < wd → d < dp → 0 ≤ CY P y x d ∧ CY P y x d ≤ 100 := fun x d hx hd => hC.hc x y d hx hy hd
  have hpp : ∀ a b, 0 ≤ prI one more a b ∧ prI one more a b ≤ 100 := fun a b => by have := prI_bd hC.o0 hC.o1 a b; have := hC.o2; omega
  refine (solve_any w vb wd hi dp qv Nv cv y bs P one more (dpG (CY P y) (prI one more) dp) (dpT (CY P y) (prI one more) dp) hV hC.qv d1 d2 d4 d5 d6 hy hqv (fun x d hx hd => hC.hc x y d hx hy hd) hC.o0 hC.o1 hC.o2
    (fun d hd => rfl) (fun x d d' hx hd hf => ?_) (fun x d hx hd => ?_) (fun i d hd => dpT_lt _ _ dp d5 i d)).mono ?_
  · have e : dpT (CY P y) (prI one more) dp x d = d' := FstL.unique (fstA_ok _ dp d5) hf
    refine ⟨e, ?_⟩
    rw [dpG_at _ _ dp d5, e]
    rfl
  · have := dpG_bd d5 hcc hpp x hx d hd
    omega
  · rintro e w' ⟨d0, g, c, hf, rfl, hown, hb⟩
    have hd : d0 = solD P one more dp wd y := FstL.unique hf (fstA_ok _ dp d5)
    rw [outs_back, show wd - 1 + 1 = wd by omega, hd] at hown
    exact ⟨g, c, by rw [hd]; rfl, hown, hb⟩

set_option maxHeartbeats 2000000 in
theorem solveRow_ok (w : World) (wd hi dp N qv Nv cv y : Nat) (bs : List Nat) (P : Int → Int → List Int) (one more : Int) (hC : Cst P bs wd hi dp N Nv one more)
    (hv : SlF w (.slice (some ⟨qv, 0, none⟩) Nv cv) bs) (hlv : bs.length = wd * hi * dp) (hy : y < hi) (hqv : qv < w.heap.size) :
    Calls Try.prog 21 #[.agg #[.int .i64 wd, .int .i64 hi, .int .i64 dp, .slice (some ⟨qv, 0, none⟩) Nv cv], .agg #[.float .f32 (fq 2 one), .float .f32 (fq 2 more)], .int .i64 y] w fun e w' => ∃ g c, e = .returned (.tuple #[.slice (some ⟨g, 0, none⟩) wd c, .float .f32 (fq 2 (solC P one more dp wd y)), .bool true]) ∧ OwnI w' w.heap.size (.slice (some ⟨g, 0, none⟩) wd c) (tabI wd fun k => (solR P one more dp wd y k : Int)) ∧ Below w.heap.size w w' := by
  obtain ⟨d1, d2, d3, d4, d5, d6, d7, d8, d9, d10⟩ := hC.dims
  have KR := Lib.hid (fun w => rowOk_yes w wd hi dp Nv y (some ⟨qv, 0, none⟩) cv one more hC.vv d9 hy d4 hC.o0 hC.o1 (by have := hC.o2; omega))
  have KS := Lib.hid (fun w vb hV hq => solve_is w vb wd hi dp N qv Nv cv y bs P one more hC hV hy hq)
  have HN := Lib.hid d7
  obtain ⟨vo, hvo⟩ : ∃ vo, vo = fq 2 one := ⟨_, rfl⟩
  obtain ⟨vm, hvm⟩ : ∃ vm, vm = fq 2 more := ⟨_, rfl⟩
  rw [← hvo, ← hvm] at KR KS ⊢
  have hb0 := below_two w (.cells #[.int .i64 wd, .int .i64 hi, .int .i64 dp, .slice (some ⟨qv, 0, none⟩) Nv cv] 26) (.cells #[.float .f32 vo, .float .f32 vm] 30)
  have BV := BoxN.first w #[.int .i64 wd, .int .i64 hi, .int .i64 dp, .slice (some ⟨qv, 0, none⟩) Nv cv] 26 (.cells #[.float .f32 vo, .float .f32 vm] 30)
  have BP := BoxN.second w #[.float .f32 vo, .float .f32 vm] 30 (.cells #[.int .i64 wd, .int .i64 hi, .int .i64 dp, .slice (some ⟨qv, 0, none⟩) Nv cv] 26)
  have hv1 := hv.below hb0
  have HB0 := Lib.hid hb0
  have HLV := Lib.hid hlv
  have HQV := Lib.hid hqv
  clear hv hb0 hC d7 hvo hvm hlv hqv
  go_enter Try.func21, Try.ntmps21
  go_wp2_with fail
  refine (KR.out _).mono ?_
  rintro e w1 ⟨rfl, hb1⟩
  have BP1 := BP.below hb1
  have BV1 := BV.below hb1
  have HV1 := Lib.hid (VolAt.mk BV1 (hv1.below hb1) HLV.out)
  have HB1 := Lib.hid (HB0.out.trans (hb1.mono HB0.out.size))
  have zp0 := BP1.cell 0
  have zp1 := BP1.cell 1
  simp only [List.size_toArray, List.length_cons, List.length_nil, List.getElem?_toArray, List.getElem?_cons_zero, List.getElem?_cons_succ] at zp0 zp1
  have KS1 := Lib.hid (KS.out w1 w.heap.size HV1.out (Nat.lt_of_lt_of_le HQV.out HB1.out.size))
  clear hb1 BP BV hv1
  go_wp2_with fail
  refine KS1.out.mono ?_
  rintro e w2 ⟨g, c, rfl, hown, hb2⟩
  have HB2 := Lib.hid (HB1.out.trans (hb2.mono HB1.out.size))
  have HOW := Lib.hid (OwnI.base hown HB1.out.size)
  clear hb2 hown
  go_wp2_with fail
  first | go_ret3 | go_ret
  exact ⟨g, c, rfl, HOW.out, HB2.out⟩

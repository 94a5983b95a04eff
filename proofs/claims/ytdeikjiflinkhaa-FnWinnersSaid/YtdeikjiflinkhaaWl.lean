/- Volumes of quarters: mixed, capped, boxed, seen from the right, shallow. -/
import Derived.Test.YtdeikjiflinkhaaWj
import Derived.Test.YtdeikjiflinkhaaWk
namespace Go.Proofs.Ytdeikjiflinkhaa
open Go.RowKit
set_option maxRecDepth 100000
set_option linter.unusedVariables false
set_option linter.unusedSimpArgs false

theorem tab3_get {wd hi dp : Nat} {g : Nat → Nat → Nat → Nat} {i : Nat} (hi_ : i < hi * wd * dp) : (tab3 wd hi dp g).getD i 0 = g (i / dp % wd) (i / dp / wd) (i % dp) := by
  unfold tab3
  rw [List.getD_eq_getElem?_getD, List.getElem?_eq_getElem (by rw [tab_length]; exact hi_), tab_get]; rfl
theorem ix_parts {wd hi dp M i : Nat} (hM : M = wd * hi * dp) (hw : 0 < wd) (hd : 0 < dp) (hi_ : i < M) : i / dp % wd < wd ∧ i / dp / wd < hi ∧ i % dp < dp ∧ (i / dp % wd + wd * (i / dp / wd)) * dp + i % dp = i ∧ i < hi * wd * dp := by
  refine ⟨Nat.mod_lt _ hw, ?_, Nat.mod_lt _ hd, ?_, by rw [hM, Nat.mul_comm wd hi] at hi_; exact hi_⟩
  · rw [Nat.div_div_eq_div_mul]
    exact (Nat.div_lt_iff_lt_mul (Nat.mul_pos hd hw)).2 (by rw [hM] at hi_; calc i < wd * hi * dp := hi_
      _ = hi * (dp * wd) := by rw [Nat.mul_comm wd hi, Nat.mul_assoc, Nat.mul_comm wd dp])
  · rw [Nat.mod_add_div]
    have := Nat.div_add_mod i dp
    rw [Nat.mul_comm] at this; exact this
theorem map_getD (bs : List Nat) (i : Nat) (h : i < bs.length) : (bs.map fl).getD i 0 = fl (bs.getD i 0) := by
  rw [List.getD_eq_getElem?_getD, List.getD_eq_getElem?_getD, List.getElem?_map, List.getElem?_eq_getElem h]; rfl
/-- Words that are told exactly by quarters. -/
theorem words_q {bs : List Nat} {wd hi dp M : Nat} {g : Nat → Nat → Nat → Nat} {F : Nat → Int} (hM : M = wd * hi * dp) (hw : 0 < wd) (hd : 0 < dp) (hl : bs.length = M) (hc : bs.map fl = tab3 wd hi dp g)
    (hg : ∀ x y d, x < wd → y < hi → d < dp → g x y d = fq 2 (F ((x + wd * y) * dp + d))) (hF : ∀ i, i < M → (F i).natAbs ≤ 1000) : bs = (tabI M F).map (fq 2) := by
  apply List.ext_getElem (by rw [List.length_map, tabI_length, hl])
  intro i h1 h2
  have hiM : i < M := by rw [← hl]; exact h1
  obtain ⟨p1, p2, p3, p4, p5⟩ := ix_parts hM hw hd hiM
  have e : (bs.map fl).getD i 0 = (tab3 wd hi dp g).getD i 0 := by rw [hc]
  rw [map_getD _ _ h1, tab3_get p5, hg _ _ _ p1 p2 p3, p4] at e
  have e2 := eq_of_flq (by have := hF i hiM; omega) e
  rw [List.getD_eq_getElem?_getD, List.getElem?_eq_getElem h1] at e2
  have e3 : ((tabI M F).map (fq 2))[i] = fq 2 (F i) := by simp [tabI]
  rw [e3]; exact e2

/-- A volume of quarters, made anew, and true. -/
def MakesVQ (w : World) (wd hi dp M : Nat) (ks : List Int) (e : Ending) (w' : World) : Prop :=
  ∃ q c, e = .returned (.tuple #[.agg #[.int .i64 wd, .int .i64 hi, .int .i64 dp, .slice (some ⟨q, 0, none⟩) M c], .bool true]) ∧ MQ w' q c M ks ∧ Below w.heap.size w w'
theorem MakesVW.vq {w w' : World} {wd hi dp M : Nat} {g : Nat → Nat → Nat → Nat} {F : Nat → Int} {e : Ending} (h : MakesVW w wd hi dp M g e w') (hM : M = wd * hi * dp) (hw : 0 < wd) (hd : 0 < dp)
    (hg : ∀ x y d, x < wd → y < hi → d < dp → g x y d = fq 2 (F ((x + wd * y) * dp + d))) (hF : ∀ i, i < M → (F i).natAbs ≤ 1000) : MakesVQ w wd hi dp M (tabI M F) e w' := by
  obtain ⟨q, c, bs, rfl, hm, hc, -, hb⟩ := h
  have hbs := words_q hM hw hd hm.len hc hg hF
  refine ⟨q, c, rfl, ⟨?_, hm.lt, fun k hk => ?_⟩, hb⟩
  · have := hm.sl; rw [hbs] at this; exact this
  · obtain ⟨i, hi_, rfl⟩ := mem_tabI hk; exact hF i hi_

theorem MQ.ksb {W : World} {q c N : Nat} {ks : List Int} (h : MQ W q c N ks) (i : Nat) : (ks.getD i 0).natAbs ≤ 1000 := h.kb i

theorem half_mul {k : Int} (h : k.natAbs ≤ 1000) (h0 : 0 ≤ k) : floatBits .mul .f32 (fq 2 k) 1056964608 = some (fq 3 k) := by
  have e : (1056964608 : Nat) = fq 1 1 := by decide +kernel
  rw [e]
  have := fq_mul (g := 2) (h := 1) (by omega) (a := k) (b := 1) (by omega) (by omega) (by omega) (by intro _; omega)
  rwa [Int.mul_one] at this
theorem half_add {k : Int} (h : k.natAbs ≤ 1000) : floatBits .add .f32 (fq 3 k) (fq 3 k) = some (fq 2 k) := by
  have := fq_add (g := 3) (a := k) (b := k) (by omega) (by omega) (by omega)
  rw [this]
  congr 1
  have e := fq_shift (g := 2) (j := 1) (by omega) k
  have e2 : k * ((2 ^ 1 : Nat) : Int) = k + k := by simp; omega
  rw [e2] at e; exact e

theorem mix_q (w : World) (wd hi dp M q c : Nat) (ks : List Int) (hv : vVol wd hi dp M = true) (hp : MQ w q c M ks) (hk : ∀ k ∈ ks, 0 ≤ k) :
    Calls Try.prog 8 #[.agg #[.int .i64 wd, .int .i64 hi, .int .i64 dp, .slice (some ⟨q, 0, none⟩) M c], .agg #[.int .i64 wd, .int .i64 hi, .int .i64 dp, .slice (some ⟨q, 0, none⟩) M c], .float .f32 1056964608] w (MakesVQ w wd hi dp M ks) := by
  obtain ⟨hpic, hM, d1, d2, d3, d4, d5, d6, d7, d8⟩ := vVol_pic hv
  have h0 : ∀ i, 0 ≤ ks.getD i 0 := fun i => by
    rw [List.getD_eq_getElem?_getD]
    cases e : ks[i]? with
    | none => simp
    | some z => exact hk z (List.mem_of_getElem? e)
  have hg : MixTold (ks.map (fq 2)) (ks.map (fq 2)) wd hi dp 1056964608 1056964608 (fun x y d => fq 2 (ks.getD ((x + wd * y) * dp + d) 0)) := fun x y d hx hy hd => by
    rw [gc_q hM hp.len hx hy hd]
    have hb := hp.kb ((x + wd * y) * dp + d)
    exact ⟨_, _, _, half_mul hb (h0 _), half_mul hb (h0 _), half_add hb, fq_lt (by omega), fl_fq (by omega)⟩
  refine (mix_w w wd hi dp M q c q c 1056964608 1056964608 _ _ _ (by decide +kernel) hg hv hp.mw hp.mw).mono ?_
  intro e w' h
  have := h.vq (F := fun i => ks.getD i 0) hM d1 d6 (fun _ _ _ _ _ _ => rfl) (fun i _ => hp.kb i)
  rwa [tabI_ext hp.len] at this

def capF (ks : List Int) (m : Int) (i : Nat) : Int := min (ks.getD i 0) m
theorem cap_q (w : World) (wd hi dp M q c : Nat) (ks : List Int) (m : Int) (hm0 : 0 ≤ m) (hm : m ≤ 1000) (hv : vVol wd hi dp M = true) (hp : MQ w q c M ks) :
    Calls Try.prog 9 #[.agg #[.int .i64 wd, .int .i64 hi, .int .i64 dp, .slice (some ⟨q, 0, none⟩) M c], .float .f32 (fq 2 m)] w (MakesVQ w wd hi dp M (tabI M (capF ks m))) := by
  obtain ⟨hpic, hM, d1, d2, d3, d4, d5, d6, d7, d8⟩ := vVol_pic hv
  refine (cap_w w wd hi dp M q c _ (fq 2 m) (fq_lt (by omega)) hv hp.mw).mono ?_
  intro e w' h
  refine h.vq (F := capF ks m) hM d1 d6 (fun x y d hx hy hd => ?_) (fun i _ => by have := hp.kb i; unfold capF; omega)
  unfold capW capF
  rw [gc_q hM hp.len hx hy hd]
  have hb := hp.kb ((x + wd * y) * dp + d)
  rw [lt32_fq (by omega) (by omega), fl_fq (by omega), fl_fq (by omega)]
  by_cases e : m < ks.getD ((x + wd * y) * dp + d) 0
  · rw [decide_eq_true e, if_pos rfl]; congr 1; omega
  · rw [decide_eq_false e, if_neg (by simp)]; congr 1; omega

def othF (ks : List Int) (wd dp : Nat) (i : Nat) : Int := ks.getD ((min (i / dp % wd + i % dp) (wd - 1) + wd * (i / dp / wd)) * dp + i % dp) 0
theorem lin_parts {wd dp x y d : Nat} (hx : x < wd) (hd : d < dp) : ((x + wd * y) * dp + d) / dp % wd = x ∧ ((x + wd * y) * dp + d) / dp / wd = y ∧ ((x + wd * y) * dp + d) % dp = d := by
  obtain ⟨h1, h2, h3, h4⟩ := cell_parts (wd := wd) (dp := dp) (x := x) (y := y) (d := d) hx hd
  rw [Nat.mul_comm wd y, Nat.add_comm x]
  rw [h1, h2]
  exact ⟨h3, h4, rfl⟩
theorem other_q (w : World) (wd hi dp M q c : Nat) (ks : List Int) (hv : vVol wd hi dp M = true) (hp : MQ w q c M ks) :
    Calls Try.prog 11 #[.agg #[.int .i64 wd, .int .i64 hi, .int .i64 dp, .slice (some ⟨q, 0, none⟩) M c]] w (MakesVQ w wd hi dp M (tabI M (othF ks wd dp))) := by
  obtain ⟨hpic, hM, d1, d2, d3, d4, d5, d6, d7, d8⟩ := vVol_pic hv
  refine (other_w w wd hi dp M q c _ hv hp.mw).mono ?_
  intro e w' h
  refine h.vq (F := othF ks wd dp) hM d1 d6 (fun x y d hx hy hd => ?_) (fun i _ => hp.kb _)
  unfold othW othF
  obtain ⟨e1, e2, e3⟩ := lin_parts (y := y) hx hd
  rw [e1, e2, e3, gc_q hM hp.len (by omega) hy hd]
  exact fl_fq (by have := hp.kb ((min (x + d) (wd - 1) + wd * y) * dp + d); omega)

def shF (ks : List Int) (dp D : Nat) (i : Nat) : Int := ks.getD (i / D * dp + i % D) 0
theorem shallow_q (w : World) (wd hi dp M q c D : Nat) (ks : List Int) (hD1 : 1 ≤ D) (hD : D ≤ dp) (hv : vVol wd hi dp M = true) (hp : MQ w q c M ks) :
    Calls Try.prog 12 #[.agg #[.int .i64 wd, .int .i64 hi, .int .i64 dp, .slice (some ⟨q, 0, none⟩) M c], .int .i64 D] w (MakesVQ w wd hi D (wd * hi * D) (tabI (wd * hi * D) (shF ks dp D))) := by
  obtain ⟨hpic, hM, d1, d2, d3, d4, d5, d6, d7, d8⟩ := vVol_pic hv
  refine (shallow_w w wd hi dp M q c D _ hD1 hD hv hp.mw).mono ?_
  intro e w' h
  refine h.vq (F := shF ks dp D) rfl d1 hD1 (fun x y d hx hy hd => ?_) (fun i _ => hp.kb _)
  unfold shF
  rw [gc_q hM hp.len hx hy (by omega)]
  have e1 : ((x + wd * y) * D + d) / D = x + wd * y := by rw [Nat.mul_comm, Nat.mul_add_div (by omega), Nat.div_eq_of_lt hd, Nat.add_zero]
  have e2 : ((x + wd * y) * D + d) % D = d := by rw [Nat.mul_comm, Nat.mul_add_mod, Nat.mod_eq_of_lt hd]
  rw [e1, e2]
  exact fl_fq (by have := hp.kb ((x + wd * y) * dp + d); omega)

theorem costAt_q (w : World) (wd hi dp M q c x y d : Nat) (ks : List Int) (hx : x < wd) (hy : y < hi) (hd : d < dp) (hv : vVol wd hi dp M = true) (hp : MQ w q c M ks) :
    Calls Try.prog 15 #[.agg #[.int .i64 wd, .int .i64 hi, .int .i64 dp, .slice (some ⟨q, 0, none⟩) M c], .int .i64 x, .int .i64 y, .int .i64 d] w fun e w' => e = .returned (.tuple #[.float .f32 (fq 2 (ks.getD ((x + wd * y) * dp + d) 0)), .bool true]) ∧ Below w.heap.size w w' := by
  obtain ⟨hpic, hM, -⟩ := vVol_pic hv
  have := costAt_w w wd hi dp M q c x y d _ hx hy hd hv hp.mw
  rwa [gc_q hM hp.len hx hy hd] at this

theorem quo_one {k : Int} (h0 : 0 ≤ k) (h : k ≤ 1000) : fop .quo (fq 2 k) (fq 0 1) = fq 2 k := by
  by_cases e : k = 0
  · subst e; decide +kernel
  · have := (Bd.fopQuoB (n := 1) (L := k) (H := k) (a := fq 2 k) (by rw [Int.one_mul]; exact Bd.of (by omega) (by omega) h0 (by omega)) h0 (by omega) (by omega) (by omega) (by omega)).one (by omega) (by omega)
    exact this
theorem winS_zero (ks : List Int) {wd hi : Nat} (x y : Nat) (hx : x < wd) (hy : y < hi) : winS ks wd hi x y 0 = ks.getD (x + wd * y) 0 := by
  unfold winS
  show 0 + (0 + winF ks wd hi x y 0 0 0) = _
  unfold winF ix
  have e1 : cl ((x : Int) - ((0 : Nat) : Int) + ((0 : Nat) : Int)) wd = x := by have := cl_nat hx; simpa using this
  have e2 : cl ((y : Int) - ((0 : Nat) : Int) + ((0 : Nat) : Int)) hi = y := by have := cl_nat hy; simpa using this
  rw [e1, e2]; omega
theorem box0_q (w : World) (wd hi dp M q c : Nat) (ks : List Int) (hv : vVol wd hi dp M = true) (hp : MQ w q c M ks) (hk : ∀ k ∈ ks, 0 ≤ k ∧ k ≤ 1000) :
    Calls Try.prog 10 #[.agg #[.int .i64 wd, .int .i64 hi, .int .i64 dp, .slice (some ⟨q, 0, none⟩) M c], .int .i64 0] w (MakesVQ w wd hi dp M ks) := by
  obtain ⟨hpic, hM, d1, d2, d3, d4, d5, d6, d7, d8⟩ := vVol_pic hv
  have h0 : ∀ i, 0 ≤ ks.getD i 0 ∧ ks.getD i 0 ≤ 1000 := fun i => by
    rw [List.getD_eq_getElem?_getD]
    cases e : ks[i]? with
    | none => simp
    | some z => exact hk z (List.mem_of_getElem? e)
  refine (boxV_w w wd hi dp M q c 0 ks hv hp (by omega) hk).mono ?_
  intro e w' h
  have := h.vq (F := fun i => ks.getD i 0) hM d1 d6 (fun x y d hx hy hd => by
    unfold bxV boxQ
    rw [winS_zero _ x y hx hy, tabI_get (xy_lt hx hy)]
    show fop .quo (fq 2 (ks.getD ((x + wd * y) * dp + d) 0)) (fq 0 1) = _
    exact quo_one (h0 _).1 (h0 _).2) (fun i _ => hp.kb i)
  rwa [tabI_ext hp.len] at this

/-- A volume of words between quarters, made anew, and true. -/
def MakesVB (w : World) (wd hi dp M : Nat) (L H : Int) (e : Ending) (w' : World) : Prop :=
  ∃ q c bs, e = .returned (.tuple #[.agg #[.int .i64 wd, .int .i64 hi, .int .i64 dp, .slice (some ⟨q, 0, none⟩) M c], .bool true]) ∧ MW w' q c M bs ∧ (∀ i, i < M → Bd L H (bs.getD i 0)) ∧ Below w.heap.size w w'
theorem box_b (w : World) (wd hi dp M q c r : Nat) (H : Int) (ks : List Int) (hv : vVol wd hi dp M = true) (hp : MQ w q c M ks) (hr : r ≤ 3) (hH : H ≤ 1000) (hH0 : 0 ≤ H) (hk : ∀ k ∈ ks, 0 ≤ k ∧ k ≤ H) :
    Calls Try.prog 10 #[.agg #[.int .i64 wd, .int .i64 hi, .int .i64 dp, .slice (some ⟨q, 0, none⟩) M c], .int .i64 r] w (MakesVB w wd hi dp M 0 H) := by
  obtain ⟨hpic, hM, d1, d2, d3, d4, d5, d6, d7, d8⟩ := vVol_pic hv
  have h0 : ∀ i, 0 ≤ ks.getD i 0 ∧ ks.getD i 0 ≤ H := fun i => by
    rw [List.getD_eq_getElem?_getD]
    cases e : ks[i]? with
    | none => simpa using hH0
    | some z => exact hk z (List.mem_of_getElem? e)
  refine (boxV_w w wd hi dp M q c r ks hv hp hr (fun k h => ⟨(hk k h).1, by have := (hk k h).2; omega⟩)).mono ?_
  rintro e w' ⟨q', c', bs, rfl, hm, hc, -, hb⟩
  refine ⟨q', c', bs, rfl, hm, fun i hi_ => ?_, hb⟩
  obtain ⟨p1, p2, p3, p4, p5⟩ := ix_parts hM d1 d6 hi_
  have hbd : Bd 0 H (bxV ks wd hi dp r (i / dp % wd) (i / dp / wd) (i % dp)) :=
    boxQ_bd _ _ (fun j hj => by rw [tabI_get hj]; exact h0 _) d1 d3 hr (by omega) hH0 hH
  have e : (bs.map fl).getD i 0 = (tab3 wd hi dp (bxV ks wd hi dp r)).getD i 0 := by rw [hc]
  rw [map_getD _ _ (by rw [hm.len]; exact hi_), tab3_get p5] at e
  have hn : nan32 (bs.getD i 0) = false := by rw [← nan32_fl, e]; exact hbd.nan
  rw [← fl_eq hn, e]; exact hbd

theorem sameVol_y (w : World) (a b d : Int) (s1 s2 : Option Addr) (n1 n2 c1 c2 : Nat) (xs ys : List Nat) (h1 : SlF w (.slice s1 n1 c1) xs) (h2 : SlF w (.slice s2 n2 c2) ys) (he : xs.map fl = ys.map fl) :
    Calls Try.prog 13 #[.agg #[.int .i64 a, .int .i64 b, .int .i64 d, .slice s1 n1 c1], .agg #[.int .i64 a, .int .i64 b, .int .i64 d, .slice s2 n2 c2]] w fun e w' => e = .returned (.bool true) ∧ Below w.heap.size w w' := by
  have hb := below_two w (.cells #[.int .i64 a, .int .i64 b, .int .i64 d, .slice s1 n1 c1] 26) (.cells #[.int .i64 a, .int .i64 b, .int .i64 d, .slice s2 n2 c2] 26)
  have K := Lib.hid (sameList_yes _ _ _ xs ys (h1.below hb) (h2.below hb) he)
  go_enter Try.func13, Try.ntmps13
  go_wp2_with fail
  refine K.out.mono ?_
  rintro e w' ⟨rfl, rfl⟩
  go_wp2
  go_ret
  exact ⟨rfl, hb⟩

end Go.Proofs.Ytdeikjiflinkhaa

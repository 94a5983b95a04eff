/- Rounds of filling: the cells beside one, filled$1. -/
import Derived.Test.YticbgeknledpcaaFs
import Derived.Test.YticbgeknledpcaaMc
import Derived.Test.YticbgeknledpcaaPb
namespace Go.Proofs.Yticbgeknledpcaa
open Go.RowKit
set_option maxRecDepth 100000
set_option linter.unusedVariables false
set_option linter.unusedSimpArgs false

def besV (x y : Int) : Value := .agg #[.int .i64 x, .int .i64 (y - 1), .int .i64 x, .int .i64 (y + 1), .int .i64 (x - 1), .int .i64 y, .int .i64 (x + 1), .int .i64 y]
theorem besides_any (w : World) (x y : Int) (hx : x.natAbs ≤ 1000) (hy : y.natAbs ≤ 1000) :
    Calls Try.prog 46 #[.int .i64 x, .int .i64 y] w fun e w' => e = .returned (besV x y) ∧ Below w.heap.size w w' := by
  have e1 : IntKind.i64.wrap (y - 1) = y - 1 := IntWalk.i64_in _ (by omega)
  have e2 : IntKind.i64.wrap (y + 1) = y + 1 := IntWalk.i64_in _ (by omega)
  have e3 : IntKind.i64.wrap (x - 1) = x - 1 := IntWalk.i64_in _ (by omega)
  have e4 : IntKind.i64.wrap (x + 1) = x + 1 := IntWalk.i64_in _ (by omega)
  clear hx hy
  go_enter Try.func46, Try.ntmps46
  go_wp2_with fail
  refine bodyPost_ret (v := .agg #[.int .i64 x, .int .i64 (y - 1), .int .i64 x, .int .i64 (y + 1), .int .i64 (x - 1), .int .i64 y, .int .i64 (x + 1), .int .i64 y]) (by simp [results, Try.results46, go_sem]) rfl ?_
  exact ⟨rfl, alb1 w _⟩

/-- The four cells beside one. -/
def bsx (x : Int) (i : Nat) : Int := match i with | 2 => x - 1 | 3 => x + 1 | _ => x
def bsy (y : Int) (i : Nat) : Int := match i with | 0 => y - 1 | 1 => y + 1 | _ => y
@[go_sem] theorem run_index_bes (x y : Int) (i : Nat) (hi : i < 4) (w : World) : (Instr.index 76 (besV x y) (.int .i64 i)).run Try.prog w = .ok (.agg #[.int .i64 (bsx x i), .int .i64 (bsy y i)]) w := by
  have : i = 0 ∨ i = 1 ∨ i = 2 ∨ i = 3 := by omega
  rcases this with rfl | rfl | rfl | rfl <;> rfl
/-- What stands in the place of a cell beside one; whether it is a value; the values of the first cells beside one. -/
def besW (bs : List Nat) (wd : Nat) (x y : Int) (i : Nat) : Nat := bs.getD ((bsx x i).toNat + wd * (bsy y i).toNat) 0
def besOk (bs : List Nat) (wd hi : Nat) (x y : Int) (i : Nat) : Bool := inB (bsx x i) (bsy y i) wd hi && le32 0 (besW bs wd x y i)
def besL (bs : List Nat) (wd hi : Nat) (x y : Int) : Nat → List Nat
  | 0 => []
  | i + 1 => if besOk bs wd hi x y i then besL bs wd hi x y i ++ [besW bs wd x y i] else besL bs wd hi x y i
theorem besL_le (bs : List Nat) (wd hi : Nat) (x y : Int) : ∀ i, (besL bs wd hi x y i).length ≤ i := by
  intro i
  induction i with
  | zero => simp [besL]
  | succ i ih => unfold besL; split <;> first | omega | (simp; omega)
theorem besL_mem {bs : List Nat} {wd hi : Nat} {x y : Int} {b : Nat} : ∀ i, b ∈ besL bs wd hi x y i → ∃ k, k < i ∧ besOk bs wd hi x y k = true ∧ b = besW bs wd x y k := by
  intro i
  induction i with
  | zero => intro h; simp [besL] at h
  | succ i ih =>
    intro h
    unfold besL at h
    split at h
    · rename_i h1
      rcases List.mem_append.1 h with h2 | h2
      · obtain ⟨k, e1, e2⟩ := ih h2
        exact ⟨k, by omega, e2⟩
      · exact ⟨i, by omega, h1, by simpa using h2⟩
    · obtain ⟨k, e1, e2⟩ := ih h
      exact ⟨k, by omega, e2⟩
theorem inB_cell {X Y : Int} {wd hi : Nat} (h : inB X Y wd hi = true) : X = (X.toNat : Int) ∧ Y = (Y.toNat : Int) ∧ X.toNat < wd ∧ Y.toNat < hi := by
  unfold inB at h; simp at h; omega

/-- The sum of a list, in its order; a hole that is filled. -/
def sumW : List Nat → Nat
  | [] => 0
  | a :: l => l.foldl (fop .add) a
def fillW (bs : List Nat) (wd hi : Nat) (x y : Nat) : Nat :=
  let b := bs.getD (x + wd * y) 0
  if le32 0 b then b else
    let l := besL bs wd hi x y 4
    if l.length = 0 then 3212836864 else fop .quo (sumW l) (fq 0 l.length)

theorem Bd.fopAdd' {L H L' H' : Int} {a b : Nat} (h : Bd L H a) (h' : Bd L' H' b) (h1 : 0 ≤ L) (h2 : H ≤ 1000000) (h3 : 0 ≤ L') (h4 : H' ≤ 1000000) (h5 : L ≤ H) (h6 : L' ≤ H') : Bd (L + L') (H + H') (fop .add a b) := by
  obtain ⟨s, e, k⟩ := h.add h' h1 h2 h3 h4 h5 h6
  unfold fop; rw [e]; show Bd _ _ (Go.Proofs.Yticbgeknledpcaa.fl s); rw [k.fl]; exact k
theorem sumW_take (ls : List Nat) (i : Nat) (h : i + 1 < ls.length) : sumW (ls.take (i + 2)) = fop .add (sumW (ls.take (i + 1))) (ls.getD (i + 1) 0) := by
  cases ls with
  | nil => simp at h
  | cons a l =>
    have hl : i < l.length := by simpa using h
    show (l.take (i + 1)).foldl (fop .add) a = fop .add ((l.take i).foldl (fop .add) a) (l.getD i 0)
    rw [List.take_add_one, List.getElem?_eq_getElem hl, List.foldl_append, List.getD_eq_getElem?_getD, List.getElem?_eq_getElem hl]
    rfl
theorem sumW_bd {ls : List Nat} {L H : Int} (h : ∀ b ∈ ls, Bd L H b) (h1 : 0 ≤ L) (h2 : L ≤ H) (h3 : H ≤ 1000) (hn : ls.length ≤ 4) : ∀ i : Nat, i < ls.length → Bd (((i : Int) + 1) * L) (((i : Int) + 1) * H) (sumW (ls.take (i + 1))) := by
  intro i
  induction i with
  | zero =>
    intro hi
    cases ls with
    | nil => simp at hi
    | cons a l =>
      have : Bd L H a := h a (by simp)
      show Bd (((0 : Nat) + 1 : Int) * L) (((0 : Nat) + 1 : Int) * H) a
      rw [show (((0 : Nat) + 1 : Int) * L) = L by omega, show (((0 : Nat) + 1 : Int) * H) = H by omega]
      exact this
  | succ i ih =>
    intro hi
    have k1 := ih (by omega)
    have k2 : Bd L H (ls.getD (i + 1) 0) := by
      rw [List.getD_eq_getElem?_getD, List.getElem?_eq_getElem hi]; exact h _ (List.getElem_mem _)
    have a1 : 0 ≤ ((i : Int) + 1) * L := Int.mul_nonneg (by omega) h1
    have a2 : ((i : Int) + 1) * L ≤ ((i : Int) + 1) * H := Int.mul_le_mul_of_nonneg_left h2 (by omega)
    have a3 : ((i : Int) + 1) * H ≤ 4 * 1000 := Int.mul_le_mul (by omega) h3 (by omega) (by omega)
    have e : ∀ z : Int, (((i + 1 : Nat) : Int) + 1) * z = ((i : Int) + 1) * z + z := fun z => by rw [Int.add_mul]; congr 1 <;> omega
    have := k1.fopAdd' k2 a1 (by omega) h1 (by omega) a2 h2
    rw [sumW_take ls i hi, e, e]
    exact this
theorem Bd.quo' {L H : Int} {k s : Nat} (h : Bd (((k : Int) + 1) * L) (((k : Int) + 1) * H) s) (h1 : 0 ≤ L) (h2 : L ≤ H) (h3 : H ≤ 1000) (hk : k ≤ 3) : ∃ r, floatBits .quo .f32 s (fq 0 ((k : Int) + 1)) = some r ∧ Bd L H r :=
  h.quo h1 (by have := Int.mul_le_mul (show (k : Int) + 1 ≤ 4 by omega) h3 (by omega) (by omega); omega) (by omega) (by omega) h2
theorem fop_of' {op : BinOp} {x y r : Nat} (h : floatBits op .f32 x y = some r) (hr : fl r = r) : fop op x y = r := by unfold fop; rw [h]; exact hr

theorem slf_size {w : World} {a : Option Addr} {n cap : Nat} {xs : List Nat} (h : SlF w (.slice a n cap) xs) : xs.length = n ∧ n ≤ cap ∧ cap ≤ 9223372036854775807 := by
  obtain ⟨a', c', e, h1, h2, h3⟩ := h.1
  simp only [Value.slice.injEq, List.length_map] at e h1
  omega
theorem OwnF.empty0 (w : World) : OwnF (w.alloc (.cells #[] 35)) w.heap.size (.slice (some ⟨w.heap.size, 0, none⟩) 0 0) [] :=
  ⟨⟨rfl, .inr ⟨w.heap.size, 0, #[], rfl, Nat.le_refl _, heap_alloc_new w _, Nat.le_refl _, by unfold maxLen; omega, rfl, rfl⟩⟩, by simp⟩

set_option maxHeartbeats 1000000 in
theorem filled1_q (W : World) (pb cb wd hi : Nat) (v : Value) (bs : List Nat) (L H : Int) (x y m : Nat) (hx : x < wd) (hy : y < hi) (hw2 : wd ≤ 24) (hh2 : hi ≤ 24)
    (h : PicAt W pb wd hi v bs 26) (hb : ∀ b ∈ bs, b = 3212836864 ∨ Bd L H b) (h1 : 0 ≤ L) (h2 : L ≤ H) (h3 : H ≤ 1000) (hc : BoxN W cb #[.int .i64 m] 3) (hm : m ≤ 1000) :
    Calls Try.prog 72 #[.int .i64 x, .int .i64 y, .pointer (some ⟨pb, 0, none⟩), .pointer (some ⟨cb, 0, none⟩)] W fun e w' => e = .returned (.float .f32 (fillW bs wd hi x y)) ∧ W.grownBy w' (some cb) ∧ BoxN w' cb #[.int .i64 (m + (if le32 0 (bs.getD (x + wd * y) 0) = false ∧ (besL bs wd hi x y 4).length ≠ 0 then 1 else 0 : Nat) : Nat)] 3 := by
  have hwh : wd * hi ≤ 576 := by calc wd * hi ≤ 24 * 24 := Nat.mul_le_mul hw2 hh2
      _ = 576 := rfl
  obtain ⟨i0, hi0, hz0, hz1, hz2⟩ := info_parts info_f32
  have hxy := xy_lt hx hy
  have hget : bs.getD (x + wd * y) 0 = 3212836864 ∨ Bd L H (bs.getD (x + wd * y) 0) := by
    rw [List.getD_eq_getElem?_getD, List.getElem?_eq_getElem (by rw [h.len]; exact hxy)]; exact hb _ (List.getElem_mem _)
  have KA := Lib.hid (fun W' (hW : Below W.heap.size W W') X Y u v' hX hY hu hv => mat_any W' pb wd hi _ bs u v' X Y hX hY hu hv (by omega) (by omega) (h.below hW))
  have KH := Lib.hid (fun W' (hW : Below W.heap.size W W') X Y => mapHas_any W' pb wd hi _ X Y (by omega) (by omega) (h.below hW).box)
  have HC := Lib.hid hc
  have HB := Lib.hid hb
  have hcb := hc.lt
  have HR := Lib.hid (fun (i r : Nat) (e : r = besW bs wd x y i) (hin : inB (bsx x i) (bsy y i) wd hi = true) => show r < 4294967296 from by
    obtain ⟨k1, k2, k3, k4⟩ := inB_cell hin
    have : r ∈ bs := by rw [e]; unfold besW; rw [List.getD_eq_getElem?_getD, List.getElem?_eq_getElem (by rw [h.len]; exact xy_lt k3 k4)]; exact List.getElem_mem _
    rcases hb r this with e | e
    · omega
    · exact e.lt)
  have HM := Lib.hid (fun (b : Nat) (hb' : b ∈ besL bs wd hi x y 4) => show Bd L H b from by
    obtain ⟨k, e1, e2, e3⟩ := besL_mem 4 hb'
    unfold besOk at e2
    rw [Bool.and_eq_true] at e2
    obtain ⟨e2, e4⟩ := e2
    obtain ⟨k1, k2, k3, k4⟩ := inB_cell e2
    have : b ∈ bs := by rw [e3]; unfold besW; rw [List.getD_eq_getElem?_getD, List.getElem?_eq_getElem (by rw [h.len]; exact xy_lt k3 k4)]; exact List.getElem_mem _
    rcases hb b this with e | e
    · rw [← e3, e] at e4; exact absurd e4 (by decide +kernel)
    · exact e)
  clear hb hxy hc h
  have hw0 : Below W.heap.size W W := Below.refl _ _
  by_cases g0 : le32 0 (bs.getD (x + wd * y) 0) = true
  · have e1 : fillW bs wd hi x y = bs.getD (x + wd * y) 0 := by unfold fillW; exact if_pos g0
    rw [e1]
    have e2 : (if le32 0 (bs.getD (x + wd * y) 0) = false ∧ (besL bs wd hi x y 4).length ≠ 0 then 1 else 0 : Nat) = 0 := by rw [g0]; simp
    rw [e2, Nat.add_zero]
    clear e1 e2
    have KM := Lib.hid (fun W' (hW : Below W.heap.size W W') => KA.out W' hW x y x y rfl rfl hx hy)
    generalize bs.getD (x + wd * y) 0 = b at *
    clear hget KA HB
    go_enter Try.func72, Try.ntmps72
    go_wp2_with fail
    refine (KM.out _ hw0).mono ?_
    rintro e w' ⟨rfl, n, rfl⟩
    go_wp2_with fail
    refine (noHole_any _ _).mono ?_
    rw [g0]
    rintro e w' ⟨rfl, rfl⟩
    go_wp2_with fail
    refine (KM.out _ (below_drewN hw0 _)).mono ?_
    rintro e w' ⟨rfl, n2, rfl⟩
    go_wp2
    go_ret
    exact ⟨rfl, grown_below (below_drewN hw0 _) _, HC.out⟩
  · have g1 : le32 0 (bs.getD (x + wd * y) 0) = false := by simpa using g0
    have e1 : fillW bs wd hi x y = if (besL bs wd hi x y 4).length = 0 then 3212836864 else fop .quo (sumW (besL bs wd hi x y 4)) (fq 0 (besL bs wd hi x y 4).length) := by unfold fillW; exact if_neg g0
    rw [e1]
    rw [g1]
    simp only [true_and]
    clear e1 g0
    obtain ⟨FV, hFV⟩ : ∃ FV, FV = (if (besL bs wd hi x y 4).length = 0 then 3212836864 else fop .quo (sumW (besL bs wd hi x y 4)) (fq 0 (besL bs wd hi x y 4).length)) := ⟨_, rfl⟩
    obtain ⟨CV, hCV⟩ : ∃ CV : Nat, CV = (if (besL bs wd hi x y 4).length ≠ 0 then 1 else 0) := ⟨_, rfl⟩
    rw [← hFV, ← hCV]
    have HFV := Lib.hid hFV
    have HCV := Lib.hid hCV
    clear hFV hCV
    have KM := Lib.hid (fun W' (hW : Below W.heap.size W W') => KA.out W' hW x y x y rfl rfl hx hy)
    generalize bs.getD (x + wd * y) 0 = b at *
    have b1 : (x : Int).natAbs ≤ 1000 := by omega
    have b2 : (y : Int).natAbs ≤ 1000 := by omega
    go_enter Try.func72, Try.ntmps72
    go_wp2_with fail
    refine (KM.out _ hw0).mono ?_
    rintro e w' ⟨rfl, n, rfl⟩
    go_wp2_with fail
    refine (noHole_any _ _).mono ?_
    rw [g1]
    rintro e w' ⟨rfl, rfl⟩
    have hw1 := below_drewN hw0 n
    clear hw0 KM g1
    go_wp2_with fail
    refine (besides_any _ _ _ b1 b2).mono ?_
    rintro e w1 ⟨rfl, hb1⟩
    have hb0 : Below W.heap.size W ((W.drewN n).alloc (.cells #[] 35)) := hw1.trans ((alb1 (W.drewN n) (.cells #[] 35)).mono hw1.size)
    have hbb := hb0.trans (hb1.mono hb0.size)
    have hst : OwnF w1 W.heap.size (.slice (some ⟨(W.drewN n).heap.size, 0, none⟩) 0 0) [] := (((OwnF.empty0 (W.drewN n)).below hb1).mono hw1.size)
    clear hb1 hb0 hw1
    go_wp2_with fail
    go_loopw [24, 7] (fun v24 v7 wr => ∃ (i g c : Nat), v24 = .int .i64 i ∧ i ≤ 4 ∧ v7 = .slice (some ⟨g, 0, none⟩) (besL bs wd hi x y i).length c ∧ OwnF wr W.heap.size (.slice (some ⟨g, 0, none⟩) (besL bs wd hi x y i).length c) (besL bs wd hi x y i) ∧ Below W.heap.size W wr) (fun v24 _ _ => 4 - (intOf v24).toNat)
    case atStart => exact ⟨0, _, _, rfl, by omega, rfl, hst, hbb⟩
    case round =>
      clear hst hbb
      obtain ⟨i, g, c, rfl, hi4, rfl, hown, hbl⟩ := hrel
      by_cases hlt : i < 4
      · have hlx : (i : Int) < 4 := by omega
        have hll := besL_le bs wd hi x y i
        have hbl1 := hbl.alloc hbl.size (.cells #[.int .i64 (bsx x i), .int .i64 (bsy y i)] 75)
        have hown1 := hown.below (alb1 wr (.cells #[.int .i64 (bsx x i), .int .i64 (bsy y i)] 75))
        have hcl : ∀ w', Below (wr.heap.size + 1) (wr.alloc (.cells #[.int .i64 (bsx x i), .int .i64 (bsy y i)] 75)) w' → w'.cell? ⟨wr.heap.size, 0, none⟩ = some (.int .i64 (bsx x i)) ∧ w'.cell? ⟨wr.heap.size, 1, none⟩ = some (.int .i64 (bsy y i)) := by
          intro w' hb'
          have e0 := hb'.cell (p := ⟨wr.heap.size, 0, none⟩) (by simp)
          have e1 := hb'.cell (p := ⟨wr.heap.size, 1, none⟩) (by simp)
          rw [e0, e1]
          constructor <;> simp [go_sem]
        have hbs : besL bs wd hi x y (i + 1) = if besOk bs wd hi x y i then besL bs wd hi x y i ++ [besW bs wd x y i] else besL bs wd hi x y i := rfl
        have hok : besOk bs wd hi x y i = (inB (bsx x i) (bsy y i) wd hi && le32 0 (besW bs wd x y i)) := rfl
        have hbw : besW bs wd x y i = bs.getD ((bsx x i).toNat + wd * (bsy y i).toNat) 0 := rfl
        obtain ⟨ls, hls⟩ : ∃ ls, ls = besL bs wd hi x y i := ⟨_, rfl⟩
        rw [← hls] at hll hown hown1 hbs ⊢
        have HBS := Lib.hid hbs
        have HBL := Lib.hid hbl1
        have HOWN := Lib.hid hown1
        have HCL := Lib.hid hcl
        clear hbs hls hbl1 hown1 hcl hown
        cases g2 : inB (bsx x i) (bsy y i) wd hi
        · rw [g2, Bool.false_and] at hok
          have HOK := Lib.hid hok
          clear hok hbw
          go_wp2_with fail
          refine (KH.out _ HBL.out _ _).mono ?_
          rw [g2]
          rintro e w2 ⟨rfl, rfl⟩
          go_wp2
          go_roundw
          case rel => exact ⟨i + 1, g, c, by go_num, by omega, by rw [HBS.out, HOK.out]; rfl, by rw [HBS.out, HOK.out]; exact HOWN.out, HBL.out⟩
          case measure => simp [intOf]; omega
        · obtain ⟨k1, k2, k3, k4⟩ := inB_cell g2
          rw [g2, Bool.true_and] at hok
          have KB := Lib.hid (fun W' hW => KA.out W' hW (bsx x i) (bsy y i) _ _ k1 k2 k3 k4)
          rw [← hbw] at KB
          have HBW := Lib.hid hbw
          clear k1 k2 k3 k4 hbw
          generalize besW bs wd x y i = r at *
          cases g3 : le32 0 r
          · rw [g3] at hok
            have HOK := Lib.hid hok
            clear hok
            go_wp2_with fail
            refine (KH.out _ HBL.out _ _).mono ?_
            rw [g2]
            rintro e w2 ⟨rfl, rfl⟩
            go_wp2_with fail
            refine (KB.out _ HBL.out).mono ?_
            rintro e w2 ⟨rfl, n1, rfl⟩
            go_wp2_with fail
            refine (noHole_any _ _).mono ?_
            rw [g3]
            rintro e w2 ⟨rfl, rfl⟩
            go_wp2
            go_roundw
            case rel => exact ⟨i + 1, g, c, by go_num, by omega, by rw [HBS.out, HOK.out]; rfl, by rw [HBS.out, HOK.out]; exact (HOWN.out.below (below_drewN (Below.refl _ _) n1)), below_drewN HBL.out n1⟩
            case measure => simp [intOf]; omega
          · rw [g3] at hok
            have HOK := Lib.hid hok
            clear hok
            have hr : r < 4294967296 := HR.out i r HBW.out g2
            go_wp2_with fail
            refine (KH.out _ HBL.out _ _).mono ?_
            rw [g2]
            rintro e w2 ⟨rfl, rfl⟩
            go_wp2_with fail
            refine (KB.out _ HBL.out).mono ?_
            rintro e w2 ⟨rfl, n1, rfl⟩
            go_wp2_with fail
            refine (noHole_any _ _).mono ?_
            rw [g3]
            rintro e w2 ⟨rfl, rfl⟩
            go_wp2_with fail
            refine (KB.out _ (below_drewN HBL.out n1)).mono ?_
            rintro e w2 ⟨rfl, n2, hw2e⟩
            have hbw2 : Below (wr.heap.size + 1) (wr.alloc (.cells #[.int .i64 (bsx x i), .int .i64 (bsy y i)] 75)) w2 := by rw [hw2e]; exact below_drewN (below_drewN (Below.refl _ _) n1) n2
            have hown2 := HOWN.out.below (w' := w2) (by simpa using hbw2)
            have hbl2 := HBL.out.trans (hbw2.mono (by have := HBL.out.size; simpa using this))
            have hz2' : W.heap.size ≤ w2.heap.size := hbl2.size
            have HB2 := Lib.hid hbl2
            clear hbl2 hbw2 hw2e
            go_wp2_with (at_builtin; refine wpList_append_lies _ (by rfl) _ _ _ (by rfl) W.heap.size 35 i0 _ 1 4 Try.underlying24 hi0 hz0 hz1 hz2 rfl (by omega) (.slice (some ⟨g, 0, none⟩) ls.length c) ls.length _ (by rfl) (World.ownsRow.alloc hown2.1 _) ⟨w2.heap.size, 0, none⟩ 1 1 [.float .f32 r] (by rfl) (by rfl) (cell_one_new _ _ _) (by simp [Value.oneCell']) (by omega) (by unfold maxLen; omega) (by omega) (by simp; omega) (w2.heap.size + 1) (by simp) ?_; intro gg cap wz hown3 hgrow hat hlt2)
            have hown3 : OwnF wz W.heap.size (.slice (some ⟨gg, 0, none⟩) (ls.length + 1) cap) (ls ++ [r]) := ⟨by simpa using hown3, fun b hb => by
              rcases List.mem_append.1 hb with e | e
              · exact hown2.2 b e
              · simp at e; omega⟩
            have hbl3 : Below W.heap.size W wz := (HB2.out.alloc hz2' _).grown hgrow (by simp; omega) (fun k hk => (hown2.lt hk).1)
            have hbs2 : besL bs wd hi x y (i + 1) = ls ++ [r] := by rw [HBS.out, HOK.out]; rfl
            go_roundw
            case rel => exact ⟨i + 1, gg, cap, by go_num, by omega, by rw [hbs2, List.length_append]; rfl, by rw [hbs2, List.length_append]; exact hown3, hbl3⟩
            case measure => simp [intOf]; omega
      · obtain rfl : i = 4 := by omega
        have hmem : ∀ b ∈ besL bs wd hi x y 4, Bd L H b := fun b hb' => HM.out b hb'
        have hll := besL_le bs wd hi x y 4
        obtain ⟨ls, hls⟩ : ∃ ls, ls = besL bs wd hi x y 4 := ⟨_, rfl⟩
        have f1 := HFV.out
        have f2 := HCV.out
        rw [← hls] at hown hmem hll f1 f2 ⊢
        have HLS := Lib.hid hls
        have HOWN := Lib.hid hown
        have HBL := Lib.hid hbl
        have HMEM := Lib.hid hmem
        clear hls hown hbl hmem HFV HCV
        by_cases h0 : ls.length = 0
        · rw [if_pos h0] at f1
          rw [if_neg (by omega)] at f2
          subst f1 f2
          rw [h0]
          clear h0
          go_wp2
          go_ret
          exact ⟨rfl, grown_below HBL.out _, HC.out.below HBL.out⟩
        · rw [if_neg h0] at f1
          rw [if_pos (by omega)] at f2
          have F1 := Lib.hid f1
          subst f2
          clear f1
          obtain ⟨hc1, hc2⟩ : wr.cell? ⟨cb, 0, none⟩ = some (.int .i64 m) ∧ wr.frozen? ⟨cb, 0, none⟩ = false := ⟨by rw [(HC.out.below HBL.out).cell 0]; rfl, (HC.out.below HBL.out).free 0⟩
          have hg := HOWN.out.lt (k := g) rfl
          have hgc : g ≠ cb := by omega
          have hcg : cb ≠ g := by omega
          have hca : cb < wr.heap.size := by omega
          have hz : ∀ i, i < ls.length → wr.cell? ⟨g, i, none⟩ = some (.float .f32 (ls.getD i 0)) := fun i hi => by
            have := (HOWN.out.sl.cellAt i hi).1
            rw [Nat.zero_add] at this
            rw [this, List.getD_eq_getElem?_getD, List.getElem?_eq_getElem hi]
          have hz0 := hz 0 (by omega)
          have HZ := Lib.hid hz
          have hm1 : IntKind.i64.wrap ((m : Int) + 1) = (m : Int) + 1 := IntWalk.i64_in _ (by omega)
          have hcap := slf_size HOWN.out.sl
          clear hz
          have HT := Lib.hid (fun i hi => sumW_take ls i hi)
          have HS := Lib.hid (sumW_bd HMEM.out h1 h2 h3 hll)
          have hfull : sumW (ls.take ls.length) = sumW ls := by rw [List.take_length]
          obtain ⟨n, hn⟩ : ∃ n, n = ls.length := ⟨_, rfl⟩
          rw [← hn] at h0 hll hcap HT HS HZ F1 hfull ⊢
          have HFU := Lib.hid hfull
          have HN := Lib.hid hn
          obtain ⟨k, rfl⟩ : ∃ k, n = k + 1 := ⟨n - 1, by omega⟩
          have hs1 : ls.getD 0 0 = sumW (ls.take 1) := by
            match ls, hn with
            | a :: l, _ => rfl
          rw [hs1] at hz0
          have hd : (c = 1 ∧ k = 0) ∨ ¬ c = 1 := by omega
          have hq := (HS.out k (by omega)).quo' h1 h2 h3 (by omega)
          rw [HFU.out] at hq
          obtain ⟨qv, hq1, hq2⟩ := hq
          have hof := fq_ofInt (n := (k : Int) + 1) (by omega)
          have HQ2 := Lib.hid (fop_of' hq1 hq2.fl)
          rw [← hof] at hq1
          have aq := fres_some hq1
          have aqd := fdr_some hq1
          have HOF := Lib.hid hof
          have HQ1 := Lib.hid hq1
          have hdr0 : ∀ W : World, W.drewN 0 = W := fun _ => rfl
          have hkn : (((k + 1 : Nat) : Int)) = (k : Int) + 1 := by omega
          clear hn hfull hs1 hq1 hq2 hof
          obtain ⟨c1, c2, c3⟩ := hcap
          rcases hd with ⟨rfl, rfl⟩ | hd
          · go_wp2_with fail
            go_loop [60, 10] (fun v60 v10 => v60 = .int .i64 0 ∧ v10 = .float .f32 (sumW ls)) (fun v60 v10 => 0)
            case atStart => exact ⟨rfl, by rw [← HFU.out]⟩
            case round =>
              obtain ⟨rfl, rfl⟩ := hrel
              have aq1 : ∀ w : World, fres .quo .f32 (sumW ls) (floatOfInt .f32 1) w = qv := aq
              have aqd1 : fdr .quo .f32 (sumW ls) (floatOfInt .f32 1) = 0 := aqd
              clear aq aqd
              generalize sumW ls = s at *
              go_wp2
              go_ret
              refine ⟨by rw [F1.out, hkn, HQ2.out]; rfl, grown_trans (grown_below HBL.out _) (grown_setCell _ _ _), ?_⟩
              have := (HC.out.below HBL.out).set 0 (.int .i64 ((m : Int) + 1))
              simpa using this
          · go_wp2_with fail
            go_loop [60, 10] (fun v60 v10 => ∃ i : Nat, v60 = .int .i64 i ∧ v10 = .float .f32 (sumW (ls.take (i + 1))) ∧ i ≤ k) (fun v60 v10 => k - (intOf v60).toNat)
            case atStart => exact ⟨0, rfl, rfl, Nat.zero_le _⟩
            case round =>
              obtain ⟨i, rfl, rfl, hik⟩ := hrel
              by_cases hlt : i < k
              · have k1 := HZ.out (i + 1) (by omega)
                have hb2 : Bd L H (ls.getD (i + 1) 0) := by
                  rw [List.getD_eq_getElem?_getD, List.getElem?_eq_getElem (by rw [← HN.out]; omega)]; exact HMEM.out _ (List.getElem_mem _)
                have hb1 := HS.out i (by omega)
                have a1 : 0 ≤ ((i : Int) + 1) * L := Int.mul_nonneg (by omega) h1
                have a2 : ((i : Int) + 1) * L ≤ ((i : Int) + 1) * H := Int.mul_le_mul_of_nonneg_left h2 (by omega)
                have a3 : ((i : Int) + 1) * H ≤ 4 * 1000 := Int.mul_le_mul (by omega) h3 (by omega) (by omega)
                obtain ⟨s2, e1, e2⟩ := hb1.add hb2 a1 (by omega) h1 (by omega) a2 h2
                have ht := HT.out i (by omega)
                rw [fop_of' e1 e2.fl] at ht
                have HTT := Lib.hid ht
                have ar := fres_some e1
                have af := fdr_some e1
                generalize ls.getD (i + 1) 0 = vx at *
                rw [show i + 1 = 1 + i by omega] at k1
                generalize sumW (ls.take (i + 1)) = sx at *
                clear ht e1 e2 hb1 hb2 a1 a2 a3 aq aqd
                go_wp2
                go_round
                case rel => exact ⟨i + 1, by go_num, by rw [HTT.out], by omega⟩
                case measure => simp [intOf]; omega
              · obtain rfl : i = k := by omega
                rw [HFU.out]
                generalize sumW ls = s at *
                go_wp2
                go_ret
                refine ⟨by rw [F1.out, hkn, HQ2.out]; rfl, grown_trans (grown_below HBL.out _) (grown_setCell _ _ _), ?_⟩
                have := (HC.out.below HBL.out).set 0 (.int .i64 ((m : Int) + 1))
                simpa using this

end Go.Proofs.Yticbgeknledpcaa

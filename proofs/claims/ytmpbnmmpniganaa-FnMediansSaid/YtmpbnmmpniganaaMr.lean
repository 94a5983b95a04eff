/- Maps of quarters that are told of others; places; counts of holes; ranges, means. -/
import Derived.Test.YtmpbnmmpniganaaMp
namespace Go.Proofs.Ytmpbnmmpniganaa
open Go.RowKit
set_option maxRecDepth 100000
set_option linter.unusedVariables false
set_option linter.unusedSimpArgs false

/-- A map made anew, and true. -/
def MakesMQ (w : World) (wd hi N : Nat) (ks : List Int) (e : Ending) (w' : World) : Prop :=
  ∃ q c, e = .returned (.tuple #[.agg #[.int .i64 wd, .int .i64 hi, .slice (some ⟨q, 0, none⟩) N c], .bool true]) ∧ MQ w' q c N ks ∧ w.heap.size ≤ q ∧ Below w.heap.size w w'

theorem remap_q (w : World) (wd hi N : Nat) (sa : Option Addr) (c : Nat) (fv : Value) (F : Nat → Int) (hv : vPic wd hi N = true) (hb : ∀ i, i < N → (F i).natAbs ≤ 1000) (hf : Gives2 w fv wd hi (fun x y => fq 2 (F (x + wd * y)))) :
    Calls Try.prog 53 #[.agg #[.int .i64 wd, .int .i64 hi, .slice sa N c], fv] w (MakesMQ w wd hi N (tabI N F)) := by
  obtain ⟨x1, x2, e1, e2, e3, b1, b2, b3, b4, b5⟩ := vPic_spec hv
  have hw : wd ≤ 24 := by omega
  have hh : hi ≤ 24 := by omega
  have hn : N ≤ 256 := by omega
  have hN : N = wd * hi := by rw [e3]; congr 1 <;> omega
  have hN0 : 0 < N := by rw [e3]; exact Nat.mul_pos b1 b3
  have HF := Lib.hid hf
  have HNN := Lib.hid hN
  clear e1 e2 e3 b1 b2 b3 b4 b5 hf hN
  go_enter Try.func53, Try.ntmps53
  go_wp2_with fail
  refine (validMap_any _ _ _ _ _ (by omega) _).mono ?_
  rw [hv]
  rintro e w1 ⟨rfl, hb1⟩
  have hb0 := below_two w (.cells #[.int .i64 wd, .int .i64 hi, .slice sa N c] 27) (.cells #[.int .i64 0, .int .i64 0, .slice none 0 0] 27)
  have B1 := (box_first w (.int .i64 wd) (.int .i64 hi) (.slice sa N c) 27 (.cells #[.int .i64 0, .int .i64 0, .slice none 0 0] 27)).below hb1
  have B2 := (box_second w (.int .i64 0) (.int .i64 0) (.slice none 0 0) 27 (.cells #[.int .i64 wd, .int .i64 hi, .slice sa N c] 27)).below hb1
  have hbx := hb0.trans (hb1.mono hb0.size)
  have hs := B2.lt
  obtain ⟨c0, c1, c2, f0, f1, f2⟩ := B1.cells
  clear hb1 hb0
  go_wp2_with fail
  refine (mapOf_any w1 wd hi fv _ hw hh (HF.out.below hbx)).mono ?_
  rintro e w2 ⟨a, cc, bs, rfl, hown, hcon, hb2⟩
  have hbs := bs_of_tab (fun i hi => by have := hb i (by rw [HNN.out]; exact hi); omega) hcon
  have hl : bs.length = N := by rw [hbs, List.length_map, tabI_length, HNN.out]
  rw [hl] at hown ⊢
  obtain ⟨q, rfl⟩ := own_ptr hown (by omega)
  obtain ⟨d0, d1, d2, g0, g1, g2⟩ := (B2.below hb2).cells
  have hbb := hbx.trans (hb2.mono hbx.size)
  have hq := (hown.lt (k := q) rfl).1
  have hqs : w.heap.size ≤ q := Nat.le_trans hbx.size hq
  have HCON := Lib.hid hbs
  clear hcon hbs
  go_wp2
  refine bodyPost_ret (v := .tuple #[.agg #[.int .i64 wd, .int .i64 hi, .slice (some ⟨q, 0, none⟩) N cc], .bool true]) (by simp [results, Try.results53, go_sem, d0, d1, d2]) rfl ?_
  have ho := (((hown.set (by first | omega | (simp; done) | (simp; omega)) (.int .i64 wd) (a := ⟨w.heap.size + 1, 0, none⟩)).set (by first | omega | (simp; done) | (simp; omega)) (.int .i64 hi) (a := ⟨w.heap.size + 1, 1, none⟩)).set (by first | omega | (simp; done) | (simp; omega)) (.slice (some ⟨q, 0, none⟩) N cc) (a := ⟨w.heap.size + 1, 2, none⟩))
  refine ⟨q, cc, rfl, ⟨?_, (ho.lt (k := q) rfl).2, ?_⟩, hqs, ((hbb.setCell (by simp) _).setCell (by simp) _).setCell (by simp) _⟩
  · have := ho.sl
    rw [HCON.out, ← HNN.out] at this
    simpa using this
  · intro k hk
    obtain ⟨i, hi, rfl⟩ := mem_tabI hk
    exact hb i hi

/-- The place of a value in quarters. -/
def plq (k : Int) : Int := if k < -2 then -1 else if k % 4 < 2 then k / 4 else if 2 < k % 4 then k / 4 + 1 else if k / 4 % 2 = 0 then k / 4 else k / 4 + 1
def isNum (d : Ieee.Datum) : Bool := match d with | .nan _ _ => false | _ => true
def rteW (x : Nat) : Nat := FloatKind.f64.encode ((FloatKind.f64.decode x).integral .even)
theorem rte_tab : ∀ k : Fin 130, floatToIntVal .f64 (rteW (dq 2 ((k.val : Int) - 2))) .i64 = some (plq ((k.val : Int) - 2)) ∧ isNum (FloatKind.f64.decode (dq 2 ((k.val : Int) - 2))) = true ∧ FloatKind.f64.format.order (dq 2 ((k.val : Int) - 2)) 4697254411347427328 = some .lt := by decide +kernel
theorem rte_plain (x : Nat) (d : Ieee.Datum) (hd : FloatKind.f64.decode x = d) (h : isNum d = true) : Extern.MathFloor.toIntegral "math.RoundToEven" .even #[.float .f64 x] = (pure (.float .f64 (FloatKind.f64.encode (d.integral .even))) : Sem Value) := by
  show ((match FloatKind.f64.decode x with
    | .nan s t =>
      if FloatKind.f64.format.quiet t = t then pure (Value.float .f64 x) else do
      let kept ← choose (.extern "math.Floor,Ceil,Trunc,RoundToEven.signallingNaN kept" 2)
      pure (Value.float .f64 (if kept == 1 then x else FloatKind.f64.encode (.nan s (FloatKind.f64.format.quiet t))))
    | d => pure (Value.float .f64 (FloatKind.f64.encode (d.integral .even)))) : Sem Value) = _
  rw [hd]
  cases d <;> first | (simp [isNum] at h; done) | rfl
@[go_sem] theorem ext_rte (x : Nat) (w : World) (h : isNum (FloatKind.f64.decode x) = true) : (callFunc 112 #[.float .f64 x]).run Try.prog w = .ok (.value (.float .f64 (rteW x))) w := by
  rw [run_callFunc_extern (e := Extern.MathFloor.toIntegral "math.RoundToEven" .even) Try.func112 (by kernel_rfl) (by kernel_rfl) (by kernel_rfl) (by kernel_rfl), rte_plain x _ rfl h]
  rfl

@[go_sem] theorem run_min_float_lt {P : Program} {w : World} (ts : Array TypeId) (t : TypeId) (k k' : FloatKind) (x y : Nat) (h : k.format.order x y = some .lt) : (Builtin.min_ ts t #[.float k x, .float k' y]).run P w = .ok (.float k x) w := by
  simp [Builtin.min_, Builtin.min2, h]

@[go_sem] theorem conv64_i64 (b : Nat) (n : Int) (w : World) (h : floatToIntVal .f64 b .i64 = some n) : (convert 123 2 (.float .f64 b)).run Try.prog w = .ok (.int .i64 n) w := run_convert_float_int w _ _ _ _ _ _ (by rfl) (by rfl) h

theorem place_q (k : Int) (w : World) (h1 : -1000 ≤ k) (h2 : k < 128) : Calls Try.prog 89 #[.float .f32 (fq 2 k)] w fun e w' => e = .returned (.int .i64 (plq k)) ∧ ∃ n, w' = w.drewN n := by
  have hf := fq_fin (g := 2) (k := k) (by omega)
  have hl := lt32_fq (g := 2) (a := k) (b := -2) (by omega) (by decide)
  have hc : fq 2 (-2) = 3204448256 := by decide +kernel
  rw [hc] at hl
  have hw := fq_wide (g := 2) (by omega) (k := k) (by omega)
  have hd0 : ∀ W : World, W.drewN 0 = W := fun _ => rfl
  by_cases hk : k < -2
  · have hp : plq k = -1 := by unfold plq; rw [if_pos hk]
    rw [hp]
    simp only [hk, decide_true] at hl
    generalize fq 2 k = x at *
    clear hp hk h1 h2 hw
    go_enter Try.func89, Try.ntmps89
    go_wp2_with fail
    refine (isFinite_any _ _).mono ?_
    rw [hf]
    rintro e w1 ⟨rfl, n, rfl⟩
    go_wp2
    go_ret
    exact ⟨rfl, n, rfl⟩
  · obtain ⟨t1, t2, t3⟩ := rte_tab ⟨(k + 2).toNat, by omega⟩
    have e : (((k + 2).toNat : Nat) : Int) - 2 = k := by omega
    simp only [e] at t1 t2 t3
    simp only [hk, decide_false] at hl
    generalize fq 2 k = x at *
    generalize dq 2 k = y at *
    generalize plq k = p at *
    clear h1 h2 hk e hc
    go_enter Try.func89, Try.ntmps89
    go_wp2_with fail
    refine (isFinite_any _ _).mono ?_
    rw [hf]
    rintro e w1 ⟨rfl, n, rfl⟩
    have hv := cvr_some hw
    have hv2 := cvd_some hw
    go_wp2_with fail
    go_ret
    exact ⟨rfl, n, rfl⟩

theorem foldl_take {α : Type} (step : α → Int → α) (s : α) (ks : List Int) (i : Nat) (h : i < ks.length) : (ks.take (i + 1)).foldl step s = step ((ks.take i).foldl step s) (ks.getD i 0) := by
  rw [List.take_add_one, List.getElem?_eq_getElem h, List.foldl_append, List.getD_eq_getElem?_getD, List.getElem?_eq_getElem h]; rfl
theorem foldl_full {α : Type} (step : α → Int → α) (s : α) (ks : List Int) (n : Nat) (h : ks.length = n) : (ks.take n).foldl step s = ks.foldl step s := by rw [← h, List.take_length]

/-- How many holes. -/
def holeS (n : Nat) (k : Int) : Nat := if k < 0 then n + 1 else n
def holesF (ks : List Int) : Nat := ks.foldl holeS 0
theorem holesF_le (ks : List Int) : ∀ s, ks.foldl holeS s ≤ s + ks.length := by
  induction ks with
  | nil => intro s; simp
  | cons a l ih =>
    intro s
    have := ih (holeS s a)
    rw [List.foldl_cons, List.length_cons]
    have h2 : holeS s a ≤ s + 1 := by unfold holeS; split <;> omega
    omega

/-- The least and the greatest value that is none of a hole. -/
def rgS (o : Int × Int × Bool) (k : Int) : Int × Int × Bool := if k < 0 then o else (if o.2.2 = false ∨ k < o.1 then k else o.1, if o.2.2 = false ∨ o.2.1 < k then k else o.2.1, true)
def rgF (ks : List Int) : Int × Int × Bool := ks.foldl rgS (0, 0, false)
theorem rgS_bd {o : Int × Int × Bool} {k : Int} {B : Nat} (h1 : o.1.natAbs ≤ B) (h2 : o.2.1.natAbs ≤ B) (h : k.natAbs ≤ B) : (rgS o k).1.natAbs ≤ B ∧ (rgS o k).2.1.natAbs ≤ B := by
  unfold rgS
  split
  · exact ⟨h1, h2⟩
  · constructor <;> dsimp only <;> split <;> assumption
theorem rgF_bd {B : Nat} (ks : List Int) (hb : ∀ k ∈ ks, k.natAbs ≤ B) : ∀ o : Int × Int × Bool, o.1.natAbs ≤ B → o.2.1.natAbs ≤ B → (ks.foldl rgS o).1.natAbs ≤ B ∧ (ks.foldl rgS o).2.1.natAbs ≤ B := by
  induction ks with
  | nil => intro o h1 h2; exact ⟨h1, h2⟩
  | cons a l ih =>
    intro o h1 h2
    obtain ⟨h3, h4⟩ := rgS_bd h1 h2 (hb a (by simp))
    exact ih (fun k hk => hb k (by simp [hk])) _ h3 h4

set_option maxHeartbeats 1000000 in
theorem rangeOf_q (w : World) (q c N : Nat) (ks : List Int) (h : MQ w q c N ks) (hN : N ≤ 256) :
    Calls Try.prog 87 #[.slice (some ⟨q, 0, none⟩) N c, .func (.func 55) #[] #[]] w fun e w' => e = .returned (.tuple #[.float .f32 (fq 2 (rgF ks).1), .float .f32 (fq 2 (rgF ks).2.1), .bool (rgF ks).2.2]) ∧ w = w' := by
  have HG := Lib.hid h.get
  have HB := Lib.hid h.kb
  have HL := Lib.hid h.len
  have hcap := h.cap
  have HQ := Lib.hid (fun i => rgF_bd (B := 1000) (ks.take i) (fun k hk => h.bd k (List.mem_of_mem_take hk)) (0, 0, false) (by decide) (by decide))
  clear h
  go_enter Try.func87, Try.ntmps87
  go_wp2_with fail
  go_loop [7, 8, 9, 14] (fun v7 v8 v9 v14 => ∃ i : Nat, v7 = .float .f32 (fq 2 ((ks.take i).foldl rgS (0, 0, false)).1) ∧ v8 = .float .f32 (fq 2 ((ks.take i).foldl rgS (0, 0, false)).2.1) ∧ v9 = .bool ((ks.take i).foldl rgS (0, 0, false)).2.2 ∧ v14 = .int .i64 i ∧ i ≤ N) (fun v7 v8 v9 v14 => N - (intOf v14).toNat)
  case atStart => exact ⟨0, by simp [fq_zero], by simp [fq_zero], rfl, rfl, Nat.zero_le _⟩
  case round =>
    obtain ⟨i, rfl, rfl, rfl, rfl, hi⟩ := hrel
    by_cases hlt : i < N
    · have k1 := HG.out i hlt
      have hk := HB.out i
      have hs := foldl_take rgS (0, 0, false) ks i (by rw [HL.out]; exact hlt)
      obtain ⟨q1, q2⟩ := HQ.out i
      have h0 := le0_fq (k := ks.getD i 0) (by omega)
      generalize (ks.take i).foldl rgS (0, 0, false) = s at *
      generalize ks.getD i 0 = k at *
      obtain ⟨lo, hi2, fd⟩ := s
      have HS := Lib.hid hs
      have l1 := lt32_fq (g := 2) (a := k) (b := lo) (by omega) (by simp at q1; omega)
      have l2 := lt32_fq (g := 2) (a := hi2) (b := k) (by simp at q2; omega) (by omega)
      clear hs q1 q2
      dsimp only
      by_cases hk0 : 0 ≤ k
      · simp only [hk0, decide_true] at h0
        have hsv : rgS (lo, hi2, fd) k = (if fd = false ∨ k < lo then k else lo, if fd = false ∨ hi2 < k then k else hi2, true) := by unfold rgS; rw [if_neg (by omega)]
        cases fd
        · have hsv2 : rgS (lo, hi2, false) k = (k, k, true) := by rw [hsv]; simp
          have HSV := Lib.hid hsv2
          clear hsv hsv2 hk hk0 l1 l2
          generalize fq 2 lo = lw at *
          generalize fq 2 hi2 = hw at *
          obtain ⟨x, hx⟩ : ∃ x, x = fq 2 k := ⟨_, rfl⟩
          have HX := Lib.hid hx
          rw [← hx] at h0 k1
          clear hx
          go_wp2_with fail
          refine (noHole_any _ _).mono ?_
          rw [h0]
          rintro e w2 ⟨rfl, rfl⟩
          go_wp2
          go_round
          case rel => exact ⟨i + 1, by rw [HS.out, HSV.out, HX.out], by rw [HS.out, HSV.out, HX.out], by rw [HS.out, HSV.out], by go_num, by omega⟩
          case measure => simp [intOf]; omega
        · by_cases c1 : k < lo
          · by_cases c2 : hi2 < k
            · have hsv2 : rgS (lo, hi2, true) k = (k, k, true) := by rw [hsv]; simp [c1, c2]
              have HSV := Lib.hid hsv2
              simp only [c1, c2, decide_true] at l1 l2
              clear hsv hsv2 hk hk0 c1 c2
              obtain ⟨lw, hlw⟩ : ∃ x, x = fq 2 lo := ⟨_, rfl⟩
              obtain ⟨hw, hhw⟩ : ∃ x, x = fq 2 hi2 := ⟨_, rfl⟩
              obtain ⟨x, hx⟩ : ∃ x, x = fq 2 k := ⟨_, rfl⟩
              have HX := Lib.hid hx
              rw [← hx] at h0 k1 l1 l2
              rw [← hlw] at l1 ⊢
              rw [← hhw] at l2 ⊢
              clear hx hlw hhw
              go_wp2_with fail
              refine (noHole_any _ _).mono ?_
              rw [h0]
              rintro e w2 ⟨rfl, rfl⟩
              go_wp2
              go_round
              case rel => exact ⟨i + 1, by rw [HS.out, HSV.out, HX.out], by rw [HS.out, HSV.out, HX.out], by rw [HS.out, HSV.out], by go_num, by omega⟩
              case measure => simp [intOf]; omega
            · have hsv2 : rgS (lo, hi2, true) k = (k, hi2, true) := by rw [hsv]; simp [c1, c2]
              have HSV := Lib.hid hsv2
              simp only [c1, c2, decide_true, decide_false] at l1 l2
              clear hsv hsv2 hk hk0 c1 c2
              obtain ⟨lw, hlw⟩ : ∃ x, x = fq 2 lo := ⟨_, rfl⟩
              obtain ⟨hw, hhw⟩ : ∃ x, x = fq 2 hi2 := ⟨_, rfl⟩
              obtain ⟨x, hx⟩ : ∃ x, x = fq 2 k := ⟨_, rfl⟩
              have HX := Lib.hid hx
              have HW := Lib.hid hhw
              rw [← hx] at h0 k1 l1 l2
              rw [← hlw] at l1 ⊢
              rw [← hhw] at l2 ⊢
              clear hx hlw hhw
              go_wp2_with fail
              refine (noHole_any _ _).mono ?_
              rw [h0]
              rintro e w2 ⟨rfl, rfl⟩
              go_wp2
              go_round
              case rel => exact ⟨i + 1, by rw [HS.out, HSV.out, HX.out], by rw [HS.out, HSV.out, HW.out], by rw [HS.out, HSV.out], by go_num, by omega⟩
              case measure => simp [intOf]; omega
          · by_cases c2 : hi2 < k
            · have hsv2 : rgS (lo, hi2, true) k = (lo, k, true) := by rw [hsv]; simp [c1, c2]
              have HSV := Lib.hid hsv2
              simp only [c1, c2, decide_true, decide_false] at l1 l2
              clear hsv hsv2 hk hk0 c1 c2
              obtain ⟨lw, hlw⟩ : ∃ x, x = fq 2 lo := ⟨_, rfl⟩
              obtain ⟨hw, hhw⟩ : ∃ x, x = fq 2 hi2 := ⟨_, rfl⟩
              obtain ⟨x, hx⟩ : ∃ x, x = fq 2 k := ⟨_, rfl⟩
              have HX := Lib.hid hx
              have HW := Lib.hid hlw
              rw [← hx] at h0 k1 l1 l2
              rw [← hlw] at l1 ⊢
              rw [← hhw] at l2 ⊢
              clear hx hlw hhw
              go_wp2_with fail
              refine (noHole_any _ _).mono ?_
              rw [h0]
              rintro e w2 ⟨rfl, rfl⟩
              go_wp2
              go_round
              case rel => exact ⟨i + 1, by rw [HS.out, HSV.out, HW.out], by rw [HS.out, HSV.out, HX.out], by rw [HS.out, HSV.out], by go_num, by omega⟩
              case measure => simp [intOf]; omega
            · have hsv2 : rgS (lo, hi2, true) k = (lo, hi2, true) := by rw [hsv]; simp [c1, c2]
              have HSV := Lib.hid hsv2
              simp only [c1, c2, decide_false] at l1 l2
              clear hsv hsv2 hk hk0 c1 c2
              obtain ⟨lw, hlw⟩ : ∃ x, x = fq 2 lo := ⟨_, rfl⟩
              obtain ⟨hw, hhw⟩ : ∃ x, x = fq 2 hi2 := ⟨_, rfl⟩
              obtain ⟨x, hx⟩ : ∃ x, x = fq 2 k := ⟨_, rfl⟩
              have HX := Lib.hid hx
              have HW := Lib.hid hlw
              have HW2 := Lib.hid hhw
              rw [← hx] at h0 k1 l1 l2
              rw [← hlw] at l1 ⊢
              rw [← hhw] at l2 ⊢
              clear hx hlw hhw
              go_wp2_with fail
              refine (noHole_any _ _).mono ?_
              rw [h0]
              rintro e w2 ⟨rfl, rfl⟩
              go_wp2
              go_round
              case rel => exact ⟨i + 1, by rw [HS.out, HSV.out, HW.out], by rw [HS.out, HSV.out, HW2.out], by rw [HS.out, HSV.out], by go_num, by omega⟩
              case measure => simp [intOf]; omega
      · simp only [hk0, decide_false] at h0
        have hsv : rgS (lo, hi2, fd) k = (lo, hi2, fd) := by unfold rgS; rw [if_pos (by omega)]
        have HSV := Lib.hid hsv
        generalize fq 2 k = x at *
        obtain ⟨lw, hlw⟩ : ∃ x, x = fq 2 lo := ⟨_, rfl⟩
        obtain ⟨hw, hhw⟩ : ∃ x, x = fq 2 hi2 := ⟨_, rfl⟩
        have HW := Lib.hid hlw
        have HW2 := Lib.hid hhw
        rw [← hlw, ← hhw]
        clear hsv hk hk0 l1 l2 hlw hhw
        go_wp2_with fail
        refine (noHole_any _ _).mono ?_
        rw [h0]
        rintro e w2 ⟨rfl, rfl⟩
        go_wp2
        go_round
        case rel => exact ⟨i + 1, by rw [HS.out, HSV.out, HW.out], by rw [HS.out, HSV.out, HW2.out], by rw [HS.out, HSV.out], by go_num, by omega⟩
        case measure => simp [intOf]; omega
    · obtain rfl : i = N := by omega
      have hfull := foldl_full rgS (0, 0, false) ks i HL.out
      rw [hfull]
      have he : ks.foldl rgS (0, 0, false) = rgF ks := rfl
      rw [he]
      clear hfull he hlt
      go_wp2
      go_ret3
      exact ⟨rfl, rfl⟩

end Go.Proofs.Ytmpbnmmpniganaa

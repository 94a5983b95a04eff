/- Maps of quarters that are told of others; places; counts of holes; ranges, means. -/
import Derived.Test.YtfhlpabbacopjaaMp
namespace Go.Proofs.Ytfhlpabbacopjaa
open Go.RowKit
set_option maxRecDepth 100000
set_option linter.unusedVariables false
set_option linter.unusedSimpArgs false

/-- A map made anew, and true. -/
def MakesMQ (w : World) (wd hi N : Nat) (ks : List Int) (e : Ending) (w' : World) : Prop :=
  ∃ q c, e = .returned (.tuple #[.agg #[.int .i64 wd, .int .i64 hi, .slice (some ⟨q, 0, none⟩) N c], .bool true]) ∧ MQ w' q c N ks ∧ w.heap.size ≤ q ∧ Below w.heap.size w w'

/-- The place of a value in quarters. -/
def plq (k : Int) : Int := if k < -2 then -1 else if k % 4 < 2 then k / 4 else if 2 < k % 4 then k / 4 + 1 else if k / 4 % 2 = 0 then k / 4 else k / 4 + 1
def isNum (d : Ieee.Datum) : Bool := match d with | .nan _ _ => false | _ => true
def rteW (x : Nat) : Nat := FloatKind.f64.encode ((FloatKind.f64.decode x).integral .even)
theorem rte_tab : ∀ k : Fin 130, floatToIntVal .f64 (rteW (dq 2 ((k.val : Int) - 2))) .i64 = some (plq ((k.val : Int) - 2)) ∧ isNum (FloatKind.f64.decode (dq 2 ((k.val : Int) - 2))) = true ∧ FloatKind.f64.format.order (dq 2 ((k.val : Int) - 2)) 4697254411347427328 = some .lt := by decide +kernel
theorem rte_plain (x : Nat) (d : Ieee.Datum) (hd : FloatKind.f64.decode x = d) (h : isNum d = true) : Extern.MathFloor.toIntegral "math.RoundToEven" .even #[.float .f64 x] = (pure (.float .f64 (FloatKind.f64.encode (d.integral .even))) : Sem Value) := by
  show ((match FloatKind.f64.decode x with
    | .nan s t =>
      if FloatKind.f64.format.quiet t = t then pure (Value.float .f64 x) else do
      let kept ← choose (.extern "math.Floor,Ceil,Trunc,RoundToEven.signallingNaN kept" 2)
      pure (Value.float .f64 (if kept == 1 then x else FloatKind.f64.encode (.nan s (FloatKind.f64.format.quiet t))))
    | d => pure (Value.float .f64 (FloatKind.f64.encode (d.integral .even)))) : Sem Value) = _
  rw [hd]
  cases d <;> first | (simp [isNum] at h; done) | rfl
@[go_sem] theorem ext_rte (x : Nat) (w : World) (h : isNum (FloatKind.f64.decode x) = true) : (callFunc 101 #[.float .f64 x]).run Try.prog w = .ok (.value (.float .f64 (rteW x))) w := by
  rw [run_callFunc_extern (e := Extern.MathFloor.toIntegral "math.RoundToEven" .even) Try.func101 (by kernel_rfl) (by kernel_rfl) (by kernel_rfl) (by kernel_rfl), rte_plain x _ rfl h]
  rfl

@[go_sem] theorem run_min_float_lt {P : Program} {w : World} (ts : Array TypeId) (t : TypeId) (k k' : FloatKind) (x y : Nat) (h : k.format.order x y = some .lt) : (Builtin.min_ ts t #[.float k x, .float k' y]).run P w = .ok (.float k x) w := by
  simp [Builtin.min_, Builtin.min2, h]

@[go_sem] theorem conv64_i64 (b : Nat) (n : Int) (w : World) (h : floatToIntVal .f64 b .i64 = some n) : (convert 129 2 (.float .f64 b)).run Try.prog w = .ok (.int .i64 n) w := run_convert_float_int w _ _ _ _ _ _ (by rfl) (by rfl) h

theorem place_q (k : Int) (w : World) (h1 : -1000 ≤ k) (h2 : k < 128) : Calls Try.prog 71 #[.float .f32 (fq 2 k)] w fun e w' => e = .returned (.int .i64 (plq k)) ∧ ∃ n, w' = w.drewN n := by
  have hf := fq_fin (g := 2) (k := k) (by omega)
  have hl := lt32_fq (g := 2) (a := k) (b := -2) (by omega) (by decide)
  have hc : fq 2 (-2) = 3204448256 := by decide +kernel
  rw [hc] at hl
  have hw := fq_wide (g := 2) (by omega) (k := k) (by omega)
  have hd0 : ∀ W : World, W.drewN 0 = W := fun _ => rfl
  by_cases hk : k < -2
  · have hp : plq k = -1 := by unfold plq; rw [if_pos hk]
    rw [hp]
    simp only [hk, decide_true] at hl
    generalize fq 2 k = x at *
    clear hp hk h1 h2 hw
    go_enter Try.func71, Try.ntmps71
    go_wp2_with fail
    refine (isFinite_any _ _).mono ?_
    rw [hf]
    rintro e w1 ⟨rfl, n, rfl⟩
    go_wp2
    go_ret
    exact ⟨rfl, n, rfl⟩
  · obtain ⟨t1, t2, t3⟩ := rte_tab ⟨(k + 2).toNat, by omega⟩
    have e : (((k + 2).toNat : Nat) : Int) - 2 = k := by omega
    simp only [e] at t1 t2 t3
    simp only [hk, decide_false] at hl
    generalize fq 2 k = x at *
    generalize dq 2 k = y at *
    generalize plq k = p at *
    clear h1 h2 hk e hc
    go_enter Try.func71, Try.ntmps71
    go_wp2_with fail
    refine (isFinite_any _ _).mono ?_
    rw [hf]
    rintro e w1 ⟨rfl, n, rfl⟩
    have hv := cvr_some hw
    have hv2 := cvd_some hw
    go_wp2_with fail
    go_ret
    exact ⟨rfl, n, rfl⟩

theorem foldl_take {α : Type} (step : α → Int → α) (s : α) (ks : List Int) (i : Nat) (h : i < ks.length) : (ks.take (i + 1)).foldl step s = step ((ks.take i).foldl step s) (ks.getD i 0) := by
  rw [List.take_add_one, List.getElem?_eq_getElem h, List.foldl_append, List.getD_eq_getElem?_getD, List.getElem?_eq_getElem h]; rfl
theorem foldl_full {α : Type} (step : α → Int → α) (s : α) (ks : List Int) (n : Nat) (h : ks.length = n) : (ks.take n).foldl step s = ks.foldl step s := by rw [← h, List.take_length]

/-- How many holes. -/
def holeS (n : Nat) (k : Int) : Nat := if k < 0 then n + 1 else n
def holesF (ks : List Int) : Nat := ks.foldl holeS 0
theorem holesF_le (ks : List Int) : ∀ s, ks.foldl holeS s ≤ s + ks.length := by
  induction ks with
  | nil => intro s; simp
  | cons a l ih =>
    intro s
    have := ih (holeS s a)
    rw [List.foldl_cons, List.length_cons]
    have h2 : holeS s a ≤ s + 1 := by unfold holeS; split <;> omega
    omega

/-- The least and the greatest value that is none of a hole. -/
def rgS (o : Int × Int × Bool) (k : Int) : Int × Int × Bool := if k < 0 then o else (if o.2.2 = false ∨ k < o.1 then k else o.1, if o.2.2 = false ∨ o.2.1 < k then k else o.2.1, true)
def rgF (ks : List Int) : Int × Int × Bool := ks.foldl rgS (0, 0, false)
theorem rgS_bd {o : Int × Int × Bool} {k : Int} {B : Nat} (h1 : o.1.natAbs ≤ B) (h2 : o.2.1.natAbs ≤ B) (h : k.natAbs ≤ B) : (rgS o k).1.natAbs ≤ B ∧ (rgS o k).2.1.natAbs ≤ B := by
  unfold rgS
  split
  · exact ⟨h1, h2⟩
  · constructor <;> dsimp only <;> split <;> assumption
theorem rgF_bd {B : Nat} (ks : List Int) (hb : ∀ k ∈ ks, k.natAbs ≤ B) : ∀ o : Int × Int × Bool, o.1.natAbs ≤ B → o.2.1.natAbs ≤ B → (ks.foldl rgS o).1.natAbs ≤ B ∧ (ks.foldl rgS o).2.1.natAbs ≤ B := by
  induction ks with
  | nil => intro o h1 h2; exact ⟨h1, h2⟩
  | cons a l ih =>
    intro o h1 h2
    obtain ⟨h3, h4⟩ := rgS_bd h1 h2 (hb a (by simp))
    exact ih (fun k hk => hb k (by simp [hk])) _ h3 h4

end Go.Proofs.Ytfhlpabbacopjaa

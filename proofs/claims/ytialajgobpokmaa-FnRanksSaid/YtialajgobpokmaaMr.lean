/- Maps of quarters that are told of others; places; counts of holes; ranges, means. -/
import Derived.Test.YtialajgobpokmaaMp
namespace Go.Proofs.Ytialajgobpokmaa
open Go.RowKit
set_option maxRecDepth 100000
set_option linter.unusedVariables false
set_option linter.unusedSimpArgs false

/-- A map made anew, and true. -/
def MakesMQ (w : World) (wd hi N : Nat) (ks : List Int) (e : Ending) (w' : World) : Prop :=
  ∃ q c, e = .returned (.tuple #[.agg #[.int .i64 wd, .int .i64 hi, .slice (some ⟨q, 0, none⟩) N c], .bool true]) ∧ MQ w' q c N ks ∧ w.heap.size ≤ q ∧ Below w.heap.size w w'

@[go_sem] theorem run_min_float_lt {P : Program} {w : World} (ts : Array TypeId) (t : TypeId) (k k' : FloatKind) (x y : Nat) (h : k.format.order x y = some .lt) : (Builtin.min_ ts t #[.float k x, .float k' y]).run P w = .ok (.float k x) w := by
  simp [Builtin.min_, Builtin.min2, h]

@[go_sem] theorem conv64_i64 (b : Nat) (n : Int) (w : World) (h : floatToIntVal .f64 b .i64 = some n) : (convert 36 2 (.float .f64 b)).run Try.prog w = .ok (.int .i64 n) w := run_convert_float_int w _ _ _ _ _ _ (by rfl) (by rfl) h

theorem foldl_take {α : Type} (step : α → Int → α) (s : α) (ks : List Int) (i : Nat) (h : i < ks.length) : (ks.take (i + 1)).foldl step s = step ((ks.take i).foldl step s) (ks.getD i 0) := by
  rw [List.take_add_one, List.getElem?_eq_getElem h, List.foldl_append, List.getD_eq_getElem?_getD, List.getElem?_eq_getElem h]; rfl
theorem foldl_full {α : Type} (step : α → Int → α) (s : α) (ks : List Int) (n : Nat) (h : ks.length = n) : (ks.take n).foldl step s = ks.foldl step s := by rw [← h, List.take_length]

/-- How many holes. -/
def holeS (n : Nat) (k : Int) : Nat := if k < 0 then n + 1 else n
def holesF (ks : List Int) : Nat := ks.foldl holeS 0
theorem holesF_le (ks : List Int) : ∀ s, ks.foldl holeS s ≤ s + ks.length := by
  induction ks with
  | nil => intro s; simp
  | cons a l ih =>
    intro s
    have := ih (holeS s a)
    rw [List.foldl_cons, List.length_cons]
    have h2 : holeS s a ≤ s + 1 := by unfold holeS; split <;> omega
    omega

/-- The least and the greatest value that is none of a hole. -/
def rgS (o : Int × Int × Bool) (k : Int) : Int × Int × Bool := if k < 0 then o else (if o.2.2 = false ∨ k < o.1 then k else o.1, if o.2.2 = false ∨ o.2.1 < k then k else o.2.1, true)
def rgF (ks : List Int) : Int × Int × Bool := ks.foldl rgS (0, 0, false)
theorem rgS_bd {o : Int × Int × Bool} {k : Int} {B : Nat} (h1 : o.1.natAbs ≤ B) (h2 : o.2.1.natAbs ≤ B) (h : k.natAbs ≤ B) : (rgS o k).1.natAbs ≤ B ∧ (rgS o k).2.1.natAbs ≤ B := by
  unfold rgS
  split
  · exact ⟨h1, h2⟩
  · constructor <;> dsimp only <;> split <;> assumption
theorem rgF_bd {B : Nat} (ks : List Int) (hb : ∀ k ∈ ks, k.natAbs ≤ B) : ∀ o : Int × Int × Bool, o.1.natAbs ≤ B → o.2.1.natAbs ≤ B → (ks.foldl rgS o).1.natAbs ≤ B ∧ (ks.foldl rgS o).2.1.natAbs ≤ B := by
  induction ks with
  | nil => intro o h1 h2; exact ⟨h1, h2⟩
  | cons a l ih =>
    intro o h1 h2
    obtain ⟨h3, h4⟩ := rgS_bd h1 h2 (hb a (by simp))
    exact ih (fun k hk => hb k (by simp [hk])) _ h3 h4

end Go.Proofs.Ytialajgobpokmaa

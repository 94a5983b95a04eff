/- The exact laws' sizes and copies of their arguments: szFloat32S, szPicture, szMap, toFloat32S, toPicture, toMap. -/
import Derived.Test.YtabbjilgpfnacaaGreatEx
import Derived.Test.YtabbjilgpfnacaaGreatPic
import Derived.Test.YtabbjilgpfnacaaGreatBox
import Derived.Laws.OwnMore
import Derived.Deep.Cut
namespace Go.Proofs.YtabbjilgpfnacaaGreat
open Go.RowKit Ieee
set_option maxRecDepth 100000
set_option linter.unusedVariables false
set_option linter.unusedSimpArgs false

/-- What a size leaves. -/
def szL (left n : Nat) : Int := if n ≤ left then ((left - n : Nat) : Int) else -1

theorem szF_any (w : World) (sa : Option Addr) (n c left : Nat) (hl : left ≤ 1048576) (hn : n ≤ 9223372036854775807) :
    Calls Tryz.prog 14 #[.slice sa n c, .int .i64 left] w fun e w' => e = .returned (.int .i64 (szL left n)) ∧ w = w' := by
  by_cases h : n ≤ left
  · have e : szL left n = (left : Int) - n := by unfold szL; rw [if_pos h]; omega
    rw [e]
    have h1 : decide ((left : Int) - (n : Int) < 0) = false := decide_eq_false (by omega)
    have h2 : IntKind.i64.wrap ((left : Int) - (n : Int)) = (left : Int) - (n : Int) := IntWalk.i64_in _ (by omega)
    clear hl
    go_enter Tryz.func14, Tryz.ntmps14
    go_wp2
    go_ret
    exact ⟨rfl, rfl⟩
  · have e : szL left n = -1 := by unfold szL; rw [if_neg h]
    rw [e]
    have h1 : decide ((left : Int) - (n : Int) < 0) = true := decide_eq_true (by omega)
    have h2 : IntKind.i64.wrap ((left : Int) - (n : Int)) = (left : Int) - (n : Int) := IntWalk.i64_in _ (by omega)
    clear hl h
    go_enter Tryz.func14, Tryz.ntmps14
    go_wp2
    go_ret
    exact ⟨rfl, rfl⟩

theorem szP_any (w : World) (a b : Int) (sa : Option Addr) (n c left : Nat) (hl : left ≤ 1048576) (hn : n ≤ 9223372036854775807) :
    Calls Tryz.prog 4 #[.agg #[.int .i64 a, .int .i64 b, .slice sa n c], .int .i64 left] w fun e w' => e = .returned (.int .i64 (szL left n)) ∧ Below w.heap.size w w' := by
  have hb : Below w.heap.size w (w.alloc (.cells #[.int .i64 a, .int .i64 b, .slice sa n c] 24)) := (Below.refl _ _).alloc (Nat.le_refl _) _
  have K := Lib.hid (fun W => szF_any W sa n c left hl hn)
  have hz : -1 ≤ szL left n := by unfold szL; split <;> omega
  by_cases h : szL left n < 0
  · have e : szL left n = -1 := by omega
    rw [e] at K ⊢
    clear e h hz hl
    go_enter Tryz.func4, Tryz.ntmps4
    go_wp2_with fail
    refine (K.out _).mono ?_
    rintro e w' ⟨rfl, rfl⟩
    go_wp2
    go_ret
    exact ⟨rfl, hb⟩
  · obtain ⟨z, hz2⟩ := Int.eq_ofNat_of_zero_le (show 0 ≤ szL left n by omega)
    rw [hz2] at K ⊢
    have h1 : decide ((z : Int) < 0) = false := decide_eq_false (by omega)
    clear h hz hz2 hl
    go_enter Tryz.func4, Tryz.ntmps4
    go_wp2_with fail
    refine (K.out _).mono ?_
    rintro e w' ⟨rfl, rfl⟩
    go_wp2
    go_ret
    exact ⟨rfl, hb⟩

theorem info_f32h : (Tryz.prog.info? 25).map (fun i => (i.zero, i.size, i.bytes)) = some (some (.float .f32 0), 1, 4) := by kernel_rfl

theorem makeF (w : World) (n B : Nat) (hB : B ≤ w.heap.size) (hn : n ≤ 1048576) :
    ∃ w', (Instr.makeSlice 22 (.int .i64 (n : Int)) (.int .i64 (n : Int))).run Tryz.prog w = .ok (.slice (some ⟨w.heap.size, 0, none⟩) n n) w' ∧ OwnF w' B (.slice (some ⟨w.heap.size, 0, none⟩) n n) (List.replicate n 0) ∧ Below w.heap.size w w' := by
  obtain ⟨i0, hi0, hz0, hz1, hz2⟩ := info_parts info_f32h
  obtain ⟨w', h1, h2, h3⟩ := run_makeSlice_full (P := Tryz.prog) (w := w) B 22 25 i0 (.float .f32 0) 1 (by rfl) hi0 hz0 hz1 .i64 .i64 n (by omega) (by rw [hz2]; omega) (by unfold maxLen; omega) hB
  have h4 : (madeCells (Value.cells (.float .f32 0)) (n * 1)).toList = (List.replicate n 0).map (Value.float .f32) := by
    rw [Nat.mul_one, List.map_replicate]; exact toList_madeCells_one _ _
  refine ⟨w', h1, ⟨by rw [List.length_replicate, ← h4]; exact h2, fun b hb => by rw [(List.mem_replicate.1 hb).2]; decide⟩, ?_⟩
  exact ⟨h3.os, h3.tape, h3.output, h3.size, fun k hk => h3.block k hk (by simp)⟩

/-- A slice of one's own of a list's words. -/
def MakesF2 (w : World) (bs : List Nat) (e : Ending) (w' : World) : Prop := ∃ g, e = .returned (.slice (some ⟨g, 0, none⟩) bs.length bs.length) ∧ OwnF w' w.heap.size (.slice (some ⟨g, 0, none⟩) bs.length bs.length) bs ∧ Below w.heap.size w w'

theorem toF_any (w : World) (sa : Option Addr) (n c : Nat) (bs : List Nat) (h : SlF w (.slice sa n c) bs) (hn : bs.length = n) (hl : n ≤ 1048576) :
    Calls Tryz.prog 19 #[.slice sa n c] w (MakesF2 w bs) := by
  obtain ⟨w1, hmk, hown, hb1⟩ := makeF w n w.heap.size (Nat.le_refl _) hl
  obtain ⟨g, hg⟩ : ∃ g, g = w.heap.size := ⟨_, rfl⟩
  rw [← hg] at hmk hown
  have HS := Lib.hid h
  have HB1 := Lib.hid hb1
  have HO := Lib.hid hown
  have HG := Lib.hid hg
  have HN := Lib.hid hn
  have hlI : (n : Int) ≤ 1048576 := by omega
  clear h hb1 hown hg hn
  go_enter Tryz.func19, Tryz.ntmps19
  go_wp2_with fail
  clear hmk
  go_loopw [4] (fun v3 wr => ∃ i : Nat, v3 = .int .i64 i ∧ i ≤ n ∧ OwnF wr w.heap.size (.slice (some ⟨g, 0, none⟩) n n) (bs.take i ++ List.replicate (n - i) 0) ∧ Below w.heap.size w wr) (fun v3 _ => n - (intOf v3).toNat)
  case atStart => exact ⟨0, rfl, Nat.zero_le _, by simpa [HG.out] using HO.out, HB1.out⟩
  case round =>
    clear HO
    obtain ⟨i, rfl, hi, hown, hb⟩ := hrel
    by_cases hlt : i < n
    · obtain ⟨b1, o1, rfl, k1, k2⟩ : ∃ b1 o1, sa = some ⟨b1, o1, none⟩ ∧ wr.cell? ⟨b1, o1 + i, none⟩ = some (.float .f32 (bs.getD i 0)) ∧ bs.getD i 0 < 4294967296 := by
        have hS := HS.out.below hb
        obtain ⟨b1, o1, _, q1, _, _⟩ := hS.form (by intro e; have := HN.out; rw [e] at this; simp at this; omega)
        simp only [Value.slice.injEq] at q1
        obtain ⟨rfl, _⟩ := q1
        have k1 := cellAt2 hS i (by rw [HN.out]; exact hlt)
        exact ⟨b1, o1, rfl, k1.1, k1.2⟩
      have hln : (bs.take i ++ List.replicate (n - i) 0).length = n := by rw [List.length_append, List.length_take, List.length_replicate, HN.out]; omega
      have hput := hown.put i k2
      have hset : (bs.take i ++ List.replicate (n - i) 0).set i (bs.getD i 0) = bs.take (i + 1) ++ List.replicate (n - (i + 1)) 0 := by
        have hlb : i < bs.length := by rw [HN.out]; exact hlt
        rw [List.set_append_right _ _ (by rw [List.length_take]; omega), List.length_take, Nat.min_eq_left (by omega), Nat.sub_self]
        rw [show n - i = (n - (i + 1)) + 1 by omega, List.replicate_succ, List.set_cons_zero, List.take_succ_eq_append_getElem hlb, List.append_assoc, getD_of2 _ _ hlb]; rfl
      rw [hset] at hput
      have hc0 := cellAt2 hown.sl i (by rw [hln]; exact hlt)
      have hc : wr.cell? ⟨g, i, none⟩ = some (.float .f32 ((bs.take i ++ List.replicate (n - i) 0).getD i 0)) := by have := hc0.1; simpa using this
      have hf : wr.frozen? ⟨g, i, none⟩ = false := World.ownsRow.frozenAt (n := (bs.take i ++ List.replicate (n - i) 0).length) (by have := hown.1; rw [hln] at this ⊢; exact this) i
      have hgg := (hown.lt (k := g) rfl)
      have HP := Lib.hid (And.intro hput (hb.setCell (p := ⟨g, i, none⟩) hgg.1 (.float .f32 (bs.getD i 0))))
      have hltI : (i : Int) < (n : Int) := by omega
      generalize (bs.take i ++ List.replicate (n - i) 0).getD i 0 = old at *
      generalize bs.getD i 0 = b at *
      clear hput hset hln hown hb hc0
      go_wp2_with fail
      go_roundw
      case rel => exact ⟨i + 1, by go_num, by omega, HP.out.1, HP.out.2⟩
      case measure => simp [intOf]; omega
    · obtain rfl : n = i := by omega
      have e : bs.take n ++ List.replicate (n - n) 0 = bs := by rw [← HN.out, List.take_length]; simp
      rw [e] at hown
      have hN := HN.out
      go_wp2_with fail
      go_ret
      subst hN
      exact ⟨g, rfl, hown, hb⟩

/-- A picture or a map that a call makes. -/
def MakesP2 (w : World) (a b : Int) (bs : List Nat) (e : Ending) (w' : World) : Prop :=
  ∃ g, e = .returned (.agg #[.int .i64 a, .int .i64 b, .slice (some ⟨g, 0, none⟩) bs.length bs.length]) ∧ OwnF w' w.heap.size (.slice (some ⟨g, 0, none⟩) bs.length bs.length) bs ∧ Below w.heap.size w w'

theorem three_boxes {w W : World} {x y z : Array Value} {T U V : TypeId} (h : W = (((w.alloc (.cells x T)).alloc (.cells y U)).alloc (.cells z V))) :
    Below w.heap.size w W ∧ BoxN W w.heap.size x T ∧ BoxN W (w.heap.size + 1) y U ∧ BoxN W (w.heap.size + 1 + 1) z V := by
  obtain ⟨A, hA⟩ : ∃ A, A = w.alloc (.cells x T) := ⟨_, rfl⟩
  obtain ⟨B, hB⟩ : ∃ B, B = A.alloc (.cells y U) := ⟨_, rfl⟩
  rw [← hA, ← hB] at h
  have sA : A.heap.size = w.heap.size + 1 := by rw [hA]; simp
  have sB : B.heap.size = w.heap.size + 1 + 1 := by rw [hB]; simp; omega
  have bA : Below w.heap.size w A := by rw [hA]; exact (Below.refl _ _).alloc (Nat.le_refl _) _
  have bB : Below A.heap.size A B := by rw [hB]; exact (Below.refl _ _).alloc (Nat.le_refl _) _
  have bC : Below B.heap.size B W := by rw [h]; exact (Below.refl _ _).alloc (Nat.le_refl _) _
  have xA : BoxN A w.heap.size x T := by rw [hA]; exact BoxN.last w _ _
  have xB : BoxN B (w.heap.size + 1) y U := by rw [hB, ← sA]; exact BoxN.last A _ _
  have xC : BoxN W (w.heap.size + 1 + 1) z V := by rw [h, ← sB]; exact BoxN.last B _ _
  exact ⟨(bA.trans (bB.mono bA.size)).trans (bC.mono (Nat.le_trans bA.size bB.size)), (xA.below bB).below bC, xB.below bC, xC⟩

theorem toP_any (w : World) (a b : Int) (sa : Option Addr) (n c : Nat) (bs : List Nat) (h : SlF w (.slice sa n c) bs) (hn : bs.length = n) (hl : n ≤ 1048576) :
    Calls Tryz.prog 6 #[.agg #[.int .i64 a, .int .i64 b, .slice sa n c]] w (MakesP2 w a b bs) := by
  subst hn
  obtain ⟨W0, hW0⟩ : ∃ W, W = (((w.alloc (.cells #[.int .i64 a, .int .i64 b, .slice sa bs.length c] 24)).alloc (.cells #[.int .i64 0, .int .i64 0, .slice none 0 0] 35)).alloc (.cells #[.int .i64 a, .int .i64 b, .slice none 0 0] 35)) := ⟨_, rfl⟩
  obtain ⟨hb0, x0, x1, x2⟩ := three_boxes hW0
  have hs0 : W0.heap.size = w.heap.size + 1 + 1 + 1 := by rw [hW0]; simp
  have K := Lib.hid (toF_any W0 sa bs.length c bs (h.below hb0) rfl hl)
  have HX := Lib.hid (And.intro hb0 (And.intro x1 x2))
  have p2 : W0.cell? ⟨w.heap.size, 2, none⟩ = some (.slice sa bs.length c) := x0.cell 2
  rw [hW0] at p2
  have HW0 := Lib.hid hW0
  clear hW0 h hb0 x0 x1 x2
  go_enter Tryz.func6, Tryz.ntmps6
  go_wp2_with fail
  rw [← HW0.out]
  refine K.out.mono ?_
  rintro e w1 ⟨g, rfl, hown, hb1⟩
  have b1 : Below w.heap.size w w1 := HX.out.1.trans (hb1.mono HX.out.1.size)
  obtain ⟨r0, r1, r2, f0, f1, f2⟩ := (HX.out.2.1.below hb1).three.cells
  obtain ⟨s0, s1, s2, e0, e1, e2⟩ := (HX.out.2.2.below hb1).three.cells
  have z2 := (HX.out.2.2.below hb1).lt
  have z1 : w.heap.size + 1 < w1.heap.size := by omega
  have hgg := (hown.lt (k := g) rfl)
  have HE := Lib.hid (And.intro b1 hown)
  clear b1 hown hb1 p2
  go_wp2_with fail
  refine bodyPost_ret (v := .agg #[.int .i64 a, .int .i64 b, .slice (some ⟨g, 0, none⟩) bs.length bs.length]) (by simp [results, Tryz.results6, go_sem, r0, r1, r2, z1, z2]) rfl ?_
  obtain ⟨b1, hown⟩ := HE.out
  refine ⟨g, rfl, ?_, ?_⟩
  · exact ((((hown.set (a := ⟨w.heap.size + 1 + 1, 2, none⟩) (by show w.heap.size + 1 + 1 < _; omega) _).set (a := ⟨w.heap.size + 1, 0, none⟩) (by show w.heap.size + 1 < _; omega) _).set (a := ⟨w.heap.size + 1, 1, none⟩) (by show w.heap.size + 1 < _; omega) _).set (a := ⟨w.heap.size + 1, 2, none⟩) (by show w.heap.size + 1 < _; omega) _).mono (by omega)
  · exact (((b1.setCell (p := ⟨w.heap.size + 1 + 1, 2, none⟩) (by show w.heap.size ≤ w.heap.size + 1 + 1; omega) _).setCell (p := ⟨w.heap.size + 1, 0, none⟩) (by show w.heap.size ≤ w.heap.size + 1; omega) _).setCell (p := ⟨w.heap.size + 1, 1, none⟩) (by show w.heap.size ≤ w.heap.size + 1; omega) _).setCell (p := ⟨w.heap.size + 1, 2, none⟩) (by show w.heap.size ≤ w.heap.size + 1; omega) _

end Go.Proofs.YtabbjilgpfnacaaGreat

/- The exact laws' functions on volumes: markVolume, heldVolume. -/
import Derived.Test.YtcppoadeelnphaaDoorDe
namespace Go.Proofs.YtcppoadeelnphaaDoor
open Go.RowKit Ieee
set_option maxRecDepth 100000
set_option linter.unusedVariables false
set_option linter.unusedSimpArgs false

theorem markV_any (w : World) (B : Nat) (a b d : Int) (s : Option Addr) (c : Nat) (bs : List Nat) (k : Nat) (hk : k + bs.length ≤ 9223372036854775000) (hB : B ≤ w.heap.size) (h : OwnF w B (.slice s bs.length c) bs) :
    Calls Tryd.prog 19 #[.agg #[.int .i64 a, .int .i64 b, .int .i64 d, .slice s bs.length c], .int .i64 k] w (Marks w B (.slice s bs.length c) bs.length k) := by
  have hb : Below w.heap.size w (w.alloc (.cells #[.int .i64 a, .int .i64 b, .int .i64 d, .slice s bs.length c] 37)) := (Below.refl _ _).alloc (Nat.le_refl _) _
  have K := Lib.hid (markF_any _ B _ bs k hk (h.below hb))
  go_enter Tryd.func19, Tryd.ntmps19
  go_wp2_with fail
  refine K.out.mono ?_
  rintro e w' ⟨rfl, hown, hg⟩
  go_wp2
  go_ret
  exact ⟨rfl, hown, grown_trans2 (grown_below hb _) hg⟩

theorem heldV_yes (w : World) (a b d : Int) (s : Option Addr) (l c : Nat) (k n : Nat) (hk : k + n ≤ 9223372036854775000) (h : SlF w (.slice s l c) (marks k n)) :
    Calls Tryd.prog 20 #[.agg #[.int .i64 a, .int .i64 b, .int .i64 d, .slice s l c], .int .i64 k] w fun e w' => e = .returned (.int .i64 ((k + n : Nat) : Int)) ∧ Below w.heap.size w w' := by
  have hb : Below w.heap.size w (w.alloc (.cells #[.int .i64 a, .int .i64 b, .int .i64 d, .slice s l c] 37)) := (Below.refl _ _).alloc (Nat.le_refl _) _
  have K := Lib.hid (heldF_yes _ _ k n hk (h.below hb))
  obtain ⟨m, hm⟩ : ∃ m, m = k + n := ⟨_, rfl⟩
  rw [← hm] at K ⊢
  clear hm
  go_enter Tryd.func20, Tryd.ntmps20
  go_wp2_with fail
  refine K.out.mono ?_
  rintro e w' ⟨rfl, rfl⟩
  go_wp2
  go_ret
  exact ⟨rfl, hb⟩

end Go.Proofs.YtcppoadeelnphaaDoor

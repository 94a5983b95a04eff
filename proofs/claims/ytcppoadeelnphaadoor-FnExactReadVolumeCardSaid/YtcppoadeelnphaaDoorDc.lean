/- The reference's text of a whole number: spec.l01Dec. -/
import Derived.Test.YtcppoadeelnphaaDoorBs
import Derived.Lib.ItoaNum
namespace Go.Proofs.YtcppoadeelnphaaDoor
open Go.RowKit
set_option maxRecDepth 100000
set_option linter.unusedVariables false
set_option linter.unusedSimpArgs false

/-- A byte in a block that a literal made. -/
theorem OwnU.one (w : World) (B : Nat) (hB : B ≤ w.heap.size) (d : UInt8) : OwnU (w.alloc (.cells #[.int .u8 ((d.toNat : Nat) : Int)] 5)) B (.slice (some ⟨w.heap.size, 0, none⟩) 1 1) [d] :=
  ⟨rfl, .inr ⟨w.heap.size, 1, #[.int .u8 ((d.toNat : Nat) : Int)], rfl, hB, heap_alloc_new w _, Nat.le_refl _, by unfold maxLen; omega, rfl, rfl⟩⟩

/-- What is to come, and what is there. -/
def finD (r : Nat) (l : List UInt8) : List UInt8 := if r = 0 ∧ l ≠ [] then l else Lib.decDigits r ++ l
theorem finD_step {r : Nat} {l : List UInt8} (h : l = [] ∨ r ≠ 0) : finD (r / 10) (UInt8.ofNat (48 + r % 10) :: l) = finD r l := by
  have e2 : finD r l = Lib.decDigits r ++ l := by
    unfold finD
    rw [if_neg (by rintro ⟨h1, h2⟩; rcases h with h | h; exact h2 h; exact h h1)]
  rw [e2]
  unfold finD
  by_cases h10 : r < 10
  · rw [if_pos ⟨by omega, by simp⟩, Lib.decDigits_one h10, Nat.mod_eq_of_lt h10]; rfl
  · rw [if_neg (by rintro ⟨h1, _⟩; omega)]
    conv => rhs; rw [Lib.decDigits, dif_neg h10]
    simp

theorem own_somewhere {w : World} {B n : Nat} {e : TypeId} {size : Nat} {v : Value} {xs : List Value} (hn : 0 < n) (h : w.ownsRow B e size v n xs) : ∃ g cap, v = .slice (some ⟨g, 0, none⟩) n cap := by
  rcases h.2 with ⟨_, h0⟩ | ⟨g, cap, cur, e, _⟩
  · omega
  · exact ⟨g, cap, e⟩
def lenV : Value → Nat
  | .slice _ n _ => n
  | _ => 0

set_option maxHeartbeats 2000000 in
theorem s01Dec_any (w : World) (n : Nat) (hn : n < 10 ^ 15) :
    Calls Tryd.prog 57 #[.int .i64 n] w fun e w' => e = .returned (.string ⟨(Lib.decDigits n).toArray⟩) ∧ Below w.heap.size w w' := by
  obtain ⟨i0, hi0, hz0, hz1, hz2⟩ := info_parts info_u8
  have HS := Lib.hid (OwnU.start w w.heap.size (Nat.le_refl _))
  have hb0 : Below w.heap.size w (w.alloc (.cells #[] 5)) := (Below.refl _ _).alloc (Nat.le_refl _) _
  have HB := Lib.hid hb0
  have HN := Lib.hid hn
  have hn9 : n < 1000000000000000 := by simpa using hn
  clear hb0 hn
  go_enter Tryd.func57, Tryd.ntmps57
  go_wp2_with fail
  go_loopw [3, 4] (fun v3 v4 wr => ∃ (r k g cap : Nat) (l : List UInt8), v4 = .int .i64 (r : Int) ∧ v3 = .slice (some ⟨g, 0, none⟩) k cap ∧ l.length = k ∧ k ≤ 16 ∧ r < 10 ^ (16 - k) ∧ finD r l = Lib.decDigits n ∧ OwnU wr w.heap.size (.slice (some ⟨g, 0, none⟩) k cap) l ∧ Below w.heap.size w wr) (fun v3 _ _ => 16 - lenV v3)
  case atStart => exact ⟨n, 0, _, _, [], rfl, rfl, rfl, by omega, by show n < 10 ^ 16; omega, by unfold finD; simp, HS.out, HB.out⟩
  case round =>
    clear HS HB
    obtain ⟨r, k, g, cap, l, rfl, rfl, hl, hk, hr, hf, hown, hbel⟩ := hrel
    have HBE := Lib.hid hbel
    have HO := Lib.hid hown
    have HF := Lib.hid hf
    have HL := Lib.hid hl
    have hr16 : r < 10000000000000000 := Nat.lt_of_lt_of_le hr (Nat.le_trans (Nat.pow_le_pow_right (by omega) (show 16 - k ≤ 16 by omega)) (by decide))
    by_cases hgo : k = 0 ∨ r ≠ 0
    · have hk16 : k < 16 := by
        rcases Nat.lt_or_ge k 16 with h | h
        · exact h
        · obtain rfl : k = 16 := by omega
          simp at hr; omega
      have hlr : l = [] ∨ r ≠ 0 := by rcases hgo with h | h; exact .inl (List.length_eq_zero_iff.1 (by omega)); exact .inr h
      have hst := finD_step hlr
      rw [hf] at hst
      have hrr : r / 10 < 10 ^ (16 - (1 + k)) := by
        rw [show 16 - k = (16 - (1 + k)) + 1 by omega, Nat.pow_succ] at hr
        exact Nat.div_lt_of_lt_mul (by omega)
      obtain ⟨d, hd⟩ : ∃ d, r % 10 = d := ⟨_, rfl⟩
      rw [hd] at hst
      have hd10 : d < 10 := by rw [← hd]; exact Nat.mod_lt _ (by decide)
      have HST := Lib.hid (And.intro hst hrr)
      have hrem : Int.tmod (r : Int) 10 = (d : Int) := by rw [← hd]; rfl
      have hcond : (((k : Int) == 0) || ((r : Int) != 0)) = true := by
        rcases hgo with h | h
        · subst h; rfl
        · have : ((r : Int) != 0) = true := by simp; omega
          rw [this]; simp
      have hg0 : ((d : Int) < 0) = False := eq_false (by omega)
      have wd : IntKind.u8.wrap (48 + (d : Int)) = (((UInt8.ofNat (48 + d)).toNat : Nat) : Int) := by
        rw [UInt8.toNat_ofNat', Nat.mod_eq_of_lt (by omega)]
        simp [IntKind.wrap, IntKind.bits, IntKind.signed]; omega
      have hdI : (d : Int) ≤ 9 := by omega
      have hdI0 : (0 : Int) ≤ (d : Int) := by omega
      obtain ⟨x, hx⟩ : ∃ x : UInt8, UInt8.ofNat (48 + d) = x := ⟨_, rfl⟩
      rw [hx] at HST wd
      have hone := OwnU.one wr w.heap.size hbel.size x
      have hcells : ∀ j u, (uCells l)[j]? = some u → (wr.alloc (.cells #[.int .u8 ((x.toNat : Nat) : Int)] 5)).cell? ((⟨g, 0, none⟩ : Addr).add j) = some u := fun j u hj => World.ownsRow.cells (World.ownsRow.alloc hown _) (g := g) rfl j u hj
      have hul : (uCells l).length = k * 1 := by unfold uCells; rw [List.length_map, hl]; omega
      have hu1 : ∀ u ∈ uCells l, u.oneCell' = true := by
        intro u hu
        unfold uCells at hu
        obtain ⟨b, _, rfl⟩ := List.mem_map.1 hu
        rfl
      have HC := Lib.hid (And.intro hcells (And.intro hul (And.intro hu1 hone)))
      have hglt := (hown.lt (k := g) rfl).2
      clear hf hlr hst hrr hd hx hr hgo hcells hul hu1 hone hown hl
      go_wp2_with (at_builtin; refine wpList_append_own _ (by rfl) _ _ _ (by rfl) w.heap.size 5 i0 _ 1 1 Tryd.underlying93 hi0 hz0 hz1 hz2 rfl (by omega) _ 1 [.int .u8 ((x.toNat : Nat) : Int)] (by rfl) HC.out.2.2.2 ⟨g, 0, none⟩ k cap (uCells l) (by rfl) HC.out.2.1 HC.out.1 HC.out.2.2.1 (by unfold maxLen; omega) (by omega) (by simp; have := HBE.out.size; omega) ?_; intro v2 w2 hown2 hgrow hiff; obtain ⟨g2, cap2, rfl⟩ := own_somewhere (by omega) hown2)
      rotate_left
      · refine ⟨⟨r / 10, 1 + k, g2, cap2, x :: l, by congr 1, rfl, by simp [HL.out]; omega, by omega, HST.out.2, HST.out.1, ?_, ?_⟩, by show 16 - (1 + k) < 16 - k; omega⟩
        · unfold OwnU
          have e1 : (x :: l).length = 1 + k := by rw [List.length_cons, HL.out]; omega
          rw [e1]
          exact hown2
        · exact (HBE.out.alloc HBE.out.size _).grown hgrow (by have := HBE.out.size; simp; omega) (fun k hk => by simp [Value.ownBlock] at hk; subst hk; exact HBE.out.size)
      · rename_i hk00
        subst hk00
        obtain rfl : l = [] := List.length_eq_zero_iff.1 HL.out
        exact ⟨⟨r / 10, 1, wr.heap.size, 1, [x], by congr 1, rfl, rfl, by omega, HST.out.2, HST.out.1, HC.out.2.2.2, HBE.out.alloc HBE.out.size _⟩, by show 16 - 1 < 16 - 0; omega⟩
    · obtain ⟨h0, rfl⟩ : k ≠ 0 ∧ r = 0 := by
        constructor
        · intro h; exact hgo (.inl h)
        · rcases Nat.eq_zero_or_pos r with h | h; exact h; exact absurd (.inr (by omega)) hgo
      have hfin : l = Lib.decDigits n := by
        rw [← hf]; unfold finD; rw [if_pos ⟨rfl, by intro e; rw [e] at hl; simp at hl; omega⟩]
      rw [hfin] at hown
      have hstr := hown.str
      have hk0 : ((k : Int) == 0) = false := by simp; omega
      have hk1 : ¬ (k : Int) = 0 := by omega
      have hn0 : ((n : Int) < 0) = False := eq_false (by omega)
      clear hown hbel hf hfin hr hl
      go_wp2_with fail
      go_ret
      exact ⟨rfl, HBE.out⟩

end Go.Proofs.YtcppoadeelnphaaDoor

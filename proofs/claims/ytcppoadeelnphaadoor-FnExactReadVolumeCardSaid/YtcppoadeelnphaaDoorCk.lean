/- The reference's text of a whole number of either sign: spec.l01Dec. -/
import Derived.Test.YtcppoadeelnphaaDoorDc
import Derived.Test.YtcppoadeelnphaaDoorCf
import Derived.Test.YtcppoadeelnphaaDoorSz
namespace Go.Proofs.YtcppoadeelnphaaDoor
section
open Go.RowKit
set_option maxRecDepth 100000
set_option linter.unusedVariables false
set_option linter.unusedSimpArgs false

set_option maxHeartbeats 2000000 in
/-- A number that is not below zero. -/
theorem s01DecP_any (w : World) (n : Nat) (hn : n < 10 ^ 16) :
    Calls Tryd.prog 57 #[.int .i64 n] w fun e w' => e = .returned (.string ⟨(Lib.decDigits n).toArray⟩) ∧ Below w.heap.size w w' := by
  obtain ⟨i0, hi0, hz0, hz1, hz2⟩ := info_parts info_u8
  have HS := Lib.hid (OwnU.start w w.heap.size (Nat.le_refl _))
  have hb0 : Below w.heap.size w (w.alloc (.cells #[] 5)) := (Below.refl _ _).alloc (Nat.le_refl _) _
  have HB := Lib.hid hb0
  have HN := Lib.hid hn
  have hn9 : n < 10000000000000000 := by simpa using hn
  clear hb0 hn
  go_enter Tryd.func57, Tryd.ntmps57
  go_wp2_with fail
  go_loopw [3, 4] (fun v3 v4 wr => ∃ (r k g cap : Nat) (l : List UInt8), v4 = .int .i64 (r : Int) ∧ v3 = .slice (some ⟨g, 0, none⟩) k cap ∧ l.length = k ∧ k ≤ 17 ∧ r < 10 ^ (17 - k) ∧ r < 10 ^ 16 ∧ finD r l = Lib.decDigits n ∧ OwnU wr w.heap.size (.slice (some ⟨g, 0, none⟩) k cap) l ∧ Below w.heap.size w wr) (fun v3 _ _ => 17 - lenV v3)
  case atStart => exact ⟨n, 0, _, _, [], rfl, rfl, rfl, by omega, by show n < 10 ^ 17; omega, HN.out, by unfold finD; simp, HS.out, HB.out⟩
  case round =>
    clear HS HB
    obtain ⟨r, k, g, cap, l, rfl, rfl, hl, hk, hr, hr6, hf, hown, hbel⟩ := hrel
    have HBE := Lib.hid hbel
    have HO := Lib.hid hown
    have HF := Lib.hid hf
    have HL := Lib.hid hl
    have hr16 : r < 10000000000000000 := by simpa using hr6
    clear hr6
    by_cases hgo : k = 0 ∨ r ≠ 0
    · have hk16 : k < 17 := by
        rcases Nat.lt_or_ge k 17 with h | h
        · exact h
        · obtain rfl : k = 17 := by omega
          simp at hr; omega
      have hlr : l = [] ∨ r ≠ 0 := by rcases hgo with h | h; exact .inl (List.length_eq_zero_iff.1 (by omega)); exact .inr h
      have hst := finD_step hlr
      rw [hf] at hst
      have hrr : r / 10 < 10 ^ (17 - (1 + k)) := by
        rw [show 17 - k = (17 - (1 + k)) + 1 by omega, Nat.pow_succ] at hr
        exact Nat.div_lt_of_lt_mul (by omega)
      have hr66 : r / 10 < 10 ^ 16 := by simp; omega
      obtain ⟨d, hd⟩ : ∃ d, r % 10 = d := ⟨_, rfl⟩
      rw [hd] at hst
      have hd10 : d < 10 := by rw [← hd]; exact Nat.mod_lt _ (by decide)
      have HST := Lib.hid (And.intro hst (And.intro hrr hr66))
      have hrem : Int.tmod (r : Int) 10 = (d : Int) := by rw [← hd]; rfl
      have hcond : (((k : Int) == 0) || ((r : Int) != 0)) = true := by
        rcases hgo with h | h
        · subst h; rfl
        · have : ((r : Int) != 0) = true := by simp; omega
          rw [this]; simp
      have hg0 : ((d : Int) < 0) = False := eq_false (by omega)
      have wd : IntKind.u8.wrap (48 + (d : Int)) = (((UInt8.ofNat (48 + d)).toNat : Nat) : Int) := by
        rw [UInt8.toNat_ofNat', Nat.mod_eq_of_lt (by omega)]
        simp [IntKind.wrap, IntKind.bits, IntKind.signed]; omega
      have hdI : (d : Int) ≤ 9 := by omega
      have hdI0 : (0 : Int) ≤ (d : Int) := by omega
      obtain ⟨x, hx⟩ : ∃ x : UInt8, UInt8.ofNat (48 + d) = x := ⟨_, rfl⟩
      rw [hx] at HST wd
      have hone := OwnU.one wr w.heap.size hbel.size x
      have hcells : ∀ j u, (uCells l)[j]? = some u → (wr.alloc (.cells #[.int .u8 ((x.toNat : Nat) : Int)] 5)).cell? ((⟨g, 0, none⟩ : Addr).add j) = some u := fun j u hj => World.ownsRow.cells (World.ownsRow.alloc hown _) (g := g) rfl j u hj
      have hul : (uCells l).length = k * 1 := by unfold uCells; rw [List.length_map, hl]; omega
      have hu1 : ∀ u ∈ uCells l, u.oneCell' = true := by
        intro u hu
        unfold uCells at hu
        obtain ⟨b, _, rfl⟩ := List.mem_map.1 hu
        rfl
      have HC := Lib.hid (And.intro hcells (And.intro hul (And.intro hu1 hone)))
      have hglt := (hown.lt (k := g) rfl).2
      clear hf hlr hst hrr hr66 hd hx hr hgo hcells hul hu1 hone hown hl
      go_wp2_with (at_builtin; refine wpList_append_own _ (by rfl) _ _ _ (by rfl) w.heap.size 5 i0 _ 1 1 Tryd.underlying93 hi0 hz0 hz1 hz2 rfl (by omega) _ 1 [.int .u8 ((x.toNat : Nat) : Int)] (by rfl) HC.out.2.2.2 ⟨g, 0, none⟩ k cap (uCells l) (by rfl) HC.out.2.1 HC.out.1 HC.out.2.2.1 (by unfold maxLen; omega) (by omega) (by simp; have := HBE.out.size; omega) ?_; intro v2 w2 hown2 hgrow hiff; obtain ⟨g2, cap2, rfl⟩ := own_somewhere (by omega) hown2)
      rotate_left
      · refine ⟨⟨r / 10, 1 + k, g2, cap2, x :: l, by congr 1, rfl, by simp [HL.out]; omega, by omega, HST.out.2.1, HST.out.2.2, HST.out.1, ?_, ?_⟩, by show 17 - (1 + k) < 17 - k; omega⟩
        · unfold OwnU
          have e1 : (x :: l).length = 1 + k := by rw [List.length_cons, HL.out]; omega
          rw [e1]
          exact hown2
        · exact (HBE.out.alloc HBE.out.size _).grown hgrow (by have := HBE.out.size; simp; omega) (fun k hk => by simp [Value.ownBlock] at hk; subst hk; exact HBE.out.size)
      · rename_i hk00
        subst hk00
        obtain rfl : l = [] := List.length_eq_zero_iff.1 HL.out
        exact ⟨⟨r / 10, 1, wr.heap.size, 1, [x], by congr 1, rfl, rfl, by omega, HST.out.2.1, HST.out.2.2, HST.out.1, HC.out.2.2.2, HBE.out.alloc HBE.out.size _⟩, by show 17 - 1 < 17 - 0; omega⟩
    · obtain ⟨h0, rfl⟩ : k ≠ 0 ∧ r = 0 := by
        constructor
        · intro h; exact hgo (.inl h)
        · rcases Nat.eq_zero_or_pos r with h | h; exact h; exact absurd (.inr (by omega)) hgo
      have hfin : l = Lib.decDigits n := by
        rw [← hf]; unfold finD; rw [if_pos ⟨rfl, by intro e; rw [e] at hl; simp at hl; omega⟩]
      rw [hfin] at hown
      have hstr := hown.str
      have hk0 : ((k : Int) == 0) = false := by simp; omega
      have hk1 : ¬ (k : Int) = 0 := by omega
      have hn0 : ((n : Int) < 0) = False := eq_false (by omega)
      clear hown hbel hf hfin hr hl
      go_wp2_with fail
      go_ret
      exact ⟨rfl, HBE.out⟩

set_option maxHeartbeats 2000000 in
/-- A number that is below zero. -/
theorem s01DecM_any (w : World) (n : Nat) (hn : n < 10 ^ 16) (hp : 0 < n) (N : Int) (hN : N = -(n : Int)) :
    Calls Tryd.prog 57 #[.int .i64 N] w fun e w' => e = .returned (.string ⟨(45 :: Lib.decDigits n).toArray⟩) ∧ Below w.heap.size w w' := by
  obtain ⟨i0, hi0, hz0, hz1, hz2⟩ := info_parts info_u8
  have HS := Lib.hid (OwnU.start w w.heap.size (Nat.le_refl _))
  have hb0 : Below w.heap.size w (w.alloc (.cells #[] 5)) := (Below.refl _ _).alloc (Nat.le_refl _) _
  have HB := Lib.hid hb0
  have HN := Lib.hid hn
  have HNN := Lib.hid hN
  have hn9 : n < 10000000000000000 := by simpa using hn
  have hN0 : N < 0 := by omega
  have hN1 : -10000000000000000 < N := by omega
  clear hb0 hn hN
  go_enter Tryd.func57, Tryd.ntmps57
  go_wp2_with fail
  go_loopw [3, 4] (fun v3 v4 wr => ∃ (r k g cap : Nat) (R : Int) (l : List UInt8), v4 = .int .i64 R ∧ Hid (R = -(r : Int)) ∧ v3 = .slice (some ⟨g, 0, none⟩) k cap ∧ l.length = k ∧ k ≤ 17 ∧ r < 10 ^ (17 - k) ∧ r < 10 ^ 16 ∧ finD r l = Lib.decDigits n ∧ OwnU wr w.heap.size (.slice (some ⟨g, 0, none⟩) k cap) l ∧ Below w.heap.size w wr) (fun v3 _ _ => 17 - lenV v3)
  case atStart => exact ⟨n, 0, _, _, N, [], rfl, HNN, rfl, rfl, by omega, by show n < 10 ^ 17; omega, HN.out, by unfold finD; simp, HS.out, HB.out⟩
  case round =>
    clear HS HB
    obtain ⟨r, k, g, cap, R, l, rfl, HR, rfl, hl, hk, hr, hr6, hf, hown, hbel⟩ := hrel
    have HBE := Lib.hid hbel
    have HO := Lib.hid hown
    have HF := Lib.hid hf
    have HL := Lib.hid hl
    have hr16 : r < 10000000000000000 := by simpa using hr6
    have hR1 : R ≤ 0 := by rw [HR.out]; omega
    have hR2 : -10000000000000000 < R := by rw [HR.out]; omega
    clear hr6
    by_cases hgo : k = 0 ∨ r ≠ 0
    · have hk16 : k < 17 := by
        rcases Nat.lt_or_ge k 17 with h | h
        · exact h
        · obtain rfl : k = 17 := by omega
          simp at hr; omega
      have hlr : l = [] ∨ r ≠ 0 := by rcases hgo with h | h; exact .inl (List.length_eq_zero_iff.1 (by omega)); exact .inr h
      have hst := finD_step hlr
      rw [hf] at hst
      have hrr : r / 10 < 10 ^ (17 - (1 + k)) := by
        rw [show 17 - k = (17 - (1 + k)) + 1 by omega, Nat.pow_succ] at hr
        exact Nat.div_lt_of_lt_mul (by omega)
      have hr66 : r / 10 < 10 ^ 16 := by simp; omega
      obtain ⟨d, hd⟩ : ∃ d, r % 10 = d := ⟨_, rfl⟩
      rw [hd] at hst
      have hd10 : d < 10 := by rw [← hd]; exact Nat.mod_lt _ (by decide)
      have HST := Lib.hid (And.intro hst (And.intro hrr hr66))
      have hrem : Int.tmod R 10 = -(d : Int) := by rw [HR.out, Int.neg_tmod, ← hd]; rfl
      obtain ⟨q, hq⟩ : ∃ q, -(d : Int) = q := ⟨_, rfl⟩
      rw [hq] at hrem
      obtain ⟨R2, hR3⟩ : ∃ R2, Int.tdiv R 10 = R2 := ⟨_, rfl⟩
      have hR4 : R2 = -((r / 10 : Nat) : Int) := by rw [← hR3, HR.out, Int.neg_tdiv]; rfl
      have HR4 := Lib.hid hR4
      have hR5 : R2 ≤ 0 := by omega
      have hR6 : -10000000000000000 < R2 := by omega
      have hcond : (((k : Int) == 0) || (R != 0)) = true := by
        rcases hgo with h | h
        · subst h; rfl
        · have : (R != 0) = true := by rw [HR.out]; simp; omega
          rw [this]; simp
      have wd : IntKind.u8.wrap (48 + (d : Int)) = (((UInt8.ofNat (48 + d)).toNat : Nat) : Int) := by
        rw [UInt8.toNat_ofNat', Nat.mod_eq_of_lt (by omega)]
        simp [IntKind.wrap, IntKind.bits, IntKind.signed]; omega
      have hdI : (d : Int) ≤ 9 := by omega
      have hdI0 : (0 : Int) ≤ (d : Int) := by omega
      have hqn : -q = (d : Int) := by omega
      have hq0 : q ≤ 0 := by omega
      have hq9 : -9 ≤ q := by omega
      obtain ⟨x, hx⟩ : ∃ x : UInt8, UInt8.ofNat (48 + d) = x := ⟨_, rfl⟩
      rw [hx] at HST wd
      have hone := OwnU.one wr w.heap.size hbel.size x
      have hcells : ∀ j u, (uCells l)[j]? = some u → (wr.alloc (.cells #[.int .u8 ((x.toNat : Nat) : Int)] 5)).cell? ((⟨g, 0, none⟩ : Addr).add j) = some u := fun j u hj => World.ownsRow.cells (World.ownsRow.alloc hown _) (g := g) rfl j u hj
      have hul : (uCells l).length = k * 1 := by unfold uCells; rw [List.length_map, hl]; omega
      have hu1 : ∀ u ∈ uCells l, u.oneCell' = true := by
        intro u hu
        unfold uCells at hu
        obtain ⟨b, _, rfl⟩ := List.mem_map.1 hu
        rfl
      have HC := Lib.hid (And.intro hcells (And.intro hul (And.intro hu1 hone)))
      have hglt := (hown.lt (k := g) rfl).2
      by_cases hq00 : q = 0
      · have hd00 : d = 0 := by omega
        subst hq00 hd00
        obtain rfl : x = 48 := by rw [← hx]; rfl
        rw [show (((48 : UInt8).toNat : Nat) : Int) = 48 from rfl] at HC
        clear hf hlr hst hrr hr66 hd hx hr hgo hcells hul hu1 hone hown hl hq hqn hR4 wd hdI hdI0 hd10
        go_wp2_with (at_builtin; refine wpList_append_own _ (by rfl) _ _ _ (by rfl) w.heap.size 5 i0 _ 1 1 Tryd.underlying93 hi0 hz0 hz1 hz2 rfl (by omega) _ 1 [.int .u8 (48)] (by rfl) HC.out.2.2.2 ⟨g, 0, none⟩ k cap (uCells l) (by rfl) HC.out.2.1 HC.out.1 HC.out.2.2.1 (by unfold maxLen; omega) (by omega) (by simp; have := HBE.out.size; omega) ?_; intro v2 w2 hown2 hgrow hiff; obtain ⟨g2, cap2, rfl⟩ := own_somewhere (by omega) hown2)
        rotate_left
        · refine ⟨⟨r / 10, 1 + k, g2, cap2, R2, (48 : UInt8) :: l, rfl, HR4, rfl, by simp [HL.out]; omega, by omega, HST.out.2.1, HST.out.2.2, HST.out.1, ?_, ?_⟩, by show 17 - (1 + k) < 17 - k; omega⟩
          · unfold OwnU
            have e1 : ((48 : UInt8) :: l).length = 1 + k := by rw [List.length_cons, HL.out]; omega
            rw [e1]
            exact hown2
          · exact (HBE.out.alloc HBE.out.size _).grown hgrow (by have := HBE.out.size; simp; omega) (fun k hk => by simp [Value.ownBlock] at hk; subst hk; exact HBE.out.size)
        · rename_i hk00
          subst hk00
          obtain rfl : l = [] := List.length_eq_zero_iff.1 HL.out
          exact ⟨⟨r / 10, 1, wr.heap.size, 1, R2, [(48 : UInt8)], rfl, HR4, rfl, rfl, by omega, HST.out.2.1, HST.out.2.2, HST.out.1, HC.out.2.2.2, HBE.out.alloc HBE.out.size _⟩, by show 17 - 1 < 17 - 0; omega⟩
      · have hqF : (q < 0) = True := eq_true (by omega)
        clear hf hlr hst hrr hr66 hd hx hr hgo hcells hul hu1 hone hown hl hq hR4 hq00
        go_wp2_with (at_builtin; refine wpList_append_own _ (by rfl) _ _ _ (by rfl) w.heap.size 5 i0 _ 1 1 Tryd.underlying93 hi0 hz0 hz1 hz2 rfl (by omega) _ 1 [.int .u8 (((x.toNat : Nat) : Int))] (by rfl) HC.out.2.2.2 ⟨g, 0, none⟩ k cap (uCells l) (by rfl) HC.out.2.1 HC.out.1 HC.out.2.2.1 (by unfold maxLen; omega) (by omega) (by simp; have := HBE.out.size; omega) ?_; intro v2 w2 hown2 hgrow hiff; obtain ⟨g2, cap2, rfl⟩ := own_somewhere (by omega) hown2)
        rotate_left
        · refine ⟨⟨r / 10, 1 + k, g2, cap2, R2, x :: l, rfl, HR4, rfl, by simp [HL.out]; omega, by omega, HST.out.2.1, HST.out.2.2, HST.out.1, ?_, ?_⟩, by show 17 - (1 + k) < 17 - k; omega⟩
          · unfold OwnU
            have e1 : (x :: l).length = 1 + k := by rw [List.length_cons, HL.out]; omega
            rw [e1]
            exact hown2
          · exact (HBE.out.alloc HBE.out.size _).grown hgrow (by have := HBE.out.size; simp; omega) (fun k hk => by simp [Value.ownBlock] at hk; subst hk; exact HBE.out.size)
        · rename_i hk00
          subst hk00
          obtain rfl : l = [] := List.length_eq_zero_iff.1 HL.out
          exact ⟨⟨r / 10, 1, wr.heap.size, 1, R2, [x], rfl, HR4, rfl, rfl, by omega, HST.out.2.1, HST.out.2.2, HST.out.1, HC.out.2.2.2, HBE.out.alloc HBE.out.size _⟩, by show 17 - 1 < 17 - 0; omega⟩
    · obtain ⟨h0, rfl⟩ : k ≠ 0 ∧ r = 0 := by
        constructor
        · intro h; exact hgo (.inl h)
        · rcases Nat.eq_zero_or_pos r with h | h; exact h; exact absurd (.inr (by omega)) hgo
      have hfin : l = Lib.decDigits n := by
        rw [← hf]; unfold finD; rw [if_pos ⟨rfl, by intro e; rw [e] at hl; simp at hl; omega⟩]
      rw [hfin] at hown HL
      have hk0 : ((k : Int) == 0) = false := by simp; omega
      have hk1 : ¬ (k : Int) = 0 := by omega
      have hn0 : (N < 0) = True := eq_true hN0
      have hR0 : R = 0 := by rw [HR.out]; rfl
      subst hR0
      have hone : OwnU (wr.alloc (.cells #[.int .u8 45] 5)) w.heap.size (.slice (some ⟨wr.heap.size, 0, none⟩) 1 1) [45] := OwnU.one wr w.heap.size hbel.size 45
      have hcells : ∀ j u, (uCells (Lib.decDigits n))[j]? = some u → (wr.alloc (.cells #[.int .u8 45] 5)).cell? ((⟨g, 0, none⟩ : Addr).add j) = some u := fun j u hj => World.ownsRow.cells (World.ownsRow.alloc hown _) (g := g) rfl j u hj
      have hul : (uCells (Lib.decDigits n)).length = k * 1 := by unfold uCells; rw [List.length_map, HL.out]; omega
      have hu1 : ∀ u ∈ uCells (Lib.decDigits n), u.oneCell' = true := by
        intro u hu
        unfold uCells at hu
        obtain ⟨b, _, rfl⟩ := List.mem_map.1 hu
        rfl
      have HC := Lib.hid (And.intro hcells (And.intro hul (And.intro hu1 hone)))
      have hglt := (hown.lt (k := g) rfl).2
      clear hown hbel hf hfin hr hl HF HO hcells hul hu1 hone
      go_wp2_with (at_builtin; refine wpList_append_own _ (by rfl) _ _ _ (by rfl) w.heap.size 5 i0 _ 1 1 Tryd.underlying93 hi0 hz0 hz1 hz2 rfl (by omega) _ 1 [.int .u8 45] (by rfl) HC.out.2.2.2 ⟨g, 0, none⟩ k cap (uCells (Lib.decDigits n)) (by rfl) HC.out.2.1 HC.out.1 HC.out.2.2.1 (by unfold maxLen; omega) (by omega) (by simp; have := HBE.out.size; omega) ?_; intro v2 w2 hown2 hgrow hiff; obtain ⟨g2, cap2, rfl⟩ := own_somewhere (by omega) hown2)
      have hsn : OwnU w2 w.heap.size (.slice (some ⟨g2, 0, none⟩) (1 + k) cap2) (45 :: Lib.decDigits n) := by
        unfold OwnU
        have e1 : (45 :: Lib.decDigits n).length = 1 + k := by rw [List.length_cons, HL.out]; omega
        rw [e1]
        exact hown2
      have hstr := hsn.str
      have HF2 := Lib.hid ((HBE.out.alloc HBE.out.size _).grown hgrow (by have := HBE.out.size; simp; omega) (fun k hk => by simp [Value.ownBlock] at hk; subst hk; exact HBE.out.size))
      clear hown2 hgrow hsn
      go_wp2_with fail
      rw [hstr]
      go_wp2_with fail
      go_ret
      exact ⟨rfl, HF2.out⟩

/-- A number of either sign. -/
theorem s01DecI_any (w : World) (n : Int) (h1 : -1000000000000000 ≤ n) (h2 : n ≤ 1000000000000000) :
    Calls Tryd.prog 57 #[.int .i64 n] w fun e w' => e = .returned (.string ⟨(Lib.itoa n).toArray⟩) ∧ Below w.heap.size w w' := by
  unfold Lib.itoa
  split
  · exact s01DecM_any w n.natAbs (by show _ < 10000000000000000; omega) (by omega) n (by omega)
  · have := s01DecP_any w n.toNat (by show _ < 10000000000000000; omega)
    rwa [show ((n.toNat : Nat) : Int) = n by omega] at this
end

section
open Go.RowKit
set_option maxRecDepth 100000
set_option linter.unusedVariables false
set_option linter.unusedSimpArgs false

theorem digF_lt (l : List UInt8) : ∀ i, digF (l.take i) < 10 ^ i
  | 0 => by simp [digF]
  | i + 1 => by
    have ih := digF_lt l i
    by_cases h : i < l.length
    · rw [List.take_succ_eq_append_getElem h, digF_snoc, Nat.pow_succ]
      split <;> omega
    · rw [List.take_of_length_le (by omega)]
      rw [List.take_of_length_le (by omega)] at ih
      rw [Nat.pow_succ]; omega
theorem digF_next {s : ByteArray} {i : Nat} (h : i < s.size) : digF (s.data.toList.take (i + 1)) = if 48 ≤ byteN s i ∧ byteN s i ≤ 57 then 10 * digF (s.data.toList.take i) + (byteN s i - 48) else digF (s.data.toList.take i) := by
  have hl : i < s.data.toList.length := by rw [ba_size]; exact h
  rw [List.take_succ_eq_append_getElem hl, digF_snoc]
  have hb : byteN s i = s.data.toList[i].toNat := by
    unfold byteN
    rw [List.getD_eq_getElem?_getD, List.getElem?_eq_getElem hl, Option.getD_some]
  rw [hb]
theorem byte0 {s : ByteArray} (h : 0 < s.size) : (s.data.toList.head? = some 45) ↔ byteN s 0 = 45 := by
  have hl : 0 < s.data.toList.length := by rw [ba_size]; exact h
  unfold byteN
  rw [List.head?_eq_getElem?, List.getD_eq_getElem?_getD, List.getElem?_eq_getElem hl, Option.getD_some, Option.some.injEq, ← UInt8.toNat_inj]
  rfl

set_option maxHeartbeats 2000000 in
theorem s01Value_any (w : World) (s : ByteArray) (hs : s.size ≤ 2000000) :
    Calls Tryd.prog 47 #[.string s] w fun e w' => e = .returned (.tuple #[.int .i64 (valD s.data.toList).1, .bool (valD s.data.toList).2]) ∧ Below w.heap.size w w' := by
  obtain ⟨rv, hrv⟩ : ∃ rv, rv = valD s.data.toList := ⟨_, rfl⟩
  rw [← hrv]
  rw [← valS_eq] at hrv
  have hln : s.data.toList.length = s.size := ba_size s
  by_cases h1 : s.size < 1
  · have hval : rv = (0, false) := by rw [hrv]; unfold valS; rw [if_neg (by rintro ⟨⟨h2, _⟩, _⟩; omega)]
    subst hval
    have hc : (s.size : Int) < 1 := by omega
    clear hrv hln hs h1
    go_enter Tryd.func47, Tryd.ntmps47
    go_wp2_with fail
    go_ret2
    exact ⟨rfl, Below.refl _ _⟩
  by_cases h2 : 17 < s.size
  · have hval : rv = (0, false) := by rw [hrv]; unfold valS; rw [if_neg (by rintro ⟨⟨_, h3⟩, _⟩; omega)]
    subst hval
    have hc : decide ((s.size : Int) < 1) = false := decide_eq_false (by omega)
    have hc2 : decide ((17 : Int) < (s.size : Int)) = true := decide_eq_true (by omega)
    clear hrv hln h1 h2
    go_enter Tryd.func47, Tryd.ntmps47
    go_wp2_with fail
    go_ret2
    exact ⟨rfl, Below.refl _ _⟩
  obtain ⟨n, hn⟩ : ∃ n, s.size = n := ⟨_, rfl⟩
  have HS := Lib.hid hn
  have hc : decide ((s.size : Int) < 1) = false := decide_eq_false (by omega)
  have hc2 : decide ((17 : Int) < (s.size : Int)) = false := decide_eq_false (by omega)
  have hn1 : 1 ≤ n := by omega
  have hn17 : n ≤ 17 := by omega
  obtain ⟨l, hl⟩ : ∃ l, l = s.data.toList := ⟨_, rfl⟩
  have HL := Lib.hid hl
  have HR := Lib.hid hrv
  have HLN := Lib.hid hln
  rw [hn] at hc hc2
  clear hrv hln h1 h2 hs hl
  go_enter Tryd.func47, Tryd.ntmps47
  go_wp2_with fail
  go_loopw [4, 5] (fun v3 v4 wr => ∃ i : Nat, v4 = .int .i64 i ∧ i ≤ n ∧ v3 = .int .i64 (digF (l.take i) : Nat) ∧ wr = w) (fun _ v4 _ => n - (intOf v4).toNat)
  case atStart => exact ⟨0, rfl, Nat.zero_le _, rfl, rfl⟩
  case round =>
    obtain ⟨i, rfl, hi, rfl, rfl⟩ := hrel
    by_cases hlt : i < n
    · have hltI : (i : Int) < (n : Int) := by omega
      have hx0 : ∀ W', (Instr.index 9 (.string s) (.int .i64 (i : Int))).run Tryd.prog W' = .ok (.int .u8 ((byteN s i : Nat) : Int)) W' := fun W' => by
        have := idx_at W' s (i : Int) (by omega) (by rw [HS.out]; omega)
        rwa [Int.toNat_natCast] at this
      have hnx := digF_next (s := s) (i := i) (by rw [HS.out]; exact hlt)
      rw [← HL.out] at hnx
      have hb := byteN_lt s i
      have hdl := digF_lt l i
      have hd17 : digF (l.take i) < 100000000000000000 := Nat.lt_of_lt_of_le hdl (Nat.le_trans (Nat.pow_le_pow_right (by omega) (show i ≤ 17 by omega)) (by decide))
      have HNX := Lib.hid hnx
      obtain ⟨m, hm⟩ : ∃ m, digF (l.take i) = m := ⟨_, rfl⟩
      rw [hm] at hd17 hnx HNX
      obtain ⟨b, hbb⟩ : ∃ b, byteN s i = b := ⟨_, rfl⟩
      rw [hbb] at hx0 hb hnx HNX
      have hmI : (m : Int) < 100000000000000000 := by omega
      have hbI : (b : Int) < 256 := by omega
      rw [hm]
      clear hm hbb hdl hnx hd17
      by_cases g1 : 48 ≤ b
      · by_cases g2 : b ≤ 57
        · have g1I : (48 : Int) ≤ (b : Int) := by omega
          have g2I : (b : Int) ≤ 57 := by omega
          have e : digF (l.take (i + 1)) = 10 * m + (b - 48) := by rw [HNX.out, if_pos ⟨g1, g2⟩]
          have HE := Lib.hid e
          have wb : IntKind.u8.wrap ((b : Int) - 48) = ((b - 48 : Nat) : Int) := by
            simp [IntKind.wrap, IntKind.bits, IntKind.signed]; omega
          obtain ⟨c, hc⟩ : ∃ c, b - 48 = c := ⟨_, rfl⟩
          rw [hc] at wb HE
          have hcI : (c : Int) ≤ 9 := by omega
          clear e hc
          go_wp2_with fail
          go_roundw
          case rel => exact ⟨i + 1, by go_num, by omega, by rw [HE.out]; push_cast; rfl, trivial⟩
          case measure => simp [intOf]; omega
        · have g2I : ¬ (b : Int) ≤ 57 := by omega
          have g1I : (48 : Int) ≤ (b : Int) := by omega
          have e : digF (l.take (i + 1)) = m := by rw [HNX.out, if_neg (fun h => g2 h.2)]
          have HE := Lib.hid e
          clear e
          go_wp2_with fail
          go_roundw
          case rel => exact ⟨i + 1, by go_num, by omega, by rw [HE.out], trivial⟩
          case measure => simp [intOf]; omega
      · have g1I : ¬ (48 : Int) ≤ (b : Int) := by omega
        have e : digF (l.take (i + 1)) = m := by rw [HNX.out, if_neg (fun h => g1 h.1)]
        have HE := Lib.hid e
        clear e
        go_wp2_with fail
        go_roundw
        case rel => exact ⟨i + 1, by go_num, by omega, by rw [HE.out], trivial⟩
        case measure => simp [intOf]; omega
    · obtain rfl : i = n := by omega
      have htk : l.take i = l := by rw [List.take_of_length_le (by have h1 := HLN.out; have h2 := HS.out; have h3 := HL.out; rw [h3]; omega)]
      have hd17 : digF l < 100000000000000000 := by
        have := digF_lt l i
        rw [htk] at this
        exact Nat.lt_of_lt_of_le this (Nat.le_trans (Nat.pow_le_pow_right (by omega) (show i ≤ 17 by omega)) (by decide))
      rw [htk]
      have hx0 : ∀ W', (Instr.index 9 (.string s) (.int .i64 0)).run Tryd.prog W' = .ok (.int .u8 ((byteN s 0 : Nat) : Int)) W' := fun W' => idx_at W' s 0 (by omega) (by rw [HS.out]; omega)
      have hb := byteN_lt s 0
      have hh := byte0 (s := s) (by rw [HS.out]; omega)
      obtain ⟨v, hv⟩ : ∃ v, v = sgnF l := ⟨_, rfl⟩
      have hval : rv = if (-1000000000000000 ≤ v ∧ v ≤ 1000000000000000) ∧ Lib.itoa v = l then (v, true) else (0, false) := by
        rw [HR.out, hv, HL.out]
        unfold valS
        have h1 : 1 ≤ s.data.toList.length ∧ s.data.toList.length ≤ 17 := by rw [HLN.out, HS.out]; omega
        simp only [h1, and_self, true_and]
      have HV := Lib.hid hval
      obtain ⟨m, hm⟩ : ∃ m, digF l = m := ⟨_, rfl⟩
      rw [hm] at hd17 ⊢
      have hv2 : v = if byteN s 0 = 45 then -(m : Int) else (m : Int) := by
        rw [hv]
        unfold sgnF
        rw [hm, HL.out]
        by_cases h : byteN s 0 = 45
        · rw [if_pos (hh.2 h), if_pos h]
        · rw [if_neg (fun g => h (hh.1 g)), if_neg h]
      have hmI : (m : Int) < 100000000000000000 := by omega
      obtain ⟨b, hbb⟩ : ∃ b, byteN s 0 = b := ⟨_, rfl⟩
      rw [hbb] at hx0 hb hv2
      have KD := Lib.hid (fun W h1 h2 => s01DecI_any W v h1 h2)
      have hsl : (s.toList) = l := by rw [HL.out, ba_toList]
      have HSL := Lib.hid hsl
      clear hv hh hval hm hbb htk hlt hd17 hi hn1 hn17 hc hc2 hsl
      have KI := Lib.hid (fun W => s00In_any v (-1000000000000000) 1000000000000000 W)
      by_cases hb45 : b = 45
      · subst hb45
        rw [if_pos rfl] at hv2
        have wn : -(m : Int) = v := hv2.symm
        have hvI : -100000000000000000 < v := by omega
        have hvI0 : v ≤ 0 := by omega
        clear hv2
        by_cases hin : -1000000000000000 ≤ v ∧ v ≤ 1000000000000000
        · rw [decide_eq_true hin.1, decide_eq_true hin.2] at KI
          have KD2 := Lib.hid (KD.out wr hin.1 hin.2)
          have HIN := Lib.hid hin
          clear hin KD
          by_cases he : Lib.itoa v = l
          · have hr2 : rv = (v, true) := by rw [HV.out, if_pos ⟨HIN.out, he⟩]
            subst hr2
            have hsv : (⟨(Lib.itoa v).toArray⟩ : ByteArray) = s := by rw [he, HL.out]
            rw [hsv] at KD2
            have hss : (s.toList == s.toList) = true := by simp
            clear he hsv
            go_wp2_with fail
            refine (KI.out _).mono ?_
            rintro e w1 ⟨rfl, rfl⟩
            go_wp2_with fail
            refine KD2.out.mono ?_
            rintro e w1 ⟨rfl, hb1⟩
            have HB := Lib.hid hb1
            clear hb1
            go_wp2_with fail
            go_ret2
            exact ⟨rfl, HB.out⟩
          · have hr2 : rv = (0, false) := by rw [HV.out, if_neg (fun h => he h.2)]
            subst hr2
            obtain ⟨t, ht⟩ : ∃ t : ByteArray, (⟨(Lib.itoa v).toArray⟩ : ByteArray) = t := ⟨_, rfl⟩
            rw [ht] at KD2
            have hss : (t.toList == s.toList) = false := by
              rw [beq_eq_false_iff_ne]
              intro e
              apply he
              rw [HSL.out, ba_toList, ← ht] at e
              exact e
            clear he ht
            go_wp2_with fail
            refine (KI.out _).mono ?_
            rintro e w1 ⟨rfl, rfl⟩
            go_wp2_with fail
            refine KD2.out.mono ?_
            rintro e w1 ⟨rfl, hb1⟩
            have HB := Lib.hid hb1
            clear hb1
            go_wp2_with fail
            go_ret2
            exact ⟨rfl, HB.out⟩
        · have hr2 : rv = (0, false) := by rw [HV.out, if_neg (fun h => hin h.1)]
          subst hr2
          rw [show (decide (-1000000000000000 ≤ v) && decide (v ≤ 1000000000000000)) = false from by rw [← Bool.decide_and, decide_eq_false hin]] at KI
          clear hin KD
          go_wp2_with fail
          refine (KI.out _).mono ?_
          rintro e w1 ⟨rfl, rfl⟩
          go_wp2_with fail
          go_ret2
          exact ⟨rfl, Below.refl _ _⟩
      · rw [if_neg hb45] at hv2
        subst hv2
        have hb45I : ((b : Int) == 45) = false := by rw [beq_eq_false_iff_ne]; omega
        have hb45J : ¬ (b : Int) = 45 := by omega
        by_cases hin : -1000000000000000 ≤ (m : Int) ∧ (m : Int) ≤ 1000000000000000
        · rw [decide_eq_true hin.1, decide_eq_true hin.2] at KI
          have KD2 := Lib.hid (KD.out wr hin.1 hin.2)
          have HIN := Lib.hid hin
          clear hin KD
          by_cases he : Lib.itoa (m : Int) = l
          · have hr2 : rv = ((m : Int), true) := by rw [HV.out, if_pos ⟨HIN.out, he⟩]
            subst hr2
            have hsv : (⟨(Lib.itoa (m : Int)).toArray⟩ : ByteArray) = s := by rw [he, HL.out]
            rw [hsv] at KD2
            have hss : (s.toList == s.toList) = true := by simp
            clear he hsv
            go_wp2_with fail
            refine (KI.out _).mono ?_
            rintro e w1 ⟨rfl, rfl⟩
            go_wp2_with fail
            refine KD2.out.mono ?_
            rintro e w1 ⟨rfl, hb1⟩
            have HB := Lib.hid hb1
            clear hb1
            go_wp2_with fail
            go_ret2
            exact ⟨rfl, HB.out⟩
          · have hr2 : rv = (0, false) := by rw [HV.out, if_neg (fun h => he h.2)]
            subst hr2
            obtain ⟨t, ht⟩ : ∃ t : ByteArray, (⟨(Lib.itoa (m : Int)).toArray⟩ : ByteArray) = t := ⟨_, rfl⟩
            rw [ht] at KD2
            have hss : (t.toList == s.toList) = false := by
              rw [beq_eq_false_iff_ne]
              intro e
              apply he
              rw [HSL.out, ba_toList, ← ht] at e
              exact e
            clear he ht
            go_wp2_with fail
            refine (KI.out _).mono ?_
            rintro e w1 ⟨rfl, rfl⟩
            go_wp2_with fail
            refine KD2.out.mono ?_
            rintro e w1 ⟨rfl, hb1⟩
            have HB := Lib.hid hb1
            clear hb1
            go_wp2_with fail
            go_ret2
            exact ⟨rfl, HB.out⟩
        · have hr2 : rv = (0, false) := by rw [HV.out, if_neg (fun h => hin h.1)]
          subst hr2
          rw [show (decide (-1000000000000000 ≤ (m : Int)) && decide ((m : Int) ≤ 1000000000000000)) = false from by rw [← Bool.decide_and, decide_eq_false hin]] at KI
          clear hin KD
          go_wp2_with fail
          refine (KI.out _).mono ?_
          rintro e w1 ⟨rfl, rfl⟩
          go_wp2_with fail
          go_ret2
          exact ⟨rfl, Below.refl _ _⟩
end

end Go.Proofs.YtcppoadeelnphaaDoor

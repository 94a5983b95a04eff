/- The reference's text of a whole number of either sign: spec.l01Dec. -/
import Derived.Test.YtcppoadeelnphaaDoorDc
import Derived.Test.YtcppoadeelnphaaDoorCf
namespace Go.Proofs.YtcppoadeelnphaaDoor
open Go.RowKit
set_option maxRecDepth 100000
set_option linter.unusedVariables false
set_option linter.unusedSimpArgs false

set_option maxHeartbeats 2000000 in
/-- A number that is not below zero. -/
theorem s01DecP_any (w : World) (n : Nat) (hn : n < 10 ^ 16) :
    Calls Tryd.prog 57 #[.int .i64 n] w fun e w' => e = .returned (.string ⟨(Lib.decDigits n).toArray⟩) ∧ Below w.heap.size w w' := by
  obtain ⟨i0, hi0, hz0, hz1, hz2⟩ := info_parts info_u8
  have HS := Lib.hid (OwnU.start w w.heap.size (Nat.le_refl _))
  have hb0 : Below w.heap.size w (w.alloc (.cells #[] 5)) := (Below.refl _ _).alloc (Nat.le_refl _) _
  have HB := Lib.hid hb0
  have HN := Lib.hid hn
  have hn9 : n < 10000000000000000 := by simpa using hn
  clear hb0 hn
  go_enter Tryd.func57, Tryd.ntmps57
  go_wp2_with fail
  go_loopw [3, 4] (fun v3 v4 wr => ∃ (r k g cap : Nat) (l : List UInt8), v4 = .int .i64 (r : Int) ∧ v3 = .slice (some ⟨g, 0, none⟩) k cap ∧ l.length = k ∧ k ≤ 17 ∧ r < 10 ^ (17 - k) ∧ r < 10 ^ 16 ∧ finD r l = Lib.decDigits n ∧ OwnU wr w.heap.size (.slice (some ⟨g, 0, none⟩) k cap) l ∧ Below w.heap.size w wr) (fun v3 _ _ => 17 - lenV v3)
  case atStart => exact ⟨n, 0, _, _, [], rfl, rfl, rfl, by omega, by show n < 10 ^ 17; omega, HN.out, by unfold finD; simp, HS.out, HB.out⟩
  case round =>
    clear HS HB
    obtain ⟨r, k, g, cap, l, rfl, rfl, hl, hk, hr, hr6, hf, hown, hbel⟩ := hrel
    have HBE := Lib.hid hbel
    have HO := Lib.hid hown
    have HF := Lib.hid hf
    have HL := Lib.hid hl
    have hr16 : r < 10000000000000000 := by simpa using hr6
    clear hr6
    by_cases hgo : k = 0 ∨ r ≠ 0
    · have hk16 : k < 17 := by
        rcases Nat.lt_or_ge k 17 with h | h
        · exact h
        · obtain rfl : k = 17 := by omega
          simp at hr; omega
      have hlr : l = [] ∨ r ≠ 0 := by rcases hgo with h | h; exact .inl (List.length_eq_zero_iff.1 (by omega)); exact .inr h
      have hst := finD_step hlr
      rw [hf] at hst
      have hrr : r / 10 < 10 ^ (17 - (1 + k)) := by
        rw [show 17 - k = (17 - (1 + k)) + 1 by omega, Nat.pow_succ] at hr
        exact Nat.div_lt_of_lt_mul (by omega)
      have hr66 : r / 10 < 10 ^ 16 := by simp; omega
      obtain ⟨d, hd⟩ : ∃ d, r % 10 = d := ⟨_, rfl⟩
      rw [hd] at hst
      have hd10 : d < 10 := by rw [← hd]; exact Nat.mod_lt _ (by decide)
      have HST := Lib.hid (And.intro hst (And.intro hrr hr66))
      have hrem : Int.tmod (r : Int) 10 = (d : Int) := by rw [← hd]; rfl
      have hcond : (((k : Int) == 0) || ((r : Int) != 0)) = true := by
        rcases hgo with h | h
        · subst h; rfl
        · have : ((r : Int) != 0) = true := by simp; omega
          rw [this]; simp
      have hg0 : ((d : Int) < 0) = False := eq_false (by omega)
      have wd : IntKind.u8.wrap (48 + (d : Int)) = (((UInt8.ofNat (48 + d)).toNat : Nat) : Int) := by
        rw [UInt8.toNat_ofNat', Nat.mod_eq_of_lt (by omega)]
        simp [IntKind.wrap, IntKind.bits, IntKind.signed]; omega
      have hdI : (d : Int) ≤ 9 := by omega
      have hdI0 : (0 : Int) ≤ (d : Int) := by omega
      obtain ⟨x, hx⟩ : ∃ x : UInt8, UInt8.ofNat (48 + d) = x := ⟨_, rfl⟩
      rw [hx] at HST wd
      have hone := OwnU.one wr w.heap.size hbel.size x
      have hcells : ∀ j u, (uCells l)[j]? = some u → (wr.alloc (.cells #[.int .u8 ((x.toNat : Nat) : Int)] 5)).cell? ((⟨g, 0, none⟩ : Addr).add j) = some u := fun j u hj => World.ownsRow.cells (World.ownsRow.alloc hown _) (g := g) rfl j u hj
      have hul : (uCells l).length = k * 1 := by unfold uCells; rw [List.length_map, hl]; omega
      have hu1 : ∀ u ∈ uCells l, u.oneCell' = true := by
        intro u hu
        unfold uCells at hu
        obtain ⟨b, _, rfl⟩ := List.mem_map.1 hu
        rfl
      have HC := Lib.hid (And.intro hcells (And.intro hul (And.intro hu1 hone)))
      have hglt := (hown.lt (k := g) rfl).2
      clear hf hlr hst hrr hr66 hd hx hr hgo hcells hul hu1 hone hown hl
      go_wp2_with (at_builtin; refine wpList_append_own _ (by rfl) _ _ _ (by rfl) w.heap.size 5 i0 _ 1 1 Tryd.underlying93 hi0 hz0 hz1 hz2 rfl (by omega) _ 1 [.int .u8 ((x.toNat : Nat) : Int)] (by rfl) HC.out.2.2.2 ⟨g, 0, none⟩ k cap (uCells l) (by rfl) HC.out.2.1 HC.out.1 HC.out.2.2.1 (by unfold maxLen; omega) (by omega) (by simp; have := HBE.out.size; omega) ?_; intro v2 w2 hown2 hgrow hiff; obtain ⟨g2, cap2, rfl⟩ := own_somewhere (by omega) hown2)
      rotate_left
      · refine ⟨⟨r / 10, 1 + k, g2, cap2, x :: l, by congr 1, rfl, by simp [HL.out]; omega, by omega, HST.out.2.1, HST.out.2.2, HST.out.1, ?_, ?_⟩, by show 17 - (1 + k) < 17 - k; omega⟩
        · unfold OwnU
          have e1 : (x :: l).length = 1 + k := by rw [List.length_cons, HL.out]; omega
          rw [e1]
          exact hown2
        · exact (HBE.out.alloc HBE.out.size _).grown hgrow (by have := HBE.out.size; simp; omega) (fun k hk => by simp [Value.ownBlock] at hk; subst hk; exact HBE.out.size)
      · rename_i hk00
        subst hk00
        obtain rfl : l = [] := List.length_eq_zero_iff.1 HL.out
        exact ⟨⟨r / 10, 1, wr.heap.size, 1, [x], by congr 1, rfl, rfl, by omega, HST.out.2.1, HST.out.2.2, HST.out.1, HC.out.2.2.2, HBE.out.alloc HBE.out.size _⟩, by show 17 - 1 < 17 - 0; omega⟩
    · obtain ⟨h0, rfl⟩ : k ≠ 0 ∧ r = 0 := by
        constructor
        · intro h; exact hgo (.inl h)
        · rcases Nat.eq_zero_or_pos r with h | h; exact h; exact absurd (.inr (by omega)) hgo
      have hfin : l = Lib.decDigits n := by
        rw [← hf]; unfold finD; rw [if_pos ⟨rfl, by intro e; rw [e] at hl; simp at hl; omega⟩]
      rw [hfin] at hown
      have hstr := hown.str
      have hk0 : ((k : Int) == 0) = false := by simp; omega
      have hk1 : ¬ (k : Int) = 0 := by omega
      have hn0 : ((n : Int) < 0) = False := eq_false (by omega)
      clear hown hbel hf hfin hr hl
      go_wp2_with fail
      go_ret
      exact ⟨rfl, HBE.out⟩

set_option maxHeartbeats 2000000 in
/-- A number that is below zero. -/
theorem s01DecM_any (w : World) (n : Nat) (hn : n < 10 ^ 16) (hp : 0 < n) (N : Int) (hN : N = -(n : Int)) :
    Calls Tryd.prog 57 #[.int .i64 N] w fun e w' => e = .returned (.string ⟨(45 :: Lib.decDigits n).toArray⟩) ∧ Below w.heap.size w w' := by
  obtain ⟨i0, hi0, hz0, hz1, hz2⟩ := info_parts info_u8
  have HS := Lib.hid (OwnU.start w w.heap.size (Nat.le_refl _))
  have hb0 : Below w.heap.size w (w.alloc (.cells #[] 5)) := (Below.refl _ _).alloc (Nat.le_refl _) _
  have HB := Lib.hid hb0
  have HN := Lib.hid hn
  have HNN := Lib.hid hN
  have hn9 : n < 10000000000000000 := by simpa using hn
  have hN0 : N < 0 := by omega
  have hN1 : -10000000000000000 < N := by omega
  clear hb0 hn hN
  go_enter Tryd.func57, Tryd.ntmps57
  go_wp2_with fail
  go_loopw [3, 4] (fun v3 v4 wr => ∃ (r k g cap : Nat) (R : Int) (l : List UInt8), v4 = .int .i64 R ∧ Hid (R = -(r : Int)) ∧ v3 = .slice (some ⟨g, 0, none⟩) k cap ∧ l.length = k ∧ k ≤ 17 ∧ r < 10 ^ (17 - k) ∧ r < 10 ^ 16 ∧ finD r l = Lib.decDigits n ∧ OwnU wr w.heap.size (.slice (some ⟨g, 0, none⟩) k cap) l ∧ Below w.heap.size w wr) (fun v3 _ _ => 17 - lenV v3)
  case atStart => exact ⟨n, 0, _, _, N, [], rfl, HNN, rfl, rfl, by omega, by show n < 10 ^ 17; omega, HN.out, by unfold finD; simp, HS.out, HB.out⟩
  case round =>
    clear HS HB
    obtain ⟨r, k, g, cap, R, l, rfl, HR, rfl, hl, hk, hr, hr6, hf, hown, hbel⟩ := hrel
    have HBE := Lib.hid hbel
    have HO := Lib.hid hown
    have HF := Lib.hid hf
    have HL := Lib.hid hl
    have hr16 : r < 10000000000000000 := by simpa using hr6
    have hR1 : R ≤ 0 := by rw [HR.out]; omega
    have hR2 : -10000000000000000 < R := by rw [HR.out]; omega
    clear hr6
    by_cases hgo : k = 0 ∨ r ≠ 0
    · have hk16 : k < 17 := by
        rcases Nat.lt_or_ge k 17 with h | h
        · exact h
        · obtain rfl : k = 17 := by omega
          simp at hr; omega
      have hlr : l = [] ∨ r ≠ 0 := by rcases hgo with h | h; exact .inl (List.length_eq_zero_iff.1 (by omega)); exact .inr h
      have hst := finD_step hlr
      rw [hf] at hst
      have hrr : r / 10 < 10 ^ (17 - (1 + k)) := by
        rw [show 17 - k = (17 - (1 + k)) + 1 by omega, Nat.pow_succ] at hr
        exact Nat.div_lt_of_lt_mul (by omega)
      have hr66 : r / 10 < 10 ^ 16 := by simp; omega
      obtain ⟨d, hd⟩ : ∃ d, r % 10 = d := ⟨_, rfl⟩
      rw [hd] at hst
      have hd10 : d < 10 := by rw [← hd]; exact Nat.mod_lt _ (by decide)
      have HST := Lib.hid (And.intro hst (And.intro hrr hr66))
      have hrem : Int.tmod R 10 = -(d : Int) := by rw [HR.out, Int.neg_tmod, ← hd]; rfl
      obtain ⟨q, hq⟩ : ∃ q, -(d : Int) = q := ⟨_, rfl⟩
      rw [hq] at hrem
      obtain ⟨R2, hR3⟩ : ∃ R2, Int.tdiv R 10 = R2 := ⟨_, rfl⟩
      have hR4 : R2 = -((r / 10 : Nat) : Int) := by rw [← hR3, HR.out, Int.neg_tdiv]; rfl
      have HR4 := Lib.hid hR4
      have hR5 : R2 ≤ 0 := by omega
      have hR6 : -10000000000000000 < R2 := by omega
      have hcond : (((k : Int) == 0) || (R != 0)) = true := by
        rcases hgo with h | h
        · subst h; rfl
        · have : (R != 0) = true := by rw [HR.out]; simp; omega
          rw [this]; simp
      have wd : IntKind.u8.wrap (48 + (d : Int)) = (((UInt8.ofNat (48 + d)).toNat : Nat) : Int) := by
        rw [UInt8.toNat_ofNat', Nat.mod_eq_of_lt (by omega)]
        simp [IntKind.wrap, IntKind.bits, IntKind.signed]; omega
      have hdI : (d : Int) ≤ 9 := by omega
      have hdI0 : (0 : Int) ≤ (d : Int) := by omega
      have hqn : -q = (d : Int) := by omega
      have hq0 : q ≤ 0 := by omega
      have hq9 : -9 ≤ q := by omega
      obtain ⟨x, hx⟩ : ∃ x : UInt8, UInt8.ofNat (48 + d) = x := ⟨_, rfl⟩
      rw [hx] at HST wd
      have hone := OwnU.one wr w.heap.size hbel.size x
      have hcells : ∀ j u, (uCells l)[j]? = some u → (wr.alloc (.cells #[.int .u8 ((x.toNat : Nat) : Int)] 5)).cell? ((⟨g, 0, none⟩ : Addr).add j) = some u := fun j u hj => World.ownsRow.cells (World.ownsRow.alloc hown _) (g := g) rfl j u hj
      have hul : (uCells l).length = k * 1 := by unfold uCells; rw [List.length_map, hl]; omega
      have hu1 : ∀ u ∈ uCells l, u.oneCell' = true := by
        intro u hu
        unfold uCells at hu
        obtain ⟨b, _, rfl⟩ := List.mem_map.1 hu
        rfl
      have HC := Lib.hid (And.intro hcells (And.intro hul (And.intro hu1 hone)))
      have hglt := (hown.lt (k := g) rfl).2
      by_cases hq00 : q = 0
      · have hd00 : d = 0 := by omega
        subst hq00 hd00
        obtain rfl : x = 48 := by rw [← hx]; rfl
        rw [show (((48 : UInt8).toNat : Nat) : Int) = 48 from rfl] at HC
        clear hf hlr hst hrr hr66 hd hx hr hgo hcells hul hu1 hone hown hl hq hqn hR4 wd hdI hdI0 hd10
        go_wp2_with (at_builtin; refine wpList_append_own _ (by rfl) _ _ _ (by rfl) w.heap.size 5 i0 _ 1 1 Tryd.underlying93 hi0 hz0 hz1 hz2 rfl (by omega) _ 1 [.int .u8 (48)] (by rfl) HC.out.2.2.2 ⟨g, 0, none⟩ k cap (uCells l) (by rfl) HC.out.2.1 HC.out.1 HC.out.2.2.1 (by unfold maxLen; omega) (by omega) (by simp; have := HBE.out.size; omega) ?_; intro v2 w2 hown2 hgrow hiff; obtain ⟨g2, cap2, rfl⟩ := own_somewhere (by omega) hown2)
        rotate_left
        · refine ⟨⟨r / 10, 1 + k, g2, cap2, R2, (48 : UInt8) :: l, rfl, HR4, rfl, by simp [HL.out]; omega, by omega, HST.out.2.1, HST.out.2.2, HST.out.1, ?_, ?_⟩, by show 17 - (1 + k) < 17 - k; omega⟩
          · unfold OwnU
            have e1 : ((48 : UInt8) :: l).length = 1 + k := by rw [List.length_cons, HL.out]; omega
            rw [e1]
            exact hown2
          · exact (HBE.out.alloc HBE.out.size _).grown hgrow (by have := HBE.out.size; simp; omega) (fun k hk => by simp [Value.ownBlock] at hk; subst hk; exact HBE.out.size)
        · rename_i hk00
          subst hk00
          obtain rfl : l = [] := List.length_eq_zero_iff.1 HL.out
          exact ⟨⟨r / 10, 1, wr.heap.size, 1, R2, [(48 : UInt8)], rfl, HR4, rfl, rfl, by omega, HST.out.2.1, HST.out.2.2, HST.out.1, HC.out.2.2.2, HBE.out.alloc HBE.out.size _⟩, by show 17 - 1 < 17 - 0; omega⟩
      · have hqF : (q < 0) = True := eq_true (by omega)
        clear hf hlr hst hrr hr66 hd hx hr hgo hcells hul hu1 hone hown hl hq hR4 hq00
        go_wp2_with (at_builtin; refine wpList_append_own _ (by rfl) _ _ _ (by rfl) w.heap.size 5 i0 _ 1 1 Tryd.underlying93 hi0 hz0 hz1 hz2 rfl (by omega) _ 1 [.int .u8 (((x.toNat : Nat) : Int))] (by rfl) HC.out.2.2.2 ⟨g, 0, none⟩ k cap (uCells l) (by rfl) HC.out.2.1 HC.out.1 HC.out.2.2.1 (by unfold maxLen; omega) (by omega) (by simp; have := HBE.out.size; omega) ?_; intro v2 w2 hown2 hgrow hiff; obtain ⟨g2, cap2, rfl⟩ := own_somewhere (by omega) hown2)
        rotate_left
        · refine ⟨⟨r / 10, 1 + k, g2, cap2, R2, x :: l, rfl, HR4, rfl, by simp [HL.out]; omega, by omega, HST.out.2.1, HST.out.2.2, HST.out.1, ?_, ?_⟩, by show 17 - (1 + k) < 17 - k; omega⟩
          · unfold OwnU
            have e1 : (x :: l).length = 1 + k := by rw [List.length_cons, HL.out]; omega
            rw [e1]
            exact hown2
          · exact (HBE.out.alloc HBE.out.size _).grown hgrow (by have := HBE.out.size; simp; omega) (fun k hk => by simp [Value.ownBlock] at hk; subst hk; exact HBE.out.size)
        · rename_i hk00
          subst hk00
          obtain rfl : l = [] := List.length_eq_zero_iff.1 HL.out
          exact ⟨⟨r / 10, 1, wr.heap.size, 1, R2, [x], rfl, HR4, rfl, rfl, by omega, HST.out.2.1, HST.out.2.2, HST.out.1, HC.out.2.2.2, HBE.out.alloc HBE.out.size _⟩, by show 17 - 1 < 17 - 0; omega⟩
    · obtain ⟨h0, rfl⟩ : k ≠ 0 ∧ r = 0 := by
        constructor
        · intro h; exact hgo (.inl h)
        · rcases Nat.eq_zero_or_pos r with h | h; exact h; exact absurd (.inr (by omega)) hgo
      have hfin : l = Lib.decDigits n := by
        rw [← hf]; unfold finD; rw [if_pos ⟨rfl, by intro e; rw [e] at hl; simp at hl; omega⟩]
      rw [hfin] at hown HL
      have hk0 : ((k : Int) == 0) = false := by simp; omega
      have hk1 : ¬ (k : Int) = 0 := by omega
      have hn0 : (N < 0) = True := eq_true hN0
      have hR0 : R = 0 := by rw [HR.out]; rfl
      subst hR0
      have hone : OwnU (wr.alloc (.cells #[.int .u8 45] 5)) w.heap.size (.slice (some ⟨wr.heap.size, 0, none⟩) 1 1) [45] := OwnU.one wr w.heap.size hbel.size 45
      have hcells : ∀ j u, (uCells (Lib.decDigits n))[j]? = some u → (wr.alloc (.cells #[.int .u8 45] 5)).cell? ((⟨g, 0, none⟩ : Addr).add j) = some u := fun j u hj => World.ownsRow.cells (World.ownsRow.alloc hown _) (g := g) rfl j u hj
      have hul : (uCells (Lib.decDigits n)).length = k * 1 := by unfold uCells; rw [List.length_map, HL.out]; omega
      have hu1 : ∀ u ∈ uCells (Lib.decDigits n), u.oneCell' = true := by
        intro u hu
        unfold uCells at hu
        obtain ⟨b, _, rfl⟩ := List.mem_map.1 hu
        rfl
      have HC := Lib.hid (And.intro hcells (And.intro hul (And.intro hu1 hone)))
      have hglt := (hown.lt (k := g) rfl).2
      clear hown hbel hf hfin hr hl HF HO hcells hul hu1 hone
      go_wp2_with (at_builtin; refine wpList_append_own _ (by rfl) _ _ _ (by rfl) w.heap.size 5 i0 _ 1 1 Tryd.underlying93 hi0 hz0 hz1 hz2 rfl (by omega) _ 1 [.int .u8 45] (by rfl) HC.out.2.2.2 ⟨g, 0, none⟩ k cap (uCells (Lib.decDigits n)) (by rfl) HC.out.2.1 HC.out.1 HC.out.2.2.1 (by unfold maxLen; omega) (by omega) (by simp; have := HBE.out.size; omega) ?_; intro v2 w2 hown2 hgrow hiff; obtain ⟨g2, cap2, rfl⟩ := own_somewhere (by omega) hown2)
      have hsn : OwnU w2 w.heap.size (.slice (some ⟨g2, 0, none⟩) (1 + k) cap2) (45 :: Lib.decDigits n) := by
        unfold OwnU
        have e1 : (45 :: Lib.decDigits n).length = 1 + k := by rw [List.length_cons, HL.out]; omega
        rw [e1]
        exact hown2
      have hstr := hsn.str
      have HF2 := Lib.hid ((HBE.out.alloc HBE.out.size _).grown hgrow (by have := HBE.out.size; simp; omega) (fun k hk => by simp [Value.ownBlock] at hk; subst hk; exact HBE.out.size))
      clear hown2 hgrow hsn
      go_wp2_with fail
      rw [hstr]
      go_wp2_with fail
      go_ret
      exact ⟨rfl, HF2.out⟩

/-- A number of either sign. -/
theorem s01DecI_any (w : World) (n : Int) (h1 : -1000000000000000 ≤ n) (h2 : n ≤ 1000000000000000) :
    Calls Tryd.prog 57 #[.int .i64 n] w fun e w' => e = .returned (.string ⟨(Lib.itoa n).toArray⟩) ∧ Below w.heap.size w w' := by
  unfold Lib.itoa
  split
  · exact s01DecM_any w n.natAbs (by show _ < 10000000000000000; omega) (by omega) n (by omega)
  · have := s01DecP_any w n.toNat (by show _ < 10000000000000000; omega)
    rwa [show ((n.toNat : Nat) : Int) = n by omega] at this

end Go.Proofs.YtcppoadeelnphaaDoor

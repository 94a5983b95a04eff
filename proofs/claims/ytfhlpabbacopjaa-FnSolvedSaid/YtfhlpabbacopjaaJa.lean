/- PriceOf, JumpCosts. -/
import Derived.Test.YtfhlpabbacopjaaIb
namespace Go.Proofs.Ytfhlpabbacopjaa
open Go.RowKit
set_option maxRecDepth 100000
set_option linter.unusedVariables false
set_option linter.unusedSimpArgs false

theorem priceOf_ok (w : World) (one more : Int) (a b : Nat) (ha : a < 8) (hb : b < 8) (h1 : 0 ≤ one) (h2 : one ≤ more) (h3 : more ≤ 1000000) :
    Calls Try.prog 39 #[.agg #[.float .f32 (fq 2 one), .float .f32 (fq 2 more)], .int .i64 a, .int .i64 b] w fun e w' => e = .returned (.tuple #[.float .f32 (fq 2 (prI one more a b)), .bool true]) ∧ Below w.heap.size w w' := by
  have i1 : (decide ((0 : Int) ≤ a) && decide ((a : Int) ≤ 7)) = true := by simp; omega
  have i2 : (decide ((0 : Int) ≤ b) && decide ((b : Int) ≤ 7)) = true := by simp; omega
  have KV := Lib.hid (fun w => validPrices_yes w one more h1 h2 h3)
  have KP := Lib.hid (fun w => price_any w one more a b (by omega) (by omega))
  generalize fq 2 one = vo at *
  generalize fq 2 more = vm at *
  have hb0 := (Below.refl w.heap.size w).alloc (Nat.le_refl _) (.cells #[.float .f32 vo, .float .f32 vm] 30)
  have BP := BoxN.last w #[.float .f32 vo, .float .f32 vm] 30
  have HB0 := Lib.hid hb0
  clear hb0 h1 h2 h3
  go_enter Try.func39, Try.ntmps39
  go_wp2_with fail
  refine (KV.out _).mono ?_
  rintro e w1 ⟨rfl, hb1⟩
  have BP1 := BP.below hb1
  have HB1 := Lib.hid (HB0.out.trans (hb1.mono HB0.out.size))
  clear hb1 BP
  go_wp2_with fail
  refine (in_any _ _ _ _).mono ?_
  rw [i1]
  rintro e w' ⟨rfl, rfl⟩
  clear i1
  go_wp2_with fail
  refine (in_any _ _ _ _).mono ?_
  rw [i2]
  rintro e w' ⟨rfl, rfl⟩
  clear i2
  have zp0 := BP1.cell 0
  have zp1 := BP1.cell 1
  simp only [List.size_toArray, List.length_cons, List.length_nil, List.getElem?_toArray, List.getElem?_cons_zero, List.getElem?_cons_succ] at zp0 zp1
  clear BP1
  go_wp2_with fail
  refine (KP.out _).mono ?_
  rintro e w2 ⟨rfl, hb2⟩
  go_wp2
  go_ret2
  exact ⟨rfl, HB1.out.trans (hb2.mono HB1.out.size)⟩

theorem jumpCosts_ok (w : World) (b off n cap : Nat) (ks : List Int) (one more : Int) (h : SlF w (.slice (some ⟨b, off, none⟩) n cap) (ks.map (fq 2))) (hl : ks.length = n) (hlt : b < w.heap.size) (hq : qb3 ks) (h1 : 0 ≤ one) (h2 : one ≤ more) (h3 : more ≤ 1000000) (hn : 1 ≤ n) (hn2 : n ≤ 8) :
    Calls Try.prog 38 #[.slice (some ⟨b, off, none⟩) n cap, .agg #[.float .f32 (fq 2 one), .float .f32 (fq 2 more)]] w fun e w' => ∃ w1 v, MakesQ w1 (jumpI ks one more) (.returned v) w' ∧ e = .returned (.tuple #[v, .bool true]) ∧ Below w.heap.size w w1 := by
  have i1 : (decide ((1 : Int) ≤ n) && decide ((n : Int) ≤ 8)) = true := by simp; omega
  have KV := Lib.hid (fun w => validPrices_yes w one more h1 h2 h3)
  have KJ := Lib.hid (fun W (hW : Below w.heap.size w W) => jump_any W b off n cap ks one more (h.below hW) hl (Nat.lt_of_lt_of_le hlt hW.size) hq h1 (by omega) (by omega) h3 hn hn2)
  generalize fq 2 one = vo at *
  generalize fq 2 more = vm at *
  have hb0 := (Below.refl w.heap.size w).alloc (Nat.le_refl _) (.cells #[.float .f32 vo, .float .f32 vm] 30)
  have BP := BoxN.last w #[.float .f32 vo, .float .f32 vm] 30
  have HB0 := Lib.hid hb0
  obtain ⟨s1, s2, s3⟩ := h.size
  clear hb0 h1 h2 h3 h hq
  go_enter Try.func38, Try.ntmps38
  go_wp2_with fail
  refine (in_any _ _ _ _).mono ?_
  rw [i1]
  rintro e w' ⟨rfl, rfl⟩
  clear i1
  go_wp2_with fail
  refine (KV.out _).mono ?_
  rintro e w1 ⟨rfl, hb1⟩
  have BP1 := BP.below hb1
  have HB1 := Lib.hid (HB0.out.trans (hb1.mono HB0.out.size))
  clear hb1 BP
  have zp0 := BP1.cell 0
  have zp1 := BP1.cell 1
  simp only [List.size_toArray, List.length_cons, List.length_nil, List.getElem?_toArray, List.getElem?_cons_zero, List.getElem?_cons_succ] at zp0 zp1
  clear BP1
  go_wp2_with fail
  refine (KJ.out _ HB1.out).mono ?_
  rintro e w2 hmk
  have HMK := Lib.hid hmk
  obtain ⟨g, c, rfl, -⟩ := hmk
  go_wp2
  go_ret2
  exact ⟨w1, _, HMK.out, rfl, HB1.out⟩

end Go.Proofs.Ytfhlpabbacopjaa

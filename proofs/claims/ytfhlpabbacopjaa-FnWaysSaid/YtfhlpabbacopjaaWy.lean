/- Orders of numbers, finite numbers, prices. -/
import Derived.Test.YtfhlpabbacopjaaWw
namespace Go.Proofs.Ytfhlpabbacopjaa
open Go.RowKit
set_option maxRecDepth 100000
set_option linter.unusedVariables false
set_option linter.unusedSimpArgs false

theorem finite1_any (b : Nat) (w : World) : Calls Try.prog 112 #[.float .f32 b] w fun e w' => e = .returned (.bool (!fin32 b)) ∧ ∃ n, w' = w.drewN n := by
  go_enter Try.func112, Try.ntmps112
  go_wp2_with fail
  refine (isFinite_any _ _).mono ?_
  rintro e w1 ⟨rfl, n, rfl⟩
  go_wp2
  go_ret
  exact ⟨rfl, n, rfl⟩

theorem indexFin_none (w : World) (b off n cap : Nat) (bs : List Nat) (h : SlF w (.slice (some ⟨b, off, none⟩) n cap) bs) (hf : ∀ x ∈ bs, fin32 x = true) :
    Calls Try.prog 99 #[.slice (some ⟨b, off, none⟩) n cap, .func (.func 112) #[] #[]] w fun e w' => e = .returned (.int .i64 (-1)) ∧ ∃ q, w' = w.drewN q := by
  obtain ⟨s1, s2, s3⟩ := h.size
  have hz : ∀ i, i < n → w.cell? ⟨b, off + i, none⟩ = some (.float .f32 (bs.getD i 0)) ∧ fin32 (bs.getD i 0) = true := fun i hi => by
    have := (h.at i (by omega)).1
    refine ⟨this, ?_⟩
    rw [List.getD_eq_getElem?_getD, List.getElem?_eq_getElem (by omega)]
    exact hf _ (List.getElem_mem _)
  clear h hf s1
  go_enter Try.func99, Try.ntmps99
  go_wp2_with fail
  go_loopw [8] (fun v8 wr => ∃ i q : Nat, v8 = .int .i64 i ∧ i ≤ n ∧ wr = w.drewN q) (fun v8 _ => n - (intOf v8).toNat)
  case atStart => exact ⟨0, 0, rfl, Nat.zero_le _, rfl⟩
  case round =>
    obtain ⟨i, q, rfl, hi, rfl⟩ := hrel
    by_cases hlt : i < n
    · obtain ⟨k1, k2⟩ := hz i hlt
      have k3 : ∀ q, (w.drewN q).cell? ⟨b, off + i, none⟩ = some (.float .f32 (bs.getD i 0)) := fun _ => k1
      generalize bs.getD i 0 = x at *
      clear hz k1
      go_wp2_with fail
      refine (finite1_any _ _).mono ?_
      rw [k2]
      rintro e w1 ⟨rfl, m, rfl⟩
      go_wp2
      go_roundw
      case rel => exact ⟨i + 1, _, by go_num, by omega, rfl⟩
      case measure => simp [intOf]; omega
    · have : i = n := by omega
      subst this
      clear hz
      go_wp2
      go_ret
      exact ⟨rfl, _, rfl⟩

theorem finite_yes (w : World) (b off n cap : Nat) (bs : List Nat) (h : SlF w (.slice (some ⟨b, off, none⟩) n cap) bs) (hf : ∀ x ∈ bs, fin32 x = true) :
    Calls Try.prog 98 #[.slice (some ⟨b, off, none⟩) n cap] w fun e w' => e = .returned (.bool true) ∧ ∃ q, w' = w.drewN q := by
  have K : Calls Try.prog 69 #[.slice (some ⟨b, off, none⟩) n cap, .func (.func 112) #[] #[]] w fun e w' => e = .returned (.bool false) ∧ ∃ q, w' = w.drewN q := by
    go_enter Try.func69, Try.ntmps69
    go_wp2_with fail
    refine (indexFin_none w b off n cap bs h hf).mono ?_
    rintro e w1 ⟨rfl, m, rfl⟩
    go_wp2
    go_ret
    exact ⟨rfl, m, rfl⟩
  have K := Lib.hid K
  go_enter Try.func98, Try.ntmps98
  go_wp2_with fail
  refine K.out.mono ?_
  rintro e w1 ⟨rfl, m, rfl⟩
  go_wp2
  go_ret
  exact ⟨rfl, m, rfl⟩

theorem validPrices_yes (w : World) (one more : Int) (h1 : 0 ≤ one) (h2 : one ≤ more) (h3 : more ≤ 1000000) :
    Calls Try.prog 61 #[.agg #[.float .f32 (fq 2 one), .float .f32 (fq 2 more)]] w fun e w' => e = .returned (.bool true) ∧ Below w.heap.size w w' := by
  have l1 : le32 0 (fq 2 one) = true := by rw [← fq_zero 2, le32_fq (by omega) (by omega)]; simpa using h1
  have l2 : le32 (fq 2 one) (fq 2 more) = true := by rw [le32_fq (by omega) (by omega)]; simpa using h2
  have f1 := fq_fin (g := 2) (k := one) (by omega)
  have f2 := fq_fin (g := 2) (k := more) (by omega)
  have t1 := fq_lt (g := 2) (k := one) (by omega)
  have t2 := fq_lt (g := 2) (k := more) (by omega)
  generalize fq 2 one = vo at *
  generalize fq 2 more = vm at *
  have hb0 := below_two w (.cells #[.float .f32 vo, .float .f32 vm] 30) (.cells #[.float .f32 vo, .float .f32 vm] 28)
  have hsl : SlF ((w.alloc (.cells #[.float .f32 vo, .float .f32 vm] 30)).alloc (.cells #[.float .f32 vo, .float .f32 vm] 28)) (.slice (some ⟨w.heap.size + 1, 0, none⟩) 2 2) [vo, vm] := by
    have hbx := BoxN.second w #[.float .f32 vo, .float .f32 vm] 28 (.cells #[.float .f32 vo, .float .f32 vm] 30)
    refine ⟨⟨some ⟨w.heap.size + 1, 0, none⟩, 2, rfl, by simp, by omega, .inr ⟨_, 0, rfl, hbx.lt, fun i hi => ?_⟩⟩, by intro b hb; simp at hb; rcases hb with rfl | rfl <;> assumption⟩
    rw [Nat.zero_add, hbx.cell]
    match i, hi with
    | 0, _ => rfl
    | 1, _ => rfl
  have K := Lib.hid (finite_yes _ _ _ _ _ _ hsl (by intro b hb; simp at hb; rcases hb with rfl | rfl <;> assumption))
  have HB := Lib.hid hb0
  clear hsl hb0 f1 f2 t1 t2
  go_enter Try.func61, Try.ntmps61
  go_wp2_with fail
  refine K.out.mono ?_
  rintro e w1 ⟨rfl, m, rfl⟩
  go_wp2
  go_ret
  exact ⟨rfl, below_drewN HB.out _⟩

theorem info_i64 : (Try.prog.info? 2).map (fun i => (i.zero, i.size, i.bytes)) = some (some (.int .i64 0), 1, 8) := by kernel_rfl
/-- A slice of integers of the call's own. -/
def OwnI (w : World) (B : Nat) (v : Value) (ks : List Int) : Prop := w.ownsRow B 2 1 v ks.length (ks.map (Value.int .i64))
theorem OwnI.cellAt {w : World} {B g n cap : Nat} {ks : List Int} (h : OwnI w B (.slice (some ⟨g, 0, none⟩) n cap) ks) (i : Nat) (hi : i < ks.length) : w.cell? ⟨g, i, none⟩ = some (.int .i64 (ks.getD i 0)) := by
  have := World.ownsRow.cells (g := g) h rfl i (Value.int .i64 (ks.getD i 0)) (by rw [List.getElem?_map, List.getElem?_eq_getElem hi, List.getD_eq_getElem?_getD, List.getElem?_eq_getElem hi]; rfl)
  by_cases h0 : i = 0
  · subst h0; simpa [Addr.add] using this
  · simpa [Addr.add, h0] using this
theorem OwnI.len {w : World} {B g n cap : Nat} {ks : List Int} (h : OwnI w B (.slice (some ⟨g, 0, none⟩) n cap) ks) : ks.length = n ∧ n ≤ cap ∧ cap ≤ maxLen := by
  rcases h.2 with ⟨h1, _⟩ | ⟨g', cap', cur, h1, h2, h3, h4, h5, h6⟩
  · cases h1
  · simp only [Value.slice.injEq] at h1
    omega
theorem OwnI.free {w : World} {B g n cap : Nat} {ks : List Int} (h : OwnI w B (.slice (some ⟨g, 0, none⟩) n cap) ks) (i : Nat) : w.frozen? ⟨g, i, none⟩ = false := World.ownsRow.frozenAt (n := n) (by have := h; unfold OwnI at this; rw [h.len.1] at this; exact this) i
theorem OwnI.put {w : World} {B g n cap : Nat} {ks : List Int} (h : OwnI w B (.slice (some ⟨g, 0, none⟩) n cap) ks) (i : Nat) (z : Int) : OwnI (w.setCell ⟨g, i, none⟩ (.int .i64 z)) B (.slice (some ⟨g, 0, none⟩) n cap) (ks.set i z) := by
  have hn := h.len.1
  subst hn
  have := (World.ownsRow.stored h i (.int .i64 z)).1
  unfold OwnI
  simpa [List.map_set] using this
theorem OwnI.grown {w w' : World} {B : Nat} {v : Value} {ks : List Int} {r : Option Nat} (h : OwnI w B v ks) (hg : w.grownBy w' r) (hne : v.ownBlock = none ∨ v.ownBlock ≠ r) : OwnI w' B v ks := World.ownsRow.kept h hg hne
theorem OwnI.below {w w' : World} {B : Nat} {v : Value} {ks : List Int} (h : OwnI w B v ks) (hb : Below w.heap.size w w') : OwnI w' B v ks := h.grown (grown_below hb none) (by cases v.ownBlock <;> simp)
theorem OwnI.lt {w : World} {B : Nat} {v : Value} {ks : List Int} (h : OwnI w B v ks) {k : Nat} (hk : v.ownBlock = some k) : B ≤ k ∧ k < w.heap.size := World.ownsRow.lt h k hk

/-- How far a list has been turned round. -/
def TurnedI (ks cs : List Int) (i : Nat) : Prop := cs.length = ks.length ∧ ∀ k, k < ks.length → cs.getD k 0 = if k < i ∨ ks.length ≤ k + i then ks.getD (ks.length - 1 - k) 0 else ks.getD k 0
theorem getD_set_ne (cs : List Int) {i k : Nat} (z : Int) (h : i ≠ k) : (cs.set i z).getD k 0 = cs.getD k 0 := by
  rw [List.getD_eq_getElem?_getD, List.getElem?_set_ne h, ← List.getD_eq_getElem?_getD]
theorem getD_set_self (cs : List Int) {i : Nat} (z : Int) (h : i < cs.length) : (cs.set i z).getD i 0 = z := by
  rw [List.getD_eq_getElem?_getD, List.getElem?_set_self h]; rfl
theorem TurnedI.step {ks cs : List Int} {i : Nat} (h : TurnedI ks cs i) (hi : i < ks.length - 1 - i) : TurnedI ks ((cs.set i (cs.getD (ks.length - 1 - i) 0)).set (ks.length - 1 - i) (cs.getD i 0)) (i + 1) := by
  obtain ⟨h1, h2⟩ := h
  refine ⟨by simpa using h1, fun k hk => ?_⟩
  by_cases e1 : k = ks.length - 1 - i
  · subst e1
    rw [getD_set_self _ _ (by simp; omega), if_pos (by omega), h2 i (by omega), if_neg (by omega)]
    congr 1; omega
  · rw [getD_set_ne _ _ (Ne.symm e1)]
    by_cases e2 : k = i
    · subst e2
      rw [getD_set_self _ _ (by omega), if_pos (by omega), h2 _ (by omega), if_neg (by omega)]
    · rw [getD_set_ne _ _ (Ne.symm e2), h2 k hk]
      by_cases e3 : k < i ∨ ks.length ≤ k + i
      · rw [if_pos e3, if_pos (by omega)]
      · rw [if_neg e3, if_neg (by omega)]
theorem TurnedI.done {ks cs : List Int} {i : Nat} (h : TurnedI ks cs i) (hi : ks.length - 1 - i ≤ i) : cs = ks.reverse := by
  obtain ⟨h1, h2⟩ := h
  apply ext_getD
  · simpa using h1
  · intro d hd
    rw [h2 d (by omega)]
    have e : ks.reverse.getD d 0 = ks.getD (ks.length - 1 - d) 0 := by
      rw [List.getD_eq_getElem?_getD, List.getD_eq_getElem?_getD, List.getElem?_reverse (by omega)]
    rw [e]
    by_cases e3 : d < i ∨ ks.length ≤ d + i
    · rw [if_pos e3]
    · rw [if_neg e3]; congr 1; omega

set_option maxHeartbeats 1000000 in
theorem reverse_any (w : World) (B g n cap : Nat) (ks : List Int) (h : OwnI w B (.slice (some ⟨g, 0, none⟩) n cap) ks) (hn1 : 1 ≤ n) (hn2 : n ≤ 1000) :
    Calls Try.prog 96 #[.slice (some ⟨g, 0, none⟩) n cap] w fun e w' => OwnI w' B (.slice (some ⟨g, 0, none⟩) n cap) ks.reverse ∧ w.grownBy w' (some g) ∧ ∃ v, e = .returned v := by
  have hl := h.len.1
  have HL := Lib.hid hl
  clear hl
  have start : TurnedI ks ks 0 := ⟨rfl, fun k hk => by rw [if_neg (by omega)]⟩
  go_enter Try.func96, Try.ntmps96
  go_wp2_with fail
  go_loopw [2, 3] (fun v2 v3 wr => ∃ (i : Nat) (cs : List Int), v2 = .int .i64 i ∧ v3 = .int .i64 ((n : Int) - 1 - i) ∧ 2 * i ≤ n + 1 ∧ TurnedI ks cs i ∧ OwnI wr B (.slice (some ⟨g, 0, none⟩) n cap) cs ∧ w.grownBy wr (some g)) (fun v2 _ _ => n - (intOf v2).toNat)
  case atStart => exact ⟨0, ks, rfl, by simp, by omega, start, h, grown_refl _ _⟩
  case round =>
    clear start h
    obtain ⟨i, cs, rfl, rfl, hi, ht, hown, hg⟩ := hrel
    have hcl : cs.length = n := by rw [ht.1, HL.out]
    by_cases hlt : 2 * i + 1 < n
    · obtain ⟨j, hj⟩ : ∃ j, j = n - 1 - i := ⟨_, rfl⟩
      have hjn : j < n := by omega
      have hij : i < j := by omega
      have ej : (n : Int) - 1 - (i : Int) = (j : Int) := by omega
      have k1 := hown.cellAt i (by omega)
      have k2 := hown.cellAt j (by omega)
      have f1 := hown.free i
      have f2 := hown.free j
      have hst := ht.step (by rw [HL.out]; omega)
      rw [HL.out, ← hj] at hst
      have p1 := fun z1 z2 => (hown.put i z1).put j z2
      have p2 := fun z1 z2 => (hown.put j z2).put i z1
      have HST := Lib.hid hst
      have P1 := Lib.hid p1
      have P2 := Lib.hid p2
      have HJ := Lib.hid hj
      have HT := Lib.hid ht
      generalize hx : cs.getD i 0 = x at *
      generalize hy : cs.getD j 0 = y at *
      rw [ej]
      clear hj hst p1 p2 hown ht ej hx hy hcl
      have b1 : (j : Int) < (n : Int) := by omega
      have b2 : (i : Int) < (n : Int) := by omega
      have b3 : (i : Int) < (j : Int) := by omega
      have ne1 : ¬ i = j := by omega
      have ne2 : ¬ j = i := by omega
      go_wp2
      go_region
      all_goals
        go_wp2
        go_roundw
        case rel =>
          refine ⟨i + 1, _, by go_num, ?_, by omega, HST.out, P1.out y x, ?_⟩
          · have := HJ.out
            congr 1; omega
          · exact grown_trans (grown_trans hg (grown_setCell _ _ _)) (grown_trans (grown_setCell _ _ _) (grown_drewN _ 1 _))
        case measure => simp [intOf]; omega
    · have hdone : cs = ks.reverse := ht.done (by rw [HL.out]; omega)
      subst hdone
      have b1 : ¬ (i : Int) < (n : Int) - 1 - (i : Int) := by omega
      go_wp2
      go_end0
      exact ⟨hown, hg, _, rfl⟩

/-- Numbers in their order, or downwards. -/
def ordI (n : Nat) (step : Int) : List Int := if step < 0 then ((List.range n).map Int.ofNat).reverse else (List.range n).map Int.ofNat
theorem ordI_length (n : Nat) (step : Int) : (ordI n step).length = n := by unfold ordI; split <;> simp
theorem ordI_get (n : Nat) (step : Int) (i : Nat) (h : i < n) : (ordI n step).getD i 0 = if step < 0 then ((n - 1 - i : Nat) : Int) else (i : Int) := by
  unfold ordI
  by_cases hs : step < 0
  · rw [if_pos hs, if_pos hs, List.getD_eq_getElem?_getD, List.getElem?_reverse (by simpa using h), List.getElem?_map]
    rw [List.length_map, List.length_range, List.getElem?_range (by omega)]; rfl
  · rw [if_neg hs, if_neg hs, List.getD_eq_getElem?_getD, List.getElem?_map, List.getElem?_range h]; rfl

def MakesI (w : World) (ks : List Int) (n : Nat) (e : Ending) (w' : World) : Prop :=
  ∃ g c, e = .returned (.slice (some ⟨g, 0, none⟩) n c) ∧ OwnI w' w.heap.size (.slice (some ⟨g, 0, none⟩) n c) ks ∧ Below w.heap.size w w'

set_option maxHeartbeats 1000000 in
theorem ordered_any (w : World) (n : Nat) (step : Int) (hn1 : 1 ≤ n) (hn2 : n ≤ 1000) :
    Calls Try.prog 107 #[.int .i64 n, .int .i64 step] w (MakesI w (ordI n step) n) := by
  obtain ⟨i0, hi0, hz0, hz1, hz2⟩ := info_parts info_i64
  have start : OwnI (w.alloc (.cells #[] 2)) w.heap.size (.slice (some ⟨w.heap.size, 0, none⟩) 0 0) ((List.range 0).map Int.ofNat) :=
    ⟨rfl, .inr ⟨w.heap.size, 0, #[], rfl, Nat.le_refl _, heap_alloc_new w _, Nat.le_refl _, by unfold maxLen; omega, rfl, rfl⟩⟩
  have ha0 : Below w.heap.size w (w.alloc (.cells #[] 2)) := (Below.refl _ _).alloc (Nat.le_refl _) _
  go_enter Try.func107, Try.ntmps107
  go_wp2_with fail
  go_loopw [5, 9] (fun v5 v9 wr => ∃ d g c : Nat, v5 = .slice (some ⟨g, 0, none⟩) d c ∧ v9 = .int .i64 d ∧ d ≤ n ∧ OwnI wr w.heap.size (.slice (some ⟨g, 0, none⟩) d c) ((List.range d).map Int.ofNat) ∧ Below w.heap.size w wr) (fun v5 v9 _ => n - (intOf v9).toNat)
  case atStart => exact ⟨0, _, _, rfl, rfl, Nat.zero_le _, start, ha0⟩
  case round =>
    clear start ha0
    obtain ⟨d, g, c, rfl, rfl, hd, hown, hbl⟩ := hrel
    by_cases hlt : d < n
    · have hsz := hbl.size
      have how := hown
      unfold OwnI at how
      rw [List.length_map, List.length_range] at how
      have HO := Lib.hid hown
      have HBL := Lib.hid hbl
      clear hown hbl
      go_wp2_with (at_builtin; refine wpList_append_lies _ (by rfl) _ _ _ (by rfl) w.heap.size 2 i0 _ 1 8 Try.underlying42 hi0 hz0 hz1 hz2 rfl (by omega) (.slice (some ⟨g, 0, none⟩) d c) d _ (by rfl) (World.ownsRow.alloc how _) ⟨wr.heap.size, 0, none⟩ 1 1 [.int .i64 d] (by rfl) (by rfl) (cell_one_new _ _ _) (by simp [Value.oneCell']) (by omega) (by unfold maxLen; omega) (by omega) (by simp; omega) (wr.heap.size + 1) (by simp) ?_; intro gg cap wz hown2 hgrow hat hlt2)
      go_roundw
      case rel =>
        refine ⟨d + 1, gg, cap, rfl, by go_num, by omega, ?_, (HBL.out.alloc hsz (.cells #[.int .i64 d] 2)).grown hgrow (by simp; omega) (fun k hk => (HO.out.lt hk).1)⟩
        unfold OwnI
        rw [List.range_succ, List.map_append]
        simpa using hown2
      case measure => simp [intOf]; omega
    · have : d = n := by omega
      subst this
      by_cases hs : step < 0
      · have he : ordI d step = ((List.range d).map Int.ofNat).reverse := by unfold ordI; rw [if_pos hs]
        have HE := Lib.hid he
        have HBL := Lib.hid hbl
        clear he hbl
        go_wp2_with fail
        refine (reverse_any _ _ _ _ _ _ hown hn1 hn2).mono ?_
        rintro e w2 ⟨hown2, hg2, v, rfl⟩
        go_wp2
        go_ret
        exact ⟨g, c, rfl, by rw [HE.out]; exact hown2, HBL.out.grown hg2 HBL.out.size (fun k hk => by injection hk with e; have := (hown.lt (k := g) rfl).1; omega)⟩
      · have he : ordI d step = (List.range d).map Int.ofNat := by unfold ordI; rw [if_neg hs]
        have HE := Lib.hid he
        have HBL := Lib.hid hbl
        clear he hbl
        go_wp2
        go_ret
        exact ⟨g, c, rfl, by rw [HE.out]; exact hown, HBL.out⟩

end Go.Proofs.Ytfhlpabbacopjaa

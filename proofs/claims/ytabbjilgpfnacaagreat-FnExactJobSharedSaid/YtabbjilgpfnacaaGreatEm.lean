/- Jobs: what is asked of them, by words. -/
import Derived.Test.YtabbjilgpfnacaaGreatEl
namespace Go.Proofs.YtabbjilgpfnacaaGreat
open Go.RowKit Ieee
set_option maxRecDepth 100000
set_option linter.unusedVariables false
set_option linter.unusedSimpArgs false

theorem finite1E (b : Nat) (w : World) : Calls Tryz.prog 103 #[.float .f32 b] w fun e w' => e = .returned (.bool (!fin32 b)) ∧ ∃ n, w' = w.drewN n := by
  go_enter Tryz.func103, Tryz.ntmps103
  go_wp2_with fail
  refine (isFinite_any _ _).mono ?_
  rintro e w1 ⟨rfl, n, rfl⟩
  go_wp2
  go_ret
  exact ⟨rfl, n, rfl⟩

theorem slF_at {w : World} {b off n cap : Nat} {bs : List Nat} (h : SlF w (.slice (some ⟨b, off, none⟩) n cap) bs) (i : Nat) (hi : i < n) : w.cell? ⟨b, off + i, none⟩ = some (.float .f32 (bs.getD i 0)) := (h.at i (by rw [h.leE.1]; exact hi)).1

theorem indexFinE (w : World) (b off n cap : Nat) (bs : List Nat) (h : SlF w (.slice (some ⟨b, off, none⟩) n cap) bs) (hn : n ≤ 1000) :
    Calls Tryz.prog 99 #[.slice (some ⟨b, off, none⟩) n cap, .func (.func 103) #[] #[]] w fun e w' => ((e = .returned (.int .i64 (-1)) ∧ bs.all fin32 = true) ∨ ∃ i : Nat, i ≤ 1000 ∧ e = .returned (.int .i64 i) ∧ bs.all fin32 = false) ∧ ∃ q, w' = w.drewN q := by
  have hz : ∀ i, i < n → w.cell? ⟨b, off + i, none⟩ = some (.float .f32 (bs.getD i 0)) := fun i hi => slF_at h i hi
  have hl := h.leE.1
  have HZ := Lib.hid hz
  have HL := Lib.hid hl
  clear h hl hz
  go_enter Tryz.func99, Tryz.ntmps99
  go_wp2_with fail
  go_loopw [8] (fun v8 wr => ∃ i q : Nat, v8 = .int .i64 i ∧ i ≤ n ∧ wr = w.drewN q ∧ ∀ j, j < i → fin32 (bs.getD j 0) = true) (fun v8 _ => n - (intOf v8).toNat)
  case atStart => exact ⟨0, 0, rfl, Nat.zero_le _, rfl, fun j hj => by omega⟩
  case round =>
    obtain ⟨i, q, rfl, hi, rfl, hall⟩ := hrel
    have HA := Lib.hid hall
    clear hall
    by_cases hlt : i < n
    · have k1 := HZ.out i hlt
      have k3 : ∀ q, (w.drewN q).cell? ⟨b, off + i, none⟩ = some (.float .f32 (bs.getD i 0)) := fun _ => k1
      obtain ⟨x, hx⟩ : ∃ x, bs.getD i 0 = x := ⟨_, rfl⟩
      rw [hx] at k3
      have HX := Lib.hid hx
      clear k1 hx
      cases k2 : fin32 x
      · go_wp2_with fail
        refine (finite1E _ _).mono ?_
        rw [k2]
        rintro e w1 ⟨rfl, m, rfl⟩
        have K2 := Lib.hid k2
        clear k2
        go_wp2
        go_ret
        refine ⟨.inr ⟨i, by omega, rfl, ?_⟩, _, rfl⟩
        rw [← Bool.not_eq_true, List.all_eq_true]
        intro hc
        have hil : i < bs.length := by rw [HL.out]; exact hlt
        have := hc bs[i] (List.getElem_mem hil)
        have e2 : bs[i] = x := by rw [← HX.out, List.getD_eq_getElem?_getD, List.getElem?_eq_getElem hil]; rfl
        rw [e2, K2.out] at this
        cases this
      · go_wp2_with fail
        refine (finite1E _ _).mono ?_
        rw [k2]
        rintro e w1 ⟨rfl, m, rfl⟩
        have K2 := Lib.hid k2
        clear k2
        go_wp2
        go_roundw
        case rel => exact ⟨i + 1, _, by go_num, by omega, rfl, fun j hj => by
          by_cases hji : j < i
          · exact HA.out j hji
          · have : j = i := by omega
            subst this; rw [HX.out]; exact K2.out⟩
        case measure => simp [intOf]; omega
    · have : i = n := by omega
      subst this
      go_wp2
      go_ret
      refine ⟨.inl ⟨rfl, ?_⟩, _, rfl⟩
      rw [List.all_eq_true]
      intro x hx
      obtain ⟨j, hj, rfl⟩ := List.mem_iff_getElem.1 hx
      have := HA.out j (by rw [← HL.out]; exact hj)
      rwa [List.getD_eq_getElem?_getD, List.getElem?_eq_getElem hj] at this

theorem finiteE (w : World) (b off n cap : Nat) (bs : List Nat) (h : SlF w (.slice (some ⟨b, off, none⟩) n cap) bs) (hn : n ≤ 1000) :
    Calls Tryz.prog 92 #[.slice (some ⟨b, off, none⟩) n cap] w fun e w' => e = .returned (.bool (bs.all fin32)) ∧ ∃ q, w' = w.drewN q := by
  have K : Calls Tryz.prog 77 #[.slice (some ⟨b, off, none⟩) n cap, .func (.func 103) #[] #[]] w fun e w' => e = .returned (.bool (!bs.all fin32)) ∧ ∃ q, w' = w.drewN q := by
    go_enter Tryz.func77, Tryz.ntmps77
    go_wp2_with fail
    refine (indexFinE w b off n cap bs h hn).mono ?_
    rintro e w1 ⟨⟨rfl, ha⟩ | ⟨i, hi, rfl, ha⟩, m, rfl⟩
    · have HA := Lib.hid ha
      clear ha
      go_wp2
      go_ret
      exact ⟨by rw [HA.out]; rfl, m, rfl⟩
    · have HA := Lib.hid ha
      clear ha
      have : (0 : Int) ≤ (i : Int) := by omega
      go_wp2
      go_ret
      exact ⟨by rw [HA.out]; rfl, m, rfl⟩
  generalize bs.all fin32 = v at *
  have K := Lib.hid K
  go_enter Tryz.func92, Tryz.ntmps92
  go_wp2_with fail
  refine K.out.mono ?_
  rintro e w1 ⟨rfl, m, rfl⟩
  go_wp2
  go_ret
  exact ⟨by cases v <;> rfl, m, rfl⟩

/-- What is asked of prices. -/
def prOk (o m : Nat) : Bool := fin32 o && (fin32 m && (le32 0 o && le32 o m))

theorem le_no {a b : Nat} (h : le32 a b = false) : lt32 a b = false ∧ eq32 b a = false ∧ eq32 a b = false := by
  have e1 := ord_ge32 b a
  have e2 := ord_le32 a b
  rw [h] at e1 e2
  simp only [Bool.or_eq_false_iff] at e1 e2
  exact ⟨e1.1, e1.2, e2.2⟩

set_option maxHeartbeats 1000000 in
theorem iPricesE (w : World) (o m : Nat) (ho : o < 4294967296) (hm : m < 4294967296) :
    Calls Tryz.prog 63 #[.agg #[.float .f32 o, .float .f32 m]] w fun e w' => e = .returned (.bool (prOk o m)) ∧ Below w.heap.size w w' := by
  have hb0 := below_two w (.cells #[.float .f32 o, .float .f32 m] 37) (.cells #[.float .f32 o, .float .f32 m] 25)
  have hsl : SlF ((w.alloc (.cells #[.float .f32 o, .float .f32 m] 37)).alloc (.cells #[.float .f32 o, .float .f32 m] 25)) (.slice (some ⟨w.heap.size + 1, 0, none⟩) 2 2) [o, m] := by
    have hbx := BoxN.second w #[.float .f32 o, .float .f32 m] 25 (.cells #[.float .f32 o, .float .f32 m] 37)
    refine ⟨⟨some ⟨w.heap.size + 1, 0, none⟩, 2, rfl, by simp, by omega, .inr ⟨_, 0, rfl, hbx.lt, fun i hi => ?_⟩⟩, by intro b hb; simp at hb; rcases hb with rfl | rfl <;> assumption⟩
    rw [Nat.zero_add, hbx.cell]
    match i, hi with
    | 0, _ => rfl
    | 1, _ => rfl
  have K := Lib.hid (finiteE _ _ _ _ _ _ hsl (by omega))
  have hall : [o, m].all fin32 = (fin32 o && fin32 m) := by simp
  rw [hall] at K
  have HB := Lib.hid hb0
  unfold prOk
  rw [← Bool.and_assoc]
  clear hsl hb0 ho hm hall
  cases f : fin32 o && fin32 m
  · rw [f] at K
    clear f
    go_enter Tryz.func63, Tryz.ntmps63
    go_wp2_with fail
    refine K.out.mono ?_
    rintro e w1 ⟨rfl, m, rfl⟩
    go_wp2
    go_ret
    exact ⟨rfl, below_drewN HB.out _⟩
  · rw [f] at K
    clear f
    cases l1 : le32 0 o
    · obtain ⟨l2, l3, l4⟩ := le_no l1
      go_enter Tryz.func63, Tryz.ntmps63
      go_wp2_with fail
      refine K.out.mono ?_
      rintro e w1 ⟨rfl, m, rfl⟩
      go_wp2
      go_ret
      exact ⟨rfl, below_drewN HB.out _⟩
    · cases l2 : le32 o m
      · obtain ⟨l3, l4, l5⟩ := le_no l2
        go_enter Tryz.func63, Tryz.ntmps63
        go_wp2_with fail
        refine K.out.mono ?_
        rintro e w1 ⟨rfl, m, rfl⟩
        go_wp2
        go_ret
        exact ⟨rfl, below_drewN HB.out _⟩
      · go_enter Tryz.func63, Tryz.ntmps63
        go_wp2_with fail
        refine K.out.mono ?_
        rintro e w1 ⟨rfl, m, rfl⟩
        go_wp2
        go_ret
        exact ⟨rfl, below_drewN HB.out _⟩

theorem sFinQ (b : Nat) (W : World) (n : Nat) : Calls Tryz.prog 36 #[.float .f32 b] (W.drewN n) fun e w' => e = .returned (.bool (fin32 b)) ∧ ∃ m, w' = W.drewN m := quiet_drewA (s01Finite_any b (W.drewN n))

set_option maxHeartbeats 1000000 in
theorem l04IsE (W : World) (pb po o m : Nat) (c0 : W.cell? ⟨pb, po, none⟩ = some (.float .f32 o)) (c1 : W.cell? ⟨pb, po + 1, none⟩ = some (.float .f32 m)) :
    Calls Tryz.prog 27 #[.pointer (some ⟨pb, po, none⟩)] W fun e w' => e = .returned (.bool (prOk o m)) ∧ ∃ n, w' = W.drewN n := by
  have K1 := Lib.hid (fun n => sFinQ o W n)
  have K2 := Lib.hid (fun n => sFinQ m W n)
  unfold prOk
  cases f1 : fin32 o
  · rw [f1] at K1
    clear f1
    go_enter Tryz.func27, Tryz.ntmps27
    go_wp2_with fail
    go_quiet (first | with_reducible exact K1.out _ | with_reducible exact K2.out _)
    go_wp2_with fail
    go_ret
    exact ⟨rfl, _, rfl⟩
  · rw [f1] at K1
    clear f1
    cases f2 : fin32 m
    · rw [f2] at K2
      clear f2
      go_enter Tryz.func27, Tryz.ntmps27
      go_wp2_with fail
      go_quiet (first | with_reducible exact K1.out _ | with_reducible exact K2.out _)
      go_wp2_with fail
      go_ret
      exact ⟨rfl, _, rfl⟩
    · rw [f2] at K2
      clear f2
      cases l1 : le32 0 o
      · obtain ⟨l2, l3, l4⟩ := le_no l1
        go_enter Tryz.func27, Tryz.ntmps27
        go_wp2_with fail
        go_quiet (first | with_reducible exact K1.out _ | with_reducible exact K2.out _)
        go_wp2_with fail
        go_ret
        exact ⟨rfl, _, rfl⟩
      · cases l2 : le32 o m
        · obtain ⟨l3, l4, l5⟩ := le_no l2
          go_enter Tryz.func27, Tryz.ntmps27
          go_wp2_with fail
          go_quiet (first | with_reducible exact K1.out _ | with_reducible exact K2.out _)
          go_wp2_with fail
          go_ret
          exact ⟨rfl, _, rfl⟩
        · go_enter Tryz.func27, Tryz.ntmps27
          go_wp2_with fail
          go_quiet (first | with_reducible exact K1.out _ | with_reducible exact K2.out _)
          go_wp2_with fail
          go_ret
          exact ⟨rfl, _, rfl⟩

end Go.Proofs.YtabbjilgpfnacaaGreat

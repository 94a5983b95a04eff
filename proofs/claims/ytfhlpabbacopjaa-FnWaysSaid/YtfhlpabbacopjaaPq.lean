/- The plain law of an order of cells in which a volume is told along a direction; splices of lists. No program in sight. -/
import Derived.Test.YtfhlpabbacopjaaPp
namespace Go.Proofs.Ytfhlpabbacopjaa
set_option linter.unusedVariables false

/-- The place of a cell in the order. -/
def rkI (dx dy : Int) (wd hi : Nat) (x y : Int) : Nat := (if dy < 0 then (hi : Int) - 1 - y else y).toNat * wd + (if dx < 0 then (wd : Int) - 1 - x else x).toNat
theorem rk_parts {dx : Int} {wd : Nat} {x : Int} (h0 : 0 ≤ x) (h1 : x < wd) : (if dx < 0 then (wd : Int) - 1 - x else x).toNat < wd := by split <;> omega
theorem rk_inj {dx dy : Int} {wd hi : Nat} {x y x' y' : Int} (h : insI x y wd hi) (h' : insI x' y' wd hi) (e : rkI dx dy wd hi x y = rkI dx dy wd hi x' y') : x = x' ∧ y = y' := by
  obtain ⟨a1, a2, a3, a4⟩ := h
  obtain ⟨b1, b2, b3, b4⟩ := h'
  unfold rkI at e
  have p1 := rk_parts (dx := dx) a1 a2
  have p2 := rk_parts (dx := dx) b1 b2
  have hw : 0 < wd := by omega
  have d1 := congrArg (· / wd) e
  have d2 := congrArg (· % wd) e
  simp only [Nat.mul_comm _ wd, Nat.mul_add_div hw, Nat.div_eq_of_lt p1, Nat.div_eq_of_lt p2, Nat.mul_add_mod, Nat.mod_eq_of_lt p1, Nat.mod_eq_of_lt p2, Nat.add_zero] at d1 d2
  constructor
  · split at d2 <;> omega
  · split at d1 <;> omega
theorem rk_lt {dx dy : Int} {wd hi : Nat} {x y : Int} (hd : isDir dx dy) (h : insI x y wd hi) (hp : insI (x - dx) (y - dy) wd hi) : rkI dx dy wd hi (x - dx) (y - dy) < rkI dx dy wd hi x y := by
  obtain ⟨a1, a2, a3, a4⟩ := h
  obtain ⟨b1, b2, b3, b4⟩ := hp
  have p2 := rk_parts (dx := dx) b1 b2
  have p1 := rk_parts (dx := dx) a1 a2
  obtain ⟨h1, h2, h3⟩ := hd
  unfold rkI
  rcases h2 with rfl | rfl | rfl
  · have e : (if (1 : Int) < 0 then (hi : Int) - 1 - (y - 1) else y - 1).toNat + 1 = (if (1 : Int) < 0 then (hi : Int) - 1 - y else y).toNat := by simp; omega
    rw [← e, Nat.add_mul, Nat.one_mul]; omega
  · have e : (if (-1 : Int) < 0 then (hi : Int) - 1 - (y - -1) else y - -1).toNat + 1 = (if (-1 : Int) < 0 then (hi : Int) - 1 - y else y).toNat := by simp; omega
    rw [← e, Nat.add_mul, Nat.one_mul]; omega
  · rw [Int.sub_zero]
    apply Nat.add_lt_add_left
    rcases h1 with rfl | rfl | rfl
    · simp; omega
    · simp; omega
    · exact absurd ⟨rfl, rfl⟩ h3

/-- How far a volume has been told. -/
structure InvA (F : Int → Int → List Int → List Int → List Int) (own : Int → Int → List Int) (Ok : Int → Int → List Int → Prop) (dx dy : Int) (wd hi t : Nat) (P : Int → Int → List Int) : Prop where
  told : ∀ x y, insI x y wd hi → rkI dx dy wd hi x y < t → P x y = if insI (x - dx) (y - dy) wd hi then F x y (own x y) (P (x - dx) (y - dy)) else own x y
  left : ∀ x y, insI x y wd hi → t ≤ rkI dx dy wd hi x y → P x y = own x y
  ok : ∀ x y, insI x y wd hi → Ok x y (P x y)
def updI (P : Int → Int → List Int) (x y : Int) (v : List Int) : Int → Int → List Int := fun a b => if a = x ∧ b = y then v else P a b
theorem updI_self (P : Int → Int → List Int) (x y : Int) (v : List Int) : updI P x y v x y = v := by unfold updI; simp
theorem updI_ne (P : Int → Int → List Int) {x y a b : Int} (v : List Int) (h : ¬ (a = x ∧ b = y)) : updI P x y v a b = P a b := by unfold updI; rw [if_neg h]

theorem InvA.start {F : Int → Int → List Int → List Int → List Int} {own : Int → Int → List Int} {Ok : Int → Int → List Int → Prop} {dx dy : Int} {wd hi : Nat} (h : ∀ x y, insI x y wd hi → Ok x y (own x y)) : InvA F own Ok dx dy wd hi 0 own :=
  ⟨fun x y _ hr => absurd hr (Nat.not_lt_zero _), fun x y _ _ => rfl, h⟩
theorem InvA.stepOut {F : Int → Int → List Int → List Int → List Int} {own : Int → Int → List Int} {Ok : Int → Int → List Int → Prop} {dx dy : Int} {wd hi t : Nat} {P : Int → Int → List Int} (h : InvA F own Ok dx dy wd hi t P) {x y : Int} (hi_ : insI x y wd hi) (ht : rkI dx dy wd hi x y = t) (hp : ¬ insI (x - dx) (y - dy) wd hi) : InvA F own Ok dx dy wd hi (t + 1) P := by
  refine ⟨fun a b hab hr => ?_, fun a b hab hr => h.left a b hab (by omega), h.ok⟩
  by_cases hlt : rkI dx dy wd hi a b < t
  · exact h.told a b hab hlt
  · obtain ⟨rfl, rfl⟩ := rk_inj hab hi_ (show rkI dx dy wd hi a b = rkI dx dy wd hi x y by omega)
    rw [if_neg hp]; exact h.left _ _ hab (by omega)
theorem InvA.stepIn {F : Int → Int → List Int → List Int → List Int} {own : Int → Int → List Int} {Ok : Int → Int → List Int → Prop} {dx dy : Int} {wd hi t : Nat} {P : Int → Int → List Int} (hd : isDir dx dy) (h : InvA F own Ok dx dy wd hi t P) {x y : Int} (hi_ : insI x y wd hi) (ht : rkI dx dy wd hi x y = t) (hp : insI (x - dx) (y - dy) wd hi)
    (hok : Ok x y (F x y (own x y) (P (x - dx) (y - dy)))) : InvA F own Ok dx dy wd hi (t + 1) (updI P x y (F x y (own x y) (P (x - dx) (y - dy)))) := by
  have far : ∀ a b, insI a b wd hi → rkI dx dy wd hi a b < t → ¬ (a = x ∧ b = y) := by rintro a b hab hlt ⟨rfl, rfl⟩; omega
  refine ⟨fun a b hab hr => ?_, fun a b hab hr => ?_, fun a b hab => ?_⟩
  · by_cases hlt : rkI dx dy wd hi a b < t
    · rw [updI_ne _ _ (far a b hab hlt), h.told a b hab hlt]
      by_cases hq : insI (a - dx) (b - dy) wd hi
      · rw [if_pos hq, if_pos hq, updI_ne _ _ (far _ _ hq (Nat.lt_trans (rk_lt hd hab hq) hlt))]
      · rw [if_neg hq, if_neg hq]
    · obtain ⟨rfl, rfl⟩ := rk_inj hab hi_ (show rkI dx dy wd hi a b = rkI dx dy wd hi x y by omega)
      rw [updI_self, if_pos hp, updI_ne _ _ (far _ _ hp (by have := rk_lt hd hab hp; omega))]
  · rw [updI_ne _ _ (by rintro ⟨rfl, rfl⟩; omega)]; exact h.left a b hab (by omega)
  · by_cases e : a = x ∧ b = y
    · obtain ⟨rfl, rfl⟩ := e
      rw [updI_self]; exact hok
    · rw [updI_ne _ _ e]; exact h.ok a b hab
theorem InvA.done {F : Int → Int → List Int → List Int → List Int} {own : Int → Int → List Int} {Ok : Int → Int → List Int → Prop} {dx dy : Int} {wd hi : Nat} {P : Int → Int → List Int} (h : InvA F own Ok dx dy wd hi (hi * wd) P) : IsAlong F own dx dy wd hi P := by
  intro x y hxy
  refine h.told x y hxy ?_
  obtain ⟨a1, a2, a3, a4⟩ := hxy
  unfold rkI
  have p1 := rk_parts (dx := dx) a1 a2
  have p2 : (if dy < 0 then (hi : Int) - 1 - y else y).toNat + 1 ≤ hi := by split <;> omega
  have := Nat.mul_le_mul_right wd p2
  rw [Nat.add_mul, Nat.one_mul] at this
  omega

/-- Some cells of a list, written. -/
def spl (cs : List Nat) (off : Nat) (news : List Nat) : List Nat := cs.take off ++ (news ++ cs.drop (off + news.length))
theorem spl_length (cs : List Nat) (off : Nat) (news : List Nat) (h : off + news.length ≤ cs.length) : (spl cs off news).length = cs.length := by unfold spl; simp; omega
theorem spl_in (cs : List Nat) (off : Nat) (news : List Nat) (h : off + news.length ≤ cs.length) (d : Nat) (hd : d < news.length) : (spl cs off news).getD (off + d) 0 = news.getD d 0 := by
  unfold spl
  rw [List.getD_eq_getElem?_getD, List.getElem?_append_right (by simp; omega), List.getElem?_append_left (by simp; omega), List.getD_eq_getElem?_getD]
  congr 2; simp; omega
theorem spl_out (cs : List Nat) (off : Nat) (news : List Nat) (h : off + news.length ≤ cs.length) (i : Nat) (hi : i < off ∨ off + news.length ≤ i) : (spl cs off news).getD i 0 = cs.getD i 0 := by
  unfold spl
  rcases hi with hi | hi
  · rw [List.getD_eq_getElem?_getD, List.getElem?_append_left (by simp; omega), List.getElem?_take, if_pos hi, List.getD_eq_getElem?_getD]
  · rw [List.getD_eq_getElem?_getD, List.getElem?_append_right (by simp; omega), List.getElem?_append_right (by simp; omega), List.getElem?_drop, List.getD_eq_getElem?_getD]
    congr 2; simp; omega
theorem spl_mem {cs : List Nat} {off : Nat} {news : List Nat} {b : Nat} (h : b ∈ spl cs off news) : b ∈ cs ∨ b ∈ news := by
  unfold spl at h
  rcases List.mem_append.1 h with h | h
  · exact .inl (List.mem_of_mem_take h)
  · rcases List.mem_append.1 h with h | h
    · exact .inr h
    · exact .inl (List.mem_of_mem_drop h)

end Go.Proofs.Ytfhlpabbacopjaa

/- Runs of equal numbers: plain. -/
import Derived.Test.YtmncihhdkcmmmaaUb
namespace Go.Proofs.Ytmncihhdkcmmmaa
open Go.RowKit
set_option maxRecDepth 100000
set_option linter.unusedVariables false
set_option linter.unusedSimpArgs false

def lead (a : Nat) : List Nat → Nat
  | [] => 0
  | b :: l => if b = a then lead a l + 1 else 0
theorem lead_le (a : Nat) : ∀ l, lead a l ≤ l.length := by
  intro l
  induction l with
  | nil => exact Nat.le_refl _
  | cons b l ih => unfold lead; split <;> simp <;> omega
theorem lead_take (a : Nat) : ∀ l, l.take (lead a l) = List.replicate (lead a l) a := by
  intro l
  induction l with
  | nil => rfl
  | cons b l ih =>
    unfold lead
    split
    · rename_i h; rw [List.take_succ_cons, ih, List.replicate_succ, h]
    · rfl
theorem lead_eq {a : Nat} : ∀ {l : List Nat} {k : Nat}, k ≤ l.length → (∀ j, j < k → l.getD j 0 = a) → (k = l.length ∨ l.getD k 0 ≠ a) → lead a l = k := by
  intro l
  induction l with
  | nil => intro k hk _ _; simp at hk; subst hk; rfl
  | cons b l ih =>
    intro k hk h1 h2
    cases k with
    | zero =>
      unfold lead
      rcases h2 with h | h
      · simp at h
      · rw [if_neg (by simpa using h)]
    | succ k =>
      unfold lead
      rw [if_pos (by simpa using h1 0 (by omega))]
      rw [ih (by simpa using hk) (fun j hj => by simpa using h1 (j + 1) (by omega)) (by
        rcases h2 with h | h
        · left; simpa using h
        · right; simpa using h)]
/-- The runs of a list, as bytes. -/
def pkF : Nat → List Nat → List UInt8
  | 0, _ => []
  | _ + 1, [] => []
  | f + 1, a :: l => UInt8.ofNat (lead a l + 1) :: UInt8.ofNat (a + 1) :: pkF f (l.drop (lead a l))
def pk (l : List Nat) : List UInt8 := pkF l.length l
theorem pkF_any : ∀ (f : Nat) (l : List Nat), l.length ≤ f → pkF f l = pk l := by
  intro f
  induction f using Nat.strongRecOn with
  | _ f ih =>
    intro l hl
    cases l with
    | nil => cases f <;> rfl
    | cons a l =>
      cases f with
      | zero => simp at hl
      | succ f =>
        have h1 : (l.drop (lead a l)).length ≤ l.length := by rw [List.length_drop]; omega
        have hl2 : l.length ≤ f := by simpa using hl
        unfold pk
        show _ :: _ :: pkF f _ = _ :: _ :: pkF l.length _
        rw [ih f (by omega) _ (by omega)]
        by_cases e : l.length = f
        · rw [e, ih f (by omega) _ (by omega)]
        · rw [ih l.length (by omega) _ h1]
theorem pk_cons (a : Nat) (l : List Nat) : pk (a :: l) = UInt8.ofNat (lead a l + 1) :: UInt8.ofNat (a + 1) :: pk (l.drop (lead a l)) := by
  show _ :: _ :: pkF l.length _ = _
  rw [pkF_any _ _ (by rw [List.length_drop]; omega)]
theorem pk_nil : pk [] = [] := rfl
theorem pk_len : ∀ (n : Nat) (l : List Nat), l.length = n → (pk l).length ≤ 2 * n ∧ (pk l).length % 2 = 0 := by
  intro n
  induction n using Nat.strongRecOn with
  | _ n ih =>
    intro l hl
    cases l with
    | nil => exact ⟨Nat.zero_le _, rfl⟩
    | cons a l =>
      have h1 : (l.drop (lead a l)).length < n := by rw [List.length_drop]; simp at hl; omega
      obtain ⟨q1, q2⟩ := ih _ h1 _ rfl
      rw [pk_cons]
      simp only [List.length_cons]
      omega
/-- What runs stand for. -/
def un : List UInt8 → List Nat
  | c :: v :: r => List.replicate c.toNat (v.toNat - 1) ++ un r
  | _ => []
theorem un_app : ∀ (n : Nat) (a b : List UInt8), a.length = 2 * n → un (a ++ b) = un a ++ un b := by
  intro n
  induction n with
  | zero =>
    intro a b h
    have : a = [] := List.length_eq_zero_iff.1 (by omega)
    subst this; rfl
  | succ n ih =>
    intro a b h
    match a, h with
    | c :: v :: r, h =>
      show List.replicate _ _ ++ un (r ++ b) = _
      rw [ih r b (by simp at h; omega), ← List.append_assoc]
      rfl
theorem un_pk : ∀ (n : Nat) (l : List Nat), l.length = n → n ≤ 200 → (∀ z ∈ l, z ≤ 200) → un (pk l) = l := by
  intro n
  induction n using Nat.strongRecOn with
  | _ n ih =>
    intro l hl hn hz
    cases l with
    | nil => rfl
    | cons a l =>
      have h1 : (l.drop (lead a l)).length < n := by rw [List.length_drop]; simp at hl; omega
      have h2 := lead_le a l
      have h3 := hz a (List.mem_cons_self ..)
      simp at hl
      rw [pk_cons]
      show List.replicate (UInt8.ofNat (lead a l + 1)).toNat ((UInt8.ofNat (a + 1)).toNat - 1) ++ un (pk _) = _
      rw [ih _ h1 _ rfl (by omega) (fun z hz' => hz z (List.mem_cons_of_mem _ (List.mem_of_mem_drop hz')))]
      have e1 : (UInt8.ofNat (lead a l + 1)).toNat = lead a l + 1 := by rw [UInt8.toNat_ofNat']; exact Nat.mod_eq_of_lt (by omega)
      have e2 : (UInt8.ofNat (a + 1)).toNat = a + 1 := by rw [UInt8.toNat_ofNat']; exact Nat.mod_eq_of_lt (by omega)
      rw [e1, e2, Nat.add_sub_cancel, List.replicate_succ, List.cons_append]
      congr 1
      rw [← lead_take, List.take_append_drop]
/-- All bytes of a run are great enough. -/
def Pairs : List UInt8 → Prop
  | c :: v :: r => 1 ≤ c.toNat ∧ 1 ≤ v.toNat ∧ v.toNat ≤ 201 ∧ Pairs r
  | [] => True
  | [_] => False
theorem pk_pairs : ∀ (n : Nat) (l : List Nat), l.length = n → n ≤ 200 → (∀ z ∈ l, z ≤ 200) → Pairs (pk l) := by
  intro n
  induction n using Nat.strongRecOn with
  | _ n ih =>
    intro l hl hn hz
    cases l with
    | nil => trivial
    | cons a l =>
      have h1 : (l.drop (lead a l)).length < n := by rw [List.length_drop]; simp at hl; omega
      have h2 := lead_le a l
      have h3 := hz a (List.mem_cons_self ..)
      simp at hl
      rw [pk_cons]
      have e1 : (UInt8.ofNat (lead a l + 1)).toNat = lead a l + 1 := by rw [UInt8.toNat_ofNat']; exact Nat.mod_eq_of_lt (by omega)
      have e2 : (UInt8.ofNat (a + 1)).toNat = a + 1 := by rw [UInt8.toNat_ofNat']; exact Nat.mod_eq_of_lt (by omega)
      exact ⟨by rw [e1]; omega, by rw [e2]; omega, by rw [e2]; omega, ih _ h1 _ rfl (by omega) (fun z hz' => hz z (List.mem_cons_of_mem _ (List.mem_of_mem_drop hz')))⟩
theorem Pairs.app : ∀ {a b : List UInt8}, Pairs a → Pairs b → Pairs (a ++ b)
  | [], _, _, h => h
  | [_], _, h, _ => by cases h
  | _ :: _ :: r, b, h, k => ⟨h.1, h.2.1, h.2.2.1, Pairs.app (a := r) h.2.2.2 k⟩
theorem Pairs.even : ∀ {a : List UInt8}, Pairs a → a.length % 2 = 0
  | [], _ => rfl
  | [_], h => by cases h
  | _ :: _ :: r, h => by have := Pairs.even (a := r) h.2.2.2; simp only [List.length_cons]; omega
/-- The pair at place 2 k. -/
theorem Pairs.at : ∀ {a : List UInt8} {k : Nat}, Pairs a → 2 * k < a.length → ∃ c v, a[2 * k]? = some c ∧ a[2 * k + 1]? = some v ∧ 1 ≤ c.toNat ∧ 1 ≤ v.toNat ∧ v.toNat ≤ 201 ∧ a.take (2 * (k + 1)) = a.take (2 * k) ++ [c, v] ∧ un (a.take (2 * (k + 1))) = un (a.take (2 * k)) ++ List.replicate c.toNat (v.toNat - 1)
  | [], k, _, hk => by simp at hk
  | [_], _, h, _ => by cases h
  | c :: v :: r, 0, h, _ => ⟨c, v, rfl, rfl, h.1, h.2.1, h.2.2.1, rfl, by show List.replicate _ _ ++ un [] = _; rw [show un [] = [] from rfl, List.append_nil]; rfl⟩
  | c :: v :: r, k + 1, h, hk => by
    obtain ⟨c', v', e1, e2, e3, e4, e5, e6, e7⟩ := Pairs.at (a := r) (k := k) h.2.2.2 (by simp at hk; omega)
    refine ⟨c', v', ?_, ?_, e3, e4, e5, ?_, ?_⟩
    · rw [show 2 * (k + 1) = 2 * k + 1 + 1 by omega]; exact e1
    · rw [show 2 * (k + 1) + 1 = 2 * k + 1 + 1 + 1 by omega]; exact e2
    · rw [show 2 * (k + 1 + 1) = 2 * (k + 1) + 1 + 1 by omega, show 2 * (k + 1) = 2 * k + 1 + 1 by omega, List.take_succ_cons, List.take_succ_cons, List.take_succ_cons, List.take_succ_cons, show 2 * k + 1 + 1 = 2 * (k + 1) by omega, e6]; rfl
    · rw [show 2 * (k + 1 + 1) = 2 * (k + 1) + 1 + 1 by omega, show (c :: v :: r).take (2 * (k + 1) + 1 + 1) = c :: v :: r.take (2 * (k + 1)) from rfl, show (c :: v :: r).take (2 * (k + 1)) = c :: v :: r.take (2 * k) from rfl]
      show List.replicate _ _ ++ un _ = (List.replicate _ _ ++ un _) ++ _
      rw [e7, List.append_assoc]
/-- A beginning stands for less. -/
theorem un_short : ∀ {a : List UInt8} {k : Nat}, Pairs a → 2 * k < a.length → (un (a.take (2 * k))).length < (un a).length
  | [], k, _, hk => by simp at hk
  | [_], _, h, _ => by cases h
  | c :: v :: r, 0, h, _ => by
    show 0 < (List.replicate _ _ ++ un r).length
    rw [List.length_append, List.length_replicate]
    have := h.1
    omega
  | c :: v :: r, k + 1, h, hk => by
    have := un_short (a := r) (k := k) h.2.2.2 (by simp at hk; omega)
    show (List.replicate _ _ ++ un (r.take (2 * k))).length < (List.replicate _ _ ++ un r).length
    rw [List.length_append, List.length_append]
    omega
theorem Pairs.take : ∀ {a : List UInt8} {k : Nat}, Pairs a → Pairs (a.take (2 * k))
  | [], k, _ => by rw [List.take_nil]; trivial
  | [_], _, h => by cases h
  | c :: v :: r, 0, _ => trivial
  | c :: v :: r, k + 1, h => ⟨h.1, h.2.1, h.2.2.1, Pairs.take (a := r) (k := k) h.2.2.2⟩

/-- All rows of a map. -/
def rowL (ms : List Nat) (wd y : Nat) : List Nat := (ms.drop (wd * y)).take wd
def pkA (ms : List Nat) (wd : Nat) : Nat → List UInt8
  | 0 => []
  | y + 1 => pkA ms wd y ++ pk (rowL ms wd y)
theorem rowL_len {ms : List Nat} {wd hi y : Nat} (hl : ms.length = wd * hi) (hy : y < hi) : (rowL ms wd y).length = wd := by
  unfold rowL
  have h1 : wd * (y + 1) ≤ wd * hi := Nat.mul_le_mul_left _ hy
  rw [Nat.mul_succ] at h1
  rw [List.length_take, List.length_drop, hl]
  omega
theorem rowL_get {ms : List Nat} {wd x y : Nat} (hx : x < wd) : (rowL ms wd y).getD x 0 = ms.getD (x + wd * y) 0 := by
  unfold rowL
  rw [List.getD_eq_getElem?_getD, List.getElem?_take, if_pos hx, List.getElem?_drop, Nat.add_comm, ← List.getD_eq_getElem?_getD]
theorem rowL_mem {ms : List Nat} {wd y z : Nat} (h : z ∈ rowL ms wd y) : z ∈ ms := List.mem_of_mem_drop (List.mem_of_mem_take h)
theorem pkA_ok {ms : List Nat} {wd hi : Nat} (hl : ms.length = wd * hi) (hw : wd ≤ 200) (hz : ∀ z ∈ ms, z ≤ 200) : ∀ y, y ≤ hi → Pairs (pkA ms wd y) ∧ un (pkA ms wd y) = ms.take (wd * y) ∧ (pkA ms wd y).length ≤ 2 * (wd * y) := by
  intro y
  induction y with
  | zero => intro _; exact ⟨trivial, by rw [Nat.mul_zero]; rfl, Nat.zero_le _⟩
  | succ y ih =>
    intro hy
    obtain ⟨h1, h2, h4⟩ := ih (by omega)
    have hr := rowL_len hl (show y < hi by omega)
    have h3 := pk_pairs wd _ hr hw (fun z h => hz z (rowL_mem h))
    have h5 := (pk_len wd _ hr).1
    refine ⟨h1.app h3, ?_, by show (pkA ms wd y ++ pk (rowL ms wd y)).length ≤ _; rw [List.length_append, Nat.mul_succ]; omega⟩
    have he := h1.even
    show un (pkA ms wd y ++ _) = _
    rw [un_app ((pkA ms wd y).length / 2) _ _ (by omega), h2, un_pk wd _ hr hw (fun z h => hz z (rowL_mem h)), Nat.mul_succ]
    unfold rowL
    rw [← List.take_add]

end Go.Proofs.Ytmncihhdkcmmmaa

/- Journals: what is recovered of a journal that is cut or bent: the plain law. -/
import Derived.Test.YtmcmcppleikajaaDoorBj
namespace Go.Proofs.YtmcmcppleikajaaDoor
open Go.RowKit
set_option maxRecDepth 100000
set_option linter.unusedVariables false
set_option linter.unusedSimpArgs false

theorem digit_byte (n : Nat) : ∀ b ∈ Lib.decDigits n, b ≠ 10 ∧ b ≠ 32 := by
  induction n using Nat.strongRecOn with
  | _ u ih =>
    have H : ∀ k, k < 10 → (UInt8.ofNat (48 + k)) ≠ 10 ∧ (UInt8.ofNat (48 + k)) ≠ 32 := by decide
    intro b hb
    by_cases h : u < 10
    · rw [Lib.decDigits, dif_pos h, List.mem_singleton] at hb
      rw [hb]; exact H u h
    · rw [Lib.decDigits, dif_neg h, List.mem_append, List.mem_singleton] at hb
      rcases hb with hb | hb
      · exact ih (u / 10) (by omega) b hb
      · rw [hb]; exact H (u % 10) (by omega)
theorem noNl_byte {p : List UInt8} (h : noNl p = true) : ∀ b ∈ p, b ≠ 10 := by
  intro b hb e
  unfold noNl at h
  subst e
  simp [hb] at h
theorem noNl_ofC {p : List UInt8} (h : ∀ b ∈ p, b ≠ 10) : noNl p = true := by
  unfold noNl
  rw [Bool.not_eq_true', List.contains_eq_mem, decide_eq_false_iff_not]
  exact fun hb => h 10 hb rfl
theorem spI_at {a p : List UInt8} (h : ∀ b ∈ a, b ≠ 32) : spI (a ++ 32 :: p) = a.length := by
  unfold spI
  induction a with
  | nil => simp
  | cons b a ih =>
    have hb := h b (List.mem_cons_self ..)
    rw [List.cons_append, List.takeWhile_cons, if_pos (by simpa using hb), List.length_cons, ih (fun x hx => h x (List.mem_cons_of_mem _ hx)), List.length_cons]
/-- A line of a journal without its newline. -/
def bodJ (z : Nat) (p : List UInt8) : List UInt8 := Lib.decDigits (ckF z p) ++ 32 :: p
theorem ent_bod (z : Nat) (p : List UInt8) : entJ z p = bodJ z p ++ [10] := by unfold entJ bodJ; simp
theorem bod_line (z : Nat) (p : List UInt8) : linB (bodJ z p) = p := by
  unfold linB bodJ
  rw [spI_at (fun b hb => (digit_byte _ b hb).2)]
  simp
theorem bod_ok (z : Nat) (p : List UInt8) : okJ z (bodJ z p) = true := by
  have h1 : spI (bodJ z p) = (Lib.decDigits (ckF z p)).length := by
    unfold bodJ; exact spI_at (fun b hb => (digit_byte _ b hb).2)
  rw [okJ_text (by rw [h1]; unfold bodJ; simp), bod_line]
  simp [bodJ]
theorem bod_nl {z : Nat} {p : List UInt8} (h : noNl p = true) : ∀ b ∈ bodJ z p, b ≠ 10 := by
  intro b hb
  unfold bodJ at hb
  rcases List.mem_append.1 hb with hb | hb
  · exact (digit_byte _ b hb).1
  · rcases List.mem_cons.1 hb with rfl | hb
    · decide
    · exact noNl_byte h b hb
theorem rec_jrn : ∀ (P : List (List UInt8)) (z : Nat) (r : List UInt8), P.all noNl = true → recJ z (lnsL (jrn z P ++ r)) = (P ++ (recJ (zJ z P) (lnsL r)).1, (jrn z P).length + (recJ (zJ z P) (lnsL r)).2)
  | [], z, r, _ => by simp [jrn, zJ]
  | p :: ps, z, r, h => by
    rw [List.all_cons, Bool.and_eq_true] at h
    have e : jrn z (p :: ps) ++ r = bodJ z p ++ 10 :: (jrn (ckF z p) ps ++ r) := by rw [jrn, ent_bod]; simp
    have ez : zJ z (p :: ps) = zJ (ckF z p) ps := rfl
    rw [e, lns_hit (bod_nl h.1), recJ_yes (bod_ok z p), bod_line, rec_jrn ps (ckF z p) r h.2, ez, jrn, ent_bod]
    simp only [List.cons_append, List.length_append, List.length_cons, List.length_nil]
    congr 1
    omega
theorem rec_back (n : Nat) : ∀ (l : List UInt8) (z : Nat), l.length ≤ n → (recJ z (lnsL l)).2 ≤ l.length ∧ jrn z (recJ z (lnsL l)).1 = l.take (recJ z (lnsL l)).2 ∧ (recJ z (lnsL l)).1.all noNl = true := by
  induction n with
  | zero =>
    intro l z hl
    have : l = [] := List.eq_nil_of_length_eq_zero (by omega)
    subst this
    rw [lns_none (by simp)]
    simp [recJ, jrn]
  | succ n ih =>
    intro l z hl
    rcases byte_split 10 l with ⟨-, h⟩ | ⟨i, -, hi, hs, ha⟩
    · rw [lns_none h]; simp [recJ, jrn]
    · obtain ⟨a, hae⟩ : ∃ a, a = l.take i := ⟨_, rfl⟩
      obtain ⟨t, hte⟩ : ∃ t, t = l.drop (i + 1) := ⟨_, rfl⟩
      rw [← hae, ← hte] at hs
      rw [← hae] at ha
      have hlen : l.length = a.length + 1 + t.length := by rw [hs]; simp; omega
      rw [hs, lns_hit ha]
      cases hk : okJ z a with
      | false => rw [recJ_no hk]; simp [jrn]
      | true =>
        rw [recJ_yes hk]
        obtain ⟨k1, k2, k3⟩ := ih t (ckF z (linB a)) (by omega)
        have hsp : spI a < a.length ∧ a.take (spI a) = Lib.decDigits (ckF z (linB a)) := by
          unfold okJ at hk
          rw [Bool.and_eq_true, decide_eq_true_eq, decide_eq_true_eq] at hk
          exact hk
        have hab : bodJ z (linB a) = a := by
          rcases sp_split a with ⟨h1, h2, h3⟩ | ⟨h1, h2⟩
          · unfold bodJ
            rw [← hsp.2]; exact h2.symm
          · omega
        refine ⟨by simp only [List.length_append, List.length_cons]; omega, ?_, ?_⟩
        · show entJ z (linB a) ++ jrn (ckF z (linB a)) _ = _
          rw [ent_bod, hab, k2]
          have e : ∀ k, (a ++ 10 :: t).take (a.length + 1 + k) = a ++ [10] ++ t.take k := fun k => by
            rw [show a ++ 10 :: t = (a ++ [10]) ++ t by simp, List.take_append, List.take_of_length_le (by simp <;> omega)]
            congr 2
            simp
          exact (e _).symm
        · rw [List.all_cons, Bool.and_eq_true]
          refine ⟨noNl_ofC fun b hb => ?_, k3⟩
          have : b ∈ a := by unfold linB at hb; exact List.mem_of_mem_drop hb
          exact ha b this
/-- A journal that is cut: whole lines, and less than a line. -/
theorem jrn_cut : ∀ (P : List (List UInt8)) (z at_ : Nat), P.all noNl = true → at_ ≤ (jrn z P).length → ∃ k r, k ≤ P.length ∧ (jrn z P).take at_ = jrn z (P.take k) ++ r ∧ (∀ b ∈ r, b ≠ 10)
  | [], z, at_, _, h => ⟨0, [], Nat.le_refl _, by simp [jrn], by simp⟩
  | p :: ps, z, at_, ha, h => by
    rw [List.all_cons, Bool.and_eq_true] at ha
    have e : jrn z (p :: ps) = entJ z p ++ jrn (ckF z p) ps := rfl
    rcases Nat.lt_or_ge at_ (entJ z p).length with hl | hl
    · refine ⟨0, (entJ z p).take at_, Nat.zero_le _, ?_, ?_⟩
      · rw [e, List.take_append, show at_ - (entJ z p).length = 0 by omega]
        simp [jrn]
      · intro b hb
        rw [ent_bod, List.length_append, List.length_singleton] at hl
        rw [ent_bod, List.take_append, show at_ - (bodJ z p).length = 0 by omega, List.take_zero, List.append_nil] at hb
        exact bod_nl ha.1 b (List.mem_of_mem_take hb)
    · rw [e, List.length_append] at h
      obtain ⟨k, r, h1, h2, h3⟩ := jrn_cut ps (ckF z p) (at_ - (entJ z p).length) ha.2 (by omega)
      refine ⟨k + 1, r, by simp; omega, ?_, h3⟩
      rw [e, List.take_append, List.take_of_length_le hl, h2, List.take_succ_cons]
      show _ = entJ z p ++ jrn (ckF z p) (ps.take k) ++ r
      rw [List.append_assoc]
theorem jrn_count : ∀ (P : List (List UInt8)) (z : Nat), P.all noNl = true → (jrn z P).count 10 = P.length
  | [], z, _ => by simp [jrn]
  | p :: ps, z, ha => by
    rw [List.all_cons, Bool.and_eq_true] at ha
    have e : jrn z (p :: ps) = bodJ z p ++ [10] ++ jrn (ckF z p) ps := by rw [← ent_bod]; rfl
    have h0 : (bodJ z p).count 10 = 0 := List.count_eq_zero.2 fun hb => bod_nl ha.1 _ hb rfl
    rw [e, List.count_append, List.count_append, h0, jrn_count ps _ ha.2]
    simp; omega
theorem recJ_all (l : List UInt8) : (recJ 0 (lnsL l)).2 ≤ l.length ∧ jrn 0 (recJ 0 (lnsL l)).1 = l.take (recJ 0 (lnsL l)).2 ∧ (recJ 0 (lnsL l)).1.all noNl = true := rec_back l.length l 0 (Nat.le_refl _)
/-- What the law says of the journal that is cut. -/
theorem cut_law (P : List (List UInt8)) (at_ : Nat) (ha : P.all noNl = true) (h : at_ ≤ (jrn 0 P).length) :
    ∃ k, k ≤ P.length ∧ recJ 0 (lnsL ((jrn 0 P).take at_)) = (P.take k, (jrn 0 (P.take k)).length) ∧ ((jrn 0 P).take at_).count 10 = k ∧ (jrn 0 (P.take k)).length ≤ at_ ∧ jrn 0 (P.take k) = (jrn 0 P).take (jrn 0 (P.take k)).length ∧
      ∀ s, s.take at_ = (jrn 0 P).take at_ → (jrn 0 (P.take k)).length ≤ (recJ 0 (lnsL s)).2 := by
  obtain ⟨k, r, h1, h2, h3⟩ := jrn_cut P 0 at_ ha h
  have hak : (P.take k).all noNl = true := by
    rw [List.all_eq_true] at ha ⊢
    exact fun x hx => ha x (List.mem_of_mem_take hx)
  have hrk : recJ (zJ 0 (P.take k)) (lnsL r) = ([], 0) := by rw [lns_none h3]; rfl
  have hlen := congrArg List.length h2
  rw [List.length_take, List.length_append] at hlen
  have hpre : jrn 0 P = jrn 0 (P.take k) ++ jrn (zJ 0 (P.take k)) (P.drop k) := by rw [← jrn_app, List.take_append_drop]
  refine ⟨k, h1, ?_, ?_, by omega, ?_, fun s hs => ?_⟩
  · rw [h2, rec_jrn _ _ _ hak, hrk]; simp
  · rw [h2, List.count_append, jrn_count _ _ hak, List.count_eq_zero.2 fun hb => h3 _ hb rfl, List.length_take]; omega
  · conv => rhs; rw [hpre]
    simp
  · have e : s = jrn 0 (P.take k) ++ (r ++ s.drop at_) := by
      conv => lhs; rw [← List.take_append_drop at_ s, hs, h2, List.append_assoc]
    rw [e, rec_jrn _ _ _ hak]
    exact Nat.le_add_right _ _
theorem jOk_of {P : List (List UInt8)} (h1 : P.all noNl = true) (h2 : (jrn 0 P).length ≤ 12000) : jOk P = true ∧ jTxt P = jrn 0 P := by
  have e : jOk P = true := by unfold jOk; rw [h1, decide_eq_true h2]; rfl
  exact ⟨e, by unfold jTxt; rw [if_pos e]⟩
theorem jrn_mem {P : List (List UInt8)} {p : List UInt8} (h : p ∈ P) : p.length ≤ (jrn 0 P).length := by
  have h1 := sumJ_jrn P 0
  obtain ⟨a, b, rfl⟩ := List.append_of_mem h
  have h2 := sumJ_app a (p :: b)
  have h3 : sumJ (p :: b) = (p.length + 3) + sumJ b := by
    have := sumJ_app [p] b
    rw [List.singleton_append] at this
    rw [this]
    simp [sumJ]
  omega

end Go.Proofs.YtmcmcppleikajaaDoor

/- Texts of lists are read as the lists: the plain law. -/
import Derived.Test.YtjibghjongplpaaDoorCf
import Derived.Test.YtjibghjongplpaaDoorTy
namespace Go.Proofs.YtjibghjongplpaaDoor
open Go.RowKit
set_option maxRecDepth 100000
set_option linter.unusedVariables false
set_option linter.unusedSimpArgs false

theorem cut_tail : ∀ (ps : List (List UInt8)) (p : List UInt8), (∀ b ∈ p, b ≠ 44) → (∀ q ∈ ps, ∀ b ∈ q, b ≠ 44) → cutL 44 (p ++ ps.flatMap (fun q => 44 :: q)) = p :: ps
  | [], p, h, _ => by
    rw [List.flatMap_nil, List.append_nil, cutL_none h]
  | q :: ps, p, h, hq => by
    rw [List.flatMap_cons, List.cons_append, cutL_hit h, cut_tail ps q (hq q (List.mem_cons_self ..)) fun r hr => hq r (List.mem_cons_of_mem _ hr)]
/-- Texts without commas, joined by commas, are cut as they were. -/
theorem cut_comma {ps : List (List UInt8)} (h : ps ≠ []) (hc : ∀ q ∈ ps, ∀ b ∈ q, b ≠ 44) : cutL 44 (commaL ps) = ps := by
  match ps, h with
  | p :: ps, _ => exact cut_tail ps p (hc p (List.mem_cons_self ..)) fun q hq => hc q (List.mem_cons_of_mem _ hq)

theorem hexV_hexC {d : Nat} (h : d < 16) : hexV (hexC d).toNat = some d := by
  unfold hexV hexC
  rw [UInt8.toNat_ofNat']
  by_cases h2 : d < 10
  · rw [if_pos h2, Nat.mod_eq_of_lt (by omega), if_pos (by omega)]
    congr 1; omega
  · rw [if_neg h2, Nat.mod_eq_of_lt (by omega), if_neg (by omega), if_pos (by omega)]
    congr 1; omega
theorem accH_hexN {z : Nat} (hz : z < 4294967296) : ∀ k, k ≤ 8 → accH (hexN z k) 0 = some (z / 2 ^ (32 - 4 * k))
  | 0, _ => by
    rw [show hexN z 0 = [] from rfl]
    simp only [accH]
    congr 1
    rw [Nat.div_eq_of_lt (by simpa using hz)]
  | k + 1, h => by
    rw [hexN_succ, accH_snoc, accH_hexN hz k (by omega)]
    simp only [Option.bind_some]
    rw [hexV_hexC (Nat.mod_lt _ (by decide))]
    simp only [Option.map_some, Option.some.injEq]
    rw [show 32 - 4 * k = (28 - 4 * k) + 4 by omega, show 32 - 4 * (k + 1) = 28 - 4 * k by omega, Nat.pow_add, ← Nat.div_div_eq_div_mul]
    omega
theorem valH_hex {z : Nat} (hz : z < 4294967296) (hf : fl z = z) : valH (hexL z) = (z, true) := by
  unfold valH
  rw [show hexL z = hexN z 8 from rfl, accH_hexN hz 8 (Nat.le_refl _)]
  simp only [show 32 - 4 * 8 = 0 from rfl, Nat.pow_zero, Nat.div_one]
  rw [if_pos ⟨hexN_len z 8, hf⟩]
theorem hexC_ne {d : Nat} (h : d < 16) : hexC d ≠ 44 := by
  intro e
  have := hexV_hexC h
  rw [e] at this
  revert this
  have e44 : hexV (44 : UInt8).toNat = none := by decide
  rw [e44]
  intro h; cases h
theorem hexN_ne (z k : Nat) : ∀ b ∈ hexN z k, b ≠ 44 := by
  intro b hb
  unfold hexN at hb
  obtain ⟨i, _, rfl⟩ := List.mem_map.1 hb
  exact hexC_ne (Nat.mod_lt _ (by decide))
theorem numR_text {bs : List Nat} (hb : ∀ b ∈ bs, b < 4294967296) (hl : bs.length ≤ 256) : numR (numT bs) = (bs.map fl, true) := by
  unfold numR
  by_cases h0 : bs = []
  · subst h0
    rw [if_pos (show numT [] = noneT from rfl)]; rfl
  · have hne : (bs.map fun b => hexL (fl b)) ≠ [] := by simpa using h0
    have hcut : cutL 44 (numT bs) = bs.map fun b => hexL (fl b) := cut_comma hne fun q hq => by
      obtain ⟨b, _, rfl⟩ := List.mem_map.1 hq
      exact hexN_ne _ _
    have hno : numT bs ≠ noneT := by
      intro e
      have := numT_len h0
      rw [e] at this
      have h4 : noneT.length = 4 := rfl
      have : 0 < bs.length := List.length_pos_iff.2 h0
      omega
    have hv : ∀ b ∈ bs, valH (hexL (fl b)) = (fl b, true) := fun b h => valH_hex (fl_lt (hb b h)) (fl_fl b)
    rw [if_neg hno, hcut, if_pos]
    · rw [List.map_map]
      congr 1
      exact List.map_congr_left fun b h => by show (valH _).1 = _; rw [hv b h]
    · refine ⟨by rw [List.length_map]; exact hl, ?_⟩
      rw [List.all_eq_true]
      intro p hp
      obtain ⟨b, h, rfl⟩ := List.mem_map.1 hp
      rw [hv b h]

theorem dec_byte (u : Nat) : ∀ b ∈ Lib.decDigits u, 48 ≤ b.toNat ∧ b.toNat ≤ 57 := by
  induction u using Nat.strongRecOn with
  | _ u ih =>
    intro b hb
    by_cases h : u < 10
    · rw [Lib.decDigits, dif_pos h] at hb
      rw [List.mem_singleton.1 hb, dig_nat h]
      constructor <;> omega
    · rw [Lib.decDigits, dif_neg h] at hb
      rcases List.mem_append.1 hb with h2 | h2
      · exact ih (u / 10) (by omega) b h2
      · rw [List.mem_singleton.1 h2, dig_nat (Nat.mod_lt _ (by decide))]
        constructor <;> omega
theorem itoa_byte (z : Int) : ∀ b ∈ Lib.itoa z, b.toNat = 45 ∨ (48 ≤ b.toNat ∧ b.toNat ≤ 57) := by
  intro b hb
  unfold Lib.itoa at hb
  split at hb
  · rcases List.mem_cons.1 hb with rfl | h
    · exact .inl rfl
    · exact .inr (dec_byte _ b h)
  · exact .inr (dec_byte _ b hb)
def zTexts (zs : List Int) : List (List UInt8) := zs.map Lib.itoa
theorem itoa_ne (z : Int) : Lib.itoa z ≠ [] := by
  unfold Lib.itoa
  split
  · simp
  · obtain ⟨k, r, _, e⟩ := dec_head z.toNat
    rw [e]; simp
theorem lstR_text {zs : List Int} (hb : ∀ z ∈ zs, -1000000000000000 ≤ z ∧ z ≤ 1000000000000000) (hl : zs.length ≤ 64) : lstR (commaL (zTexts zs)) = (zs, true) := by
  unfold lstR
  by_cases h0 : zs = []
  · subst h0
    rw [if_pos (show commaL (zTexts []) = noneT from rfl)]
  · have hne : zTexts zs ≠ [] := by unfold zTexts; simpa using h0
    have hcut : cutL 44 (commaL (zTexts zs)) = zTexts zs := cut_comma hne fun q hq => by
      obtain ⟨z, _, rfl⟩ := List.mem_map.1 hq
      intro b hb e
      subst e
      have := itoa_byte z _ hb
      have e44 : (44 : UInt8).toNat = 44 := rfl
      omega
    have hno : commaL (zTexts zs) ≠ noneT := by
      intro e
      match zs, h0 with
      | z :: zs, _ =>
        have h1 : commaL (zTexts (z :: zs)) = Lib.itoa z ++ (zTexts zs).flatMap (fun q => 44 :: q) := rfl
        rw [h1] at e
        obtain ⟨c, r, hc⟩ := List.exists_cons_of_ne_nil (itoa_ne z)
        have hcb := itoa_byte z c (by rw [hc]; exact List.mem_cons_self ..)
        rw [hc, List.cons_append] at e
        unfold noneT at e
        injection e with e1 e2
        rw [e1] at hcb
        have e110 : (110 : UInt8).toNat = 110 := rfl
        omega
    rw [if_neg hno, hcut, if_pos]
    · unfold zTexts
      rw [List.map_map]
      congr 1
      conv => rhs; rw [← List.map_id zs]
      exact List.map_congr_left fun z h => by show (valD _).1 = z; rw [valD_itoa (hb z h).1 (hb z h).2]
    · refine ⟨by unfold zTexts; rw [List.length_map]; exact hl, ?_⟩
      rw [List.all_eq_true]
      intro p hp
      obtain ⟨z, h, rfl⟩ := List.mem_map.1 hp
      rw [valD_itoa (hb z h).1 (hb z h).2]
theorem zTexts_len (zs : List Int) (hb : ∀ z ∈ zs, -1000000000000000 ≤ z ∧ z ≤ 1000000000000000) : (commaL (zTexts zs)).length ≤ 18 * zs.length + 4 := by
  match zs with
  | [] => simp [zTexts, commaL]
  | z :: zs =>
    have h1 : commaL (zTexts (z :: zs)) = Lib.itoa z ++ (zTexts zs).flatMap (fun q => 44 :: q) := rfl
    have h2 : ∀ ys : List Int, (∀ z ∈ ys, -1000000000000000 ≤ z ∧ z ≤ 1000000000000000) → ((zTexts ys).flatMap (fun q => (44 : UInt8) :: q)).length ≤ 18 * ys.length := by
      intro ys hy
      induction ys with
      | nil => simp [zTexts]
      | cons y ys ih =>
        have hi := (itoa_len (hy y (List.mem_cons_self ..)).1 (hy y (List.mem_cons_self ..)).2).2
        have h3 := ih fun z hz => hy z (List.mem_cons_of_mem _ hz)
        have e : (zTexts (y :: ys)).flatMap (fun q => (44 : UInt8) :: q) = (44 :: Lib.itoa y) ++ (zTexts ys).flatMap (fun q => 44 :: q) := rfl
        rw [e, List.length_append, List.length_cons, List.length_cons]
        omega
    have hi := (itoa_len (hb z (List.mem_cons_self ..)).1 (hb z (List.mem_cons_self ..)).2).2
    have h4 := h2 zs fun z hz => hb z (List.mem_cons_of_mem _ hz)
    rw [h1, List.length_append, List.length_cons]
    omega

end Go.Proofs.YtjibghjongplpaaDoor

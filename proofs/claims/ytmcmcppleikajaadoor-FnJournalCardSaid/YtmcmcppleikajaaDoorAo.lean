/- Texts of sizes: spec.l01Text, impl.ListText. -/
import Derived.Test.YtmcmcppleikajaaDoorAn
namespace Go.Proofs.YtmcmcppleikajaaDoor
open Go.RowKit
set_option maxRecDepth 100000
set_option linter.unusedVariables false
set_option linter.unusedSimpArgs false

/-- Small whole numbers in a block. -/
def LitN (w : World) (g : Nat) (ns : List Nat) : Prop := g < w.heap.size ∧ (∀ i, i < ns.length → w.cell? ⟨g, i, none⟩ = some (.int .i64 ((ns.getD i 0 : Nat) : Int))) ∧ (∀ n ∈ ns, n < 100) ∧ 1 ≤ ns.length ∧ ns.length ≤ 3
theorem LitN.below {w w' : World} {g : Nat} {ns : List Nat} (h : LitN w g ns) (hb : Below w.heap.size w w') : LitN w' g ns :=
  ⟨Nat.lt_of_lt_of_le h.1 hb.size, fun i hi => by rw [hb.cell (p := ⟨g, i, none⟩) h.1]; exact h.2.1 i hi, h.2.2⟩
theorem LitN.small {w : World} {g : Nat} {ns : List Nat} (h : LitN w g ns) {i : Nat} (hi : i < ns.length) : ns.getD i 0 < 100 := by
  rw [← getD_of2 _ _ hi]; exact h.2.2.1 _ (List.getElem_mem hi)
theorem lstT_one (n : Nat) : lstT [n] = Lib.decDigits n := by unfold lstT decs commaL; simp
theorem lstT_snoc {ns : List Nat} (h : ns ≠ []) (n : Nat) : lstT (ns ++ [n]) = lstT ns ++ 44 :: Lib.decDigits n := by
  match ns, h with
  | c :: cs, _ =>
    unfold lstT decs
    rw [List.cons_append, List.map_cons, List.map_append, List.map_cons, List.map_nil, List.map_cons, commaL_snoc]
theorem commaL_le : ∀ (ps : List (List UInt8)), (∀ p ∈ ps, p.length ≤ 2) → (commaL ps).length ≤ 3 * ps.length + 4
  | [], _ => by simp [commaL]
  | p :: ps, hp => by
    have h1 := hp p (by simp)
    have h2 : ∀ (qs : List (List UInt8)), (∀ q ∈ qs, q.length ≤ 2) → (qs.flatMap fun q => (44 : UInt8) :: q).length ≤ 3 * qs.length := by
      intro qs hq
      induction qs with
      | nil => simp
      | cons q qs ih =>
        have h3 := ih fun x hx => hq x (by simp [hx])
        have h4 := hq q (by simp)
        rw [List.flatMap_cons, List.length_append, List.length_cons, List.length_cons]; omega
    have h5 := h2 ps fun q hq => hp q (by simp [hq])
    show (p ++ ps.flatMap _).length ≤ _
    rw [List.length_append, List.length_cons]; omega
theorem lstT_le {ns : List Nat} (h : ∀ n ∈ ns, n < 100) : (lstT ns).length ≤ 3 * ns.length + 4 := by
  unfold lstT
  have := commaL_le (decs ns) (fun p hp => by unfold decs at hp; obtain ⟨n, hn, rfl⟩ := List.mem_map.1 hp; exact decDigits_len100 (h n hn))
  have e : (decs ns).length = ns.length := by simp [decs]
  rw [e] at this; exact this

set_option maxHeartbeats 1000000 in
theorem s01Text_any (w : World) (g n c : Nat) (ns : List Nat) (h : LitN w g ns) (hn : ns.length = n) :
    Calls Tryd.prog 39 #[.slice (some ⟨g, 0, none⟩) n c] w fun e w' => e = .returned (.string ⟨(lstT ns).toArray⟩) ∧ Below w.heap.size w w' := by
  have HS := Lib.hid h
  have HN := Lib.hid hn
  have hn1 : 1 ≤ n := by have := h.2.2.2.1; omega
  have hn3 : n ≤ 3 := by have := h.2.2.2.2; omega
  have KH := Lib.hid (fun W m (hm : m < 100) => s01Dec_any W m (Nat.lt_trans hm (by decide)))
  have k1 := h.2.1 0 (by omega)
  have hg0 : ((n : Int) == 0) = false := by simp; omega
  have hn0 : ¬ (n : Int) = 0 := by omega
  have hlt0 : (0 : Int) < (n : Int) := by omega
  obtain ⟨c0, hc0⟩ : ∃ c0, ns.getD 0 0 = c0 := ⟨_, rfl⟩
  have h100 : c0 < 100 := by rw [← hc0]; exact h.small (by omega)
  rw [hc0] at k1
  have HK0 := Lib.hid (And.intro h100 hc0)
  clear h hn hc0
  go_enter Tryd.func39, Tryd.ntmps39
  go_wp2_with fail
  clear k1
  refine (KH.out _ _ HK0.out.1).mono ?_
  rintro e w1 ⟨rfl, hb1⟩
  have HB1 := Lib.hid hb1
  have hone : lstT (ns.take 1) = Lib.decDigits c0 := by
    rw [show (1 : Nat) = 0 + 1 from rfl, take_last (by rw [HN.out]; omega), List.take_zero, List.nil_append, HK0.out.2, lstT_one]
  rw [← hone]
  clear hb1 hone
  go_wp2_with fail
  go_loopw [3, 4] (fun v3 v4 wr => ∃ i : Nat, v4 = .int .i64 i ∧ 1 ≤ i ∧ i ≤ n ∧ v3 = .string ⟨(lstT (ns.take i)).toArray⟩ ∧ Below w.heap.size w wr) (fun _ v4 _ => n - (intOf v4).toNat)
  case atStart => exact ⟨1, rfl, Nat.le_refl _, hn1, rfl, HB1.out⟩
  case round =>
    clear HB1
    obtain ⟨i, rfl, hi1, hi, rfl, hb⟩ := hrel
    obtain ⟨t, ht⟩ : ∃ t : ByteArray, (⟨(lstT (ns.take i)).toArray⟩ : ByteArray) = t := ⟨_, rfl⟩
    have htl : t.data.toList = lstT (ns.take i) := by rw [← ht]
    have hne : ns.take i ≠ [] := by
      intro e
      have := congrArg List.length e
      rw [List.length_take, HN.out] at this; simp at this; omega
    have hts : t.size ≤ 100 := by
      rw [← ba_sizeT, htl]
      have := lstT_le (ns := ns.take i) (fun n hn => HS.out.2.2.1 n (List.mem_of_mem_take hn))
      rw [List.length_take, HN.out] at this
      omega
    rw [ht]
    have HT := Lib.hid (And.intro htl hne)
    clear htl hne ht
    by_cases hlt : i < n
    · have k1 := (HS.out.below hb).2.1 i (by rw [HN.out]; exact hlt)
      obtain ⟨c1, hc1⟩ : ∃ c0, ns.getD i 0 = c0 := ⟨_, rfl⟩
      have h100 : c1 < 100 := by rw [← hc1]; exact HS.out.small (by rw [HN.out]; exact hlt)
      rw [hc1] at k1
      have hltI : (i : Int) < (n : Int) := by omega
      have HK := Lib.hid (And.intro h100 hc1)
      have HB := Lib.hid hb
      clear hc1 hb
      go_wp2_with fail
      clear k1
      refine (KH.out _ _ HK.out.1).mono ?_
      rintro e w2 ⟨rfl, hb2⟩
      obtain ⟨u, hu⟩ : ∃ u : ByteArray, (⟨(Lib.decDigits c1).toArray⟩ : ByteArray) = u := ⟨_, rfl⟩
      have hul : u.data.toList = Lib.decDigits c1 := by rw [← hu]
      have hus : u.size ≤ 2 := by rw [← ba_sizeT, hul]; exact decDigits_len100 h100
      rw [hu]
      have hfin : t ++ ((⟨#[44]⟩ : ByteArray) ++ u) = ⟨(lstT (ns.take (i + 1))).toArray⟩ := by
        apply ba_ofT
        rw [ba_appT, ba_appT, HT.out.1, hul, take_last (by rw [HN.out]; exact hlt), HK.out.2, lstT_snoc HT.out.2]; rfl
      have hcs : (⟨#[44]⟩ : ByteArray).size = 1 := rfl
      have h9a : (9223372036854775807 < (⟨#[44]⟩ : ByteArray).size + u.size) = False := eq_false (by rw [hcs]; omega)
      have hsz2 : ((⟨#[44]⟩ : ByteArray) ++ u).size ≤ 3 := by rw [ByteArray.size_append, hcs]; omega
      have h9b : (9223372036854775807 < t.size + ((⟨#[44]⟩ : ByteArray) ++ u).size) = False := eq_false (by omega)
      have HF := Lib.hid (And.intro hfin (HB.out.trans (hb2.mono HB.out.size)))
      clear hfin hb2 hul hu
      go_wp2_with fail
      go_roundw
      case rel => exact ⟨i + 1, by go_num, by omega, by omega, by rw [← HF.out.1], HF.out.2⟩
      case measure => simp [intOf]; omega
    · obtain rfl : n = i := by omega
      have hall : t = ⟨(lstT ns).toArray⟩ := by
        apply ba_ofT
        rw [HT.out.1, ← HN.out, List.take_length]
      have HA := Lib.hid hall
      clear hall
      go_wp2_with fail
      go_ret
      exact ⟨by rw [← HA.out]; rfl, hb⟩

end Go.Proofs.YtmcmcppleikajaaDoor

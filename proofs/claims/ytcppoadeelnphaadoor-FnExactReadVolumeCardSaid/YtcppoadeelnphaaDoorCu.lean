/- Sizes and numbers that are read from a text: spec.l08Read, impl.readSized. -/
import Derived.Test.YtcppoadeelnphaaDoorCt
namespace Go.Proofs.YtcppoadeelnphaaDoor
open Go.RowKit
set_option maxRecDepth 100000
set_option linter.unusedVariables false
set_option linter.unusedSimpArgs false

/-- What a reading of sizes and numbers gives. -/
def ReadP (w : World) (e : Ending) (w' : World) (o : Option (List Int × List Nat)) : Prop :=
  ∃ va vb, e = .returned (.tuple #[va, vb, .bool o.isSome]) ∧ (∀ zs bs, o = some (zs, bs) → OwnZ w' w.heap.size va zs ∧ OwnF w' w.heap.size vb bs) ∧ Below w.heap.size w w'
theorem cut_le (t : List UInt8) : (Lib.cut t [58]).1.length ≤ t.length ∧ (Lib.cut t [58]).2.1.length ≤ t.length := by
  rcases colon_split t with h | ⟨a, r, rfl, h⟩
  · rw [cut_colon_no h]; simp
  · rw [cut_colon h]; simp; omega
theorem OwnZ.mono {w : World} {B B' : Nat} {v : Value} {zs : List Int} (h : OwnZ w B v zs) (hB : B' ≤ B) : OwnZ w B' v zs := by
  unfold OwnZ at h ⊢
  rcases h with ⟨h0, h | ⟨g, cap, cur, h1, h2, h3⟩⟩
  · exact ⟨h0, .inl h⟩
  · exact ⟨h0, .inr ⟨g, cap, cur, h1, Nat.le_trans hB h2, h3⟩⟩

set_option maxHeartbeats 2000000 in
theorem s08Read_any (w : World) (s : ByteArray) (k : Nat) (hk : k ≤ 64) (hs : s.size ≤ 2000000) :
    Calls Tryd.prog 27 #[.string s, .int .i64 (k : Int)] w fun e w' => ReadP w e w' (rdS k s.data.toList) := by
  have KC := Lib.hid (s01Cut_any w s 58 hs)
  rw [show (((58 : UInt8).toNat : Nat) : Int) = 58 from rfl] at KC
  have hmem := fun p => cutL_mem_le (c := 58) s.data.toList p
  rw [ba_size] at hmem
  obtain ⟨r, hr⟩ : ∃ r, r = rdS k s.data.toList := ⟨_, rfl⟩
  rw [← hr]
  have hr2 := hr
  unfold rdS at hr2
  have hcc := cutL_count 58 s.data.toList
  rw [ba_size] at hcc
  obtain ⟨P, hP⟩ : ∃ P, P = cutL 58 s.data.toList := ⟨_, rfl⟩
  rw [← hP] at KC hmem hr2 hcc
  have hMM : ∀ p ∈ P, p.length ≤ 2000000 := fun p hp => Nat.le_trans (hmem p hp) hs
  have HM := Lib.hid hMM
  have HR := Lib.hid hr2
  clear hr hr2 hmem hP hs hMM
  by_cases h2 : P.length = 2
  · obtain ⟨p0, p1, rfl⟩ : ∃ a b, P = [a, b] := by
      match P, h2 with
      | [a, b], _ => exact ⟨a, b, rfl⟩
    have hr3 : r = if (lstR p0).2 = true ∧ (numR p1).2 = true ∧ (lstR p0).1.length = k then some ((lstR p0).1, (numR p1).1) else none := HR.out
    have hs0 : p0.length ≤ 2000000 := HM.out p0 (by simp)
    have hs1 : p1.length ≤ 2000000 := HM.out p1 (by simp)
    have k0 := fun W => s01Numbers_any W ⟨p0.toArray⟩ (by rw [← ba_size]; exact hs0)
    rw [show (⟨p0.toArray⟩ : ByteArray).data.toList = p0 from rfl] at k0
    have k1 := fun W => s01NRead_any W ⟨p1.toArray⟩ (by rw [← ba_size]; exact hs1)
    rw [show (⟨p1.toArray⟩ : ByteArray).data.toList = p1 from rfl] at k1
    obtain ⟨q0, hq0⟩ : ∃ q : ByteArray, (⟨p0.toArray⟩ : ByteArray) = q := ⟨_, rfl⟩
    obtain ⟨q1, hq1⟩ : ∃ q : ByteArray, (⟨p1.toArray⟩ : ByteArray) = q := ⟨_, rfl⟩
    rw [hq0] at k0
    rw [hq1] at k1
    have HQ := Lib.hid (And.intro hq0 hq1)
    obtain ⟨zs, b1, e1⟩ : ∃ zs b, lstR p0 = (zs, b) := ⟨_, _, rfl⟩
    obtain ⟨bs, b2, e2⟩ : ∃ bs b, numR p1 = (bs, b) := ⟨_, _, rfl⟩
    rw [e1] at k0
    rw [e2] at k1
    rw [e1, e2] at hr3
    obtain ⟨n1, hn1⟩ : ∃ n, zs.length = n := ⟨_, rfl⟩
    obtain ⟨n2, hn2⟩ : ∃ n, bs.length = n := ⟨_, rfl⟩
    have K0 : Hid (∀ W : World, Calls Tryd.prog 38 #[.string q0] W fun e w' => ∃ sa c, e = .returned (.tuple #[.slice sa n1 c, .bool b1]) ∧ (b1 = true → OwnZ w' W.heap.size (.slice sa n1 c) zs) ∧ Below W.heap.size W w') := fun W => by rw [← hn1]; exact k0 W
    have K1 : Hid (∀ W : World, Calls Tryd.prog 39 #[.string q1] W fun e w' => ∃ sa c, e = .returned (.tuple #[.slice sa n2 c, .bool b2]) ∧ (b2 = true → OwnF w' W.heap.size (.slice sa n2 c) bs) ∧ Below W.heap.size W w') := fun W => by rw [← hn2]; exact k1 W
    rw [show (zs, b1).1.length = n1 from hn1] at hr3
    have HR3 := Lib.hid hr3
    rw [show ([p0, p1] : List (List UInt8)).length = 2 from rfl] at KC
    clear h2 hr3 hs0 hs1 hq0 hq1 HR HM hcc k0 k1 e1 e2 hn1 hn2
    go_enter Tryd.func27, Tryd.ntmps27
    go_wp2_with fail
    refine KC.out.mono ?_
    rintro e w1 ⟨g, cap, rfl, hst, hb⟩
    have hc0 := strAt hst 0 (by simp)
    have hc1 := strAt hst 1 (by simp)
    rw [show ([p0, p1] : List (List UInt8)).getD 0 [] = p0 from rfl, HQ.out.1] at hc0
    rw [show ([p0, p1] : List (List UInt8)).getD 1 [] = p1 from rfl, HQ.out.2] at hc1
    have hgl := (hst.lt (k := g) rfl).2
    have HC1 := Lib.hid hc1
    have HB := Lib.hid hb
    clear hst hb hc1
    go_wp2_with fail
    refine (K0.out _).mono ?_
    rintro e w2 ⟨sa, c, rfl, ho2, hb2⟩
    have hc1 : w2.cell? ⟨g, 1, none⟩ = some (.string q1) := (hb2.cell (p := ⟨g, 1, none⟩) hgl).trans HC1.out
    have HB2 := Lib.hid hb2
    have HO2 := Lib.hid ho2
    have hgl2 := Nat.lt_of_lt_of_le hgl hb2.size
    clear hb2 ho2 hc0
    go_wp2_with fail
    refine (K1.out _).mono ?_
    rintro e w3 ⟨sa3, c3, rfl, ho3, hb3⟩
    clear hc1
    have hfin : ∀ va vb, (b1 = true → b2 = true → n1 = k → va = .slice sa n1 c ∧ vb = .slice sa3 n2 c3) → ReadP w (.returned (.tuple #[va, vb, .bool r.isSome])) w3 r := fun va vb hv => by
      have hb13 := HB2.out.trans (hb3.mono HB2.out.size)
      refine ⟨va, vb, rfl, fun zs' bs' h => ?_, HB.out.trans (hb13.mono HB.out.size)⟩
      rw [HR3.out] at h
      split at h
      · rename_i h9
        obtain ⟨rfl, rfl⟩ := hv h9.1 h9.2.1 h9.2.2
        injection h with h
        injection h with h h8
        subst h h8
        refine ⟨?_, ?_⟩
        · exact ((HO2.out h9.1).below hb3).mono HB.out.size
        · exact (ho3 h9.2.1).mono (HB.out.trans (HB2.out.mono HB.out.size)).size
      · cases h
    have HFIN := Lib.hid hfin
    clear hb3 ho3 hfin
    cases b1
    · have hrr : r = none := by rw [HR3.out]; simp
      subst hrr
      go_wp2_with fail
      go_ret3
      exact HFIN.out _ _ (fun h => by cases h)
    · cases b2
      · have hrr : r = none := by rw [HR3.out]; simp
        subst hrr
        go_wp2_with fail
        go_ret3
        exact HFIN.out _ _ (fun _ h => by cases h)
      · by_cases h1 : n1 = k
        · obtain ⟨q, hq⟩ : ∃ q, r = some q := by rw [HR3.out, if_pos ⟨rfl, rfl, h1⟩]; exact ⟨_, rfl⟩
          have hsm : r.isSome = true := by rw [hq]; rfl
          have HSM := Lib.hid hsm
          have hkk : ((n1 : Int) == (k : Int)) = true := by rw [h1]; simp
          clear hq hsm h1
          go_wp2_with fail
          go_ret3
          have h9 := HFIN.out (.slice sa n1 c) (.slice sa3 n2 c3) (fun _ _ _ => ⟨rfl, rfl⟩)
          rw [HSM.out] at h9
          exact h9
        · have hrr : r = none := by rw [HR3.out, if_neg (fun h => h1 h.2.2)]
          subst hrr
          have hkk : ((n1 : Int) == (k : Int)) = false := by rw [beq_eq_false_iff_ne]; omega
          clear h1
          go_wp2_with fail
          go_ret3
          exact HFIN.out _ _ (fun _ _ h => by rw [h] at hkk; simp at hkk)
  · have hrr : r = none := by
      rw [HR.out]
      split
      · rename_i a b; exact absurd rfl h2
      · rfl
    subst hrr
    obtain ⟨n, hn⟩ : ∃ n, P.length = n := ⟨_, rfl⟩
    rw [hn] at KC h2 hcc
    have hnI : ((n : Int) != 2) = true := by simp; omega
    clear h2 HR hn
    go_enter Tryd.func27, Tryd.ntmps27
    go_wp2_with fail
    refine KC.out.mono ?_
    rintro e w1 ⟨g, cap, rfl, hst, hb⟩
    have HB := Lib.hid hb
    clear hst hb
    go_wp2_with fail
    go_ret3
    exact ⟨_, _, rfl, fun _ _ h => (by cases h), HB.out⟩

set_option maxHeartbeats 2000000 in
theorem readSized_any (w : World) (s : ByteArray) (k : Nat) (m : Int) (hk : k ≤ 64) (hs : s.size ≤ 2000000) (hm : w.cell? ⟨0, 0, none⟩ = some (.int .i64 m)) (het : ErrT w) (htb : TabT w) :
    Calls Tryd.prog 22 #[.string s, .int .i64 (k : Int)] w fun e w' => ReadP w e w' (rdI k s.data.toList) := by
  have KC := Tryd.strings_Cut s ⟨#[58]⟩ m w (by omega) hm
  obtain ⟨r, hr⟩ : ∃ r, r = rdI k s.data.toList := ⟨_, rfl⟩
  rw [← hr]
  unfold rdI at hr
  have hle := cut_le s.data.toList
  rw [show (⟨#[58]⟩ : ByteArray).data.toList = [58] from rfl] at KC
  obtain ⟨p0, p1, b0, e0⟩ : ∃ p0 p1 b0, Lib.cut s.data.toList [58] = (p0, p1, b0) := ⟨_, _, _, rfl⟩
  rw [e0] at KC hr hle
  rw [ba_size] at hle
  have hs0 : p0.length ≤ 2000000 := Nat.le_trans hle.1 hs
  have hs1 : p1.length ≤ 2000000 := Nat.le_trans hle.2 hs
  have hr3 : r = if b0 = true ∧ (lstR p0).2 = true ∧ (numR p1).2 = true ∧ (lstR p0).1.length = k then some ((lstR p0).1, (numR p1).1) else none := hr
  have k0 := fun (W : World) (hb : Below w.heap.size w W) => readList_any W ⟨p0.toArray⟩ m (by rw [← ba_size]; exact hs0) ((hb.cell (p := ⟨0, 0, none⟩) (World.block_lt_of_cell? _ _ hm)).trans hm) (het.below hb) (htb.below hb)
  rw [show (⟨p0.toArray⟩ : ByteArray).data.toList = p0 from rfl] at k0
  have k1 := fun (W : World) (hb : Below w.heap.size w W) => readNums_any W ⟨p1.toArray⟩ m (by rw [← ba_size]; exact hs1) ((hb.cell (p := ⟨0, 0, none⟩) (World.block_lt_of_cell? _ _ hm)).trans hm) (het.below hb) (htb.below hb)
  rw [show (⟨p1.toArray⟩ : ByteArray).data.toList = p1 from rfl] at k1
  simp only [] at KC
  obtain ⟨q0, hq0⟩ : ∃ q : ByteArray, (⟨p0.toArray⟩ : ByteArray) = q := ⟨_, rfl⟩
  obtain ⟨q1, hq1⟩ : ∃ q : ByteArray, (⟨p1.toArray⟩ : ByteArray) = q := ⟨_, rfl⟩
  rw [hq0] at k0 KC
  rw [hq1] at k1 KC
  obtain ⟨zs, b1, e1⟩ : ∃ zs b, lstR p0 = (zs, b) := ⟨_, _, rfl⟩
  obtain ⟨bs, b2, e2⟩ : ∃ bs b, numR p1 = (bs, b) := ⟨_, _, rfl⟩
  rw [e1] at k0
  rw [e2] at k1
  rw [e1, e2] at hr3
  obtain ⟨n1, hn1⟩ : ∃ n, zs.length = n := ⟨_, rfl⟩
  obtain ⟨n2, hn2⟩ : ∃ n, bs.length = n := ⟨_, rfl⟩
  have K0 : Hid (∀ W : World, Below w.heap.size w W → Calls Tryd.prog 33 #[.string q0] W fun e w' => ∃ sa c, e = .returned (.tuple #[.slice sa n1 c, .bool b1]) ∧ (b1 = true → OwnZ w' W.heap.size (.slice sa n1 c) zs) ∧ Below W.heap.size W w') := fun W hW => by rw [← hn1]; exact k0 W hW
  have K1 : Hid (∀ W : World, Below w.heap.size w W → Calls Tryd.prog 34 #[.string q1] W fun e w' => ∃ sa c, e = .returned (.tuple #[.slice sa n2 c, .bool b2]) ∧ (b2 = true → OwnF w' W.heap.size (.slice sa n2 c) bs) ∧ Below W.heap.size W w') := fun W hW => by rw [← hn2]; exact k1 W hW
  rw [show (zs, b1).1.length = n1 from hn1] at hr3
  have HR0 := Lib.hid hr3
  have KC := Lib.hid KC
  clear hr hr3 hs0 hs1 hq0 hq1 hle k0 k1 e0 e1 e2 hn1 hn2 hm het htb hs
  go_enter Tryd.func22, Tryd.ntmps22
  go_wp2_with fail
  refine KC.out.mono ?_
  rintro e w1 ⟨rfl, q, rfl⟩
  obtain ⟨w1, hw1⟩ : ∃ W, w.drewN q = W := ⟨_, rfl⟩
  have hb : Below w.heap.size w w1 := by rw [← hw1]; exact below_drewN (Below.refl _ _) q
  rw [hw1]
  have HB := Lib.hid hb
  clear hb hw1
  go_wp2_with fail
  refine (K0.out _ HB.out).mono ?_
  rintro e w2 ⟨sa, c, rfl, ho2, hb2⟩
  have HB2 := Lib.hid hb2
  have HO2 := Lib.hid ho2
  clear hb2 ho2
  go_wp2_with fail
  refine (K1.out _ (HB.out.trans (HB2.out.mono HB.out.size))).mono ?_
  rintro e w3 ⟨sa3, c3, rfl, ho3, hb3⟩
  cases b0
  · have hrr : r = none := by rw [HR0.out]; simp
    subst hrr
    have HF := Lib.hid (HB.out.trans ((HB2.out.trans (hb3.mono HB2.out.size)).mono HB.out.size))
    clear ho3 hb3
    go_wp2_with fail
    go_ret3
    exact ⟨_, _, rfl, fun _ _ h => (by cases h), HF.out⟩
  · have hr3 : r = if b1 = true ∧ b2 = true ∧ n1 = k then some (zs, bs) else none := by rw [HR0.out]; simp
    have HR3 := Lib.hid hr3
    clear hr3 HR0
    have hfin : ∀ va vb, (b1 = true → b2 = true → n1 = k → va = .slice sa n1 c ∧ vb = .slice sa3 n2 c3) → ReadP w (.returned (.tuple #[va, vb, .bool r.isSome])) w3 r := fun va vb hv => by
      have hb13 := HB2.out.trans (hb3.mono HB2.out.size)
      refine ⟨va, vb, rfl, fun zs' bs' h => ?_, HB.out.trans (hb13.mono HB.out.size)⟩
      rw [HR3.out] at h
      split at h
      · rename_i h9
        obtain ⟨rfl, rfl⟩ := hv h9.1 h9.2.1 h9.2.2
        injection h with h
        injection h with h h8
        subst h h8
        refine ⟨?_, ?_⟩
        · exact ((HO2.out h9.1).below hb3).mono HB.out.size
        · exact (ho3 h9.2.1).mono (HB.out.trans (HB2.out.mono HB.out.size)).size
      · cases h
    have HFIN := Lib.hid hfin
    clear hb3 ho3 hfin
    cases b1
    · have hrr : r = none := by rw [HR3.out]; simp
      subst hrr
      go_wp2_with fail
      go_ret3
      exact HFIN.out _ _ (fun h => by cases h)
    · cases b2
      · have hrr : r = none := by rw [HR3.out]; simp
        subst hrr
        go_wp2_with fail
        go_ret3
        exact HFIN.out _ _ (fun _ h => by cases h)
      · by_cases h1 : n1 = k
        · obtain ⟨q, hq⟩ : ∃ q, r = some q := by rw [HR3.out, if_pos ⟨rfl, rfl, h1⟩]; exact ⟨_, rfl⟩
          have hsm : r.isSome = true := by rw [hq]; rfl
          have HSM := Lib.hid hsm
          have hkk : ((n1 : Int) == (k : Int)) = true := by rw [h1]; simp
          clear hq hsm h1
          go_wp2_with fail
          go_ret3
          have h9 := HFIN.out (.slice sa n1 c) (.slice sa3 n2 c3) (fun _ _ _ => ⟨rfl, rfl⟩)
          rw [HSM.out] at h9
          exact h9
        · have hrr : r = none := by rw [HR3.out, if_neg (fun h => h1 h.2.2)]
          subst hrr
          have hkk : ((n1 : Int) == (k : Int)) = false := by rw [beq_eq_false_iff_ne]; omega
          clear h1
          go_wp2_with fail
          go_ret3
          exact HFIN.out _ _ (fun _ _ h => by rw [h] at hkk; simp at hkk)

end Go.Proofs.YtcppoadeelnphaaDoor

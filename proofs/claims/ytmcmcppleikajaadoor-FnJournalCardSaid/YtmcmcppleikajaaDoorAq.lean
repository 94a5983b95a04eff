/- Texts of sizes and numbers: spec.l08Text, impl.sizedText. -/
import Derived.Test.YtmcmcppleikajaaDoorAp
namespace Go.Proofs.YtmcmcppleikajaaDoor
open Go.RowKit
set_option maxRecDepth 100000
set_option linter.unusedVariables false
set_option linter.unusedSimpArgs false

/-- A text of sizes and of numbers. -/
def txtL (ns bs : List Nat) : List UInt8 := lstT ns ++ 58 :: numT bs
theorem SlF.leX {w : World} {s : Option Addr} {n c : Nat} {bs : List Nat} (h : SlF w (.slice s n c) bs) : bs.length = n ∧ n ≤ 9223372036854775807 := by
  obtain ⟨a, cap, e, h1, h2, -⟩ := h.1
  injection e with e1 e2 e3
  rw [List.length_map] at e2 h1
  omega

theorem s08Text_any (w : World) (g n2 c2 : Nat) (ns : List Nat) (sa : Option Addr) (n c : Nat) (bs : List Nat) (hN : LitN w g ns) (hn2 : ns.length = n2) (h : SlF w (.slice sa n c) bs) (hn : n ≤ 256) :
    Calls Tryd.prog 27 #[.slice (some ⟨g, 0, none⟩) n2 c2, .slice sa n c] w fun e w' => e = .returned (.string ⟨(txtL ns bs).toArray⟩) ∧ Below w.heap.size w w' := by
  have K1 := Lib.hid (s01Text_any w g n2 c2 ns hN hn2)
  have K2 := Lib.hid (fun W (hb : Below w.heap.size w W) => s01NText_any W sa n c bs (h.below hb) h.leX.1 (by omega))
  obtain ⟨t, ht⟩ : ∃ t : ByteArray, (⟨(lstT ns).toArray⟩ : ByteArray) = t := ⟨_, rfl⟩
  obtain ⟨u, hu⟩ : ∃ u : ByteArray, (⟨(numT bs).toArray⟩ : ByteArray) = u := ⟨_, rfl⟩
  have htl : t.data.toList = lstT ns := by rw [← ht]
  have hul : u.data.toList = numT bs := by rw [← hu]
  have hts : t.size ≤ 100 := by
    rw [← ba_sizeT, htl]
    have := lstT_le hN.2.2.1
    have := hN.2.2.2.2
    omega
  have hus : u.size ≤ 10000 := by
    rw [← ba_sizeT, hul]
    have := numT_le bs
    have := h.leX.1
    omega
  rw [ht] at K1
  rw [hu] at K2
  have hcs : (⟨#[58]⟩ : ByteArray).size = 1 := rfl
  have h9a : (9223372036854775807 < t.size + (⟨#[58]⟩ : ByteArray).size) = False := eq_false (by rw [hcs]; omega)
  have h9b : (9223372036854775807 < (t ++ (⟨#[58]⟩ : ByteArray)).size + u.size) = False := eq_false (by rw [ByteArray.size_append, hcs]; omega)
  have h9c : (9223372036854775807 < t.size + 1) = False := eq_false (by omega)
  have h9d : (9223372036854775807 < t.size + 1 + u.size) = False := eq_false (by omega)
  have hfin : (t ++ (⟨#[58]⟩ : ByteArray)) ++ u = ⟨(txtL ns bs).toArray⟩ := by
    apply ba_ofT
    rw [ba_appT, ba_appT, htl, hul]
    unfold txtL
    simp
  have HF := Lib.hid hfin
  clear h hN hfin htl hul ht hu hts hus hn hn2
  go_enter Tryd.func27, Tryd.ntmps27
  go_wp2_with fail
  refine K1.out.mono ?_
  rintro e w1 ⟨rfl, hb1⟩
  go_wp2_with fail
  refine (K2.out _ hb1).mono ?_
  rintro e w2 ⟨rfl, hb2⟩
  have HB := Lib.hid (hb1.trans (hb2.mono hb1.size))
  clear hb1 hb2
  go_wp2_with fail
  go_ret
  exact ⟨by rw [← HF.out]; rfl, HB.out⟩

end Go.Proofs.YtmcmcppleikajaaDoor

/- The reference's bytes of a picture with its check. -/
import Derived.Test.YtkifhajkmgeafaaZm
namespace Go.Proofs.Ytkifhajkmgeafaa
open Go.RowKit
set_option maxRecDepth 100000
set_option linter.unusedVariables false
set_option linter.unusedSimpArgs false

theorem ckB_two (u : List UInt8) : ckB u = [ckF 0 u % 256, ckF 0 u / 256 % 256].map UInt8.ofNat := by
  unfold ckB leB leB
  rw [Nat.pow_zero, Nat.div_one]; rfl
set_option maxHeartbeats 2000000 in
theorem s07Frame_any (w : World) (pb wd hi q c n : Nat) (bs : List Nat) (bf : ByteArray) (hbf : bf.size ≤ 1500000) (hl : bs.length = n) (hw : wd < 256) (hh : hi < 256) (hn : n ≤ 600) (hx : Box3 w pb (.int .i64 wd) (.int .i64 hi) (.slice (some ⟨q, 0, none⟩) n c) 41) (hs : SlF w (.slice (some ⟨q, 0, none⟩) n c) bs) :
    Calls Try.prog 71 #[.string bf, .pointer (some ⟨pb, 0, none⟩)] w fun e w' => e = .returned (.string ⟨(stoL wd hi bs ++ ckB (bf.data.toList ++ stoL wd hi bs)).toArray⟩) ∧ Below w.heap.size w w' := by
  obtain ⟨i0, hi0, hz0, hz1, hz2⟩ := info_parts info_u8
  have K := Lib.hid (s07Store_any w pb wd hi q c n bs hl hw hh hn hx hs)
  have hL := stoL_len wd hi bs
  rw [hl] at hL
  obtain ⟨t, ht⟩ : ∃ t : ByteArray, (⟨(stoL wd hi bs).toArray⟩ : ByteArray) = t := ⟨_, rfl⟩
  have htl : t.data.toList = stoL wd hi bs := by rw [← ht]
  have htz : t.size = 6 + 4 * n := by rw [← ba_size, htl, hL]
  rw [ht] at K
  have KC := Lib.hid (fun W (r : ByteArray) (h : r.size ≤ 2000000) => s01Check_any W 0 r (by decide) h)
  rw [show ((0 : Nat) : Int) = 0 from rfl] at KC
  have hab : (bf ++ t).size = bf.size + t.size := ByteArray.size_append
  have hab2 : (bf ++ t).size ≤ 2000000 := by omega
  have htz2 : t.size ≤ 2406 := by omega
  have HT := Lib.hid htl
  have h9 : (9223372036854775807 < bf.size + t.size) = False := eq_false (by omega)
  clear hx hs ht htl hL
  go_enter Try.func71, Try.ntmps71
  go_wp2_with fail
  refine K.out.mono ?_
  rintro e w1 ⟨rfl, hb1⟩
  go_wp2_with fail
  refine (KC.out _ _ hab2).mono ?_
  rintro e w' ⟨rfl, rfl⟩
  obtain ⟨z, hz⟩ : ∃ z, ckF 0 (bf ++ t).data.toList = z := ⟨_, rfl⟩
  rw [hz]
  have hzl : z < 65003 := by rw [← hz]; exact ckF_lt (by decide) _
  obtain ⟨b0, h0⟩ : ∃ b0, z % 256 = b0 := ⟨_, rfl⟩
  obtain ⟨b1, h1⟩ : ∃ b0, z / 256 % 256 = b0 := ⟨_, rfl⟩
  have a0 : bits .and .i64 (z : Int) 255 = (b0 : Int) := by rw [and_byte]; omega
  have a1 : bits .and .i64 ((z : Int) / 256) 255 = (b1 : Int) := by rw [and_byte]; omega
  have u0 : IntKind.u8.wrap (b0 : Int) = (b0 : Int) := IntWalk.u8_in _ (by omega)
  have u1 : IntKind.u8.wrap (b1 : Int) = (b1 : Int) := IntWalk.u8_in _ (by omega)
  have hck : ckB (bf.data.toList ++ stoL wd hi bs) = [b0, b1].map UInt8.ofNat := by
    rw [ckB_two, ← HT.out, ← ba_app, hz, h0, h1]
  obtain ⟨tb, htb⟩ : ∃ tb : ByteArray, (⟨([b0, b1].map UInt8.ofNat).toArray⟩ : ByteArray) = tb := ⟨_, rfl⟩
  have hcv : (convert 22 9 (.slice (some ⟨w1.heap.size, 0, none⟩) 2 2)).run Try.prog (w1.alloc (.cells #[.int .u8 (b0 : Int), .int .u8 (b1 : Int)] 5)) = .ok (.string tb) (w1.alloc (.cells #[.int .u8 (b0 : Int), .int .u8 (b1 : Int)] 5)) := by
    have ho : OwnU (w1.alloc (.cells #[.int .u8 (b0 : Int), .int .u8 (b1 : Int)] 5)) w1.heap.size (.slice (some ⟨w1.heap.size, 0, none⟩) 2 2) ([] ++ [b0, b1].map UInt8.ofNat) := by
      refine own_bytes (n := 0) (l := []) (ns := [b0, b1]) rfl (fun y hy => by simp at hy; omega) ⟨rfl, .inr ⟨w1.heap.size, 2, _, rfl, Nat.le_refl _, heap_alloc_new w1 _, Nat.le_refl _, by unfold maxLen; omega, rfl, rfl⟩⟩
    have := ho.str
    rw [List.nil_append, htb] at this
    exact this
  have htbz : tb.size = 2 := by rw [← htb]; rfl
  have hfin : t ++ tb = ⟨(stoL wd hi bs ++ ckB (bf.data.toList ++ stoL wd hi bs)).toArray⟩ := by
    apply ByteArray.ext; apply Array.ext'
    rw [ba_app, HT.out, hck, ← htb]
  have HF := Lib.hid hfin
  have hb2 : Below w.heap.size w (w1.alloc (.cells #[.int .u8 (b0 : Int), .int .u8 (b1 : Int)] 5)) := hb1.alloc hb1.size _
  have HB2 := Lib.hid hb2
  clear hz h0 h1 hck hfin hb2 hb1 htb
  go_wp2_with fail
  go_ret
  exact ⟨by rw [← HF.out]; rfl, HB2.out⟩

end Go.Proofs.Ytkifhajkmgeafaa

/- StoreAlbum. -/
import Derived.Test.YtkifhajkmgeafaaZg
import Derived.Test.YtkifhajkmgeafaaZc
import Derived.Test.YtkifhajkmgeafaaUe
namespace Go.Proofs.Ytkifhajkmgeafaa
open Go.RowKit
set_option maxRecDepth 100000
set_option linter.unusedVariables false
set_option linter.unusedSimpArgs false

theorem ba_app (s t : ByteArray) : (s ++ t).data.toList = s.data.toList ++ t.data.toList := by rw [ByteArray.data_append, Array.toList_append]
theorem albS_next {ps : List PicB} {i : Nat} {p : PicB} (h : ps[i]? = some p) (t u : ByteArray) (ht : t.data.toList = p.txt) (hu : u.data.toList = ckB ((albS (ps.take i) ++ t).data.toList)) : albS (ps.take i) ++ t ++ u = albS (ps.take (i + 1)) := by
  have hl : i < ps.length := by
    rcases Nat.lt_or_ge i ps.length with h1 | h1
    · exact h1
    · rw [List.getElem?_eq_none h1] at h; cases h
  have e : ps.take (i + 1) = ps.take i ++ [p] := by
    rw [List.take_succ_eq_append_getElem hl]
    rw [List.getElem?_eq_getElem hl] at h
    injection h with h; rw [h]
  apply ByteArray.ext; apply Array.ext'
  rw [ba_app, ba_app, e, albS_list, albS_list, albL_app, ht, hu, ba_app, ht, albS_list]

set_option maxHeartbeats 2000000 in
theorem storeAlbum_yes (w : World) (B : Nat) (v : Value) (xs : List PicX) (h : OwnA w B v xs) (hn : xs.length ≤ 8) :
    Calls Try.prog 10 #[.agg #[v]] w fun e w' => e = .returned (.tuple #[.string (albS (xs.map PicX.p)), .bool true]) ∧ Below w.heap.size w w' := by
  obtain ⟨W0, hW0⟩ : ∃ W, W = w.alloc (.cells #[v] 26) := ⟨_, rfl⟩
  have hb0 : Below w.heap.size w W0 := by rw [hW0]; exact (Below.refl _ _).alloc (Nat.le_refl _) _
  have h0 := h.below hb0
  have K := Lib.hid (validAlbum_any W0 B v xs h0 (by omega))
  rw [decide_eq_true hn] at K
  have hR : BoxN W0 w.heap.size #[v] 26 := by rw [hW0]; exact BoxN.last _ _ _
  have r0 : W0.cell? ⟨w.heap.size, 0, none⟩ = some v := hR.cell 0
  obtain ⟨sa, sc, rfl, hc1, hc2⟩ := h.form
  have KC := Lib.hid (fun W (r : ByteArray) (h : r.size ≤ 2000000) => checkOf_any W 0 r (by decide) h)
  rw [show ((0 : Nat) : Int) = 0 from rfl] at KC
  have HK := Lib.hid (rfl : xs.length = xs.length)
  obtain ⟨k, hk⟩ : ∃ k, xs.length = k := ⟨_, rfl⟩
  have HO := Lib.hid h0
  have HB := Lib.hid hb0
  have hall : ∀ p ∈ xs.map PicX.p, p.bs.length ≤ 256 := fun p hp => by
    obtain ⟨x, hx, rfl⟩ := List.mem_map.1 hp; exact (h.pic x hx).2.dims.2.2.2.2.2.1
  have HALL := Lib.hid hall
  have HKK := Lib.hid hk
  rw [hk] at K r0 hW0 hc1 hn HO
  rw [hW0] at r0
  have HW := Lib.hid hW0
  have HR := Lib.hid hR
  rw [hk] at HR ⊢
  clear h h0 hb0 hR hk hW0 hall
  go_enter Try.func10, Try.ntmps10
  go_wp2_with fail
  rw [← HW.out]
  refine K.out.mono ?_
  rintro e w1 ⟨rfl, hb1⟩
  clear r0
  have hR1 := HR.out.below hb1
  have r0 : w1.cell? ⟨w.heap.size, 0, none⟩ = some (.slice sa k sc) := hR1.cell 0
  have HB1 := Lib.hid (HB.out.trans (hb1.mono HB.out.size))
  have HO1 := Lib.hid (HO.out.below hb1)
  clear hb1 hR1
  go_wp2_with fail
  clear r0
  go_loopw [4, 15] (fun v4 v15 wr => ∃ i : Nat, v15 = .int .i64 i ∧ i ≤ k ∧ v4 = .string (albS ((xs.map PicX.p).take i)) ∧ Below w1.heap.size w1 wr) (fun _ v15 _ => k - (intOf v15).toNat)
  case atStart => exact ⟨0, rfl, Nat.zero_le _, by rw [List.take_zero]; rfl, Below.refl _ _⟩
  case round =>
    obtain ⟨i, rfl, hi, rfl, hb⟩ := hrel
    by_cases hlt : i < k
    · obtain ⟨g, x, hx, hxi, rfl, hgl, p0, p1, p2⟩ := (HO1.out.below hb).atk HKK.out i hlt
      have hltI : (i : Int) < (k : Int) := by omega
      obtain ⟨hxo, hxk⟩ := HO1.out.pic x hx
      obtain ⟨d1, d2, d3, d4, d5, d6, d7⟩ := hxk.dims
      have KS := Lib.hid (fun W (hW : Below w1.heap.size w1 W) => stored_any W x.p.wd x.p.hi x.q x.c x.p.bs.length x.p.bs rfl d3 d5 (by omega) (hxo.sl.below hW))
      rw [show stoL x.p.wd x.p.hi x.p.bs = x.p.txt from rfl] at KS
      obtain ⟨t, ht⟩ : ∃ t : ByteArray, (⟨x.p.txt.toArray⟩ : ByteArray) = t := ⟨_, rfl⟩
      have htl : t.data.toList = x.p.txt := by rw [← ht]
      have htz : t.size ≤ 1030 := by rw [← ba_size, htl, PicB.txt_len]; omega
      rw [ht] at KS
      have hsl := albL_len (ps := (xs.map PicX.p).take i) fun p hp => HALL.out p (List.mem_of_mem_take hp)
      have hnext := fun u hu => albS_next (ps := xs.map PicX.p) (i := i) (p := x.p) (by rw [List.getElem?_map, hxi]; rfl) t u htl hu
      have hsz := albS_size ((xs.map PicX.p).take i)
      obtain ⟨s, hs⟩ : ∃ s, albS ((xs.map PicX.p).take i) = s := ⟨_, rfl⟩
      rw [hs] at hnext hsz ⊢
      have hsz2 : s.size ≤ 9000 := by
        rw [hsz]; refine Nat.le_trans hsl ?_
        rw [List.length_take, List.length_map]; omega
      have HNX := Lib.hid hnext
      unfold PicX.sl at p2
      have HB2 := Lib.hid hb
      obtain ⟨W2, hW2⟩ : ∃ W, W = wr.alloc (.cells #[.int .i64 x.p.wd, .int .i64 x.p.hi, .slice (some ⟨x.q, 0, none⟩) x.p.bs.length x.c] 41) := ⟨_, rfl⟩
      have hbW : Below w1.heap.size w1 W2 := by rw [hW2]; exact hb.alloc hb.size _
      have HBW := Lib.hid hbW
      have HW2 := Lib.hid hW2
      have hab : (s ++ t).size ≤ 2000000 := by rw [ByteArray.size_append]; omega
      clear hnext hsz hsl hs hxo hxk d1 d2 d3 d4 d5 d6 d7 hb ht htl hW2 hbW hx hxi
      generalize x.p.wd = wd at *
      generalize x.p.hi = hi_ at *
      generalize x.p.bs.length = n at *
      go_wp2_with fail
      rw [← HW2.out]
      refine (KS.out _ HBW.out).mono ?_
      rintro e w3 ⟨rfl, hb3⟩
      have HB3 := Lib.hid (HBW.out.trans (hb3.mono HBW.out.size))
      clear hb3 p0 p1 p2
      go_wp2_with fail
      refine (KC.out _ _ hab).mono ?_
      rintro e w4 ⟨rfl, rfl⟩
      obtain ⟨ck, hck⟩ : ∃ ck, ckF 0 (s ++ t).data.toList = ck := ⟨_, rfl⟩
      rw [hck]
      have hck2 : ck < 65003 := by rw [← hck]; exact ckF_lt (by decide) _
      have KB := Lib.hid (fun W => bytesOf_any W ck 2 (by omega) (by omega))
      rw [show ((2 : Nat) : Int) = 2 from rfl] at KB
      obtain ⟨u, hu⟩ : ∃ u : ByteArray, (⟨(leB ck 2).toArray⟩ : ByteArray) = u := ⟨_, rfl⟩
      have hul : u.data.toList = ckB (s ++ t).data.toList := by rw [← hu]; unfold ckB; rw [hck]
      have huz : u.size = 2 := by rw [← ba_size, hul, ckB_len]
      have hfin := HNX.out u hul
      have HFIN := Lib.hid hfin
      rw [hu] at KB
      clear hck hu hul hfin
      go_wp2_with fail
      refine (KB.out _).mono ?_
      rintro e w5 ⟨rfl, hb5⟩
      have HB5 := Lib.hid (HB3.out.trans (hb5.mono HB3.out.size))
      have hab2 : (s ++ t).size = s.size + t.size := ByteArray.size_append
      clear hb5
      go_wp2_with fail
      go_roundw
      case rel => exact ⟨i + 1, by go_num, by omega, by rw [← HFIN.out], HB5.out⟩
      case measure => simp [intOf]; omega
    · obtain rfl : k = i := by omega
      have hall2 : (xs.map PicX.p).take k = xs.map PicX.p := List.take_of_length_le (by rw [List.length_map, HKK.out]; exact Nat.le_refl _)
      rw [hall2]
      obtain ⟨s, hs⟩ : ∃ s, albS (xs.map PicX.p) = s := ⟨_, rfl⟩
      rw [hs]
      have HS := Lib.hid hs
      have HBF := Lib.hid (HB1.out.trans (hb.mono HB1.out.size))
      clear hs hall2 hb
      go_wp2
      go_ret2
      exact ⟨by rw [HS.out]; rfl, HBF.out⟩

end Go.Proofs.Ytkifhajkmgeafaa

/- The median of a window. -/
import Derived.Test.YtmpbnmmpniganaaYj
namespace Go.Proofs.Ytmpbnmmpniganaa
open Go.RowKit Go.Sort
set_option maxRecDepth 100000
set_option linter.unusedVariables false
set_option linter.unusedSimpArgs false

def isMed (L : List Int) (v : Int) : Bool := decide (L.countP (fun a => decide (a < v)) ≤ L.length / 2) && decide (L.length / 2 < L.countP (fun a => decide (a ≤ v)))
/-- The median of a list; -1 (in quarters) where there is none. -/
def med (L : List Int) : Int := (L.find? (isMed L)).getD (-4)
theorem countP_le {L : List Int} {p q : Int → Bool} (h : ∀ x, p x = true → q x = true) : L.countP p ≤ L.countP q := List.countP_mono_left fun x _ hx => h x hx
theorem isMed_unique {L : List Int} {v v' : Int} (h : isMed L v = true) (h' : isMed L v' = true) : v = v' := by
  unfold isMed at h h'
  simp only [Bool.and_eq_true, decide_eq_true_eq] at h h'
  rcases Int.lt_trichotomy v v' with c | c | c
  · have := countP_le (L := L) (p := fun a => decide (a ≤ v)) (q := fun a => decide (a < v')) (fun x hx => by simp at hx ⊢; omega)
    omega
  · exact c
  · have := countP_le (L := L) (p := fun a => decide (a ≤ v')) (q := fun a => decide (a < v)) (fun x hx => by simp at hx ⊢; omega)
    omega
theorem med_eq {L : List Int} {v : Int} (hv : v ∈ L) (h : isMed L v = true) : med L = v := by
  unfold med
  cases e : L.find? (isMed L) with
  | none => rw [List.find?_eq_none] at e; exact absurd h (e v hv)
  | some u => exact isMed_unique (List.find?_some e) h
theorem med_nil : med [] = -4 := rfl
theorem sorted_med {L : List Int} {d' : Array Int} (hp : d'.toList.Perm L) (hs : SortedIn ltInt 0 d'.size d') (h0 : 0 < L.length) : d'.size = L.length ∧ med L = d'[L.length / 2]! := by
  have hl : d'.size = L.length := by have := hp.length_eq; simpa using this
  refine ⟨hl, ?_⟩
  have hlt : L.length / 2 < d'.size := by omega
  have hget : ∀ i (h : i < d'.size), d'[i]! = d'.toList[i]'(by simpa using h) := fun i h => by rw [getElem!_pos d' i h]; rfl
  have hle : ∀ i j, i ≤ j → j < d'.size → d'[i]! ≤ d'[j]! := fun i j h1 h2 => by
    by_cases e : i = j
    · subst e; exact Int.le_refl _
    · have := hs i j (Nat.zero_le _) (by omega) h2; simpa [ltInt] using this
  have hmem : d'[L.length / 2]! ∈ L := by
    rw [← hp.mem_iff, hget _ hlt]; exact List.getElem_mem _
  refine med_eq hmem ?_
  unfold isMed
  simp only [Bool.and_eq_true, decide_eq_true_eq]
  rw [← hp.countP_eq, ← hp.countP_eq]
  generalize hv : d'[L.length / 2]! = v
  have hS : d'.toList.length = L.length := by simpa using hl
  constructor
  · rw [← List.take_append_drop (L.length / 2) d'.toList, List.countP_append]
    have h1 : (d'.toList.take (L.length / 2)).countP (fun a => decide (a < v)) ≤ L.length / 2 := Nat.le_trans List.countP_le_length (by rw [List.length_take]; omega)
    have h2 : (d'.toList.drop (L.length / 2)).countP (fun a => decide (a < v)) = 0 := by
      rw [List.countP_eq_zero]
      intro a ha
      obtain ⟨k, hk, e⟩ := List.mem_iff_getElem.1 ha
      rw [List.getElem_drop] at e
      rw [List.length_drop] at hk
      have := hle (L.length / 2) (L.length / 2 + k) (by omega) (by omega)
      rw [hget (L.length / 2 + k) (by omega), e, hv] at this
      simp; omega
    omega
  · rw [← List.take_append_drop (L.length / 2 + 1) d'.toList, List.countP_append]
    have h1 : (d'.toList.take (L.length / 2 + 1)).countP (fun a => decide (a ≤ v)) = (d'.toList.take (L.length / 2 + 1)).length := by
      rw [List.countP_eq_length]
      intro a ha
      obtain ⟨k, hk, e⟩ := List.mem_iff_getElem.1 ha
      rw [List.getElem_take] at e
      rw [List.length_take] at hk
      have := hle k (L.length / 2) (by omega) hlt
      rw [hget k (by omega), e, hv] at this
      simp; omega
    rw [h1, List.length_take]
    omega

theorem OwnF.freeY {w : World} {B g n cap : Nat} {bs : List Nat} (h : OwnF w B (.slice (some ⟨g, 0, none⟩) n cap) bs) (i : Nat) : w.frozen? ⟨g, i, none⟩ = false := by
  obtain ⟨h1, -⟩ := h
  have e : n = bs.length := by
    rcases h1.2 with ⟨h, _⟩ | ⟨g', cap', cur, e1, _⟩
    · cases h
    · injection e1
  subst e
  exact World.ownsRow.frozenAt h1 i
theorem SlF.cellAtY {w : World} {b n c : Nat} {bs : List Nat} (h : SlF w (.slice (some ⟨b, 0, none⟩) n c) bs) (i : Nat) (hi : i < bs.length) : w.cell? ⟨b, i, none⟩ = some (.float .f32 (bs.getD i 0)) := by
  have := (h.cellAt i hi).1
  rwa [Nat.zero_add] at this
theorem holds_own {w : World} {B g n c : Nat} {L : List Int} (h : OwnF w B (.slice (some ⟨g, 0, none⟩) n c) (L.map (fq 2))) : Holds eq2 w g 0 L.toArray := by
  intro j hj
  have hj' : j < L.length := by simpa using hj
  rw [Nat.zero_add]
  refine ⟨?_, h.freeY j⟩
  rw [h.sl.cellAtY j (by rw [List.length_map]; exact hj')]
  unfold eq2
  congr 2
  rw [List.getD_eq_getElem?_getD, List.getElem?_map, List.getElem?_eq_getElem hj', getElem!_pos L.toArray j hj]
  rfl
theorem below_putRow (enc : Int → Value) (w : World) (g B : Nat) (d : Array Int) (n : Nat) (h : B ≤ g) : Below B w ((putRow enc w g 0 d).drewN n) := by
  refine ⟨rfl, rfl, rfl, by show w.heap.size ≤ (putRow enc w g 0 d).heap.size; rw [size_putRow]; exact Nat.le_refl _, fun k hk => ?_⟩
  show (w.heap.modify g _)[k]? = _
  rw [Array.getElem?_modify, if_neg (by omega)]
theorem cell_putRow_other (w : World) (g : Nat) (d : Array Int) (n : Nat) (b o : Nat) (h : b ≠ g) : ((putRow eq2 w g 0 d).drewN n).cell? ⟨b, o, none⟩ = w.cell? ⟨b, o, none⟩ := cell?_putRow_other eq2 w g 0 d ⟨b, o, none⟩ (.inl h)

theorem half_of (n : Nat) (h : n < 40) (h0 : 0 < n) : ∃ h : Nat, (n : Int) / 2 = (h : Int) ∧ wrap64 (h : Int) = (h : Int) ∧ h = n / 2 ∧ h < n := by
  refine ⟨n / 2, by omega, ?_, rfl, by omega⟩
  have : n / 2 < 40 := by omega
  generalize n / 2 = k at *
  unfold wrap64; omega
theorem perm_of {L : List Int} {d' : Array Int} {n : Nat} (hn : L.length = n) (hp : PermIn 0 n L.toArray d') : d'.toList.Perm L := by
  subst hn
  have h1 := hp.1
  have h2 := hp.2.2
  have e1 : d'.extract 0 L.length = d' := by
    have : L.length = d'.size := by rw [h1]; simp
    rw [this, Array.extract_size]
  have e2 : L.toArray.extract 0 L.length = L.toArray := by
    have : L.length = L.toArray.size := by simp
    rw [this, Array.extract_size]
  rw [e1, e2] at h2
  exact h2
theorem med_cell {w : World} {B g n c q : Nat} {L : List Int} {d' : Array Int} (h : OwnF w B (.slice (some ⟨g, 0, none⟩) n c) (L.map (fq 2))) (hn : L.length = n) (h0 : 0 < n) (hp : PermIn 0 n L.toArray d') (hs : SortedIn ltInt 0 n d') :
    ((putRow eq2 w g 0 d').drewN q).cell? ⟨g, n / 2, none⟩ = some (.float .f32 (fq 2 (med L))) := by
  have hsz : d'.size = n := by rw [hp.1]; simpa using hn
  have hm := (sorted_med (L := L) (d' := d') (perm_of hn hp) (by rw [hsz]; exact hs) (by rw [hn]; exact h0)).2
  rw [hm, hn]
  have := cell?_putRow eq2 w g 0 L.toArray d' (holds_own h) hp.1 (n / 2) (by rw [hsz]; omega)
  rw [Nat.zero_add] at this
  exact this

set_option maxHeartbeats 4000000 in
theorem median_q (W : World) (pb wd hi : Nat) (va : Value) (ks : List Int) (x y r : Nat) (hx : x < wd) (hy : y < hi) (hr : r ≤ 24) (hw : wd ≤ 24) (hh : hi ≤ 24) (hN : wd * hi < 40) (hkb : ∀ i, (ks.getD i 0).natAbs ≤ 1000)
    (hP : PicAt W pb wd hi va (ks.map (fq 2)) 27) :
    Calls Try.prog 79 #[.pointer (some ⟨pb, 0, none⟩), .int .i64 x, .int .i64 y, .int .i64 r] W fun e w' => e = .returned (.float .f32 (fq 2 (med (lst ks (visL wd x y r (wd * hi)))))) ∧ Below W.heap.size W w' := by
  have hpl := hP.box.lt
  obtain ⟨W1, hW1⟩ : ∃ W1, W1 = W.alloc (.cells #[.pointer (some ⟨pb, 0, none⟩)] 94) := ⟨_, rfl⟩
  obtain ⟨W2, hW2⟩ : ∃ W2, W2 = (W1.alloc (.cells #[] 33)).alloc (.cells #[.slice (some ⟨W.heap.size + 1, 0, none⟩) 0 0] 25) := ⟨_, rfl⟩
  have hb1 : Below W.heap.size W W1 := by rw [hW1]; exact alb1 W _
  have hs1 : W1.heap.size = W.heap.size + 1 := by rw [hW1]; simp
  have hmb : BoxN W1 W.heap.size #[.pointer (some ⟨pb, 0, none⟩)] 94 := by rw [hW1]; exact BoxN.last _ _ _
  have hb2 : Below W1.heap.size W1 W2 := by rw [hW2]; exact below_two _ _ _
  have hA : AccL W1 W2 (W.heap.size + 2) (.slice (some ⟨W.heap.size + 1, 0, none⟩) 0 0) [] := by
    refine ⟨hb2, ?_, ⟨⟨rfl, .inr ⟨W.heap.size + 1, 0, #[], rfl, by omega, ?_, Nat.le_refl _, by unfold maxLen; omega, rfl, rfl⟩⟩, by simp⟩, by simp [Value.ownBlock], by omega⟩
    · rw [hW2]
      have := BoxN.last (W1.alloc (.cells #[] 33)) #[.slice (some ⟨W.heap.size + 1, 0, none⟩) 0 0] 25
      simpa [hs1] using this
    · rw [hW2, heap_alloc_old _ _ (by simp; omega), ← hs1]
      exact heap_alloc_new W1 _
  have hPB : ∀ w', Below W1.heap.size W1 w' → PicAt w' pb wd hi va (ks.map (fq 2)) 27 := fun w' h => hP.below (hb1.trans (h.mono hb1.size))
  have hMB : ∀ w', Below W1.heap.size W1 w' → w'.cell? ⟨W.heap.size, 0, none⟩ = some (.pointer (some ⟨pb, 0, none⟩)) := fun w' h => (hmb.below h).cell 0
  have KW := Lib.hid (window_any W2 pb wd hi x y r 106 #[.pointer (some ⟨W.heap.size, 0, none⟩), .pointer (some ⟨W.heap.size + 2, 0, none⟩)] (fun l w => ∃ v, AccL W1 w (W.heap.size + 2) v ((lst ks l).map (fq 2))) hx hy hw hh hr Try.call106
    ⟨_, hA⟩ (fun l w ⟨v, h⟩ => ⟨(hPB w h.bel).box.cells.1, (hPB w h.bel).box.cells.2.1⟩) (fun l w n ⟨v, h⟩ => ⟨v, h.drewN n⟩)
    (fun u v w hu hv _ ⟨v0, h⟩ => med1_step W1 w pb W.heap.size (W.heap.size + 2) wd hi va ks _ v0 u v hu hv hw hh hkb (by
      have h1 := visL_len wd x y r (u + wd * v)
      have h2 := xy_lt hu hv
      omega) hPB hMB h))
  have HW2 := Lib.hid hW2
  have HW1 := Lib.hid hW1
  have HB1 := Lib.hid hb1
  have HS1 := Lib.hid hs1
  have hm2 := hMB W2 hb2
  generalize hL : lst ks (visL wd x y r (wd * hi)) = L at KW ⊢
  have hLn : L.length < 40 := by
    rw [← hL]; exact Nat.lt_of_le_of_lt (lst_len _ _) (Nat.lt_of_le_of_lt (visL_len _ _ _ _ _) hN)
  have hLb : ∀ i : Nat, Int.natAbs (L.toArray[i]!) ≤ 1000 := by
    intro i
    by_cases h : i < L.length
    · rw [getElem!_pos L.toArray i (by simpa using h)]
      have hm : L.toArray[i]'(by simpa using h) ∈ L := by simp
      generalize L.toArray[i]'(by simpa using h) = z at hm
      rw [← hL] at hm
      unfold lst at hm
      obtain ⟨j, -, e⟩ := List.mem_map.1 hm
      rw [← e]; exact hkb j
    · rw [getElem!_neg L.toArray i (by simpa using h)]; decide
  clear hP hb1 hmb hb2 hA hPB hMB hW1 hW2 hs1 hL hkb hx hy hN hw hh
  go_enter Try.func79, Try.ntmps79
  go_upto_region 2 with fail
  rw [← HW1.out, ← HW2.out]
  go_wp2_with fail
  refine KW.out.mono ?_
  rintro e w3 ⟨⟨vv, rfl⟩, v3, hA3⟩
  have hbW : Below W.heap.size W w3 := HB1.out.trans (hA3.bel.mono HB1.out.size)
  have hcl : w3.cell? ⟨W.heap.size + 1 + 1, 0, none⟩ = some v3 := hA3.box.cell 0
  have hne := hA3.ne
  obtain ⟨a3, c3, rfl⟩ := hA3.own.sl.len
  rw [List.length_map] at hcl
  have HA3 := Lib.hid hA3
  have HBW := Lib.hid hbW
  clear hm2 KW hbW hA3
  cases hL0 : L with
  | nil =>
    subst hL0
    have hcl0 : w3.cell? ⟨W.heap.size + 1 + 1, 0, none⟩ = some (.slice a3 0 c3) := hcl
    clear hcl hne HA3 hLb hLn
    have cm : fq 2 (-4) = 3212836864 := by decide +kernel
    go_wp2
    go_ret
    exact ⟨by rw [med_nil, cm]; rfl, HBW.out⟩
  | cons z T =>
    have hlen : 0 < L.length := by rw [hL0]; simp
    clear hL0
    have hown := HA3.out.own
    obtain ⟨g, rfl⟩ := own_ptr hown (by rw [List.length_map]; exact hlen)
    rw [List.length_map] at hown
    have hg := (hown.lt (k := g) rfl).1
    have hgl : g ≠ W.heap.size + 2 := by
      intro e; apply HA3.out.ne; simp [Value.ownBlock, e]
    obtain ⟨n, hn⟩ : ∃ n, L.length = n := ⟨_, rfl⟩
    have KS := Lib.hid (sortStable_q w3 g n c3 L.toArray (holds_own hown) (by simpa using hn) hLb (by omega))
    have hs1 := HS1.out
    have HG := Lib.hid (And.intro hg hgl)
    have HN := Lib.hid hn
    rw [hn] at hcl hlen hLn
    have HLN := Lib.hid hlen
    have HHF := Lib.hid (half_of n (by omega) hlen)
    have hn40 : n < 40 := by omega
    clear hLn
    clear hown hg hs1 hn hLb hne hgl
    go_wp2_with fail
    refine KS.out.mono ?_
    rintro e w4 ⟨⟨v4, rfl⟩, d', q, hp, hso, hw4⟩
    have hs1 := HS1.out
    have hc4 : w4.cell? ⟨W.heap.size + 1 + 1, 0, none⟩ = some (.slice (some ⟨g, 0, none⟩) n c3) := by
      rw [hw4, cell_putRow_other _ _ _ _ _ _ (by have := HG.out.2; omega)]; exact hcl
    have hb4 : Below W.heap.size W w4 := by
      rw [hw4]; exact HBW.out.trans (below_putRow eq2 w3 g W.heap.size d' q (by have := HG.out.1; omega))
    obtain ⟨h, hh2, hwr, hhn, hlt⟩ := HHF.out
    have hval : w4.cell? ⟨g, h, none⟩ = some (.float .f32 (fq 2 (med L))) := by
      have ho := HA3.out.own
      rw [List.length_map, HN.out] at ho
      rw [hhn, hw4]; exact med_cell ho HN.out HLN.out hp hso
    have HB4 := Lib.hid hb4
    have HW4 := Lib.hid hw4
    obtain ⟨vm, hvm⟩ : ∃ vm, fq 2 (med L) = vm := ⟨_, rfl⟩
    rw [hvm] at hval
    have HVM := Lib.hid hvm
    clear hvm
    clear hw4 hb4 hp hso hhn hs1 hcl KS
    go_wp2
    go_ret
    exact ⟨by rw [HVM.out]; rfl, HB4.out⟩

end Go.Proofs.Ytmpbnmmpniganaa

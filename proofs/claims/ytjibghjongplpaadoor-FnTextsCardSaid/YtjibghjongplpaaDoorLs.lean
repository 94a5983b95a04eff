/- Lists of numbers that a source draws; laws.b10At. -/
import Derived.Test.YtjibghjongplpaaDoorMem
import Derived.IntWalk
namespace Go.Proofs.YtjibghjongplpaaDoor
open Go.RowKit
set_option maxRecDepth 100000
set_option linter.unusedVariables false
set_option linter.unusedSimpArgs false

theorem info_f32' : (Tryd.prog.info? 37).map (fun i => (i.zero, i.size, i.bytes)) = some (some (.float .f32 0), 1, 4) := by kernel_rfl

theorem OwnF.made0 (w : World) : OwnF (w.alloc (.cells #[] 37)) w.heap.size (.slice (some ⟨w.heap.size, 0, none⟩) 0 0) [] :=
  ⟨⟨rfl, .inr ⟨w.heap.size, 0, #[], rfl, Nat.le_refl _, heap_alloc_new w _, Nat.le_refl _, by unfold maxLen; omega, rfl, rfl⟩⟩, by simp⟩

/-- A loop that appends what a source in block sb gives to a slice in a slot. -/
structure LstSt (w wr : World) (L sb U : Nat) (v : Value) (bs : List Nat) : Prop where
  bel : w.grownBy wr (some sb)
  src : SrcOk wr L sb U
  hL : L ≤ w.heap.size
  own : OwnF wr w.heap.size v bs
  far : v.ownBlock = none ∨ v.ownBlock ≠ some sb

theorem grown_new' {w w1 w2 : World} {sb : Nat} {r : Option Nat} (h : w.grownBy w1 (some sb)) (hg : w1.grownBy w2 r) (hr : ∀ k, r = some k → w.heap.size ≤ k) : w.grownBy w2 (some sb) :=
  ⟨hg.os.trans h.os, hg.tape.trans h.tape, hg.output.trans h.output, Nat.le_trans h.size hg.size, fun i hi hn => (hg.block i (Nat.lt_of_lt_of_le hi h.size) (fun e => by have := hr i e.symm; omega)).trans (h.block i hi hn)⟩

theorem LstSt.step {w wr w1 w2 : World} {L sb U V r : Nat} {E : TypeId} {v : Value} {bs : List Nat} {gg cap : Nat} (h : LstSt w wr L sb U v bs)
    (hd : Drew L sb V wr w1) (hr : r < 4294967296)
    (hown : w2.ownsRow w.heap.size 37 1 (.slice (some ⟨gg, 0, none⟩) (bs.length + 1) cap) (bs.length + 1) (bs.map (Value.float .f32) ++ [.float .f32 r]))
    (hg : (w1.alloc (.cells #[.float .f32 r] E)).grownBy w2 v.ownBlock) (hat : v.ownBlock = some gg ∨ gg = w1.heap.size + 1) :
    LstSt w w2 L sb V (.slice (some ⟨gg, 0, none⟩) (bs.length + 1) cap) (bs ++ [r]) := by
  have hal : Below w1.heap.size w1 (w1.alloc (.cells #[.float .f32 r] E)) := (Below.refl _ _).alloc (Nat.le_refl _) _
  have s1 : wr.heap.size ≤ w1.heap.size := hd.grown.size
  have l2 := h.src.lt
  have b2 : w.grownBy (w1.alloc (.cells #[.float .f32 r] E)) (some sb) := grown_trans (grown_trans h.bel hd.grown) (grown_below hal _)
  have b3 : w.grownBy w2 (some sb) := grown_new' b2 hg (fun k hk => (h.own.lt hk).1)
  have k2 : some sb ≠ v.ownBlock := by
    rcases h.far with e | e
    · rw [e]; simp
    · exact fun q => e q.symm
  refine ⟨b3, (hd.ok.below hal).grown hg k2 (fun k hk => Nat.le_trans h.hL (h.own.lt hk).1), h.hL, ⟨by simpa using hown, ?_⟩, .inr ?_⟩
  · intro b hb'
    rcases List.mem_append.1 hb' with h1 | h1
    · exact h.own.2 b h1
    · simp at h1; omega
  · have hn : gg ≠ sb := by
      rcases hat with e | e
      · rw [e] at k2; intro q; exact k2 (by rw [q])
      · omega
    simpa [Value.ownBlock] using hn

/-- A list of n numbers, drawn. -/
def DrawsList (L sb U n : Nat) (w : World) (e : Ending) (w' : World) : Prop :=
  ∃ g c bs, e = .returned (.slice (some ⟨g, 0, none⟩) n c) ∧ bs.length = n ∧ OwnF w' w.heap.size (.slice (some ⟨g, 0, none⟩) n c) bs ∧ Drew L sb U w w'

theorem l01DrawFloats_any (w : World) {L : Nat} (sb U n : Nat) (hn : n ≤ 1000) (hs : SrcOk w L sb U) (hL : L ≤ w.heap.size) (hU : U < 4611686018427300000) :
    Calls Tryd.prog 31 #[.pointer (some ⟨sb, 0, none⟩), .int .i64 n] w (DrawsList L sb (U + 2 + 24 * n) n w) := by
  obtain ⟨i0, hi0, hz0, hz1, hz2⟩ := info_parts info_f32'
  have hslt := hs.lt
  go_enter Tryd.func31, Tryd.ntmps31
  go_wp2_with fail
  have ha0 : Below w.heap.size w (w.alloc (.cells #[] 37)) := (Below.refl _ _).alloc (Nat.le_refl _) _
  refine (one_any _ _ _ 4 (by omega) (by omega) (hs.below ha0) (by omega)).mono ?_
  rintro e w1 ⟨b, rfl, hd⟩
  have start : LstSt w w1 L sb (U + 2) (.slice (some ⟨w.heap.size, 0, none⟩) 0 0) [] :=
    ⟨grown_trans (grown_below ha0 _) hd.grown, hd.ok, hL, (OwnF.made0 w).grown hd.grown (.inr (by simp [Value.ownBlock]; omega)), .inr (by simp [Value.ownBlock]; omega)⟩
  clear hd ha0
  go_wp2_with fail
  go_loopw [1, 5] (fun v1 v5 wr => ∃ (m : Nat) (bs : List Nat), v1 = .int .i64 m ∧ m ≤ n ∧ bs.length + m = n ∧ (∃ g c, v5 = .slice (some ⟨g, 0, none⟩) bs.length c) ∧ LstSt w wr L sb (U + 2 + 24 * (n - m)) v5 bs) (fun v1 _ _ => (intOf v1).toNat)
  case atStart => exact ⟨n, [], rfl, Nat.le_refl _, by simp, ⟨_, _, rfl⟩, by simpa using start⟩
  case round =>
    clear start
    obtain ⟨m, bs, rfl, hm, hbl, ⟨va, vc, rfl⟩, hst⟩ := hrel
    by_cases h0 : m = 0
    · subst h0
      have HS := Lib.hid hst
      have HB := Lib.hid hbl
      clear hst hbl
      go_wp2
      go_ret
      have hl : bs.length = n := by have := HB.out; omega
      exact ⟨va, vc, bs, by show Ending.returned (Value.slice _ bs.length vc) = _; rw [hl], hl, by rw [← hl]; exact HS.out.own, HS.out.src.mono (by omega), HS.out.bel⟩
    · obtain ⟨m, rfl⟩ : ∃ k, m = k + 1 := ⟨m - 1, by omega⟩
      have hpos : (0 : Int) < ((m + 1 : Nat) : Int) := by omega
      have hown := hst.own
      have hL2 : bs.length ≤ 1000 := by omega
      have hU2 : U + 2 + 24 * (n - (m + 1)) < 4611686018427380000 := by omega
      have hU3 : U + 2 + 24 * (n - (m + 1)) + 20 ≤ U + 2 + 24 * (n - m) := by omega
      have hw0 := hst.bel.size
      have HS := Lib.hid hst
      have HB := Lib.hid hbl
      clear hst hbl h0
      cases b
      · go_wp2_with fail
        refine (plain_any _ _ _ HS.out.src (by omega)).mono ?_
        rintro e w2 ⟨r, rfl, hr, hd⟩
        have hdd : Drew L sb (U + 2 + 24 * (n - m)) wr w2 := hd.mono (by omega)
        have hown1 := hown.grown hdd.grown HS.out.far
        have hz2' : w.heap.size ≤ w2.heap.size := by have := hdd.grown.size; omega
        go_wp2_with (at_builtin; refine wpList_append_lies _ (by rfl) _ _ _ (by rfl) w.heap.size 37 i0 _ 1 4 Tryd.underlying24 hi0 hz0 hz1 hz2 rfl (by omega) (.slice (some ⟨va, 0, none⟩) bs.length vc) bs.length _ (by rfl) (World.ownsRow.alloc hown1.1 _) ⟨w2.heap.size, 0, none⟩ 1 1 [.float .f32 r] (by rfl) (by rfl) (cell_one_new _ _ _) (by simp [Value.oneCell']) (by omega) (by unfold maxLen; omega) (by omega) (by simp; omega) (w2.heap.size + 1) (by simp) ?_; intro gg cap wz hown2 hgrow hat hlt2)
        go_roundw
        case rel => exact ⟨m, bs ++ [r], by go_num, by omega, by have := HB.out; simp; omega, ⟨gg, cap, by simp⟩, HS.out.step hdd hr hown2 hgrow hat⟩
        case measure => simp [intOf]
      · go_wp2_with fail
        refine (drawFloat_any _ _ _ HS.out.src (by omega)).mono ?_
        rintro e w2 ⟨r, rfl, hr, hd⟩
        have hdd : Drew L sb (U + 2 + 24 * (n - m)) wr w2 := hd.mono (by omega)
        have hown1 := hown.grown hdd.grown HS.out.far
        have hz2' : w.heap.size ≤ w2.heap.size := by have := hdd.grown.size; omega
        go_wp2_with (at_builtin; refine wpList_append_lies _ (by rfl) _ _ _ (by rfl) w.heap.size 37 i0 _ 1 4 Tryd.underlying24 hi0 hz0 hz1 hz2 rfl (by omega) (.slice (some ⟨va, 0, none⟩) bs.length vc) bs.length _ (by rfl) (World.ownsRow.alloc hown1.1 _) ⟨w2.heap.size, 0, none⟩ 1 1 [.float .f32 r] (by rfl) (by rfl) (cell_one_new _ _ _) (by simp [Value.oneCell']) (by omega) (by unfold maxLen; omega) (by omega) (by simp; omega) (w2.heap.size + 1) (by simp) ?_; intro gg cap wz hown2 hgrow hat hlt2)
        go_roundw
        case rel => exact ⟨m, bs ++ [r], by go_num, by omega, by have := HB.out; simp; omega, ⟨gg, cap, by simp⟩, HS.out.step hdd hr hown2 hgrow hat⟩
        case measure => simp [intOf]

/-- A list of n numbers that the call has made. -/
def MakesList (n : Nat) (w : World) (e : Ending) (w' : World) : Prop :=
  ∃ g c bs, e = .returned (.slice (some ⟨g, 0, none⟩) n c) ∧ bs.length = n ∧ OwnF w' w.heap.size (.slice (some ⟨g, 0, none⟩) n c) bs ∧ Below w.heap.size w w'

theorem b10Numbers_any (w : World) (a : Option Addr) (len cap n : Nat) (hn : n ≤ 1000) (h : BytesIn w a len) :
    Calls Tryd.prog 6 #[.slice a len cap, .int .i64 n] w (MakesList n w) := by
  go_enter Tryd.func6, Tryd.ntmps6
  go_wp2_with fail
  refine (from_any _ _ _ _ h.at (Nat.le_refl _)).mono ?_
  rintro e w1 ⟨rfl, hs, hb, hlt⟩
  go_wp2_with fail
  refine (l01DrawFloats_any _ _ _ n hn hs (by omega) (by omega)).mono ?_
  rintro e w2 ⟨va, vc, bs, rfl, hl, hown, hd⟩
  have HL := Lib.hid hl
  clear hl
  go_wp2
  go_ret
  exact ⟨va, vc, bs, rfl, HL.out, hown.mono (by omega), hd.away hb (by omega)⟩

/-- A list of n integers that the call has made. -/
def MakesWhole (n most : Nat) (w : World) (e : Ending) (w' : World) : Prop :=
  ∃ g c, ∃ ks : List Int, e = .returned (.slice (some ⟨g, 0, none⟩) n c) ∧ ks.length = n ∧ OwnF w' w.heap.size (.slice (some ⟨g, 0, none⟩) n c) (ks.map (floatOfInt .f32)) ∧ (∀ k ∈ ks, -(most : Int) ≤ k ∧ k ≤ most) ∧ Below w.heap.size w w'

theorem b10At_any (w : World) (a : Option Addr) (len cap : Nat) (k : Nat) (n : Int) (hn : 1 ≤ n) (hn2 : n ≤ 1000000) (hk : k ≤ 1000) (h : BytesIn w a len) :
    Calls Tryd.prog 7 #[.slice a len cap, .int .i64 k, .int .i64 n] w fun e w' => ∃ z, e = .returned (.int .i64 z) ∧ 0 ≤ z ∧ z ≤ n - 1 ∧ w = w' := by
  have hl := h.1
  by_cases h1 : n = 1
  · subst h1
    go_enter Tryd.func7, Tryd.ntmps7
    go_wp2
    go_ret
    exact ⟨0, rfl, by omega, by omega, rfl⟩
  · have d1 : decide (n ≤ 1) = false := by simp; omega
    by_cases h2 : k < len
    · rcases h.2 with h0 | ⟨b, off, rfl, hb, hc⟩
      · omega
      · obtain ⟨z, hz, hz0, hz1⟩ := hc k h2
        clear hc h
        go_enter Tryd.func7, Tryd.ntmps7
        go_wp2
        go_ret
        exact ⟨_, rfl, Int.emod_nonneg _ (by omega), by have := Int.emod_lt_of_pos z (show 0 < n by omega); omega, rfl⟩
    · go_enter Tryd.func7, Tryd.ntmps7
      go_wp2
      go_ret
      exact ⟨_, rfl, Int.emod_nonneg _ (by omega), by have := Int.emod_lt_of_pos ((k : Int) * 37 + 11) (show 0 < n by omega); omega, rfl⟩

end Go.Proofs.YtjibghjongplpaaDoor

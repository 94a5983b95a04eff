/- Rows that are solved, of a volume that is told by its words: the reference's and the program's. -/
import Derived.Test.YtabbjilgpfnacaaGreatEw
namespace Go.Proofs.YtabbjilgpfnacaaGreat
section
open Go.RowKit Ieee
set_option maxRecDepth 100000
set_option linter.unusedVariables false
set_option linter.unusedSimpArgs false

/-- A map, told by its words, or none. -/
structure MapT where
  ok : Bool
  a : Int
  b : Int
  L : List Nat
def noMap : MapT := ⟨false, 0, 0, []⟩
def MRes (t : MapT) (w : World) (e : Ending) (w' : World) : Prop :=
  ∃ s c bs, e = .returned (.tuple #[.agg #[.int .i64 t.a, .int .i64 t.b, .slice s (List.length bs) c], .bool t.ok]) ∧ OwnF w' w.heap.size (.slice s (List.length bs) c) bs ∧ bs.map fl = t.L ∧ Below w.heap.size w w'
theorem MRes.no {w w' : World} (hb : Below w.heap.size w w') : MRes noMap w (.returned (.tuple #[.agg #[.int .i64 0, .int .i64 0, .slice none 0 0], .bool false])) w' :=
  ⟨Option.none, 0, [], rfl, OwnF.nil _ _, rfl, hb⟩

theorem le0_fl (z : Nat) : le32 0 (fl z) = le32 0 z := by
  have h : (0 : Nat) = fl 0 := by decide
  rw [h, le32_fl]
  rw [← h]
theorem fl_le {z : Nat} (h : le32 0 z = true) : fl z = z := by
  have h2 := (le0_parts h).2.2
  unfold fl; rw [h2]; rfl

/-- Whether all costs of a row are at least 0. -/
def goodR (f : Nat → Nat → Nat) (dp wd : Nat) : Bool := (List.range wd).all fun x => (List.range dp).all fun d => le32 0 (f x d)
theorem col_bad (f : Nat → Nat) : ∀ dp, (List.range dp).all (fun d => le32 0 (f d)) = false → ∃ d, d < dp ∧ le32 0 (f d) = false := by
  intro dp h
  rw [List.all_eq_false] at h
  obtain ⟨d, h1, h2⟩ := h
  exact ⟨d, List.mem_range.1 h1, by simpa using h2⟩
theorem nb_of (f : Nat → Nat → Nat) (dp : Nat) : ∀ wd, ∃ nb, nb ≤ wd ∧ (∀ x d, x < nb → d < dp → le32 0 (f x d) = true) ∧ (nb < wd → ∃ d, d < dp ∧ le32 0 (f nb d) = false) ∧ (goodR f dp wd = true ↔ nb = wd) := by
  intro wd
  induction wd with
  | zero => exact ⟨0, Nat.le_refl _, fun x d h => by omega, fun h => by omega, by simp [goodR]⟩
  | succ n ih =>
    obtain ⟨nb, h1, h2, h3, h4⟩ := ih
    have hs : goodR f dp (n + 1) = (goodR f dp n && (List.range dp).all fun d => le32 0 (f n d)) := by unfold goodR; rw [List.range_succ, List.all_append]; simp
    by_cases hn : nb = n
    · cases hc : (List.range dp).all (fun d => le32 0 (f n d))
      · refine ⟨n, by omega, by rw [← hn]; exact h2, fun _ => col_bad _ _ hc, ?_⟩
        rw [hs, hc]; simp
      · refine ⟨n + 1, Nat.le_refl _, fun x d hx hd => ?_, fun h => by omega, ?_⟩
        · by_cases hx2 : x < nb
          · exact h2 x d hx2 hd
          · have : x = n := by omega
            subst this
            rw [List.all_eq_true] at hc
            exact hc d (List.mem_range.2 hd)
        · rw [hs, hc, h4.2 hn]; simp
    · refine ⟨nb, by omega, h2, fun _ => h3 (by omega), ?_⟩
      have : goodR f dp n = false := by
        cases h : goodR f dp n
        · rfl
        · exact absurd (h4.1 h) hn
      rw [hs, this]
      simp; omega

/-- A row that is solved, or none. -/
def RowRes (good : Bool) (R : List Int) (wd : Nat) (w : World) (e : Ending) (w' : World) : Prop :=
  ((good = true ∧ ∃ g c f, e = .returned (.tuple #[.slice (some ⟨g, 0, none⟩) wd c, .float .f32 f, .bool true]) ∧ OwnI w' w.heap.size (.slice (some ⟨g, 0, none⟩) wd c) R) ∨ (good = false ∧ e = .returned (.tuple #[.slice none 0 0, .float .f32 0, .bool false]))) ∧ Below w.heap.size w w'

theorem gc_fl {bs L : List Nat} (h : bs.map fl = L) (wd dp x y d : Nat) : fl (gc bs wd dp x y d) = gc L wd dp x y d := by
  subst h
  unfold gc
  rw [List.getD_eq_getElem?_getD, List.getD_eq_getElem?_getD, List.getElem?_map]
  cases bs[ic wd dp x y + d]? <;> rfl
/-- The disparities of a row of a volume. -/
def rowL (L : List Nat) (wd dp y o m : Nat) : List Int := tabZ wd (rowD (gc L wd dp · y ·) o m dp wd)
def goodL (L : List Nat) (wd dp y : Nat) : Bool := goodR (gc L wd dp · y ·) dp wd
theorem row_facts {bs L : List Nat} (h : bs.map fl = L) (wd dp y : Nat) : ∃ nb, nb ≤ wd ∧ (∀ x d, x < nb → d < dp → gc bs wd dp x y d = gc L wd dp x y d ∧ le32 0 (gc L wd dp x y d) = true) ∧ (nb < wd → ∃ d, d < dp ∧ le32 0 (gc bs wd dp nb y d) = false) ∧ (goodL L wd dp y = true ↔ nb = wd) := by
  obtain ⟨nb, h1, h2, h3, h4⟩ := nb_of (gc L wd dp · y ·) dp wd
  refine ⟨nb, h1, fun x d hx hd => ?_, fun hn => ?_, h4⟩
  · have h5 : le32 0 (gc L wd dp x y d) = true := h2 x d hx hd
    have h6 := h5
    rw [← gc_fl h, le0_fl] at h6
    exact ⟨by rw [← gc_fl h, fl_le h6], h5⟩
  · obtain ⟨d, h5, h6⟩ := h3 hn
    have h7 : le32 0 (gc L wd dp nb y d) = false := h6
    rw [← gc_fl h, le0_fl] at h7
    exact ⟨d, h5, h7⟩
theorem rowRes_of {good : Bool} {R : List Int} {wd nb : Nat} {w w' : World} {e : Ending} (h4 : good = true ↔ nb = wd)
    (h : ((nb = wd ∧ ∃ g c f, e = .returned (.tuple #[.slice (some ⟨g, 0, none⟩) wd c, .float .f32 f, .bool true]) ∧ OwnI w' w.heap.size (.slice (some ⟨g, 0, none⟩) wd c) R) ∨ (nb < wd ∧ e = .returned (.tuple #[.slice none 0 0, .float .f32 0, .bool false]))) ∧ Below w.heap.size w w') : RowRes good R wd w e w' := by
  obtain ⟨h | h, hb⟩ := h
  · exact ⟨.inl ⟨h4.2 h.1, h.2⟩, hb⟩
  · refine ⟨.inr ⟨?_, h.2⟩, hb⟩
    cases hg : good
    · rfl
    · have := h4.1 hg; omega

theorem iRowE (w : World) (vb wd hi dp qv Nv cv y o m : Nat) (bs L : List Nat) (hL : bs.map fl = L)
    (hV : VolAt w vb wd hi dp qv 0 Nv cv bs) (d1 : 1 ≤ wd) (d2 : wd ≤ 24) (d4 : hi ≤ 24) (d5 : 1 ≤ dp) (d6 : dp ≤ 8) (hy : y < hi) (hqv : qv < w.heap.size) (ho : le32 0 o = true) (hm : le32 0 m = true) :
    Calls Tryz.prog 50 #[.pointer (some ⟨vb, 0, none⟩), .agg #[.float .f32 o, .float .f32 m], .int .i64 y] w (RowRes (goodL L wd dp y) (rowL L wd dp y o m) wd w) := by
  obtain ⟨nb, h1, h2, h3, h4⟩ := row_facts hL wd dp y
  refine (solveE w vb wd hi dp qv Nv cv y nb o m bs (gc L wd dp · y ·) hV d1 d2 d4 d5 d6 hy hqv h1 h2 h3 ho hm).mono ?_
  intro e w' h
  rw [rowE_eq d1] at h
  exact rowRes_of h4 h

theorem sRowE (w : World) (vb wd hi dp qv Nv cv pb po y o m : Nat) (bs L : List Nat) (Y : Int) (hY : Y = y) (hL : bs.map fl = L)
    (hV : VolAt w vb wd hi dp qv 0 Nv cv bs) (hP : PrcAt w pb po o m) (d1 : 1 ≤ wd) (d2 : wd ≤ 24) (d4 : hi ≤ 24) (d5 : 1 ≤ dp) (d6 : dp ≤ 8) (hy : y < hi) (hqv : qv < w.heap.size) (ho : le32 0 o = true) (hm : le32 0 m = true) :
    Calls Tryz.prog 61 #[.pointer (some ⟨vb, 0, none⟩), .pointer (some ⟨pb, po, none⟩), .int .i64 Y] w (RowRes (goodL L wd dp y) (rowL L wd dp y o m) wd w) := by
  obtain ⟨nb, h1, h2, h3, h4⟩ := row_facts hL wd dp y
  exact (l04RowE w vb wd hi dp qv Nv cv pb po y nb o m bs (gc L wd dp · y ·) Y hY hV hP d1 d2 d4 d5 d6 hy hqv h1 h2 h3 ho hm).mono fun e w' h => rowRes_of h4 h
end

section
open Go.RowKit Ieee
set_option maxRecDepth 100000
set_option linter.unusedVariables false
set_option linter.unusedSimpArgs false

/-- A loop that appends numbers to the values of a map of its own. -/
structure AccM (w wr : World) (ob : Nat) (a b : Int) (v : Value) (bs : List Nat) (L : List Nat) : Prop where
  bel : Below w.heap.size w wr
  box : BoxN wr ob #[.int .i64 a, .int .i64 b, v] 32
  own : OwnF wr w.heap.size v bs
  ne : some ob ≠ v.ownBlock
  obf : w.heap.size ≤ ob
  con : bs.map fl = L
theorem AccM.step {w wr w1 w2 : World} {ob : Nat} {a b : Int} {r : Nat} {v : Value} {bs L : List Nat} {T : TypeId} {gg cap z : Nat} (h : AccM w wr ob a b v bs L)
    (hb : Below wr.heap.size wr w1) (hr : r < 4294967296) (hfl : fl r = z)
    (hown : w2.ownsRow w.heap.size 25 1 (.slice (some ⟨gg, 0, none⟩) (bs.length + 1) cap) (bs.length + 1) (bs.map (Value.float .f32) ++ [.float .f32 r]))
    (hg : (w1.alloc (.cells #[.float .f32 r] T)).grownBy w2 v.ownBlock) (hat : v.ownBlock = some gg ∨ gg = w1.heap.size + 1) :
    AccM w (w2.setCell ⟨ob, 2, none⟩ (.slice (some ⟨gg, 0, none⟩) (bs.length + 1) cap)) ob a b (.slice (some ⟨gg, 0, none⟩) (bs.length + 1) cap) (bs ++ [r]) (L ++ [z]) := by
  have hal : Below w1.heap.size w1 (w1.alloc (.cells #[.float .f32 r] T)) := (Below.refl _ _).alloc (Nat.le_refl _) _
  have hlt := h.box.lt
  have s1 : wr.heap.size ≤ w1.heap.size := hb.size
  have hgg : gg ≠ ob := by
    rcases hat with e | e
    · intro q; exact h.ne (by rw [e, q])
    · omega
  have b2 : Below w.heap.size w w2 := ((h.bel.trans (hb.mono h.bel.size)).trans (hal.mono (Nat.le_trans h.bel.size s1))).grown hg (by simp; have := h.bel.size; omega) (fun k hk => by have := (h.own.lt hk).1; omega)
  refine ⟨b2.setCell h.obf _, by have := ((h.box.below hb).below hal).grown hg h.ne; have := this.set 2 (.slice (some ⟨gg, 0, none⟩) (bs.length + 1) cap); simpa using this, ⟨?_, ?_⟩, by simp [Value.ownBlock]; exact fun e => hgg e.symm, h.obf, by rw [List.map_append, h.con]; simp [hfl]⟩
  · have k := hown.kept (grown_setCell w2 ⟨ob, 2, none⟩ (.slice (some ⟨gg, 0, none⟩) (bs.length + 1) cap)) (.inr (by simp [Value.ownBlock]; exact hgg))
    simpa using k
  · intro b hb'
    rcases List.mem_append.1 hb' with h1 | h1
    · exact h.own.2 b h1
    · simp at h1; omega
theorem AccM.below {w wr w1 : World} {ob : Nat} {a b : Int} {v : Value} {bs L : List Nat} (h : AccM w wr ob a b v bs L) (hb : Below wr.heap.size wr w1) : AccM w w1 ob a b v bs L :=
  ⟨h.bel.trans (hb.mono h.bel.size), h.box.below hb, h.own.below hb, h.ne, h.obf, h.con⟩
/-- A block that is none of those that are written. -/
theorem AccM.keeps {w1 w2 : World} {ob g gg cap n : Nat} {r : Nat} {v : Value} {T : TypeId} (hg : (w1.alloc (.cells #[.float .f32 r] T)).grownBy w2 v.ownBlock) (h1 : g < w1.heap.size) (h2 : g ≠ ob) (h3 : ∀ k, v.ownBlock = some k → k ≠ g) :
    (w2.setCell ⟨ob, 2, none⟩ (.slice (some ⟨gg, 0, none⟩) n cap)).heap[g]? = w1.heap[g]? := by
  have e1 : (w2.setCell ⟨ob, 2, none⟩ (.slice (some ⟨gg, 0, none⟩) n cap)).heap[g]? = w2.heap[g]? := Below.heap_setCell _ _ _ g (by simpa using h2)
  have e2 := hg.block g (by simp; omega) (fun e => h3 g e.symm rfl)
  rw [e1, e2]
  exact ((Below.refl w1.heap.size w1).alloc (Nat.le_refl _) (.cells #[.float .f32 r] T)).block g h1

/-- The word of a disparity. -/
def iw (n : Int) : Nat := fl (floatOfInt .f32 n)
/-- The disparities of a volume's rows, as words. -/
def rowDW (L : List Nat) (wd dp o m i : Nat) : Nat := iw (rowD (gc L wd dp · (i / wd) ·) o m dp wd (i % wd) : Nat)
def goodM (L : List Nat) (wd hi dp : Nat) : Bool := (List.range hi).all fun y => goodL L wd dp y
def rowsT (L : List Nat) (wd hi dp o m : Nat) : MapT := if goodM L wd hi dp then ⟨true, wd, hi, tab (hi * wd) (rowDW L wd dp o m)⟩ else noMap
theorem rowDW_at {L : List Nat} {wd dp o m x y : Nat} (hx : x < wd) : rowDW L wd dp o m (y * wd + x) = iw (rowD (gc L wd dp · y ·) o m dp wd x : Nat) := by
  unfold rowDW
  have e1 : (y * wd + x) / wd = y := by rw [Nat.mul_comm, Nat.mul_add_div (by omega), Nat.div_eq_of_lt hx, Nat.add_zero]
  have e2 : (y * wd + x) % wd = x := by rw [Nat.mul_comm, Nat.mul_add_mod, Nat.mod_eq_of_lt hx]
  rw [e1, e2]
theorem rowD_lt {C : Nat → Nat → Nat} {o m dp wd : Nat} (h : 1 ≤ dp) (x : Nat) : rowD C o m dp wd x < dp := bkW_lt (tW_lt C o m dp h) _ _ (fstW_lt _ _ h) _
theorem rowsT_no {L : List Nat} {wd hi dp o m y : Nat} (hy : y < hi) (h : goodL L wd dp y = false) : rowsT L wd hi dp o m = noMap := by
  unfold rowsT
  have : goodM L wd hi dp = false := by
    unfold goodM
    rw [List.all_eq_false]
    exact ⟨y, List.mem_range.2 hy, by rw [h]; simp⟩
  rw [this]; rfl
theorem rowsT_yes {L : List Nat} {wd hi dp o m : Nat} (h : ∀ y, y < hi → goodL L wd dp y = true) : rowsT L wd hi dp o m = ⟨true, wd, hi, tab (hi * wd) (rowDW L wd dp o m)⟩ := by
  unfold rowsT
  have : goodM L wd hi dp = true := by
    unfold goodM
    rw [List.all_eq_true]
    exact fun y hy => h y (List.mem_range.1 hy)
  rw [this]; rfl

set_option maxHeartbeats 4000000 in
theorem l04RowsE (w : World) (vb wd hi dp qv Nv cv pb po o m : Nat) (bs L : List Nat) (hL : bs.map fl = L)
    (hV : VolAt w vb wd hi dp qv 0 Nv cv bs) (hP : PrcAt w pb po o m) (d1 : 1 ≤ wd) (d2 : wd ≤ 24) (d3 : 1 ≤ hi) (d4 : hi ≤ 24) (d5 : 1 ≤ dp) (d6 : dp ≤ 8) (hqv : qv < w.heap.size) (ho : le32 0 o = true) (hm : le32 0 m = true) :
    Calls Tryz.prog 42 #[.pointer (some ⟨vb, 0, none⟩), .pointer (some ⟨pb, po, none⟩)] w (MRes (rowsT L wd hi dp o m) w) := by
  obtain ⟨i0, hi0, hz0, hz1, hz2⟩ := info_parts info_f32
  obtain ⟨wA, hwA⟩ : ∃ wA, wA = w.alloc (.cells #[.int .i64 0, .int .i64 0, .slice none 0 0] 32) := ⟨_, rfl⟩
  have hbA : Below w.heap.size w wA := by rw [hwA]; exact (Below.refl _ _).alloc (Nat.le_refl _) _
  have BR : BoxN wA w.heap.size #[.int .i64 0, .int .i64 0, .slice none 0 0] 32 := by rw [hwA]; exact BoxN.last w _ _
  have hVA := hV.below hbA
  have KR := Lib.hid (fun W (hb : Below wA.heap.size wA W) y (hy : y < hi) => sRowE W vb wd hi dp qv Nv cv pb po y o m bs L y rfl hL (hVA.below hb) ((hP.below hbA).below hb) d1 d2 d4 d5 d6 hy (Nat.lt_of_lt_of_le hqv (Nat.le_trans hbA.size hb.size)) ho hm)
  have VA := Lib.hid (fun W (hb : Below wA.heap.size wA W) => (hVA.below hb).box)
  have RA := Lib.hid (fun W (hb : Below wA.heap.size wA W) => BR.below hb)
  have HWA := Lib.hid hwA
  have HBA := Lib.hid hbA
  have hrl : w.heap.size < wA.heap.size := BR.lt
  have hvl := hVA.box.lt
  clear hV hP hqv ho hm hL hwA hbA BR hVA
  have wd24 : (wd : Int) ≤ 24 := by omega
  have hi24 : (hi : Int) ≤ 24 := by omega
  go_enter Tryz.func42, Tryz.ntmps42
  go_upto_region 1 with fail
  rw [← HWA.out]
  go_cut [6] from 12 to 21 (fun v6 wx => ∃ (ob : Nat) (v : Value), v6 = .pointer (some ⟨ob, 0, none⟩) ∧ AccM wA wx ob wd hi v [] [])
  case first =>
    obtain ⟨z0, z1, -, -, -, -, -, -⟩ := (VA.out wA (Below.refl _ _)).four
    have hal : ∀ (W : World) (o : Obj), Below W.heap.size W (W.alloc o) := fun W o => (Below.refl _ _).alloc (Nat.le_refl _) _
    obtain ⟨y0, y1, -, -, -, -, -, -⟩ := (VA.out _ (hal wA (.cells #[] 25))).four
    obtain ⟨x0, x1, -, -, -, -, -, -⟩ := (VA.out _ (hal wA (.cells #[.int .i64 0, .int .i64 0, .slice none 0 0] 32))).four
    obtain ⟨u0, u1, -, -, -, -, -, -⟩ := (VA.out _ ((hal wA (.cells #[.int .i64 0, .int .i64 0, .slice none 0 0] 32)).trans ((hal _ (.cells #[] 25)).mono (hal wA _).size))).four
    obtain ⟨t0, t1, -, -, -, -, -, -⟩ := (VA.out _ ((hal wA (.cells #[] 25)).trans ((hal _ (.cells #[.int .i64 0, .int .i64 0, .slice none 0 0] 32)).mono (hal wA _).size))).four
    go_region
    all_goals go_wp2_with fail
    all_goals go_meet
    · have hs : (wA.alloc (.cells #[] 25)).heap.size = wA.heap.size + 1 := by simp
      have hB := BoxN.last (wA.alloc (.cells #[] 25)) #[.int .i64 wd, .int .i64 hi, .slice (some ⟨wA.heap.size, 0, none⟩) 0 0] 32
      rw [hs] at hB
      exact ⟨wA.heap.size + 1, .slice (some ⟨wA.heap.size, 0, none⟩) 0 0, rfl, below_drewN ((hal _ _).trans ((hal _ _).mono (hal _ _).size)) 1, hB.drewN 1, ((ownF_startW wA (fun _ => 0)).below (hal _ _)).drewN 1, by simp [Value.ownBlock], by omega, rfl⟩
    · have hs : (wA.alloc (.cells #[.int .i64 wd, .int .i64 hi, .slice (some ⟨wA.heap.size + 1, 0, none⟩) 0 0] 32)).heap.size = wA.heap.size + 1 := by simp
      have hO := ownF_startW (wA.alloc (.cells #[.int .i64 wd, .int .i64 hi, .slice (some ⟨wA.heap.size + 1, 0, none⟩) 0 0] 32)) (fun _ => 0)
      rw [hs] at hO
      exact ⟨wA.heap.size, .slice (some ⟨wA.heap.size + 1, 0, none⟩) 0 0, rfl, below_drewN ((hal _ _).trans ((hal _ _).mono (hal _ _).size)) 1, ((BoxN.last wA _ _).below (hal _ _)).drewN 1, (hO.mono (by omega)).drewN 1, by simp [Value.ownBlock], Nat.le_refl _, rfl⟩
  case rest =>
    obtain ⟨ob, v0, rfl, hacc⟩ := hcut
    have HACC := Lib.hid hacc
    clear hacc
    go_wp2_with fail
    go_loopw [7] (fun v7 wr => ∃ (y : Nat) (v : Value) (cs : List Nat), v7 = .int .i64 y ∧ y ≤ hi ∧ AccM wA wr ob wd hi v cs (tab (y * wd) (rowDW L wd dp o m)) ∧ ∀ i, i < y → goodL L wd dp i = true) (fun v7 _ => hi - (intOf v7).toNat)
    case atStart => exact ⟨0, _, [], rfl, Nat.zero_le _, by rw [Nat.zero_mul]; exact HACC.out, fun i hi => by omega⟩
    case round =>
      clear HACC
      obtain ⟨y, v1, cs, rfl, hy, hacc, hgood⟩ := hrel
      obtain ⟨z0, z1, -, -, -, -, -, -⟩ := (VA.out _ hacc.bel).four
      have HACC := Lib.hid hacc
      have HGOOD := Lib.hid hgood
      clear hacc hgood
      by_cases hlt : y < hi
      · have hltI : (y : Int) < hi := by omega
        have KR1 := Lib.hid (KR.out wr HACC.out.bel y hlt)
        go_wp2_with fail
        (with_reducible refine KR1.out.mono ?_)
        rintro e w2 ⟨h | h, hb2⟩
        · obtain ⟨hg1, g, c, fw, rfl, hrow⟩ := h
          have hcell : ∀ x, x < wd → w2.cell? ⟨g, x, none⟩ = some (.int .i64 (rowD (gc L wd dp · y ·) o m dp wd x : Nat)) := fun x hx => by
            have := hrow.cellAt x (by unfold rowL; rw [tabZ_len]; exact hx)
            unfold rowL at this
            rw [tabZ_getD hx] at this
            exact this
          have hgl := hrow.lt (k := g) rfl
          have hob := HACC.out.box.lt
          have HA2 := Lib.hid (show AccM wA w2 ob wd hi v1 cs (tab (y * wd + 0) (rowDW L wd dp o m)) ∧ g < w2.heap.size ∧ g ≠ ob ∧ (∀ k, v1.ownBlock = some k → k ≠ g) ∧ (∀ x, x < wd → w2.cell? ⟨g, x, none⟩ = some (.int .i64 (rowD (gc L wd dp · y ·) o m dp wd x : Nat))) from
            ⟨HACC.out.below hb2, hgl.2, by omega, fun k hk => by have := (HACC.out.own.lt hk).2; omega, hcell⟩)
          have hyw : y * wd ≤ 24 * 24 := Nat.mul_le_mul (by omega) d2
          have HG1 := Lib.hid hg1
          clear hrow hcell hgl hob hb2 hg1 KR1
          go_wp2_with fail
          go_loopw [11] (fun v11 wq => ∃ (x : Nat) (v : Value) (cs : List Nat), v11 = .int .i64 x ∧ x ≤ wd ∧ AccM wA wq ob wd hi v cs (tab (y * wd + x) (rowDW L wd dp o m)) ∧ g < wq.heap.size ∧ g ≠ ob ∧ (∀ k, v.ownBlock = some k → k ≠ g) ∧ (∀ x, x < wd → wq.cell? ⟨g, x, none⟩ = some (.int .i64 (rowD (gc L wd dp · y ·) o m dp wd x : Nat)))) (fun v11 _ => wd - (intOf v11).toNat)
          case atStart => exact ⟨0, v1, cs, rfl, Nat.zero_le _, HA2.out⟩
          case round =>
            clear HA2
            obtain ⟨x, v2, cs2, rfl, hx, hacc, hgl, hgo, hgv, hcell⟩ := hrel
            have HAC := Lib.hid (And.intro hacc (And.intro hgl (And.intro hgo (And.intro hgv hcell))))
            clear hgl hgo hgv hcell
            by_cases hlx : x < wd
            · have hlxI : (x : Int) < wd := by omega
              have hbel := hacc.bel
              have hown := hacc.own
              have hne := hacc.ne
              have hobf := hacc.obf
              have hbox := hacc.box
              have hLn : cs2.length ≤ 5000 := by
                have h6 : cs2.length = y * wd + x := by have := congrArg List.length hacc.con; rwa [List.length_map, tab_length] at this
                omega
              have hB := hacc.box.lt
              have hBs := hbel.size
              clear hacc
              have cx := HAC.out.2.2.2.2 x hlx
              have hrd := rowD_lt (C := (gc L wd dp · y ·)) (o := o) (m := m) (wd := wd) d5 x
              obtain ⟨t, ht⟩ : ∃ t, t = rowD (gc L wd dp · y ·) o m dp wd x := ⟨_, rfl⟩
              rw [← ht] at cx hrd
              have HT := Lib.hid ht
              have hr32 := ofInt_lt (t : Int)
              obtain ⟨r, hr⟩ : ∃ r, floatOfInt .f32 (t : Int) = r := ⟨_, rfl⟩
              rw [hr] at hr32
              have cx2 : ∀ ob', (wr.alloc ob').cell? ⟨g, x, none⟩ = some (.int .i64 (t : Int)) := fun ob' => ((((Below.refl wr.heap.size wr).alloc (Nat.le_refl _) ob')).cell (p := ⟨g, x, none⟩) HAC.out.2.1).trans cx
              obtain ⟨c0, c1, c2, -, -, -⟩ := hbox.three.cells
              have c4 : ∀ ob', (wr.alloc ob').cell? ⟨ob, 2, none⟩ = some v2 := fun ob' => (hbox.below ((Below.refl wr.heap.size wr).alloc (Nat.le_refl _) ob')).three.cells.2.2.1
              clear ht
              have HR := Lib.hid hr
              go_wp2_with fail
              go_region_law (refine step_append_lies _ (by rfl) _ _ _ (by rfl) wA.heap.size 25 i0 _ 1 4 Tryz.underlying22 hi0 hz0 hz1 hz2 rfl (by omega) v2 cs2.length _ (by rfl) ((World.ownsRow.alloc hown.1 _).kept (grown_drewN _ 1 none) (by cases v2.ownBlock <;> simp)) ⟨wr.heap.size, 0, none⟩ 1 1 [.float .f32 r] (by rfl) (by rfl) (cell_one_new _ _ _) (by simp [Value.oneCell']) (by omega) (by unfold maxLen; omega) (by omega) (by simp; omega) (wr.heap.size + 1) (by simp) ?_; intro gg cap w2 hown2 hgrow hat hlt2; obtain ⟨q0, q1, q2, g0, g1, g2⟩ := ((((hbox.below ((Below.refl wr.heap.size wr).alloc (Nat.le_refl _) _)).drewN 1).grown hgrow hne).three.cells))
              all_goals
                have hg2 : ((wr.drewN 1).alloc (.cells #[.float .f32 r] 25)).grownBy w2 v2.ownBlock := hgrow
                have HG2 := Lib.hid (And.intro hown2 (And.intro hg2 hat))
                clear hown2 hgrow hat hg2 cx2 c4 c0 c1 c2 q0 q1 q2 g0 g1
                go_wp2_with fail
                go_roundw
                case rel =>
                  obtain ⟨ho2, hg2, hat2⟩ := HG2.out
                  have hst := HAC.out.1.step (w1 := wr.drewN 1) (T := 25) (z := rowDW L wd dp o m (y * wd + x)) (below_drewN (Below.refl _ _) 1) hr32 (by rw [rowDW_at hlx, ← HT.out, ← HR.out]; rfl) ho2 hg2 hat2
                  have hk := AccM.keeps (gg := gg) (cap := cap) (n := cs2.length + 1) hg2 HAC.out.2.1 HAC.out.2.2.1 HAC.out.2.2.2.1
                  have hsz : wr.heap.size + 1 ≤ w2.heap.size := by have := hg2.size; simp at this; exact this
                  rw [← tab_succ, Nat.add_assoc] at hst
                  refine ⟨x + 1, _, cs2 ++ [r], by go_num, by omega, hst, by have := HAC.out.2.1; simp; omega, HAC.out.2.2.1, fun k hk2 => ?_, fun z hz => (World.cell?_of_block hk).trans (HAC.out.2.2.2.2 z hz)⟩
                  have e : gg = k := by simpa [Value.ownBlock] using hk2
                  subst e
                  rcases hat2 with h | h
                  · exact HAC.out.2.2.2.1 gg h
                  · have := HAC.out.2.1
                    have h' : gg = wr.heap.size + 1 := h
                    omega
                case measure => simp [intOf]; omega
            · obtain rfl : wd = x := by omega
              clear hacc
              go_wp2_with fail
              go_roundw
              case rel =>
                refine ⟨y + 1, v2, cs2, by go_num, by omega, by rw [Nat.add_mul, Nat.one_mul]; exact HAC.out.1, fun i hi_ => ?_⟩
                by_cases hh : i < y
                · exact HGOOD.out i hh
                · have : i = y := by omega
                  subst this; exact HG1.out
              case measure => simp [intOf]; omega
        · obtain ⟨hg1, rfl⟩ := h
          have hbF := HACC.out.bel.trans (hb2.mono HACC.out.bel.size)
          have hz := RA.out w2 hbF
          obtain ⟨d0, e1, e2, g0, g1, g2⟩ := hz.three.cells
          have hlt3 := hz.lt
          have HF := Lib.hid (And.intro hg1 (HBA.out.trans (hbF.mono HBA.out.size)))
          clear hb2 hbF hz hg1 KR1
          go_wp2_with fail
          refine bodyPost_ret (v := .tuple #[.agg #[.int .i64 0, .int .i64 0, .slice none 0 0], .bool false]) (by simp [results, Tryz.results42, go_sem, d0, e1, e2, hlt3]) rfl ?_
          rw [rowsT_no hlt HF.out.1]
          exact MRes.no (((HF.out.2.setCell (by simp) _).setCell (by simp) _).setCell (by simp) _)
      · obtain rfl : hi = y := by omega
        have hz := RA.out wr HACC.out.bel
        obtain ⟨d0, e1, e2, g0, g1, g2⟩ := hz.three.cells
        obtain ⟨f0, f1, f2, -, -, -⟩ := HACC.out.box.three.cells
        have hlt3 := hz.lt
        have hlt4 := HACC.out.box.lt
        have hobf := HACC.out.obf
        have hne : ob ≠ w.heap.size := by omega
        have hpp := Lib.hid (rowsT_yes (o := o) (m := m) HGOOD.out)
        have hbF := HBA.out.trans (HACC.out.bel.mono HBA.out.size)
        have hown := HACC.out.own.mono HBA.out.size
        have HF := Lib.hid (And.intro hbF (And.intro hown HACC.out.con))
        obtain ⟨s, c, hv1⟩ : ∃ s c, v1 = .slice s cs.length c := by
          rcases HACC.out.own.form with ⟨h1, h2⟩ | ⟨q, cap, h1, h2⟩
          · exact ⟨none, 0, by rw [h1, h2]; rfl⟩
          · exact ⟨_, cap, h1⟩
        subst hv1
        clear hz hbF hown
        go_wp2_with fail
        refine bodyPost_ret (v := .tuple #[.agg #[.int .i64 wd, .int .i64 hi, .slice s cs.length c], .bool true]) (by simp [results, Tryz.results42, go_sem, d0, e1, e2, hlt3]) rfl ?_
        rw [hpp.out]
        exact ⟨s, c, cs, rfl, (((HACC.out.own.set hrl _).set hrl _).set hrl _).mono HBA.out.size, HF.out.2.2, ((HF.out.1.setCell (by simp) _).setCell (by simp) _).setCell (by simp) _⟩

theorem MRes.of_box {t : MapT} {w W W2 : World} {s : Option Addr} {c ob : Nat} {bs : List Nat} (hb : Below w.heap.size w W) (hl : ob < W.heap.size) (ho : w.heap.size ≤ ob) (hown : OwnF W2 W.heap.size (.slice s bs.length c) bs) (hcon : bs.map fl = t.L) (hb2 : Below W.heap.size W W2) (v0 v1 v2 : Value) :
    MRes t w (.returned (.tuple #[.agg #[.int .i64 t.a, .int .i64 t.b, .slice s bs.length c], .bool t.ok])) (((W2.setCell ⟨ob, 0, none⟩ v0).setCell ⟨ob, 1, none⟩ v1).setCell ⟨ob, 2, none⟩ v2) :=
  ⟨s, c, bs, rfl, (((hown.set hl _).set hl _).set hl _).mono hb.size, hcon, (((hb.trans (hb2.mono hb.size)).setCell ho _).setCell ho _).setCell ho _⟩

theorem prOk_parts {o m : Nat} (h : prOk o m = true) : le32 0 o = true ∧ le32 0 m = true := by
  unfold prOk at h
  simp only [Bool.and_eq_true] at h
  obtain ⟨h1, h2, h3, h4⟩ := h
  refine ⟨h3, ?_⟩
  obtain ⟨a1, a2, a3⟩ := le0_parts h3
  unfold le32 at h4 h3 ⊢
  simp only [Bool.and_eq_true, Bool.not_eq_true', decide_eq_true_eq] at h3 h4 ⊢
  exact ⟨⟨h3.1.1, h4.1.2⟩, by omega⟩

set_option maxHeartbeats 2000000 in
/-- SolveRows of a volume that is right, told by its words, with right prices. -/
theorem sSolveRowsE (w : World) (wd hi dp N qv cv o m : Nat) (bs L : List Nat) (hL : bs.map fl = L) (hv : vVol wd hi dp N = true) (hs : SlF w (.slice (some ⟨qv, 0, none⟩) N cv) bs) (hqv : qv < w.heap.size) (hp : prOk o m = true) :
    Calls Tryz.prog 30 #[.agg #[.int .i64 wd, .int .i64 hi, .int .i64 dp, .slice (some ⟨qv, 0, none⟩) N cv], .agg #[.float .f32 o, .float .f32 m]] w (MRes (rowsT L wd hi dp o m) w) := by
  obtain ⟨hM, d1, d2, d3, d4, d5, d6, d7, d8⟩ := vVol_picE hv
  obtain ⟨h0, hm⟩ := prOk_parts hp
  obtain ⟨W1, hW1⟩ : ∃ W, W = (w.alloc (.cells #[.int .i64 wd, .int .i64 hi, .int .i64 dp, .slice (some ⟨qv, 0, none⟩) N cv] 62)).alloc (.cells #[.float .f32 o, .float .f32 m] 37) := ⟨_, rfl⟩
  have hb1 : Below w.heap.size w W1 := by rw [hW1]; exact below_two w _ _
  have BV1 : BoxN W1 w.heap.size #[.int .i64 wd, .int .i64 hi, .int .i64 dp, .slice (some ⟨qv, 0, none⟩) N cv] 62 := by rw [hW1]; exact BoxN.first _ _ _ _
  have BP1 : BoxN W1 (w.heap.size + 1) #[.float .f32 o, .float .f32 m] 37 := by rw [hW1]; exact BoxN.second _ _ _ _
  obtain ⟨W0, hW0⟩ : ∃ W, W = W1.alloc (.cells #[.int .i64 0, .int .i64 0, .slice none 0 0] 32) := ⟨_, rfl⟩
  obtain ⟨hbx, BZ, -⟩ := box_new hW0
  have hs1 : W1.heap.size = w.heap.size + 2 := by rw [hW1]; simp
  rw [hs1] at BZ
  have hb0 := hb1.trans (hbx.mono hb1.size)
  have BV := BV1.below hbx
  have BP := BP1.below hbx
  have hp0 := BP.cell 0
  have hp1 := BP.cell 1
  simp only [List.size_toArray, List.length_cons, List.length_nil, List.getElem?_toArray, List.getElem?_cons_zero, List.getElem?_cons_succ] at hp0 hp1
  have hVW : VolAt W0 w.heap.size wd hi dp qv 0 N cv bs := ⟨BV, hs.below hb0, by have := hs.size.1; omega⟩
  have hPW : PrcAt W0 (w.heap.size + 1) 0 o m := ⟨BP.lt, hp0, hp1⟩
  obtain ⟨c0, c1, c2, c3⟩ := four_of_box BV
  have KI0 := Lib.hid (l03IsE W0 w.heap.size wd hi dp (some ⟨qv, 0, none⟩) N cv (by omega) c0 c1 c2 c3)
  rw [hv] at KI0
  have KI1 := Lib.hid (fun n => l04IsE (W0.drewN n) (w.heap.size + 1) 0 o m hp0 hp1)
  rw [hp] at KI1
  have KR := Lib.hid (fun n => l04RowsE (W0.drewN n) w.heap.size wd hi dp qv N cv (w.heap.size + 1) 0 o m bs L hL (hVW.drewN n) (hPW.below (below_drewN (Below.refl _ _) n)) d1 d2 d3 d4 d6 d7 (by have := hb0.size; show qv < W0.heap.size; omega) h0 hm)
  have HB := Lib.hid (And.intro hb0 BZ)
  rw [hW1] at hW0
  have HW0 := Lib.hid hW0
  clear hL hv hs hp hM h0 hm hW1 hb1 BV1 BP1 hW0 hbx BZ hb0 BV BP hp0 hp1 hVW hPW c0 c1 c2 c3 hs1
  clear W1
  obtain ⟨t, ht⟩ : ∃ t, t = rowsT L wd hi dp o m := ⟨_, rfl⟩
  rw [← ht] at KR ⊢
  clear ht
  go_enter Tryz.func30, Tryz.ntmps30
  go_wp2_with fail
  rw [← HW0.out]
  refine KI0.out.mono ?_
  rintro e w1 ⟨rfl, n, rfl⟩
  go_wp2_with fail
  refine (KI1.out _).mono ?_
  rintro e w1 ⟨rfl, n2, rfl⟩
  rw [World.drewN_drewN]
  go_wp2_with fail
  refine (KR.out _).mono ?_
  rintro e w2 ⟨s, c, bs, rfl, ho, hc, hb⟩
  have hz := (HB.out.2.drewN (n + n2)).below hb
  obtain ⟨d0, e1, e2, g0, g1, g2⟩ := hz.three.cells
  have hlt3 := hz.lt
  have HF := Lib.hid (And.intro ho (And.intro hc hb))
  clear ho hc hb hz
  go_wp2_with fail
  refine bodyPost_ret (v := .tuple #[.agg #[.int .i64 t.a, .int .i64 t.b, .slice s bs.length c], .bool t.ok]) (by simp [results, Tryz.results30, go_sem, d0, e1, e2, hlt3]) rfl ?_
  exact MRes.of_box (below_drewN HB.out.1 (n + n2)) (HB.out.2.drewN (n + n2)).lt (by omega) HF.out.1 HF.out.2.1 HF.out.2.2 _ _ _
end

section
open Go.RowKit Ieee Go.Shelf
set_option maxRecDepth 100000
set_option linter.unusedVariables false
set_option linter.unusedSimpArgs false

@[go_sem] theorem run_field_greysE (a b : Int) (o : Option Addr) (n k : Nat) (w : World) : (Instr.field 35 (.agg #[.int .i64 a, .int .i64 b, .slice o n k]) 2).run Tryz.prog w = .ok (.slice o n k) w := by rfl

theorem mapOfE (w : World) (wd hi : Nat) (fv : Value) (g : Nat → Nat → Nat) (hw : wd ≤ 24) (hh : hi ≤ 24) (hf : Gives2 w fv wd hi g) :
    Calls Tryz.prog 51 #[.int .i64 wd, .int .i64 hi, fv] w (MakesPic w wd hi g) := by
  have ha := alE w (.cells #[.int .i64 0, .int .i64 0, .slice none 0 0] 32)
  have B := BoxN.last w #[.int .i64 0, .int .i64 0, .slice none 0 0] 32
  have K := Lib.hid (made_any _ wd hi fv g hw hh (hf.below ha))
  have HB := Lib.hid B
  have HA := Lib.hid ha
  clear B ha hf
  go_enter Tryz.func51, Tryz.ntmps51
  go_wp2_with fail
  refine K.out.mono ?_
  rintro e w2 ⟨a, c, bs, rfl, hown, hcon, hb2⟩
  have hbb := HA.out.trans (hb2.mono HA.out.size)
  obtain ⟨d0, d1, d2, g0, g1, g2⟩ := (HB.out.below hb2).three.cells
  have hz : w.heap.size < w2.heap.size := by have := hb2.size; simp at this; omega
  go_wp2
  refine bodyPost_ret (v := .agg #[.int .i64 wd, .int .i64 hi, .slice a bs.length c]) (by simp [results, Tryz.results51, go_sem, d0, d1, d2, hz]) rfl ?_
  exact ⟨a, c, bs, rfl, (((hown.set (by first | omega | (simp; done) | (simp; omega)) _).set (by first | omega | (simp; done) | (simp; omega)) _).set (by first | omega | (simp; done) | (simp; omega)) _).mono (by first | omega | (simp; done) | (simp; omega)), hcon, ((hbb.setCell (by first | omega | (simp; done) | (simp; omega)) _).setCell (by first | omega | (simp; done) | (simp; omega)) _).setCell (by first | omega | (simp; done) | (simp; omega)) _⟩

theorem info_i64s : (Tryz.prog.info? 81).map (fun i => (i.zero, i.size, i.bytes)) = some (some (.slice none 0 0), 1, 24) := by kernel_rfl

/-- Rows of numbers in memory; their blocks are none of two others. -/
def RowsX (W : World) (f bx : Nat) (vals : List Value) (T : Nat → Nat → Nat) (n : Nat) : Prop :=
  ∀ i, i < vals.length → ∃ g c, vals[i]? = some (.slice (some ⟨g, 0, none⟩) n c) ∧ g < W.heap.size ∧ g ≠ f ∧ g ≠ bx ∧ ∀ d, d < n → W.cell? ⟨g, d, none⟩ = some (.int .i64 (T i d : Nat))
theorem RowsX.below {W W' : World} {f bx : Nat} {vals : List Value} {T : Nat → Nat → Nat} {n : Nat} (h : RowsX W f bx vals T n) (hb : Below W.heap.size W W') : RowsX W' f bx vals T n := fun i hi => by
  obtain ⟨g, c, h1, h2, h3, h4, h5⟩ := h i hi
  exact ⟨g, c, h1, Nat.lt_of_lt_of_le h2 hb.size, h3, h4, fun d hd => (hb.cell (p := ⟨g, d, none⟩) h2).trans (h5 d hd)⟩
theorem RowsX.snoc {W W1 : World} {f f' bx : Nat} {vals : List Value} {T : Nat → Nat → Nat} {n g c : Nat} {v : Value} (h : RowsX W f bx vals T n) (hg : W.grownBy W1 (some f)) (hf : f' = f ∨ W.heap.size ≤ f')
    (h2 : g < W.heap.size) (h3 : g ≠ f) (h3b : g ≠ bx) (h4 : ∀ d, d < n → W.cell? ⟨g, d, none⟩ = some (.int .i64 (T vals.length d : Nat))) : RowsX (W1.setCell ⟨bx, 0, none⟩ v) f' bx (vals ++ [.slice (some ⟨g, 0, none⟩) n c]) T n := fun i hi => by
  have key : ∀ (k : Nat), k < W.heap.size → k ≠ f → k ≠ bx → (W1.setCell ⟨bx, 0, none⟩ v).heap[k]? = W.heap[k]? := fun k hk hne hnb => (Below.heap_setCell _ _ _ k (by simpa using hnb)).trans (hg.block k hk (by intro e; injection e with e; omega))
  have hsz : (W1.setCell ⟨bx, 0, none⟩ v).heap.size = W1.heap.size := by simp
  by_cases hh : i < vals.length
  · obtain ⟨g1, c1, k1, k2, k3, k4, k5⟩ := h i hh
    exact ⟨g1, c1, by rw [List.getElem?_append_left hh]; exact k1, by rw [hsz]; exact Nat.lt_of_lt_of_le k2 hg.size, by omega, k4, fun d hd => (World.cell?_of_block (key g1 k2 k3 k4)).trans (k5 d hd)⟩
  · have : i = vals.length := by rw [List.length_append] at hi; simp at hi; omega
    subst this
    exact ⟨g, c, by simp, by rw [hsz]; exact Nat.lt_of_lt_of_le h2 hg.size, by omega, h3b, fun d hd => (World.cell?_of_block (key g h2 h3 h3b)).trans (h4 d hd)⟩

theorem solveRows1_gives {W0 : World} {f bx fc wd hi : Nat} {vals : List Value} {R : Nat → Nat → Nat} (hb : Boxed W0 bx 80 (.slice (some ⟨f, 0, none⟩) hi fc)) (ho : ∀ i u, vals[i]? = some u → W0.cell? ⟨f, i, none⟩ = some u) (hf : f < W0.heap.size) (hl : vals.length = hi) (hr : RowsX W0 f bx vals R wd) (hw : wd ≤ 24) (hh : hi ≤ 24) (hR : ∀ i d, R i d < 8) :
    Gives2 W0 (.func (.func 52) #[] #[.pointer (some ⟨bx, 0, none⟩)]) wd hi (fun x y => iw (R y x : Nat)) := by
  refine ⟨52, _, rfl, Tryz.call52, fun x y W hx hy hbW => ?_⟩
  obtain ⟨g, c, h1, h2, h3, h4, h5⟩ := hr y (by omega)
  have c0 := (hbW.cell (p := ⟨bx, 0, none⟩) hb.lt).trans hb.cell
  have c1 := (hbW.cell (p := ⟨f, y, none⟩) hf).trans (ho y _ h1)
  have c2 := (hbW.cell (p := ⟨g, x, none⟩) h2).trans (h5 x hx)
  have hRR := hR y x
  obtain ⟨z, hzr⟩ : ∃ z, R y x = z := ⟨_, rfl⟩
  rw [hzr] at c2 hRR
  have hzz := Lib.hid hzr
  obtain ⟨vz, hvz⟩ : ∃ vz, floatOfInt .f32 (z : Int) = vz := ⟨_, rfl⟩
  have HV := Lib.hid hvz
  have xI : (x : Int) < wd := by omega
  have yI : (y : Int) < hi := by omega
  clear hb ho hr hbW h5 h1 hzr
  show Calls _ _ #[.int .i64 x, .int .i64 y, .pointer (some ⟨bx, 0, none⟩)] _ _
  go_enter Tryz.func52, Tryz.ntmps52
  go_wp2_with fail
  go_ret
  refine ⟨_, rfl, ?_, ?_, Below.refl _ _⟩
  · first | exact ofInt_lt _ | (rw [← HV.out]; exact ofInt_lt _)
  · first | (rw [hzz.out]; rfl) | (rw [← HV.out, hzz.out]; rfl)

theorem rowOkE (w : World) (wd hi dp Nv y : Nat) (sv : Option Addr) (cv o m : Nat) (hv : vVol wd hi dp Nv = true) (hNv : Nv ≤ 100000) (hy : y < hi) (hh : hi ≤ 24) (hp : prOk o m = true) (ho : o < 4294967296) (hm : m < 4294967296) :
    Calls Tryz.prog 49 #[.agg #[.int .i64 wd, .int .i64 hi, .int .i64 dp, .slice sv Nv cv], .agg #[.float .f32 o, .float .f32 m], .int .i64 y] w fun e w' => e = .returned (.bool true) ∧ Below w.heap.size w w' := by
  have KV := Lib.hid (fun w => iPricesE w o m ho hm)
  rw [hp] at KV
  have hin : (decide ((0 : Int) ≤ y) && decide ((y : Int) ≤ (hi : Int) - 1)) = true := by simp; omega
  have h24 : (hi : Int) ≤ 24 := by omega
  have hb0 := below_two w (.cells #[.int .i64 wd, .int .i64 hi, .int .i64 dp, .slice sv Nv cv] 62) (.cells #[.float .f32 o, .float .f32 m] 37)
  have BV := BoxN.first w #[.int .i64 wd, .int .i64 hi, .int .i64 dp, .slice sv Nv cv] 62 (.cells #[.float .f32 o, .float .f32 m] 37)
  have BP := BoxN.second w #[.float .f32 o, .float .f32 m] 37 (.cells #[.int .i64 wd, .int .i64 hi, .int .i64 dp, .slice sv Nv cv] 62)
  have HB0 := Lib.hid hb0
  clear hb0 hp ho hm
  go_enter Tryz.func49, Tryz.ntmps49
  go_wp2_with fail
  refine (validVolume_any _ _ _ _ _ _ (by omega) _).mono ?_
  rw [hv]
  rintro e w1 ⟨rfl, hb1⟩
  have BP1 := BP.below hb1
  have BV1 := BV.below hb1
  have HB1 := Lib.hid (HB0.out.trans (hb1.mono HB0.out.size))
  have zp0 := BP1.cell 0
  have zp1 := BP1.cell 1
  simp only [List.size_toArray, List.length_cons, List.length_nil, List.getElem?_toArray, List.getElem?_cons_zero, List.getElem?_cons_succ] at zp0 zp1
  clear hb1 BP BV
  go_wp2_with fail
  clear zp0 zp1
  refine (KV.out _).mono ?_
  rintro e w2 ⟨rfl, hb2⟩
  obtain ⟨y0, y1, y2, y3, -, -, -, -⟩ := (BV1.below hb2).four
  have HB2 := Lib.hid (HB1.out.trans (hb2.mono HB1.out.size))
  clear hb2 BV1 BP1
  go_wp2_with fail
  refine (in_any _ _ _ _).mono ?_
  rw [hin]
  rintro e w' ⟨rfl, rfl⟩
  clear hin
  go_wp2
  go_ret
  exact ⟨rfl, HB2.out⟩

set_option maxHeartbeats 4000000 in
theorem iSolveRowsE (w : World) (wd hi dp Nv qv cv vo vm : Nat) (bs L : List Nat) (hL : bs.map fl = L) (hvv : vVol wd hi dp Nv = true) (hv : SlF w (.slice (some ⟨qv, 0, none⟩) Nv cv) bs) (hqv : qv < w.heap.size) (hp : prOk vo vm = true) (ho : vo < 4294967296) (hm : vm < 4294967296) :
    Calls Tryz.prog 33 #[.agg #[.int .i64 wd, .int .i64 hi, .int .i64 dp, .slice (some ⟨qv, 0, none⟩) Nv cv], .agg #[.float .f32 vo, .float .f32 vm]] w (MRes (rowsT L wd hi dp vo vm) w) := by
  obtain ⟨hM, d1, d2, d3, d4, d5, d6, d7, d8⟩ := vVol_picE hvv
  obtain ⟨hO, hMo⟩ := prOk_parts hp
  have hlv : bs.length = wd * hi * dp := by have := hv.size.1; omega
  have hNv : Nv ≤ 100000 := by omega
  obtain ⟨i0, hi0, hz0, hz1, hz2⟩ := info_parts info_i64s
  have KR := Lib.hid (fun w => rowOkE w wd hi dp Nv 0 (some ⟨qv, 0, none⟩) cv vo vm hvv hNv (by omega) d4 hp ho hm)
  have KS := Lib.hid (fun w vb y hV hy hq => iRowE w vb wd hi dp qv Nv cv y vo vm bs L hL hV d1 d2 d4 d6 d7 hy hq hO hMo)
  have hb0 := (below_two w (.cells #[.int .i64 wd, .int .i64 hi, .int .i64 dp, .slice (some ⟨qv, 0, none⟩) Nv cv] 62) (.cells #[.float .f32 vo, .float .f32 vm] 37)).alloc (by simp; omega) (.cells #[.int .i64 0, .int .i64 0, .slice none 0 0] 32)
  have BV := (BoxN.first w #[.int .i64 wd, .int .i64 hi, .int .i64 dp, .slice (some ⟨qv, 0, none⟩) Nv cv] 62 (.cells #[.float .f32 vo, .float .f32 vm] 37)).below (alE _ (.cells #[.int .i64 0, .int .i64 0, .slice none 0 0] 32))
  have BP := (BoxN.second w #[.float .f32 vo, .float .f32 vm] 37 (.cells #[.int .i64 wd, .int .i64 hi, .int .i64 dp, .slice (some ⟨qv, 0, none⟩) Nv cv] 62)).below (alE _ (.cells #[.int .i64 0, .int .i64 0, .slice none 0 0] 32))
  have BM := BoxN.last ((w.alloc (.cells #[.int .i64 wd, .int .i64 hi, .int .i64 dp, .slice (some ⟨qv, 0, none⟩) Nv cv] 62)).alloc (.cells #[.float .f32 vo, .float .f32 vm] 37)) #[.int .i64 0, .int .i64 0, .slice none 0 0] 32
  rw [show ((w.alloc (.cells #[.int .i64 wd, .int .i64 hi, .int .i64 dp, .slice (some ⟨qv, 0, none⟩) Nv cv] 62)).alloc (.cells #[.float .f32 vo, .float .f32 vm] 37)).heap.size = w.heap.size + 2 by simp] at BM
  have hv1 := hv.below hb0
  have HB0 := Lib.hid hb0
  have HLV := Lib.hid hlv
  have HQV := Lib.hid hqv
  clear hv hb0 hlv hqv hvv hL hp ho hm hM hO hMo
  go_enter Tryz.func33, Tryz.ntmps33
  go_wp2_with fail
  refine (KR.out _).mono ?_
  rintro e w1 ⟨rfl, hb1⟩
  have BP1 := BP.below hb1
  have BV1 := BV.below hb1
  have BM1 := BM.below hb1
  have HV1 := Lib.hid (VolAt.mk BV1 (hv1.below hb1) HLV.out)
  have HB1 := Lib.hid (HB0.out.trans (hb1.mono HB0.out.size))
  have hs1 : w.heap.size + 2 < w1.heap.size := BM1.lt
  have HQ1 := Lib.hid (Nat.lt_of_lt_of_le HQV.out HB1.out.size)
  have ha1 := below_two w1 (.cells #[] 81) (.cells #[.slice (some ⟨w1.heap.size, 0, none⟩) 0 0] 80)
  obtain ⟨y0, y1, y2, y3, -, -, -, -⟩ := (BV1.below ha1).four
  have HBV := Lib.hid BV1
  have HBP := Lib.hid BP1
  have HBM := Lib.hid BM1
  have st1 := Boxed.new (w1.alloc (.cells #[] 81)) 80 (.slice (some ⟨w1.heap.size, 0, none⟩) 0 0)
  have st2 := (OwnT.start 81 w1).below (alE _ (.cells #[.slice (some ⟨w1.heap.size, 0, none⟩) 0 0] 80))
  simp only [World.size_alloc] at st1
  have HST := Lib.hid (And.intro st1 (And.intro st2 ha1))
  clear hb1 BP BV BM hv1 BV1 BP1 BM1 ha1 st1 st2
  go_wp2_with fail
  clear y0 y1 y2 y3
  go_loopw [19] (fun v19 wr => ∃ (y f fc : Nat) (vals : List Value), v19 = .int .i64 y ∧ y ≤ hi ∧ Boxed wr (w1.heap.size + 1) 80 (.slice (some ⟨f, 0, none⟩) y fc) ∧ OwnT 81 wr w1.heap.size (.slice (some ⟨f, 0, none⟩) y fc) vals ∧ RowsX wr f (w1.heap.size + 1) vals (fun y x => rowD (gc L wd dp · y ·) vo vm dp wd x) wd ∧ Below w1.heap.size w1 wr ∧ f ≠ w1.heap.size + 1 ∧ ∀ i, i < y → goodL L wd dp i = true) (fun v19 _ => hi - (intOf v19).toNat)
  case atStart => exact ⟨0, w1.heap.size, 0, [], rfl, Nat.zero_le _, HST.out.1, HST.out.2.1, fun i hi => absurd hi (by simp), HST.out.2.2, by omega, fun i hi => by omega⟩
  case round =>
    clear HST
    obtain ⟨y, f, fc, vals, rfl, hy, hbx, hown, hrw, hbl, hfx, hgood⟩ := hrel
    have HGOOD := Lib.hid hgood
    have HBX := Lib.hid hbx
    have HOW := Lib.hid hown
    have HRW := Lib.hid hrw
    have HBL := Lib.hid hbl
    have hsr := hbl.size
    have hbxl := hbx.lt
    clear hbx hown hrw hbl hgood
    by_cases hlt : y < hi
    · have BP2 := HBP.out.below HBL.out
      have zp0 := BP2.cell 0
      have zp1 := BP2.cell 1
      simp only [List.size_toArray, List.length_cons, List.length_nil, List.getElem?_toArray, List.getElem?_cons_zero, List.getElem?_cons_succ] at zp0 zp1
      have KS1 := Lib.hid (KS.out wr w.heap.size y (HV1.out.below HBL.out) hlt (Nat.lt_of_lt_of_le HQ1.out hsr))
      have hltI : (y : Int) < hi := by omega
      clear BP2
      go_wp2_with fail
      (with_reducible refine KS1.out.mono ?_)
      rintro e w2 ⟨h | h, hb2⟩
      case inr =>
        obtain ⟨hg1, rfl⟩ := h
        have hbz := HBL.out.trans (hb2.mono HBL.out.size)
        have hz := HBM.out.below hbz
        obtain ⟨e0, e1, e2, g0, g1, g2⟩ := hz.three.cells
        have hlt3 := hz.lt
        have HF := Lib.hid (And.intro hg1 (HB1.out.trans (hbz.mono HB1.out.size)))
        clear hb2 hbz hz hg1 KS1
        go_wp2_with fail
        refine bodyPost_ret (v := .tuple #[.agg #[.int .i64 0, .int .i64 0, .slice none 0 0], .bool false]) (by simp [results, Tryz.results33, go_sem, e0, e1, e2, hlt3]) rfl ?_
        rw [rowsT_no hlt HF.out.1]
        exact MRes.no (((HF.out.2.setCell (by simp; omega) _).setCell (by simp; omega) _).setCell (by simp; omega) _)
      obtain ⟨hg1, g, c, fw, rfl, hrow⟩ := h
      have HG1 := Lib.hid hg1
      have hg := hrow.lt (k := g) rfl
      have hs2 := hb2.size
      have hbx2 := HBX.out.kept (grown_below hb2 none) (by simp)
      have hrc : ∀ d, d < wd → w2.cell? ⟨g, d, none⟩ = some (.int .i64 (rowD (gc L wd dp · y ·) vo vm dp wd d : Nat)) := fun d hd => by
        have := hrow.cellAt d (by unfold rowL; rw [tabZ_len]; exact hd)
        unfold rowL at this
        rw [tabZ_getD hd] at this
        exact this
      have hvl : vals.length = y := HOW.out.len.1
      have HRC := Lib.hid hrc
      have HB2 := Lib.hid hb2
      have HOW2 := Lib.hid (HOW.out.below hb2)
      have HRW2 := Lib.hid (HRW.out.below hb2)
      have hfl := (HOW.out.lt (k := f) rfl).2
      have hos := HOW2.out
      unfold OwnT at hos
      rw [hvl] at hos
      have HVL := Lib.hid hvl
      have HBX2 := Lib.hid hbx2
      have cbx := hbx2.cell
      have hNE := Lib.hid (show some (w1.heap.size + 1) ≠ some f by intro e; injection e with e; omega)
      clear hrow hrc hb2 hvl hbx2 zp0 zp1 KS1 hg1
      go_wp2_with (at_builtin; refine wpList_append_lies _ (by rfl) _ _ _ (by rfl) w1.heap.size 81 i0 _ 1 24 Tryz.underlying80 hi0 hz0 hz1 hz2 rfl (by omega) (.slice (some ⟨f, 0, none⟩) y fc) y _ (by rfl) (World.ownsRow.alloc hos _) ⟨w2.heap.size, 0, none⟩ 1 1 [.slice (some ⟨g, 0, none⟩) wd c] (by rfl) (by rfl) (cell_one_new _ _ _) (by simp [Value.oneCell']) (by omega) (by unfold maxLen; omega) (by omega) (by simp; omega) (w2.heap.size + 1) (by simp) ?_; intro gg cap2 w3 hown3 hgrow hat hlt2; have hx3 := (HBX2.out.alloc (.cells #[.slice (some ⟨g, 0, none⟩) wd c] 81)).kept hgrow hNE.out; have c3 := hx3.cell; have f3 := hx3.frozen)
      go_roundw
      case rel =>
        have hat' : gg = f ∨ gg = w2.heap.size + 1 := by
          rcases hat with h | h
          · left; simpa [Value.ownBlock] using h.symm
          · right; exact h
        have hgr : (w2.alloc (.cells #[.slice (some ⟨g, 0, none⟩) wd c] 81)).grownBy w3 (some f) := hgrow
        have hA := alE w2 (.cells #[.slice (some ⟨g, 0, none⟩) wd c] 81)
        have hBB := ((HBL.out.trans (HB2.out.mono hsr)).alloc (by omega) (.cells #[.slice (some ⟨g, 0, none⟩) wd c] 81)).grown hgr (by simp; omega) (fun k hk => by injection hk with e; have := (HOW.out.lt (k := f) rfl).1; omega)
        refine ⟨y + 1, gg, cap2, vals ++ [.slice (some ⟨g, 0, none⟩) wd c], by go_num, by omega, hx3.set _, ?_, ?_, hBB.setCell (by simp) _, by omega, fun i hi_ => ?_⟩
        · have := ownT_snoc hown3 HVL.out
          exact this.grown (grownBy_setCell' w3 _ _) (.inr (by simp [Value.ownBlock]; omega))
        · refine (HRW2.out.below hA).snoc hgr (by simp; omega) (by simp; omega) (by omega) (by omega) fun d hd => ?_
          rw [HVL.out]
          exact (hA.cell (p := ⟨g, d, none⟩) hg.2).trans (HRC.out d hd)
        · by_cases hh : i < y
          · exact HGOOD.out i hh
          · have : i = y := by omega
            subst this; exact HG1.out
      case measure => simp [intOf]; omega
    · obtain rfl : hi = y := by omega
      have hvl : vals.length = hi := HOW.out.len.1
      have hfl := (HOW.out.lt (k := f) rfl).2
      have G := solveRows1_gives (wd := wd) HBX.out (fun i u hu => HOW.out.cellAt i hu) hfl hvl HRW.out d2 d4 (fun i d => Nat.lt_of_lt_of_le (rowD_lt d6 d) d7)
      have K := Lib.hid (mapOfE wr wd hi _ _ d2 d4 G)
      obtain ⟨y0, y1, y2, y3, -, -, -, -⟩ := (HBV.out.below HBL.out).four
      clear G hvl
      go_wp2_with fail
      (with_reducible refine K.out.mono ?_)
      rintro e w2 ⟨a, cc, bs2, rfl, hown, hcon, hb2⟩
      have hbz := HBL.out.trans (hb2.mono HBL.out.size)
      obtain ⟨e0, e1, e2, g0, g1, g2⟩ := (HBM.out.below hbz).three.cells
      have hlt3 := (HBM.out.below hbz).lt
      have hpp := rowsT_yes (o := vo) (m := vm) HGOOD.out
      have hc2 : bs2.map fl = tab (hi * wd) (rowDW L wd dp vo vm) := hcon
      have HF := Lib.hid (And.intro hown (And.intro hc2 (And.intro hb2 hpp)))
      clear hown hbz hb2 hpp hc2 hcon
      go_wp2
      refine bodyPost_ret (v := .tuple #[.agg #[.int .i64 wd, .int .i64 hi, .slice a bs2.length cc], .bool true]) (by simp [results, Tryz.results33, go_sem, e0, e1, e2, hlt3]) rfl ?_
      rw [HF.out.2.2.2]
      have hbw := HB1.out.trans (HBL.out.mono HB1.out.size)
      exact MRes.of_box (t := ⟨true, wd, hi, tab (hi * wd) (rowDW L wd dp vo vm)⟩) hbw (by have := HBL.out.size; omega) (by omega) HF.out.1 HF.out.2.1 HF.out.2.2.1 _ _ _
end

end Go.Proofs.YtabbjilgpfnacaaGreat

/- The two error values of the package strconv, as the row lists them. -/
import Derived.Test.YtjibghjongplpaaDoorCi
import Derived.Test.YtjibghjongplpaaDoorBy
namespace Go.Proofs.YtjibghjongplpaaDoor
open Go.RowKit

theorem iface_cells {H : Type} {enc : TypeId × Value → H} {w : World} {base : Nat} {sp : Nat → Bool} {held : Bool} {fuel : Nat} {t : TypeId} {ms : Array (String × TypeId)} {cs : List Value} {n : String} {d : DataW H} {p : List MemPlace}
    (ht : Tryd.prog.underlying t = some (.interface ms)) (h : DataW.trod enc Tryd.prog w base sp held fuel t cs = some (.iface n d, p)) : ∃ u v, cs = [.iface u v] := by
  cases fuel with
  | zero => simp [DataW.trod] at h
  | succ fuel =>
    cases cs with
    | nil => simp [DataW.trod, ht] at h
    | cons c r =>
      cases r with
      | nil => cases c <;> first | exact ⟨_, _, rfl⟩ | (simp [DataW.trod, ht] at h)
      | cons _ _ => simp [DataW.trod, ht] at h
theorem iface_of {l : List (String × DataW Unit)} {W : World} {name n : String} {d : DataW Unit} {g : Nat} {t : TypeId} {ms : Array (String × TypeId)} (hg : Tryd.prog.globalNamed name = some g) (hty : (Tryd.prog.globals[g]?).map (·.type) = some t) (ht : Tryd.prog.underlying t = some (.interface ms))
    (hp : (([(name, .iface n d)] : List (String × DataW Unit)).all fun x => x.2.handleName?.isNone) = true) (he : l.filter (fun x => x.1 == name) = [(name, .iface n d)]) (h : laidMetH Tryd.prog l W) : ∃ u v, W.cell? ⟨g, 0, none⟩ = some (.iface u v) := by
  have h2 := laidMetH.filter (fun x => x.1 == name) h
  rw [he, MakeChecks.laidMetH_plain _ _ _ hp] at h2
  obtain ⟨ps, ⟨g', t', cs, fuel, p, q, hg', ht', hvar, hd, _, _⟩, _⟩ := h2
  obtain rfl := Option.some.inj (hg.symm.trans hg')
  obtain rfl := Option.some.inj (hty.symm.trans ht')
  obtain ⟨u, v, e⟩ := iface_cells ht hd
  refine ⟨u, v, ?_⟩
  have := World.var?_cell hg hvar 0
  rw [this]
  have e2 : cs = #[.iface u v] := by rw [← e]
  rw [e2]; rfl
theorem err_of {l : List (String × DataW Unit)} {W : World} {n1 n2 : String} {d1 d2 : DataW Unit} (hp1 : (([("strconv.ErrSyntax", .iface n1 d1)] : List (String × DataW Unit)).all fun x => x.2.handleName?.isNone) = true) (hp2 : (([("strconv.ErrRange", .iface n2 d2)] : List (String × DataW Unit)).all fun x => x.2.handleName?.isNone) = true)
    (h1 : l.filter (fun x => x.1 == "strconv.ErrSyntax") = [("strconv.ErrSyntax", .iface n1 d1)]) (h2 : l.filter (fun x => x.1 == "strconv.ErrRange") = [("strconv.ErrRange", .iface n2 d2)]) (h : laidMetH Tryd.prog l W) : ErrT W := by
  obtain ⟨a, b, k1⟩ := iface_of (g := 3) (by kernel_rfl) (by kernel_rfl) Tryd.underlying85 hp1 h1 h
  obtain ⟨c, e, k2⟩ := iface_of (g := 4) (by kernel_rfl) (by kernel_rfl) Tryd.underlying85 hp2 h2 h
  exact ⟨⟨a, b, k1⟩, c, e, k2⟩

end Go.Proofs.YtjibghjongplpaaDoor

/- Two ints, by value ([2]int): what comes in. Condition: the value reads. -/
import Derived.Test.YtlndpljhcempoaaStkPlaysW
import Derived.OpenShut
import Derived.WideKeyArr2
namespace Go.Proofs.Ytlndpljhcempoaa
open Go.ChangeShapes Go.WideShapes Go.RowKit

theorem two_of {cs : List Value} (hn : cs.length = 2) {u v : Int} (h0 : (cs.drop 0).take 1 = [.int .i64 u]) (h1 : (cs.drop 1).take 1 = [.int .i64 v]) : cs = [.int .i64 u, .int .i64 v] := by
  match cs, hn with
  | [a, b], _ =>
    simp at h0 h1
    subst h0 h1
    rfl

set_option maxRecDepth 100000 in
theorem open_two {H : Type} {enc : TypeId × Value → H} {w : World} {base b0 : Nat} {spare : Nat → Bool} {held : Bool} {v : Value} {d : DataW H} {p : List MemPlace}
    (h0 : Value.okWide Try.prog w .any b0 89 v) (h : DataW.Trod enc Try.prog w base spare held 89 v d p) : ∃ x y : Int, v = .agg #[.int .i64 x, .int .i64 y] := by
  have hc : Try.prog.cellsOf 89 = 2 := by kernel_rfl
  have hc3 : Try.prog.cellsOf 3 = 1 := by kernel_rfl
  simp only [Value.okWide, Try.underlying89] at h0
  obtain ⟨cs, rfl, hn, _⟩ := h0
  obtain ⟨fuel, hf⟩ := h
  obtain ⟨ys, m, _, _, hl, hly, hx⟩ := DataW.trod_array Try.underlying89 hf
  simp only [Value.cells] at hl hx
  have one : ∀ i, i < 2 → ∃ z : Int, (cs.toList.drop i).take 1 = [.int .i64 z] := fun i hi => by
    have := hx i hi
    rw [hc3, Nat.mul_one] at this
    rw [List.getElem?_eq_getElem (by omega)] at this
    obtain ⟨z, e, _, _⟩ := DataW.trod_int Try.underlying3 this
    exact ⟨z, e⟩
  obtain ⟨u, hu⟩ := one 0 (by omega)
  obtain ⟨t, ht⟩ := one 1 (by omega)
  have := two_of (by rw [hl, hc]) hu ht
  exact ⟨u, t, congrArg Value.agg (Array.ext' this)⟩

end Go.Proofs.Ytlndpljhcempoaa

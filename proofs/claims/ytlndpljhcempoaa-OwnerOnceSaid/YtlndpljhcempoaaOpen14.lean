/- A list of calls of owners ([]Do of wainscotlaw14) as the walks want it. Condition: the slice reads. -/
import Derived.Test.YtlndpljhcempoaaOwnPlaysW
namespace Go.Proofs.Ytlndpljhcempoaa
open Go.ChangeShapes Go.WideShapes Go.RowKit

theorem elems14 {H : Type} {enc : TypeId × Value → H} {w : World} {base : Nat} {spare : Nat → Bool} {held : Bool} {fuel : Nat} {a : Option Addr} {len cap : Nat} {x : DataW H × List MemPlace}
    (h : DataW.trod enc Try.prog w base spare held fuel 94 (Value.slice a len cap).cells.toList = some x) : IsElems w a len cap 5 GoodNum := by
  rcases open_structs Try.underlying94 Try.underlying102 (by kernel_rfl) (fun j f hj => by
    match j, hj with
    | 0, hj | 1, hj | 2, hj | 3, hj | 4, hj => cases hj; exact ⟨rfl, by kernel_rfl⟩) h with hcs | ⟨a', l, c, n, hcs, hl, hm, hx⟩
  · simp [Value.cells] at hcs
    obtain ⟨rfl, rfl, rfl⟩ := hcs
    exact .inl ⟨rfl, rfl, rfl⟩
  · simp [Value.cells] at hcs
    obtain ⟨rfl, rfl, rfl⟩ := hcs
    refine .inr ⟨_, rfl, hl, hm, fun i hi j hj => ?_⟩
    have one : ∀ (j : Nat) (f : Field), (_ : Array Field)[j]? = some f → Try.prog.underlying f.type = some (.int .i64) → ∃ v, w.cell? (a'.add (i * 5 + j)) = some v ∧ ∃ z : Int, v = .int .i64 z := fun j f hf hk => by
      obtain ⟨v, y, hv, hy⟩ := hx i hi j f hf
      obtain ⟨z, e, _, _⟩ := DataW.trod_int hk hy
      simp at e
      exact ⟨v, hv, z, e⟩
    match j, hj with
    | 0, _ => exact one 0 _ rfl Try.underlying3
    | 1, _ => exact one 1 _ rfl Try.underlying3
    | 2, _ => exact one 2 _ rfl Try.underlying3
    | 3, _ => exact one 3 _ rfl Try.underlying3
    | 4, _ => exact one 4 _ rfl Try.underlying3

end Go.Proofs.Ytlndpljhcempoaa

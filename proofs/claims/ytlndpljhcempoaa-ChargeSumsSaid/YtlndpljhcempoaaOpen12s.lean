/- A list of calls of counters ([]Do of wainscotlaw12), their numbers, as the walks want it. Condition: the slice reads. -/
import Derived.Test.YtlndpljhcempoaaChgBackW
namespace Go.Proofs.Ytlndpljhcempoaa
open Go.ChangeShapes Go.WideShapes Go.RowKit

theorem elems12s {H : Type} {enc : TypeId × Value → H} {w : World} {base : Nat} {spare : Nat → Bool} {held : Bool} {fuel : Nat} {a : Option Addr} {len cap : Nat} {x : DataW H × List MemPlace}
    (h : DataW.trod enc Try.prog w base spare held fuel 51 (Value.slice a len cap).cells.toList = some x) : IsElems w a len cap 4 Good12s := by
  rcases open_structs Try.underlying51 Try.underlying56 (by kernel_rfl) (fun j f hj => by
    match j, hj with
    | 0, hj | 1, hj | 2, hj | 3, hj => cases hj; exact ⟨rfl, by kernel_rfl⟩) h with hcs | ⟨a', l, c, n, hcs, hl, hm, hx⟩
  · simp [Value.cells] at hcs
    obtain ⟨rfl, rfl, rfl⟩ := hcs
    exact .inl ⟨rfl, rfl, rfl⟩
  · simp [Value.cells] at hcs
    obtain ⟨rfl, rfl, rfl⟩ := hcs
    refine .inr ⟨_, rfl, hl, hm, fun i hi j hj => ?_⟩
    have one : ∀ (j : Nat) (f : Field), (_ : Array Field)[j]? = some f → Try.prog.underlying f.type = some (.int .i64) → ∃ v, w.cell? (a'.add (i * 4 + j)) = some v ∧ ∃ z : Int, v = .int .i64 z := fun j f hf hk => by
      obtain ⟨v, y, hv, hy⟩ := hx i hi j f hf
      obtain ⟨z, e, _, _⟩ := DataW.trod_int hk hy
      simp at e
      exact ⟨v, hv, z, e⟩
    match j, hj with
    | 0, _ => obtain ⟨v, hv, hz⟩ := one 0 _ rfl Try.underlying3; exact ⟨v, hv, fun _ => hz⟩
    | 1, _ => obtain ⟨v, hv, hz⟩ := one 1 _ rfl Try.underlying3; exact ⟨v, hv, fun _ => hz⟩
    | 2, _ => obtain ⟨v, hv, hz⟩ := one 2 _ rfl Try.underlying3; exact ⟨v, hv, fun _ => hz⟩
    | 3, _ =>
      obtain ⟨v, y, hv, hy⟩ := hx i hi 3 _ rfl
      exact ⟨v, hv, fun h => absurd h (by omega)⟩

end Go.Proofs.Ytlndpljhcempoaa

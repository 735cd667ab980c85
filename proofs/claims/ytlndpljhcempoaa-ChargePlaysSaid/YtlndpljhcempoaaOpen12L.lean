/- A list of calls of counters ([]Do of wainscotlaw12) with the paths' lengths, out of the form's own reach. Condition: the slice reads, within the reach. -/
import Derived.Test.YtlndpljhcempoaaChgPlaysW
import Derived.SizedLaws
namespace Go.Proofs.Ytlndpljhcempoaa
open Go.ChangeShapes Go.WideShapes Go.RowKit

theorem Try.bytes3 : Try.prog.bytesOf 3 = 8 := by kernel_rfl
theorem Try.cells56 : Try.prog.cellsOf 56 = 4 := by kernel_rfl
theorem Try.cells54 : Try.prog.cellsOf 54 = 1 := by kernel_rfl

theorem weightsAll_mem {H : Type} {P : Program} {e : TypeId} {d : DataW H} {n : Nat} (hn : n ∈ d.weights P e) : ∀ (l : List (DataW H)), d ∈ l → n ∈ DataW.weightsAll P e l
  | [], h => by cases h
  | y :: r, h => by
    simp only [DataW.weightsAll, List.mem_append]
    rcases List.mem_cons.1 h with rfl | h
    · exact .inl hn
    · exact .inr (weightsAll_mem hn r h)

theorem path_len {H : Type} {enc : TypeId × Value → H} {w : World} {base : Nat} {spare : Nat → Bool} {held : Bool} {fuel : Nat} {a : Option Addr} {l c : Nat} {y : DataW H × List MemPlace}
    (h : DataW.trod enc Try.prog w base spare held fuel 54 [.slice a l c] = some y) (hsz : ∀ n ∈ y.1.weights Try.prog 54, n ≤ reachBytes) : l * 8 ≤ 140737488355328 := by
  rcases open_ints Try.underlying54 Try.underlying3 (by kernel_rfl) h with ⟨hcs, _⟩ | ⟨x, l', c', zs, hcs, _, hl, hm, hz, rfl, _, _⟩
  · simp at hcs
    obtain ⟨_, rfl, _⟩ := hcs
    omega
  · simp at hcs
    obtain ⟨_, rfl, _⟩ := hcs
    have hlz : l ≤ zs.length := by rw [hz]; split <;> omega
    have := hsz (((lits .i64 (zs.take l)).length + (lits .i64 (zs.drop l)).length) * Try.prog.bytesOf 3) (by simp only [DataW.weights, Try.underlying54]; exact List.mem_cons_self)
    rw [Try.bytes3] at this
    simp only [lits, List.length_map, List.length_take, List.length_drop, reachBytes] at this
    omega

theorem elems12L {H : Type} {enc : TypeId × Value → H} {w : World} {base : Nat} {spare : Nat → Bool} {held : Bool} {fuel : Nat} {a : Option Addr} {len cap : Nat} {x : DataW H × List MemPlace} {ts : List TypeId} {gs : List (DataW H)}
    (h : DataW.trod enc Try.prog w base spare held fuel 51 (Value.slice a len cap).cells.toList = some x)
    (hsz : ∀ n ∈ DataW.weightsEach Try.prog ([51] ++ ts) ([x.1] ++ gs), decide (n ≤ reachBytes) = true) : IsElems w a len cap 4 (Good12L w) := by
  rcases elems12 h with ⟨rfl, rfl, rfl⟩ | ⟨x0, rfl, hl0, hm0, hall⟩
  · exact .inl ⟨rfl, rfl, rfl⟩
  refine .inr ⟨x0, rfl, hl0, hm0, fun i hi j hj => ?_⟩
  obtain ⟨v, hv, g1, g2⟩ := hall i hi j hj
  refine ⟨v, hv, g1, fun hj3 => ?_⟩
  subst hj3
  obtain ⟨ap, zs, cp, rfl, hp⟩ := g2 rfl
  refine ⟨ap, zs, cp, rfl, ?_, hp⟩
  rcases Deep.open_slice Try.underlying51 h with ⟨hcs, _⟩ | ⟨a', l, c, m, n, D, Pl, hcs, hb, hl, hm, hmm, rfl, hx⟩
  · simp [Value.cells] at hcs
  · simp [Value.cells] at hcs
    obtain ⟨rfl, rfl, rfl⟩ := hcs
    have hlm : len ≤ m := by rw [hmm]; split <;> omega
    obtain ⟨cs', h1, h2⟩ := hx i (by omega)
    rw [Try.cells56] at h1
    obtain ⟨_, hlen, hcell⟩ := World.cells?_some h1
    obtain ⟨xs, k, _, hD, _, hxl, hfx⟩ := DataW.trod_struct Try.underlying56 h2
    have g := hfx 3 _ rfl
    simp only [Prod.mk.injEq] at hD
    have hcell3 := hcell 3 (by omega)
    rw [Deep.add_add, List.getElem?_eq_getElem (by omega), hv] at hcell3
    simp only [Option.some.injEq] at hcell3
    have ht1 : (cs'.drop 3).take (Try.prog.cellsOf 54) = [.slice ap zs.length cp] := by
      rw [Try.cells54, List.drop_eq_getElem_cons (by omega), hcell3]; rfl
    have hxl4 : xs.length = 4 := hxl
    obtain ⟨y0, y1, y2, y3, rfl⟩ : ∃ y0 y1 y2 y3, xs = [y0, y1, y2, y3] := by
      match xs, hxl4 with
      | [a, b, c, d], _ => exact ⟨a, b, c, d, rfl⟩
    have g' : DataW.trod enc Try.prog w base spare held k 54 [.slice ap zs.length cp] = some y3 := by
      rw [← ht1]; exact g
    refine path_len g' (fun q hq => ?_)
    have hd : q ∈ (D i).weights Try.prog 56 := by
      rw [hD.1]
      simp only [DataW.weights, Try.underlying56]
      simp only [List.map_cons, List.map_nil, DataW.weightsEach, List.mem_append]
      exact .inr (.inr (.inr (.inl hq)))
    have hin : q ∈ DataW.weights Try.prog 51 (.slice ((List.range len).map D) ((List.range (m - len)).map fun j => D (len + j))) := by
      simp only [DataW.weights, Try.underlying51, List.mem_cons, List.mem_append]
      exact .inr (.inl (weightsAll_mem hd _ (List.mem_map.2 ⟨i, List.mem_range.2 hi, rfl⟩)))
    have := hsz q (by
      show q ∈ DataW.weights Try.prog 51 _ ++ _
      exact List.mem_append_left _ hin)
    exact of_decide_eq_true this

end Go.Proofs.Ytlndpljhcempoaa

/- Lists of calls that a call makes itself: their cells, good; as the walks of ChargePlays and ChargeBounds want them. No program's walk. -/
import Derived.Test.YtlndpljhcempoaaChgPlaysW
import Derived.Test.YtlndpljhcempoaaChgBoundsW
import Derived.Deep.AppendLies
namespace Go.Proofs.Ytlndpljhcempoaa
open Go.RowKit

theorem Try.info56 : (Try.prog.info? 56).map (fun i => (i.zero, i.size, i.bytes)) = some (some (.agg #[.int .i64 0, .int .i64 0, .int .i64 0, .slice none 0 0]), 4, 48) := by kernel_rfl

/-- A list of calls of one's own: its cells are good, seen from w0. -/
structure ListIs (w0 w : World) (v : Value) (n : Nat) (cs : List Value) : Prop where
  own : w.ownsRow w0.heap.size 56 4 v n cs
  ks : Keeps [] w0 w
  good : ∀ i v, cs[i]? = some v → Good12L w0 (i % 4) v

theorem Good12L.keeps {w0 w : World} {j : Nat} {v : Value} (h : Good12L w0 j v) (hk : Keeps [] w0 w) : Good12L w j v :=
  ⟨h.1, fun hj => by
    obtain ⟨a, zs, cap, hv, hl, hp⟩ := h.2 hj
    exact ⟨a, zs, cap, hv, hl, fun c hc => (hp c (Nat.le_trans hk.size hc)).keeps hk (by simp)⟩⟩

theorem Good12L.weak {w : World} {j : Nat} {v : Value} (h : Good12L w j v) : Good12 w j v :=
  ⟨h.1, fun hj => by
    obtain ⟨a, zs, cap, hv, _, hp⟩ := h.2 hj
    exact ⟨a, zs, cap, hv, hp⟩⟩

theorem IsElems.weak {w : World} {a : Option Addr} {len cap : Nat} (h : IsElems w a len cap 4 (Good12L w)) : IsElems w a len cap 4 (Good12 w) := by
  rcases h with h | ⟨x, hx, hl, hm, hc⟩
  · exact .inl h
  · exact .inr ⟨x, hx, hl, hm, fun i hi j hj => by
      obtain ⟨v, hv, hg⟩ := hc i hi j hj
      exact ⟨v, hv, hg.weak⟩⟩

theorem ListIs.elems {w0 w w' : World} {v : Value} {n : Nat} {cs : List Value} (h : ListIs w0 w v n cs) (hk : Keeps [] w w') : ∃ a cap, v = .slice a n cap ∧ IsElems w' a n cap 4 (Good12L w') := by
  obtain ⟨hl, ho⟩ := h.own
  rcases ho with ⟨rfl, rfl⟩ | ⟨g, cap, cur, rfl, _, hh, hcap, hmax, hsz, htake⟩
  · exact ⟨none, 0, rfl, .inl ⟨rfl, rfl, rfl⟩⟩
  · have hrow : Row w g 56 cur.toList := by unfold Row; rw [hh, Array.toArray_toList]
    refine ⟨_, cap, rfl, .inr ⟨_, rfl, hcap, hmax, fun i hi j hj => ?_⟩⟩
    have hlt : i * 4 + j < n * 4 := by omega
    have hlc : i * 4 + j < cs.length := by omega
    have hcs : cs[i * 4 + j]? = cur.toList[i * 4 + j]? := by rw [← htake, List.getElem?_take_of_lt hlt]
    obtain ⟨v, hv⟩ : ∃ v, cs[i * 4 + j]? = some v := ⟨_, List.getElem?_eq_getElem hlc⟩
    refine ⟨v, ?_, ?_⟩
    · have hc := (hk.row hrow (by simp)).cell (i := i * 4 + j) (v := v) (by rw [← hcs, hv])
      unfold Addr.add
      dsimp only
      rw [Nat.zero_add]
      split
      · next h0 => rw [h0] at hc; exact hc
      · exact hc
    · have hg := h.good (i * 4 + j) _ hv
      rw [show (i * 4 + j) % 4 = j from by omega] at hg
      exact hg.keeps (h.ks.trans hk (by simp))

/-- One call more. -/
theorem ListIs.next {w0 w w' : World} {v v' : Value} {n : Nat} {cs : List Value} (h : ListIs w0 w v n cs) {a b c : Int} {p : Value} (hp : Good12L w0 3 p)
    (hown : w'.ownsRow w0.heap.size 56 4 v' (n + 1) (cs ++ [.int .i64 a, .int .i64 b, .int .i64 c, p])) (hk : Keeps [] w0 w') : ListIs w0 w' v' (n + 1) (cs ++ [.int .i64 a, .int .i64 b, .int .i64 c, p]) := by
  refine ⟨hown, hk, fun i u hu => ?_⟩
  have hl : cs.length = n * 4 := h.own.1
  rcases Nat.lt_or_ge i cs.length with hi | hi
  · rw [List.getElem?_append_left hi] at hu
    exact h.good i u hu
  · rw [List.getElem?_append_right hi] at hu
    have num : ∀ (j : Nat) (z : Int), j < 3 → Good12L w0 j (.int .i64 z) := fun j z hj => ⟨fun _ => ⟨z, rfl⟩, fun h => absurd h (by omega)⟩
    obtain ⟨d, hd⟩ : ∃ d, d = i - cs.length := ⟨_, rfl⟩
    rw [← hd] at hu
    have hm : i % 4 = d % 4 := by omega
    rw [hm]
    match d, hu with
    | 0, hu => simp at hu; subst hu; exact num 0 a (by omega)
    | 1, hu => simp at hu; subst hu; exact num 1 b (by omega)
    | 2, hu => simp at hu; subst hu; exact num 2 c (by omega)
    | 3, hu => simp at hu; subst hu; exact hp
    | d + 4, hu => simp at hu

theorem good_nil (w : World) : Good12L w 3 (.slice none 0 0) := ⟨fun h => absurd h (by omega), fun _ => ⟨none, [], 0, rfl, by simp, fun _ _ => ⟨by simp, .inl rfl⟩⟩⟩

theorem ListIs.nil (w : World) : ListIs w w (.slice none 0 0) 0 [] := ⟨World.ownsRow_nil _ _ _ _, Keeps.refl _ _, fun i v h => by simp at h⟩

end Go.Proofs.Ytlndpljhcempoaa

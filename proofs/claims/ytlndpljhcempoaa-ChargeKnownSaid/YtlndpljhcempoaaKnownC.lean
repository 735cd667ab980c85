/- Lists of calls that a call makes itself: many calls more; a list beside a newer one. No program's walk. -/
import Derived.Test.YtlndpljhcempoaaKnownB
namespace Go.Proofs.Ytlndpljhcempoaa
open Go.RowKit

theorem ListIs.more {w0 w w' : World} {v v' : Value} {n k : Nat} {cs news : List Value} (h : ListIs w0 w v n cs) (hg : ∀ i u, news[i]? = some u → Good12L w0 (i % 4) u)
    (hown : w'.ownsRow w0.heap.size 56 4 v' (n + k) (cs ++ news)) (hk : Keeps [] w0 w') : ListIs w0 w' v' (n + k) (cs ++ news) := by
  refine ⟨hown, hk, fun i u hu => ?_⟩
  have hl : cs.length = n * 4 := h.own.1
  rcases Nat.lt_or_ge i cs.length with hi | hi
  · rw [List.getElem?_append_left hi] at hu
    exact h.good i u hu
  · rw [List.getElem?_append_right hi] at hu
    have := hg _ u hu
    rw [show (i - cs.length) % 4 = i % 4 by omega] at this
    exact this

theorem Row.onto {w w' : World} {b : Nat} {t : TypeId} {vs : List Value} {row : Option Nat} (h : Row w b t vs) (hg : w.grownBy w' row) (hne : row ≠ some b) : Row w' b t vs := by
  have := h.lt
  unfold Row at h ⊢
  rw [hg.block b this (fun e => hne e.symm), h]

theorem row_int12 {w : World} {b : Nat} {t : TypeId} {V : List Int} (h : Row w b t (V.map (.int .i64))) {g : Nat} (hg : g < V.length) : w.cell? ⟨b, g, none⟩ = some (.int .i64 (V.getD g 0)) := by
  refine h.cell ?_
  rw [List.getElem?_map, List.getElem?_eq_getElem hg, List.getD_eq_getElem?_getD, List.getElem?_eq_getElem hg]
  rfl

/-- A path among the good ones is a slice. -/
theorem good_slice {w : World} {ps : List Value} (h : ∀ v ∈ ps, Good12L w 3 v) {y : Nat} (hy : y < ps.length) : ∃ a l c, ps[y]? = some (.slice a l c) ∧ Good12L w 3 (.slice a l c) := by
  have hg := h _ (List.getElem_mem hy)
  obtain ⟨a, zs, c, hv, _⟩ := hg.2 rfl
  exact ⟨a, zs.length, c, by rw [List.getElem?_eq_getElem hy, hv], by rw [← hv]; exact hg⟩

theorem good_int (w : World) {j : Nat} (hj : j < 3) (z : Int) : Good12L w j (.int .i64 z) := ⟨fun _ => ⟨z, rfl⟩, fun h => absurd h (by omega)⟩

/-- Four good cells behind one another, and what follows. -/
theorem good_four {w : World} {a b c : Int} {p : Value} {rest : List Value} (hp : Good12L w 3 p) (hr : ∀ i u, rest[i]? = some u → Good12L w (i % 4) u) :
    ∀ i u, (.int .i64 a :: .int .i64 b :: .int .i64 c :: p :: rest)[i]? = some u → Good12L w (i % 4) u := by
  intro i u hu
  match i, hu with
  | 0, hu => simp at hu; subst hu; exact good_int w (by omega) a
  | 1, hu => simp at hu; subst hu; exact good_int w (by omega) b
  | 2, hu => simp at hu; subst hu; exact good_int w (by omega) c
  | 3, hu => simp at hu; subst hu; exact hp
  | i + 4, hu =>
    rw [show (i + 4) % 4 = i % 4 by omega]
    exact hr i u (by simpa using hu)

theorem good_end (w : World) : ∀ (i : Nat) (u : Value), ([] : List Value)[i]? = some u → Good12L w (i % 4) u := fun i u h => by simp at h

end Go.Proofs.Ytlndpljhcempoaa

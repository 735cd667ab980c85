/- A slice of structs whose fields are one cell each, opened: every field of every element has its cell, and each cell reads by its field's type. Condition: the slice reads. -/
import Derived.Test.YtlndpljhcempoaaRows
import Derived.WalkKit
import Derived.ProofKit
import Derived.Deep.Slices
namespace Go.Proofs.Ytlndpljhcempoaa
open Go.ChangeShapes Go.WideShapes Go.RowKit

theorem open_structs {H : Type} {enc : TypeId × Value → H} {P : Program} {w : World} {base : Nat} {spare : Nat → Bool} {held : Bool} {t e : TypeId} {fields : Array Field} {fuel : Nat} {cs : List Value} {x : DataW H × List MemPlace}
    (ht : P.underlying t = some (.slice e)) (he : P.underlying e = some (.struct fields)) (hce : P.cellsOf e = fields.size) (hf : ∀ (j : Nat) (f : Field), fields[j]? = some f → f.offset = j ∧ P.cellsOf f.type = 1)
    (h : DataW.trod enc P w base spare held fuel t cs = some x) :
    cs = [.slice none 0 0] ∨
    ∃ (a : Addr) (len cap n : Nat), cs = [.slice (some a) len cap] ∧ len ≤ cap ∧ cap ≤ maxLen ∧
      ∀ i, i < len → ∀ (j : Nat) (f : Field), fields[j]? = some f → ∃ v y, w.cell? (a.add (i * fields.size + j)) = some v ∧ DataW.trod enc P w base spare held n f.type [v] = some y := by
  rcases Deep.open_slice ht h with ⟨h0, _⟩ | ⟨a, len, cap, m, n, D, Pl, rfl, hb, hl, hm, hmm, rfl, hx⟩
  · exact .inl h0
  refine .inr ⟨a, len, cap, n - 1, rfl, hl, hm, fun i hi j f hj => ?_⟩
  have hlm : len ≤ m := by rw [hmm]; split <;> omega
  obtain ⟨cs', h1, h2⟩ := hx i (by omega)
  rw [hce] at h1
  obtain ⟨_, hlen, hcell⟩ := World.cells?_some h1
  obtain ⟨xs, k, hk, _, _, hxl, hfx⟩ := DataW.trod_struct he h2
  obtain rfl : k = n - 1 := by omega
  have hjs : j < fields.size := by
    rcases Nat.lt_or_ge j fields.size with h' | h'
    · exact h'
    · simp [Array.getElem?_eq_none h'] at hj
  obtain ⟨ho, hc⟩ := hf j f hj
  have g := hfx j f hj
  rw [ho, hc] at g
  have hjl : j < cs'.length := by omega
  have ht1 : (cs'.drop j).take 1 = [cs'[j]] := by rw [List.drop_eq_getElem_cons hjl]; rfl
  rw [ht1, List.getElem?_eq_getElem (by omega)] at g
  refine ⟨cs'[j], _, ?_, g⟩
  have := hcell j hjs
  rw [Deep.add_add, List.getElem?_eq_getElem hjl] at this
  exact this

/-- What the walk is told of a slice of structs that came in: each field of each element has its cell. -/
def IsElems (w : World) (a : Option Addr) (len cap size : Nat) (good : Nat → Value → Prop) : Prop :=
  (a = none ∧ len = 0 ∧ cap = 0) ∨
  ∃ x, a = some x ∧ len ≤ cap ∧ cap ≤ maxLen ∧ ∀ i, i < len → ∀ j, j < size → ∃ v, w.cell? (x.add (i * size + j)) = some v ∧ good j v

theorem IsElems.len_le {w : World} {a : Option Addr} {len cap size : Nat} {good : Nat → Value → Prop} (h : IsElems w a len cap size good) : len ≤ 9223372036854775807 := by
  rcases h with ⟨_, h, _⟩ | ⟨x, rfl, hl, hm, _⟩
  · omega
  · unfold maxLen at hm; omega

theorem IsElems.cap_le {w : World} {a : Option Addr} {len cap size : Nat} {good : Nat → Value → Prop} (h : IsElems w a len cap size good) : len ≤ cap := by
  rcases h with ⟨_, h, _⟩ | ⟨x, rfl, hl, hm, _⟩
  · omega
  · exact hl

/-- An element that is there lies at a plain address. -/
theorem IsElems.at {w : World} {a : Option Addr} {len cap size : Nat} {good : Nat → Value → Prop} (h : IsElems w a len cap size good) (hs : 0 < size) {i : Nat} (hi : i < len) :
    ∃ b off, a = some ⟨b, off, none⟩ ∧ b < w.heap.size ∧ ∀ j, j < size → ∃ v, w.cell? ⟨b, off + (i * size + j), none⟩ = some v ∧ good j v := by
  rcases h with ⟨_, h, _⟩ | ⟨x, rfl, hl, hm, hc⟩
  · omega
  · obtain ⟨b, off, spot⟩ := x
    have plain : ∀ k (v : Value), w.cell? ((⟨b, off, spot⟩ : Addr).add k) = some v → w.cell? ⟨b, off + k, if k = 0 then spot else none⟩ = some v := by
      intro k v hv
      unfold Addr.add at hv
      by_cases hk : k = 0
      · simp [hk] at hv ⊢; exact hv
      · simp [hk] at hv ⊢; exact hv
    obtain ⟨v0, h0, _⟩ := hc 0 (by omega) 0 hs
    have h0' : w.cell? ⟨b, off, spot⟩ = some v0 := by simpa [Addr.add] using h0
    have hsp : spot = none := World.cell?_spot h0'
    subst hsp
    refine ⟨b, off, rfl, ?_, fun j hj => ?_⟩
    · exact World.block_lt_of_cell? (a := ⟨b, off, none⟩) _ h0'
    · obtain ⟨v, hv, hg⟩ := hc i hi j hj
      refine ⟨v, ?_, hg⟩
      have := plain _ _ hv
      simpa using this

end Go.Proofs.Ytlndpljhcempoaa

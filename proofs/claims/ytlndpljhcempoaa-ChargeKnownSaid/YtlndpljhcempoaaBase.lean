/- Plain lemmas on blocks of the heap: what a block of cells holds behind a store, a new block, a draw; and 'Keeps S w w'': w' is w but for the blocks of S and for new blocks. No condition. -/
import Derived.Test.YtlndpljhcempoaaRows
import Derived.WalkKit
import Derived.WalkSpells
import Derived.WalkLawsBesides
import Derived.Lib.Hide
namespace Go.Proofs.Ytlndpljhcempoaa
open Go.RowKit

/-! ### Blocks -/

/-- Block b is a row of the cells vs, of type t, none of them frozen. -/
def Row (w : World) (b : Nat) (t : TypeId) (vs : List Value) : Prop := w.heap[b]? = some (.cells vs.toArray t (0, 0))

theorem Row.lt {w : World} {b : Nat} {t : TypeId} {vs : List Value} (h : Row w b t vs) : b < w.heap.size := by
  unfold Row at h
  rcases Nat.lt_or_ge b w.heap.size with h' | h'
  · exact h'
  · simp [Array.getElem?_eq_none h'] at h

theorem Row.cell? {w : World} {b : Nat} {t : TypeId} {vs : List Value} (h : Row w b t vs) (i : Nat) : w.cell? ⟨b, i, none⟩ = vs[i]? := by
  unfold Row at h
  simp [World.cell?, h]

theorem Row.cell {w : World} {b : Nat} {t : TypeId} {vs : List Value} (h : Row w b t vs) {i : Nat} {v : Value} (hi : vs[i]? = some v) : w.cell? ⟨b, i, none⟩ = some v := by
  rw [h.cell?, hi]

theorem Row.free {w : World} {b : Nat} {t : TypeId} {vs : List Value} (h : Row w b t vs) (i : Nat) : w.frozen? ⟨b, i, none⟩ = false := by
  unfold Row at h
  simp [World.frozen?, h]

theorem Row.alloc {w : World} {b : Nat} {t : TypeId} {vs : List Value} (h : Row w b t vs) (o : Obj) : Row (w.alloc o) b t vs := by
  have := h.lt
  unfold Row at h ⊢
  rw [Below.heap_alloc w o b this, h]

theorem Row.drew {w : World} {b : Nat} {t : TypeId} {vs : List Value} (h : Row w b t vs) : Row w.drew b t vs := h

theorem Row.drewN {w : World} {b : Nat} {t : TypeId} {vs : List Value} (h : Row w b t vs) (n : Nat) : Row (w.drewN n) b t vs := h

theorem Row.new (w : World) (vs : List Value) (t : TypeId) : Row (w.alloc (.cells vs.toArray t)) w.heap.size t vs := heap_alloc_new w _

theorem Row.set {w : World} {b : Nat} {t : TypeId} {vs : List Value} (h : Row w b t vs) (i : Nat) (v : Value) : Row (w.setCell ⟨b, i, none⟩ v) b t (vs.set i v) := by
  unfold Row at h ⊢
  rw [heap_setCell_same w b i _ t v h]
  simp

theorem Row.setOther {w : World} {b : Nat} {t : TypeId} {vs : List Value} (h : Row w b t vs) {a : Addr} (hb : b ≠ a.block) (v : Value) : Row (w.setCell a v) b t vs := by
  unfold Row at h ⊢
  rw [heap_setCell_other w a b v hb, h]

/-! ### Frames -/

/-- w' is w, but for the blocks of S and for new blocks. -/
structure Keeps (S : List Nat) (w w' : World) : Prop where
  os : w'.os = w.os
  tape : w'.tape = w.tape
  output : w'.output = w.output
  size : w.heap.size ≤ w'.heap.size
  block : ∀ k, k < w.heap.size → k ∉ S → w'.heap[k]? = w.heap[k]?

theorem Keeps.refl (S : List Nat) (w : World) : Keeps S w w := ⟨rfl, rfl, rfl, Nat.le_refl _, fun _ _ _ => rfl⟩

theorem Keeps.trans {S T : List Nat} {a b c : World} (h : Keeps S a b) (k : Keeps T b c) (hT : ∀ x ∈ T, x ∈ S ∨ a.heap.size ≤ x) : Keeps S a c :=
  ⟨k.os.trans h.os, k.tape.trans h.tape, k.output.trans h.output, Nat.le_trans h.size k.size, fun i hi hS =>
    (k.block i (Nat.lt_of_lt_of_le hi h.size) (fun hiT => (hT i hiT).elim hS (fun h' => by omega))).trans (h.block i hi hS)⟩

theorem Keeps.wider {S T : List Nat} {a b : World} (h : Keeps S a b) (hT : ∀ x ∈ S, x ∈ T ∨ a.heap.size ≤ x) : Keeps T a b :=
  ⟨h.os, h.tape, h.output, h.size, fun i hi hn => h.block i hi (fun hS => (hT i hS).elim hn (fun h' => by omega))⟩

theorem Keeps.alloc {S : List Nat} {a w : World} (h : Keeps S a w) (o : Obj) : Keeps S a (w.alloc o) :=
  h.trans (T := []) ⟨rfl, rfl, rfl, by simp, fun k hk _ => Below.heap_alloc w o k hk⟩ (by simp)

theorem Keeps.drew {S : List Nat} {a w : World} (h : Keeps S a w) : Keeps S a w.drew := ⟨h.os, h.tape, h.output, h.size, h.block⟩

theorem Keeps.drewN {S : List Nat} {a w : World} (h : Keeps S a w) (n : Nat) : Keeps S a (w.drewN n) := ⟨h.os, h.tape, h.output, h.size, h.block⟩

theorem Keeps.set {S : List Nat} {a w : World} (h : Keeps S a w) {p : Addr} (hp : p.block ∈ S ∨ a.heap.size ≤ p.block) (v : Value) : Keeps S a (w.setCell p v) :=
  h.trans (T := [p.block]) ⟨rfl, rfl, rfl, by simp, fun k _ hk' => heap_setCell_other w p k v (by simpa using hk')⟩ (by simpa using hp)

theorem Keeps.row {S : List Nat} {w w' : World} (h : Keeps S w w') {b : Nat} {t : TypeId} {vs : List Value} (hr : Row w b t vs) (hb : b ∉ S) : Row w' b t vs := by
  have := hr.lt
  unfold Row at hr ⊢
  rw [h.block b this hb, hr]

theorem Keeps.below {S : List Nat} {w w' : World} (h : Keeps S w w') {B : Nat} (hB : B ≤ w.heap.size) (hS : ∀ x ∈ S, B ≤ x) : Below B w w' :=
  ⟨h.os, h.tape, h.output, h.size, fun k hk => h.block k (by omega) (fun hk' => by have := hS k hk'; omega)⟩

theorem Keeps.ofBelow {B : Nat} {w w' : World} (h : Below B w w') (hB : w.heap.size ≤ B) (S : List Nat) : Keeps S w w' :=
  ⟨h.os, h.tape, h.output, h.size, fun k hk _ => h.block k (by omega)⟩

theorem Keeps.cell {S : List Nat} {w w' : World} (h : Keeps S w w') {p : Addr} (hp : p.block < w.heap.size) (hn : p.block ∉ S) : w'.cell? p = w.cell? p :=
  World.cell?_of_block (w := w) (h.block p.block hp hn)

/-- A contract is proved at an unknown post: the walk's simp then leaves it alone. -/
theorem calls_hide {P : Program} {f : FuncId} {args : Array Value} {w : World} {Q : Ending → World → Prop}
    (h : ∀ R : Ending → World → Prop, Hid (∀ e w', Q e w' → R e w') → Calls P f args w R) : Calls P f args w Q := h Q (fun _ _ h => h)

end Go.Proofs.Ytlndpljhcempoaa

/- The numbers and the paths of ChargeKnown, laid one behind the other. No program's walk. -/
import Derived.Test.YtlndpljhcempoaaKnownA
namespace Go.Proofs.Ytlndpljhcempoaa
open Go.RowKit

/-- A path laid in a new block: good, seen from any world behind it. -/
theorem good_path (w w' : World) (zs : List Int) (hl : zs.length ≤ 16) (hk : Keeps [] (w.alloc (.cells (zs.map (Value.int .i64)).toArray 3)) w') : Good12L w' 3 (.slice (some ⟨w.heap.size, 0, none⟩) zs.length zs.length) := by
  have hr := hk.row (Row.new w (zs.map (Value.int .i64)) 3) (by simp)
  exact ⟨fun h => absurd h (by omega), fun _ => ⟨_, zs, _, rfl, by omega, fun c hc => IntsAt.ofRow hr (by have := hr.lt; omega) (by omega)⟩⟩

/-- The numbers; then the paths, one behind the other; then the paths' slice. -/
def kw0 (w : World) : World := w.alloc (.cells #[.int .i64 (-9223372036854775808), .int .i64 (-1), .int .i64 0, .int .i64 1, .int .i64 100, .int .i64 9007199254740991, .int .i64 9007199254740992, .int .i64 9223372036854775807] 3)
def kw1 (w : World) : World := (kw0 w).alloc (.cells #[.int .i64 1] 3)
def kw2 (w : World) : World := (kw1 w).alloc (.cells #[.int .i64 16, .int .i64 8, .int .i64 4, .int .i64 2, .int .i64 1] 3)
def kw3 (w : World) : World := (kw2 w).alloc (.cells #[.int .i64 0] 3)
def kw4 (w : World) : World := (kw3 w).alloc (.cells #[.int .i64 17] 3)
def kw5 (w : World) : World := (kw4 w).alloc (.cells #[.int .i64 1, .int .i64 2, .int .i64 1] 3)
def kw6 (w : World) : World := (kw5 w).alloc (.cells #[.int .i64 1, .int .i64 2, .int .i64 3, .int .i64 4, .int .i64 5, .int .i64 6, .int .i64 7, .int .i64 8] 3)
def kw7 (w : World) : World := (kw6 w).alloc (.cells #[.int .i64 1, .int .i64 2, .int .i64 3, .int .i64 4, .int .i64 5, .int .i64 6, .int .i64 7, .int .i64 8, .int .i64 9] 3)
def kw8 (w : World) : World := (kw7 w).alloc (.cells #[.int .i64 9, .int .i64 (-1)] 3)
def kps (w : World) : List Value := [.slice none 0 0, .slice (some ⟨w.heap.size + 1, 0, none⟩) 1 1, .slice (some ⟨w.heap.size + 1 + 1, 0, none⟩) 5 5, .slice (some ⟨w.heap.size + 1 + 1 + 1, 0, none⟩) 1 1, .slice (some ⟨w.heap.size + 1 + 1 + 1 + 1, 0, none⟩) 1 1, .slice (some ⟨w.heap.size + 1 + 1 + 1 + 1 + 1, 0, none⟩) 3 3, .slice (some ⟨w.heap.size + 1 + 1 + 1 + 1 + 1 + 1, 0, none⟩) 8 8, .slice (some ⟨w.heap.size + 1 + 1 + 1 + 1 + 1 + 1 + 1, 0, none⟩) 9 9, .slice (some ⟨w.heap.size + 1 + 1 + 1 + 1 + 1 + 1 + 1 + 1, 0, none⟩) 2 2]
def kw9 (w : World) : World := (kw8 w).alloc (.cells (kps w).toArray 54)

theorem kw0_size (w : World) : (kw0 w).heap.size = w.heap.size + 1 := by simp [kw0]
theorem kw1_size (w : World) : (kw1 w).heap.size = w.heap.size + 1 + 1 := by simp [kw1, kw0]
theorem kw2_size (w : World) : (kw2 w).heap.size = w.heap.size + 1 + 1 + 1 := by simp [kw2, kw1, kw0]
theorem kw3_size (w : World) : (kw3 w).heap.size = w.heap.size + 1 + 1 + 1 + 1 := by simp [kw3, kw2, kw1, kw0]
theorem kw4_size (w : World) : (kw4 w).heap.size = w.heap.size + 1 + 1 + 1 + 1 + 1 := by simp [kw4, kw3, kw2, kw1, kw0]
theorem kw5_size (w : World) : (kw5 w).heap.size = w.heap.size + 1 + 1 + 1 + 1 + 1 + 1 := by simp [kw5, kw4, kw3, kw2, kw1, kw0]
theorem kw6_size (w : World) : (kw6 w).heap.size = w.heap.size + 1 + 1 + 1 + 1 + 1 + 1 + 1 := by simp [kw6, kw5, kw4, kw3, kw2, kw1, kw0]
theorem kw7_size (w : World) : (kw7 w).heap.size = w.heap.size + 1 + 1 + 1 + 1 + 1 + 1 + 1 + 1 := by simp [kw7, kw6, kw5, kw4, kw3, kw2, kw1, kw0]
theorem kw8_size (w : World) : (kw8 w).heap.size = w.heap.size + 1 + 1 + 1 + 1 + 1 + 1 + 1 + 1 + 1 := by simp [kw8, kw7, kw6, kw5, kw4, kw3, kw2, kw1, kw0]

theorem kw0_keeps (w : World) : Keeps [] (kw0 w) (kw9 w) := by
  unfold kw9 kw8 kw7 kw6 kw5 kw4 kw3 kw2 kw1
  exact (((((((((Keeps.refl [] _).alloc _).alloc _).alloc _).alloc _).alloc _).alloc _).alloc _).alloc _).alloc _
theorem kw1_keeps (w : World) : Keeps [] (kw1 w) (kw9 w) := by
  unfold kw9 kw8 kw7 kw6 kw5 kw4 kw3 kw2
  exact ((((((((Keeps.refl [] _).alloc _).alloc _).alloc _).alloc _).alloc _).alloc _).alloc _).alloc _
theorem kw2_keeps (w : World) : Keeps [] (kw2 w) (kw9 w) := by
  unfold kw9 kw8 kw7 kw6 kw5 kw4 kw3
  exact (((((((Keeps.refl [] _).alloc _).alloc _).alloc _).alloc _).alloc _).alloc _).alloc _
theorem kw3_keeps (w : World) : Keeps [] (kw3 w) (kw9 w) := by
  unfold kw9 kw8 kw7 kw6 kw5 kw4
  exact ((((((Keeps.refl [] _).alloc _).alloc _).alloc _).alloc _).alloc _).alloc _
theorem kw4_keeps (w : World) : Keeps [] (kw4 w) (kw9 w) := by
  unfold kw9 kw8 kw7 kw6 kw5
  exact (((((Keeps.refl [] _).alloc _).alloc _).alloc _).alloc _).alloc _
theorem kw5_keeps (w : World) : Keeps [] (kw5 w) (kw9 w) := by
  unfold kw9 kw8 kw7 kw6
  exact ((((Keeps.refl [] _).alloc _).alloc _).alloc _).alloc _
theorem kw6_keeps (w : World) : Keeps [] (kw6 w) (kw9 w) := by
  unfold kw9 kw8 kw7
  exact (((Keeps.refl [] _).alloc _).alloc _).alloc _
theorem kw7_keeps (w : World) : Keeps [] (kw7 w) (kw9 w) := by
  unfold kw9 kw8
  exact ((Keeps.refl [] _).alloc _).alloc _
theorem kw8_keeps (w : World) : Keeps [] (kw8 w) (kw9 w) := by
  unfold kw9
  exact (Keeps.refl [] _).alloc _

theorem kw9_all (w : World) : Keeps [] w (kw9 w) := ((Keeps.refl [] w).alloc _).trans (kw0_keeps w) (by simp)

theorem kps_good (w : World) : ∀ v ∈ kps w, Good12L (kw9 w) 3 v := by
  have g : ∀ (u : World) (zs : List Int), zs.length ≤ 16 → Keeps [] (u.alloc (.cells (zs.map (Value.int .i64)).toArray 3)) (kw9 w) → Good12L (kw9 w) 3 (.slice (some ⟨u.heap.size, 0, none⟩) zs.length zs.length) := fun u zs hl hk => good_path u (kw9 w) zs hl hk
  have g1 := g (kw0 w) [1] (by decide) (kw1_keeps w)
  rw [kw0_size] at g1
  have g2 := g (kw1 w) [16, 8, 4, 2, 1] (by decide) (kw2_keeps w)
  rw [kw1_size] at g2
  have g3 := g (kw2 w) [0] (by decide) (kw3_keeps w)
  rw [kw2_size] at g3
  have g4 := g (kw3 w) [17] (by decide) (kw4_keeps w)
  rw [kw3_size] at g4
  have g5 := g (kw4 w) [1, 2, 1] (by decide) (kw5_keeps w)
  rw [kw4_size] at g5
  have g6 := g (kw5 w) [1, 2, 3, 4, 5, 6, 7, 8] (by decide) (kw6_keeps w)
  rw [kw5_size] at g6
  have g7 := g (kw6 w) [1, 2, 3, 4, 5, 6, 7, 8, 9] (by decide) (kw7_keeps w)
  rw [kw6_size] at g7
  have g8 := g (kw7 w) [9, -1] (by decide) (kw8_keeps w)
  rw [kw7_size] at g8
  unfold kps
  refine List.forall_mem_cons.2 ⟨good_nil _, ?_⟩
  refine List.forall_mem_cons.2 ⟨g1, ?_⟩
  refine List.forall_mem_cons.2 ⟨g2, ?_⟩
  refine List.forall_mem_cons.2 ⟨g3, ?_⟩
  refine List.forall_mem_cons.2 ⟨g4, ?_⟩
  refine List.forall_mem_cons.2 ⟨g5, ?_⟩
  refine List.forall_mem_cons.2 ⟨g6, ?_⟩
  refine List.forall_mem_cons.2 ⟨g7, ?_⟩
  refine List.forall_mem_cons.2 ⟨g8, ?_⟩
  exact List.forall_mem_nil _

theorem kw9_nums (w : World) : ArrIs 3 (kw9 w) w.heap.size [-9223372036854775808, -1, 0, 1, 100, 9007199254740991, 9007199254740992, 9223372036854775807] := (kw0_keeps w).row (Row.new w _ 3) (by simp)

theorem kw9_paths (w : World) : Row (kw9 w) (w.heap.size + 1 + 1 + 1 + 1 + 1 + 1 + 1 + 1 + 1) 54 (kps w) := by
  have := Row.new (kw8 w) (kps w) 54
  rw [kw8_size] at this
  exact this

end Go.Proofs.Ytlndpljhcempoaa

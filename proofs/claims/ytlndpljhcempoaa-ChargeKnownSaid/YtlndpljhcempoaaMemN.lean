/- New, Len, Count, Words of a memory; EqWords of equal words. -/
import Derived.Test.YtlndpljhcempoaaMemQ
import Derived.Deep.OwnRows
namespace Go.Proofs.Ytlndpljhcempoaa
open Go.RowKit

set_option maxRecDepth 100000 in
set_option maxHeartbeats 400000 in
/-- New, of a number that is none. -/
theorem new_bad (w : World) (n : Int) (h : n < 1 ∨ 4096 < n) :
    Calls Try.prog 23 #[.int .i64 n] w fun e w' => e = .returned (.tuple #[.pointer none, .int .i64 9]) ∧ w = w' := by
  by_cases h1 : n < 1
  · go_enter Try.func23, Try.ntmps23
    go_wp2
    go_ret2
    exact ⟨rfl, rfl⟩
  · have h2 : 4096 < n := by omega
    go_enter Try.func23, Try.ntmps23
    go_wp2
    go_ret2
    exact ⟨rfl, rfl⟩

theorem Try.info29 : (Try.prog.info? 29).map (fun i => (i.zero, i.size, i.bytes)) = some (some (.int .u64 0), 1, 8) := by kernel_rfl

theorem madeCells_one (z : Value) (n : Nat) : madeCells #[z] n = (List.replicate n z).toArray := by
  apply Array.ext
  · simp [madeCells]
  · intro i h1 h2
    simp [madeCells, Nat.mod_one]

theorem make22 (w : World) (n : Nat) (h : n ≤ 4096) : (Instr.makeSlice 22 (.int .i64 (n : Int)) (.int .i64 (n : Int))).run Try.prog w = .ok (.slice (some ⟨w.heap.size, 0, none⟩) n n) (w.alloc (.cells (wd (List.replicate n 0)).toArray 29)) := by
  have := run_make_row' (P := Try.prog) 22 29 (.int .u64 0) 8 Try.underlying22 Try.info29 rfl .i64 .i64 n (by omega) (by omega) w
  rw [this, madeCells_one]
  simp [wd]

set_option maxRecDepth 100000 in
set_option maxHeartbeats 400000 in
/-- New. -/
theorem new_ok (w : World) (n : Nat) (h : 1 ≤ n) (h' : n ≤ 4096) :
    Calls Try.prog 23 #[.int .i64 n] w fun e w' => e = .returned (.tuple #[.pointer (some ⟨w.heap.size + 1, 0, none⟩), .int .i64 0]) ∧ MemIs w' (w.heap.size + 1) w.heap.size (List.replicate n 0) 0 ∧ Keeps [] w w' := by
  refine calls_hide fun R HR => ?_
  have hmk := make22 w n h'
  go_enter Try.func23, Try.ntmps23
  go_wp2
  try go_ret2
  refine HR.out _ _ ⟨rfl, ⟨?_, ?_, by simp, by simpa using h'⟩, ?_⟩
  · have := Row.new (w.alloc (.cells (wd (List.replicate n 0)).toArray 29)) [.slice (some ⟨w.heap.size, 0, none⟩) (List.replicate n (0 : Int)).length (List.replicate n (0 : Int)).length, .int .i64 0] 66
    simpa using this
  · exact (Row.new w _ 29).alloc _
  · exact ((Keeps.refl _ _).alloc _).alloc _

set_option maxRecDepth 100000 in
set_option maxHeartbeats 400000 in
theorem len_any (w : World) (bm bw : Nat) (ws : List Int) (cnt : Int) (h : MemIs w bm bw ws cnt) :
    Calls Try.prog 33 #[.pointer (some ⟨bm, 0, none⟩)] w fun e w' => e = .returned (.int .i64 ws.length) ∧ w = w' := by
  have hm0 := h.hd.cell (i := 0) rfl
  clear h
  go_enter Try.func33, Try.ntmps33
  go_wp2
  go_ret
  exact ⟨rfl, rfl⟩

set_option maxRecDepth 100000 in
set_option maxHeartbeats 400000 in
theorem count_any (w : World) (bm bw : Nat) (ws : List Int) (cnt : Int) (h : MemIs w bm bw ws cnt) :
    Calls Try.prog 31 #[.pointer (some ⟨bm, 0, none⟩)] w fun e w' => e = .returned (.int .i64 cnt) ∧ w = w' := by
  have hm0 := h.hd.cell (i := 1) rfl
  clear h
  go_enter Try.func31, Try.ntmps31
  go_wp2
  go_ret
  exact ⟨rfl, rfl⟩

theorem wd_app {ws : List Int} {k : Nat} (hk : k < ws.length) (r : List Value) : (wd ws ++ r)[k]? = some (.int .u64 (ws.getD k 0)) := by
  rw [List.getElem?_append_left (by simpa [wd] using hk)]
  exact wd_get hk

/-- A slice of words in a block of its own. -/
def WordsAt (w : World) (v : Value) (ws : List Int) (B : Nat) : Prop := ∃ g cap rest, v = .slice (some ⟨g, 0, none⟩) ws.length cap ∧ B ≤ g ∧ Row w g 29 (wd ws ++ rest)

/-- What owns a row, said with Row. -/
theorem row_of_owns {w : World} {base : Nat} {e : TypeId} {v : Value} {n : Nat} {xs : List Value} (h : w.ownsRow base e 1 v n xs) (hn : 0 < n) :
    ∃ g cap rest, v = .slice (some ⟨g, 0, none⟩) n cap ∧ base ≤ g ∧ Row w g e (xs ++ rest) ∧ xs.length = n ∧ n + rest.length = cap := by
  obtain ⟨h1, h2⟩ := h
  rcases h2 with ⟨_, h2⟩ | ⟨g, cap, cur, hv, hg, hh, hcap, _, hsz, hx⟩
  · omega
  · refine ⟨g, cap, cur.toList.drop n, hv, hg, ?_, by simpa using h1, by simp; omega⟩
    unfold Row
    rw [hh, ← hx, Nat.mul_one, List.take_append_drop, Array.toArray_toList]

theorem Keeps.ofGrown {w w' : World} (h : w.grownBy w' none) : Keeps [] w w' := ⟨h.os, h.tape, h.output, h.size, fun k hk _ => h.block k hk (by simp)⟩

set_option maxRecDepth 100000 in
set_option maxHeartbeats 400000 in
/-- slices.Clone of words. -/
theorem clone_any (w : World) (bw : Nat) (ws : List Int) (hr : Row w bw 29 (wd ws)) (h0 : 0 < ws.length) (hl : ws.length ≤ 4096) :
    Calls Try.prog 86 #[.slice (some ⟨bw, 0, none⟩) ws.length ws.length] w fun e w' => ∃ v, e = .returned v ∧ WordsAt w' v ws w.heap.size ∧ Keeps [] w w' := by
  refine calls_hide fun R HR => ?_
  obtain ⟨i0, hi, hz0, hz1, hz2⟩ := info_parts Try.info29
  have hr1 := hr.alloc (.cells #[] 29)
  go_enter Try.func86, Try.ntmps86
  go_wp2_with (at_builtin; refine wpList_append_grows _ rfl _ _ 22 rfl 29 i0 (.int .u64 0) 1 8 Try.underlying22 hi hz0 hz1 hz2 rfl (by decide) _ 0 0 [] rfl ?_ rfl ?_ ⟨bw, 0, none⟩ ws.length ws.length (wd ws) rfl ?_ ?_ ?_ ?_ ?_ ?_ ?_)
  · intro b _ j u hj; simp at hj
  · simp [wd]
  · intro j u hj; rw [Addr.add_lit, Nat.zero_add]; exact hr1.cell hj
  · intro u hu; simp only [wd, List.mem_map] at hu; obtain ⟨x, _, rfl⟩ := hu; rfl
  · omega
  · unfold maxLen; omega
  · omega
  intro v1 w1 hown hgrow
  obtain ⟨g, cap, rest, rfl, hg, hrow, _, _⟩ := row_of_owns hown h0
  have HP := Lib.hid (And.intro hg (And.intro hrow hgrow))
  clear hown hgrow hg hrow hr hr1
  go_wp2
  try go_ret
  refine HR.out _ _ ⟨_, rfl, ⟨g, cap, rest, rfl, by have := HP.out.1; omega, HP.out.2.1⟩, ?_⟩
  exact ((Keeps.refl _ _).alloc _).trans (Keeps.ofGrown HP.out.2.2) (by simp)

set_option maxRecDepth 100000 in
set_option maxHeartbeats 400000 in
/-- Words. -/
theorem words_any (w : World) (bm bw : Nat) (ws : List Int) (cnt : Int) (h : MemIs w bm bw ws cnt) (h0 : 0 < ws.length) :
    Calls Try.prog 35 #[.pointer (some ⟨bm, 0, none⟩)] w fun e w' => ∃ v, e = .returned v ∧ WordsAt w' v ws w.heap.size ∧ Keeps [] w w' := by
  refine calls_hide fun R HR => ?_
  have hm0 := h.hd.cell (i := 0) rfl
  go_enter Try.func35, Try.ntmps35
  go_wp2_with fail
  refine (clone_any w bw ws h.wr h0 h.len).mono ?_
  rintro e w' ⟨v, rfl, hp⟩
  have HP := Lib.hid hp
  clear hp h hm0
  go_wp2
  try go_ret
  exact HR.out _ _ ⟨_, rfl, HP.out⟩

set_option maxRecDepth 100000 in
set_option maxHeartbeats 400000 in
/-- EqWords of equal words. -/
theorem eqwords_any (w : World) (ws : List Int) (a b ca cb : Nat) (ra rb : List Value) (ha : Row w a 29 (wd ws ++ ra)) (hb : Row w b 29 (wd ws ++ rb)) (hl : ws.length ≤ 4096) :
    Calls Try.prog 34 #[.slice (some ⟨a, 0, none⟩) ws.length ca, .slice (some ⟨b, 0, none⟩) ws.length cb] w fun e w' => e = .returned (.bool true) ∧ ∃ n, w' = w.drewN n := by
  refine calls_hide fun R HR => ?_
  go_enter Try.func34, Try.ntmps34
  go_wp2_with fail
  go_loopw [5] (fun i wr => ∃ k n : Nat, k ≤ ws.length ∧ i = .int .i64 k ∧ wr = w.drewN n) (fun i _ => ws.length - (intOf i).toNat)
  case atStart => exact ⟨0, 0, Nat.zero_le _, rfl, rfl⟩
  case round =>
    obtain ⟨k, n, hk, rfl, rfl⟩ := hrel
    by_cases hlt : k < ws.length
    · have hca : w.cell? ⟨a, k, none⟩ = some (.int .u64 (ws.getD k 0)) := ha.cell (wd_app hlt ra)
      have hcb : w.cell? ⟨b, k, none⟩ = some (.int .u64 (ws.getD k 0)) := hb.cell (wd_app hlt rb)
      generalize ws.getD k 0 = y at *
      have hyy : (y != y) = false := by simp
      go_wp2
      go_quiet (fail)
      go_wp2
      go_roundw
      case rel => exact ⟨k + 1, n + nq, by omega, by go_num, by simp⟩
      case measure => simp [intOf]; omega
    · go_wp2
      try go_ret
      exact HR.out _ _ ⟨rfl, n, rfl⟩
end Go.Proofs.Ytlndpljhcempoaa

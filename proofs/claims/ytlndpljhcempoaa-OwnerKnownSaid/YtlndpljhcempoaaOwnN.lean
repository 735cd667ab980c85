/- The reference's owners (wainscotref14): New: a row appended for each slab. No condition. -/
import Derived.Test.YtlndpljhcempoaaOwnS
import Derived.Deep.RegionLaw
import Derived.Deep.AppendLies
import Derived.Deep.OwnRows
namespace Go.Proofs.Ytlndpljhcempoaa
open Go.RowKit

theorem Try.info54 : (Try.prog.info? 54).map (fun i => (i.zero, i.size, i.bytes)) = some (some (.slice none 0 0), 1, 24) := by kernel_rfl
theorem Try.info3n : (Try.prog.info? 3).map (fun i => (i.zero, i.size, i.bytes)) = some (some (.int .i64 0), 1, 8) := by kernel_rfl

theorem madeCells_unit (z : Value) (n : Nat) : madeCells #[z] n = (List.replicate n z).toArray := by
  apply Array.ext
  · simp [madeCells]
  · intro i h1 h2
    simp [madeCells]
    have : i % 1 = 0 := by omega
    simp [this]

theorem make54 (w : World) (n : Nat) (h : n ≤ 16) : (Instr.makeSlice 54 (.int .i64 (n : Int)) (.int .i64 (n : Int))).run Try.prog w = .ok (.slice (some ⟨w.heap.size, 0, none⟩) n n) (w.alloc (.cells (List.replicate n (.int .i64 0)).toArray 3)) := by
  obtain ⟨i, hi, hzz⟩ := Option.map_eq_some_iff.1 Try.info3n
  simp only [Prod.mk.injEq] at hzz
  obtain ⟨hz, hs, hb⟩ := hzz
  have := run_make (P := Try.prog) w 54 3 i _ Try.underlying54 hi hz .i64 .i64 n n (by omega) (Int.le_refl _) (by rw [hb]; omega) (by omega)
  rw [this, hs, Int.toNat_natCast, Nat.mul_one]
  show Result.ok _ (w.alloc (.cells (madeCells #[.int .i64 0] n) 3)) = _
  rw [madeCells_unit]

theorem Keeps.turned {a w w' : World} {row : Option Nat} (h : Keeps [] a w) (hg : w.grownBy w' row) (hr : ∀ k, row = some k → a.heap.size ≤ k) : Keeps [] a w' :=
  ⟨hg.os.trans h.os, hg.tape.trans h.tape, hg.output.trans h.output, Nat.le_trans h.size hg.size, fun k hk _ =>
    (hg.block k (Nat.lt_of_lt_of_le hk h.size) (fun e => by have := hr k e.symm; omega)).trans (h.block k hk (by simp))⟩

theorem Row.turned {w w' : World} {b : Nat} {t : TypeId} {vs : List Value} {row : Option Nat} (h : Row w b t vs) (hg : w.grownBy w' row) (hne : row ≠ some b) : Row w' b t vs := by
  have := h.lt
  unfold Row at h ⊢
  rw [hg.block b this (fun e => hne e.symm), h]

theorem new_block (w : World) (A B : Obj) : ((w.drew.alloc A).alloc B).heap[w.heap.size + 1]? = some B := by
  have := heap_alloc_new (w.drew.alloc A) B
  have e : (w.drew.alloc A).heap.size = w.heap.size + 1 := by simp
  rw [e] at this
  exact this

/-- A table in the making: k rows so far. -/
structure NewIs (w0 w : World) (r O k : Nat) (v : Value) (rs : List Nat) : Prop where
  len : rs.length = k
  hd : Row w r 137 [v]
  own : w.ownsRow (r + 1) 54 1 v k (rs.map fun b => .slice (some ⟨b, 0, none⟩) O O)
  rows : ∀ q ∈ rs, Row w q 3 (List.replicate O (.int .i64 0))
  gt : ∀ q ∈ rs, r < q
  nd : rs.Nodup
  apart : ∀ q ∈ rs, v.ownBlock ≠ some q
  ks : Keeps [] w0 w
  old : w0.heap.size ≤ r

theorem NewIs.next {w0 w w1 : World} {r O k : Nat} {v : Value} {rs : List Nat} (h : NewIs w0 w r O k v rs) {g cap : Nat}
    (hown : w1.ownsRow (r + 1) 54 1 (.slice (some ⟨g, 0, none⟩) (k + 1) cap) (k + 1) ((rs.map fun b => .slice (some ⟨b, 0, none⟩) O O) ++ [.slice (some ⟨w.heap.size, 0, none⟩) O O]))
    (hgrow : ((w.drew.alloc (.cells (Array.replicate O (.int .i64 0)) 3)).alloc (.cells #[.slice (some ⟨w.heap.size, 0, none⟩) O O] 54)).grownBy w1 v.ownBlock)
    (hat : v.ownBlock = some g ∨ g = w.heap.size + 1 + 1) :
    NewIs w0 (w1.setCell ⟨r, 0, none⟩ (.slice (some ⟨g, 0, none⟩) (k + 1) cap)) r O (k + 1) (.slice (some ⟨g, 0, none⟩) (k + 1) cap) (rs ++ [w.heap.size]) := by
  have hlt : ∀ q ∈ rs, q < w.heap.size := fun q hq => (h.rows q hq).lt
  have hrlt := h.hd.lt
  have hob : ∀ j, v.ownBlock = some j → r + 1 ≤ j ∧ j < w.heap.size := h.own.lt
  have hge : r + 1 ≤ g := by rcases hat with e | e; exact (hob g e).1; omega
  have hrg : r ≠ g := by omega
  have hset : w1.grownBy (w1.setCell ⟨r, 0, none⟩ (.slice (some ⟨g, 0, none⟩) (k + 1) cap)) (some r) :=
    ⟨rfl, rfl, rfl, by simp, fun i _ hne => heap_setCell_other w1 _ i _ (fun e => hne (by rw [e]))⟩
  have hr1 : Row w1 r 137 [v] := ((h.hd.drew.alloc _).alloc _).turned hgrow (fun e => by have := hob r e; omega)
  have hnew0 : Row (w.drew.alloc (.cells (Array.replicate O (.int .i64 0)) 3)) w.heap.size 3 (List.replicate O (.int .i64 0)) := by
    have := Row.new w.drew (List.replicate O (.int .i64 0)) 3
    simpa using this
  have hnew : Row w1 w.heap.size 3 (List.replicate O (.int .i64 0)) := (hnew0.alloc _).turned hgrow (fun e => by have := hob _ e; have hd : w.drew.heap.size = w.heap.size := rfl; omega)
  have hkeep : Keeps [] w0 w1 := (((h.ks.drew).alloc _).alloc _).turned hgrow (fun j e => by have := hob j e; have := h.old; omega)
  refine ⟨by simp [h.len], hr1.set 0 _, ?_, fun q hq => ?_, fun q hq => ?_, ?_, fun q hq => ?_, hkeep.set (.inr (by have := h.old; exact this)) _, h.old⟩
  · have := hown.kept hset (.inr (by simp only [Value.ownBlock, ne_eq, Option.some.injEq]; omega))
    simpa using this
  · rcases List.mem_append.1 hq with hq | hq
    · exact (((((h.rows q hq).drew.alloc _).alloc _).turned hgrow (h.apart q hq)).turned hset (by have := h.gt q hq; simp only [ne_eq, Option.some.injEq]; omega))
    · obtain rfl := List.mem_singleton.1 hq
      exact hnew.turned hset (by simp only [ne_eq, Option.some.injEq]; omega)
  · rcases List.mem_append.1 hq with hq | hq
    · exact h.gt q hq
    · obtain rfl := List.mem_singleton.1 hq; exact hrlt
  · rw [List.nodup_append]
    refine ⟨h.nd, by simp, fun a ha b hb => ?_⟩
    obtain rfl := List.mem_singleton.1 hb
    have := hlt a ha
    omega
  · simp only [Value.ownBlock, ne_eq, Option.some.injEq]
    rcases List.mem_append.1 hq with hq | hq
    · rcases hat with e | e
      · have := h.apart q hq
        rw [e] at this
        simpa using this
      · have := hlt q hq; omega
    · obtain rfl := List.mem_singleton.1 hq
      rcases hat with e | e
      · have := (hob g e).2; omega
      · omega

/-- The table, whole. -/
theorem NewIs.grid {w0 w : World} {r O S : Nat} {v : Value} {rs : List Nat} (h : NewIs w0 w r O S v rs) (h1 : 1 ≤ S) (h2 : S ≤ 256) (h3 : 1 ≤ O) (h4 : O ≤ 16) : ∃ g, GridIs w r g rs S O (fun _ _ => 0) ∧ r < g := by
  obtain ⟨g, cap, rfl, hg, hlt⟩ := h.own.form (by omega)
  refine ⟨g, ⟨h.len, ⟨cap, h.hd⟩, hlt, fun s hs => ?_, fun s hs => ?_, h.nd, fun hm => by have := h.gt r hm; omega, fun hm => h.apart g hm rfl, by omega, Fine.none h1 h2 h3 h4⟩, by omega⟩
  · have := h.own.cellAt s (by have := h.len; omega)
    rw [this, List.getElem?_map, List.getElem?_eq_getElem hs]; rfl
  · have := h.rows _ (List.getElem_mem hs)
    have e : gridRow (fun _ _ => 0) s O = List.replicate O (.int .i64 0) := by
      refine List.ext_getElem (by simp [gridRow]) fun n _ _ => ?_
      simp [gridRow]
    rw [e]; exact this

set_option maxRecDepth 100000 in
set_option maxHeartbeats 3200000 in
theorem rnew14_ok (w : World) (S O : Nat) (h1 : 1 ≤ S) (h2 : S ≤ 256) (h3 : 1 ≤ O) (h4 : O ≤ 16) :
    Calls Try.prog 59 #[.int .i64 S, .int .i64 O] w fun e w' => e = .returned (.tuple #[.pointer (some ⟨w.heap.size, 0, none⟩), .int .i64 0]) ∧ (∃ g rs, GridIs w' w.heap.size g rs S O (fun _ _ => 0) ∧ w.heap.size < g ∧ ∀ q ∈ rs, w.heap.size < q) ∧ Keeps [] w w' := by
  refine calls_hide fun R HR => ?_
  have q1 : decide ((S : Int) < 1) = false := decide_eq_false (by omega)
  have q2 : decide (256 < (S : Int)) = false := decide_eq_false (by omega)
  have q3 : decide ((O : Int) < 1) = false := decide_eq_false (by omega)
  have q4 : decide (16 < (O : Int)) = false := decide_eq_false (by omega)
  obtain ⟨i0, hi, hz0, hz1, hz2⟩ := info_parts Try.info54
  have hst : NewIs w (w.alloc (.cells #[.slice none 0 0] 137)) w.heap.size O 0 (.slice none 0 0) [] :=
    ⟨rfl, Row.new w [.slice none 0 0] 137, World.ownsRow_nil _ _ _ _, fun q hq => by simp at hq, fun q hq => by simp at hq, by simp, fun q hq => by simp at hq, (Keeps.refl [] w).alloc _, Nat.le_refl _⟩
  have HST := Lib.hid hst
  clear hst
  go_enter Try.func59, Try.ntmps59
  go_wp2_with fail
  clear q1 q2 q3 q4
  go_loopw [7] (fun i wr => ∃ (k : Nat) (v : Value) (rs : List Nat), k ≤ S ∧ i = .int .i64 k ∧ NewIs w wr w.heap.size O k v rs) (fun i _ => S - (intOf i).toNat)
  case atStart => exact ⟨0, _, [], by omega, rfl, HST.out⟩
  case round =>
    obtain ⟨k, v, rs, hk, rfl, hn⟩ := hrel
    by_cases hlt : k < S
    · have c0 := hn.hd.cell (i := 0) rfl
      have f0 := hn.hd.free 0
      have hrl := hn.hd.lt
      have hmk : ∀ W, (Instr.makeSlice 54 (.int .i64 (O : Int)) (.int .i64 (O : Int))).run Try.prog W = _ := fun W => make54 W O h4
      have HN := Lib.hid hn
      have hown := Lib.hid hn.own
      clear hn
      have hb1 : k + 1 ≤ maxLen := by unfold maxLen; omega
      have hb2 : (k + 1) * 24 ≤ 140737488355328 := by omega
      have hob : v.ownBlock ≠ some w.heap.size := fun e => by have := hown.out.lt _ e; omega
      have HB := Lib.hid (And.intro hb1 (And.intro hb2 hob))
      have hne := World.new_ne wr _ c0
      clear hb1 hb2 hob
      go_wp2_with fail
      go_region_law
        ((refine step_append_lies _ (by rfl) _ _ _ (by rfl) (w.heap.size + 1) 54 i0 _ 1 24 Try.underlying70 hi hz0 hz1 hz2 rfl (by omega) v k _ (by rfl) (((hown.out.drew).alloc _).alloc _)
            ⟨wr.heap.size + 1, 0, none⟩ 1 1 [.slice (some ⟨wr.heap.size, 0, none⟩) O O] (by rfl) (by rfl) (World.news_of_block (cs := #[.slice (some ⟨wr.heap.size, 0, none⟩) O O]) (t := 54) (fr := (0, 0)) (new_block wr _ _)) (by simp [Value.oneCell'])
            (by omega) HB.out.1 HB.out.2.1 (by simp; omega) (wr.heap.size + 1 + 1) (by simp) ?_; intro gg cap w1 hown1 hgrow hat hlt1
          have c9 := ((((HN.out.hd.alloc _).alloc _).drew).turned hgrow HB.out.2.2).cell (i := 0) rfl
          have f9 := ((((HN.out.hd.alloc _).alloc _).drew).turned hgrow HB.out.2.2).free 0))
      all_goals
        have HT := Lib.hid (HN.out.next hown1 hgrow hat)
        clear hown1 hgrow hat hlt1 c9 f9 hmk c0 f0
        go_wp2
        go_roundw
        case rel => exact ⟨k + 1, _, _, by omega, by go_num, HT.out⟩
        case measure => simp [intOf]; omega
    · obtain rfl : k = S := by omega
      have HN := Lib.hid hn
      clear hn
      go_wp2
      try go_ret2
      obtain ⟨g, hg, hlt'⟩ := HN.out.grid h1 h2 h3 h4
      exact HR.out _ _ ⟨rfl, ⟨g, rs, hg, hlt', HN.out.gt⟩, HN.out.ks⟩

set_option maxRecDepth 100000 in
set_option maxHeartbeats 800000 in
theorem rnew14_bad (w : World) (S O : Int) (h : newOk S O = false) :
    Calls Try.prog 59 #[.int .i64 S, .int .i64 O] w fun e w' => e = .returned (.tuple #[.pointer none, .int .i64 2]) ∧ w = w' := by
  have h := of_decide_eq_false h
  by_cases q1 : S < 1
  · go_enter Try.func59, Try.ntmps59
    go_wp2
    try go_ret2
    exact ⟨rfl, rfl⟩
  · by_cases q2 : 256 < S
    · go_enter Try.func59, Try.ntmps59
      go_wp2
      try go_ret2
      exact ⟨rfl, rfl⟩
    · by_cases q3 : O < 1
      · go_enter Try.func59, Try.ntmps59
        go_wp2
        try go_ret2
        exact ⟨rfl, rfl⟩
      · have q4 : 16 < O := by omega
        go_enter Try.func59, Try.ntmps59
        go_wp2
        try go_ret2
        exact ⟨rfl, rfl⟩

end Go.Proofs.Ytlndpljhcempoaa

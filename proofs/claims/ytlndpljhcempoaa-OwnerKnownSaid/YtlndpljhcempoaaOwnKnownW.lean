/- OwnerKnown, the walk: both ends of all; owners that are none. No condition. -/
import Derived.Test.YtlndpljhcempoaaOwnPlaysW
import Derived.Deep.AppendLies
import Derived.OwnWalk
namespace Go.Proofs.Ytlndpljhcempoaa
open Go.RowKit

theorem Try.info102 : (Try.prog.info? 102).map (fun i => (i.zero, i.size, i.bytes)) = some (some (.agg #[.int .i64 0, .int .i64 0, .int .i64 0, .int .i64 0, .int .i64 0]), 5, 40) := by kernel_rfl

/-- A list of calls of one's own: its cells are numbers. -/
structure Nums (w0 w : World) (v : Value) (n : Nat) (cs : List Value) : Prop where
  own : w.ownsRow w0.heap.size 102 5 v n cs
  ks : Keeps [] w0 w
  good : ∀ u ∈ cs, ∃ z : Int, u = .int .i64 z

theorem Nums.nil (w : World) {w' : World} (hk : Keeps [] w w') : Nums w w' (.slice none 0 0) 0 [] := ⟨World.ownsRow_nil _ _ _ _, hk, fun u hu => by simp at hu⟩

theorem Nums.elems {w0 w w' : World} {v : Value} {n : Nat} {cs : List Value} (h : Nums w0 w v n cs) (hk : Keeps [] w w') : ∃ a cap, v = .slice a n cap ∧ IsElems w' a n cap 5 GoodNum := by
  obtain ⟨hl, ho⟩ := h.own
  rcases ho with ⟨rfl, rfl⟩ | ⟨g, cap, cur, rfl, _, hh, hcap, hmax, hsz, htake⟩
  · exact ⟨none, 0, rfl, .inl ⟨rfl, rfl, rfl⟩⟩
  · have hrow : Row w g 102 cur.toList := by unfold Row; rw [hh, Array.toArray_toList]
    refine ⟨_, cap, rfl, .inr ⟨_, rfl, hcap, hmax, fun i hi j hj => ?_⟩⟩
    have hlt : i * 5 + j < n * 5 := by omega
    have hlc : i * 5 + j < cs.length := by omega
    have hcs : cs[i * 5 + j]? = cur.toList[i * 5 + j]? := by rw [← htake, List.getElem?_take_of_lt hlt]
    have hv : cs[i * 5 + j]? = some cs[i * 5 + j] := List.getElem?_eq_getElem hlc
    refine ⟨cs[i * 5 + j], ?_, h.good _ (List.getElem_mem hlc)⟩
    have hc := (hk.row hrow (by simp)).cell (i := i * 5 + j) (v := cs[i * 5 + j]) (by rw [← hcs, hv])
    unfold Addr.add
    dsimp only
    rw [Nat.zero_add]
    split
    · next h0 =>
      generalize cs[i * 5 + j] = u at hc ⊢
      rw [h0] at hc; exact hc
    · exact hc

theorem Nums.more {w0 w w' : World} {v v' : Value} {n k : Nat} {cs news : List Value} (h : Nums w0 w v n cs) (hown : w'.ownsRow w0.heap.size 102 5 v' (n + k) (cs ++ news)) (hk : Keeps [] w0 w') (hn : ∀ u ∈ news, ∃ z : Int, u = .int .i64 z) : Nums w0 w' v' (n + k) (cs ++ news) :=
  ⟨hown, hk, fun u hu => (List.mem_append.1 hu).elim (h.good u) (hn u)⟩

theorem Keeps.onto {a w w' : World} {row : Option Nat} (h : Keeps [] a w) (hg : w.grownBy w' row) (hr : ∀ k, row = some k → a.heap.size ≤ k) : Keeps [] a w' :=
  ⟨hg.os.trans h.os, hg.tape.trans h.tape, hg.output.trans h.output, Nat.le_trans h.size hg.size, fun k hk _ =>
    (hg.block k (Nat.lt_of_lt_of_le hk h.size) (fun e => by have := hr k e.symm; omega)).trans (h.block k hk (by simp))⟩

/-- The nine calls behind the forty. -/
def known9 : List Int := [2, 0, 0, 1, 17, 2, 0, 0, 0, 1, 2, 0, 0, 4, 4, 2, 0, 0, 5, 16, 0, -1, 0, 1, 0, 0, 300, 0, 1, 0, 0, 0, 0, 17, 0, 0, 0, 0, 16, 0, 0, 0, 16, 1, 0]
/-- The sizes. -/
def known8 : List Int := [0, 1, 1, 0, 257, 1, 1, 17, 256, 16, 1, 1, 3, 16, -1, -1]

theorem row_int {w : World} {b : Nat} {t : TypeId} {V : List Int} (h : Row w b t (V.map (.int .i64))) {g : Nat} (hg : g < V.length) : w.cell? ⟨b, g, none⟩ = some (.int .i64 (V.getD g 0)) := by
  refine h.cell ?_
  rw [List.getElem?_map, List.getElem?_eq_getElem hg, List.getD_eq_getElem?_getD, List.getElem?_eq_getElem hg]
  rfl

theorem noOwn_new (w : World) : NoOwn (w.alloc (.cells #[.int .i64 0, .int .i64 0, .map none] 114)) (.pointer (some ⟨w.heap.size, 0, none⟩)) :=
  .inr ⟨_, rfl, Row.new w [.int .i64 0, .int .i64 0, .map none] 114⟩

set_option maxRecDepth 100000 in
set_option maxHeartbeats 6400000 in
theorem known14_keeps (w : World) : Calls Try.prog 17 #[] w fun e w' => e = .returned (.bool true) ∧ Keeps [] w w' := by
  refine calls_hide fun R HR => ?_
  obtain ⟨i0, hi, hz0, hz1, hz2⟩ := info_parts Try.info102
  go_enter Try.func17, Try.ntmps17
  go_wp2_with fail
  go_loopw [1, 2] (fun v i wr => ∃ k : Nat, k ≤ 2 ∧ i = .int .i64 k ∧ NoOwn wr v ∧ Keeps [] w wr) (fun _ i _ => 2 - (intOf i).toNat)
  case atStart => exact ⟨0, by omega, rfl, .inl rfl, Keeps.refl _ _⟩
  case round =>
    obtain ⟨k, hk, rfl, hno, hkr⟩ := hrel
    by_cases hlt : k < 2
    · have HM := Lib.hid (And.intro hno hkr)
      clear hno hkr
      go_wp2_with fail
      refine (oclear_none wr _ HM.out.1 (-1) 0).mono ?_
      rintro e x1 ⟨rfl, hk1⟩
      have X1 := Lib.hid (And.intro (HM.out.1.keeps hk1 (by simp)) (HM.out.2.trans hk1 (by simp)))
      clear hk1
      go_wp2_with fail
      refine (omove_none x1 _ X1.out.1 0 0).mono ?_
      rintro e y ⟨rfl, rfl⟩
      go_wp2_with fail
      refine (oof_none x1 _ X1.out.1 0 0).mono ?_
      rintro e y ⟨rfl, rfl⟩
      go_wp2_with fail
      refine (ocount_none x1 _ X1.out.1 1).mono ?_
      rintro e y ⟨rfl, rfl⟩
      go_wp2_with fail
      refine (oset_none x1 _ X1.out.1 (-1) 0 0).mono ?_
      rintro e x2 ⟨rfl, hk1⟩
      have X2 := Lib.hid (And.intro (X1.out.1.keeps hk1 (by simp)) (X1.out.2.trans hk1 (by simp)))
      clear hk1
      go_wp2_with fail
      refine (oempty_none x2 _ X2.out.1 0).mono ?_
      rintro e x3 ⟨rfl, hk1⟩
      have X3 := Lib.hid (X2.out.2.trans hk1 (by simp))
      clear hk1
      go_wp2
      go_roundw
      case rel => exact ⟨k + 1, by omega, by go_num, noOwn_new x3, X3.out.alloc _⟩
      case measure => simp [intOf]; omega
    · obtain rfl : k = 2 := by omega
      have HK := Lib.hid hkr
      clear hno hkr hlt hk
      go_wp2_with fail
      rw [show (((2 : Nat)) : Int) = 2 from rfl]
      go_loopw [7, 8] (fun v i wx => ∃ (k : Nat) (cs : List Value), k ≤ 20 ∧ i = .int .i64 k ∧ Nums w wx v (k * 2) cs) (fun _ i _ => 20 - (intOf i).toNat)
      case atStart => exact ⟨0, [], by omega, rfl, Nums.nil w HK.out⟩
      case round =>
        obtain ⟨k, cs, hk, rfl, hnu⟩ := hrel
        have HN := Lib.hid hnu
        clear hnu
        by_cases hlt : k < 20
        · have i1 : (0 : Int) ≤ (k : Int) := by omega
          have i2 : (k : Int) < 20 := by omega
          have HB : Hid (k * 2 + 2 ≤ maxLen ∧ (k * 2 + 2) * 40 ≤ 140737488355328 ∧ w.heap.size ≤ wr.heap.size) := Lib.hid ⟨by unfold maxLen; omega, by omega, HN.out.ks.size⟩
          have HOB := Lib.hid HN.out.own.lt
          go_wp2_with (at_builtin; refine wpList_append_lies _ rfl _ _ 94 rfl w.heap.size 102 i0 (.agg #[.int .i64 0, .int .i64 0, .int .i64 0, .int .i64 0, .int .i64 0]) 5 40 Try.underlying94 hi hz0 hz1 hz2 rfl (by decide) _ _ _ rfl (HN.out.own.alloc _) ⟨wr.heap.size, 0, none⟩ 2 2 [.int .i64 0, .int .i64 ((k : Int) % 3), .int .i64 ((k : Int) - 2), .int .i64 ((k : Int) - 1), .int .i64 0, .int .i64 1, .int .i64 ((k : Int) % 4), .int .i64 ((k : Int) - 3), .int .i64 0, .int .i64 0] rfl rfl ?c1 ?c2 (by omega) HB.out.1 HB.out.2.1 ?c3 (wr.heap.size + 1) ?c4 ?_)
          case c1 => exact World.news_of_block (heap_alloc_new wr _)
          case c2 => simp [Value.oneCell']
          case c3 => simp; have := HB.out.2.2; omega
          case c4 => simp
          · intro g cap w1 hown1 hgrow hat hlt1
            have H1 := Lib.hid (HN.out.more hown1 ((HN.out.ks.alloc _).onto hgrow (fun q hq => (HOB.out q hq).1)) (by simp))
            clear hown1 hgrow hat hlt1
            go_wp2
            go_roundw
            case rel => exact ⟨k + 1, _, by omega, by go_num, by rw [show (k + 1) * 2 = k * 2 + 2 by omega]; exact H1.out⟩
            case measure => simp [intOf]; omega
        · obtain rfl : k = 20 := by omega
          have HB : Hid (20 * 2 + 9 ≤ maxLen ∧ (20 * 2 + 9) * 40 ≤ 140737488355328 ∧ w.heap.size ≤ wr.heap.size) := Lib.hid ⟨by unfold maxLen; omega, by omega, HN.out.ks.size⟩
          have HOB := Lib.hid HN.out.own.lt
          clear hlt hk
          go_wp2_with (at_builtin; refine wpList_append_lies _ rfl _ _ 94 rfl w.heap.size 102 i0 (.agg #[.int .i64 0, .int .i64 0, .int .i64 0, .int .i64 0, .int .i64 0]) 5 40 Try.underlying94 hi hz0 hz1 hz2 rfl (by decide) _ _ _ rfl (HN.out.own.alloc _) ⟨wr.heap.size, 0, none⟩ 9 9 (known9.map (Value.int .i64)) rfl rfl ?c1 ?c2 (by omega) HB.out.1 HB.out.2.1 ?c3 (wr.heap.size + 1) ?c4 ?_)
          case c1 => exact World.news_of_block (cs := (known9.map (Value.int .i64)).toArray) (t := 102) (fr := (0, 0)) (heap_alloc_new wr _)
          case c2 =>
            intro u hu
            obtain ⟨z, _, rfl⟩ := List.mem_map.1 hu
            rfl
          case c3 => simp; have := HB.out.2.2; omega
          case c4 => simp
          · intro g cap w1 hown1 hgrow hat hlt1
            have H1 : Hid (Nums w w1 (.slice (some ⟨g, 0, none⟩) 49 cap) 49 (cs ++ known9.map (.int .i64))) := Lib.hid (Nums.more (n := 40) (k := 9) HN.out hown1 ((HN.out.ks.alloc _).onto hgrow (fun q hq => (HOB.out q hq).1)) (fun u hu => by obtain ⟨z, _, rfl⟩ := List.mem_map.1 hu; exact ⟨z, rfl⟩))
            have HZ := Lib.hid (And.intro (Row.new w1 (known8.map (Value.int .i64)) 89) ((Keeps.refl [] w1).alloc (.cells (known8.map (Value.int .i64)).toArray 89)))
            clear hown1 hgrow hat hlt1
            go_wp2_with fail
            have hsl := HZ.out.1.lt
            obtain ⟨sb, hsb⟩ : ∃ sb, sb = w1.heap.size := ⟨_, rfl⟩
            rw [← hsb] at HZ ⊢
            clear hsb hsl
            go_loopw [10] (fun i wi => ∃ x : Nat, x ≤ 8 ∧ i = .int .i64 x ∧ Row wi sb 89 (known8.map (.int .i64)) ∧ Keeps [] w1 wi) (fun i _ => 8 - (intOf i).toNat)
            case atStart => exact ⟨0, by omega, rfl, HZ.out.1, HZ.out.2⟩
            case round =>
              obtain ⟨x, hx, rfl, hrow, hkr⟩ := hrel
              have HI := Lib.hid (And.intro hrow hkr)
              clear hrow hkr
              by_cases hxl : x < 8
              · have c0 := row_int HI.out.1 (g := x * 2) (by simp [known8]; omega)
                have c1 := row_int HI.out.1 (g := x * 2 + 1) (by simp [known8]; omega)
                have hsl : sb < wr.heap.size := HI.out.1.lt
                have hz : IsElems wr.drew (some ⟨g, 0, none⟩) 49 cap 5 GoodNum := by
                  obtain ⟨a, c, he, hz⟩ := H1.out.elems HI.out.2.drew
                  cases he
                  exact hz
                have HZE := Lib.hid hz
                have j1 : (0 : Int) ≤ (x : Int) := by omega
                have j2 : (x : Int) < 8 := by omega
                clear hz
                generalize known8.getD (x * 2) 0 = S at *
                generalize known8.getD (x * 2 + 1) 0 = O at *
                go_wp2_with fail
                go_region_held3 (fun w' => w'.cell? ⟨sb, x * 2, none⟩ = some (.int .i64 S) ∧ w'.cell? ⟨sb, x * 2 + 1, none⟩ = some (.int .i64 O)) (go_keep)
                  ((go_at_call 14; refine (plays14_keeps _ _ _ _ _ _ HZE.out).mono ?_; rintro e w2 ⟨rfl, hk⟩; have hx1 := (hk.cell (p := ⟨sb, x * 2, none⟩) (by exact hsl) (by simp)).trans c0; have hx2 := (hk.cell (p := ⟨sb, x * 2 + 1, none⟩) (by exact hsl) (by simp)).trans c1; have H2 := Lib.hid (And.intro (hk.row HI.out.1.drew (by simp)) (HI.out.2.drew.trans hk (by simp))); clear hk))
                go_wp2
                go_roundw
                case rel => exact ⟨x + 1, by omega, by go_num, H2.out.1, H2.out.2⟩
                case measure => simp [intOf]; omega
              · obtain rfl : x = 8 := by omega
                go_wp2_with fail
                refine (works14_any wr).mono ?_
                rintro e w2 ⟨rfl, hk⟩
                have H2 := Lib.hid (H1.out.ks.trans (HI.out.2.trans hk (by simp)) (by simp))
                clear hk
                go_wp2
                try go_ret
                exact HR.out _ _ ⟨rfl, H2.out⟩

theorem known14_any (w : World) : Calls Try.prog 17 #[] w fun e w' => e = .returned (.bool true) ∧ Below w.heap.size w w' :=
  (known14_keeps w).mono fun _ _ ⟨he, hk⟩ => ⟨he, hk.below (Nat.le_refl _) (by simp)⟩

end Go.Proofs.Ytlndpljhcempoaa

/- path (wainscotlaw12): a group, its parent, its parent's .. up to the root. No condition. -/
import Derived.Test.YtlndpljhcempoaaChgB
import Derived.Test.YtlndpljhcempoaaSmall
import Derived.Test.YtlndpljhcempoaaMemN
import Derived.OwnWalk
import Derived.Laws.AppendOwn
namespace Go.Proofs.Ytlndpljhcempoaa
open Go.RowKit

def pathF : Nat → Nat → List Int
  | 0, _ => []
  | f + 1, k => if k = 0 then [] else (k : Int) :: pathF f (k / 2)
/-- The path of group k. -/
def pth (k : Nat) : List Int := pathF 6 k

theorem pth_zero : pth 0 = [] := rfl
theorem pth_step : ∀ k, k ≤ 16 → 1 ≤ k → pth k = (k : Int) :: pth (k / 2) := by
  intro k h1 h2
  have : ∀ k : Fin 17, 1 ≤ k.val → pth k.val = (k.val : Int) :: pth (k.val / 2) := by decide
  exact this ⟨k, by omega⟩ h2
theorem pth_len : ∀ k, k ≤ 16 → (pth k).length ≤ 5 := by
  intro k h1
  have : ∀ k : Fin 17, (pth k.val).length ≤ 5 := by decide
  exact this ⟨k, by omega⟩

/-- Path, of a number that a group is told by. -/
def pathL (n : Int) : List Int := pth (1 + n % 16).toNat

theorem Try.info3 : (Try.prog.info? 3).map (fun i => (i.zero, i.size, i.bytes)) = some (some (.int .i64 0), 1, 8) := by kernel_rfl

theorem Keeps.grown {a w w' : World} {row : Option Nat} (h : Keeps [] a w) (hg : w.grownBy w' row) (hr : ∀ k, row = some k → a.heap.size ≤ k) : Keeps [] a w' :=
  ⟨hg.os.trans h.os, hg.tape.trans h.tape, hg.output.trans h.output, Nat.le_trans h.size hg.size, fun k hk _ =>
    (hg.block k (Nat.lt_of_lt_of_le hk h.size) (fun e => by have := hr k e.symm; omega)).trans (h.block k hk (by simp))⟩

set_option maxRecDepth 100000 in
set_option maxHeartbeats 1600000 in
theorem path_any (n : Int) (w : World) :
    Calls Try.prog 40 #[.int .i64 n] w fun e w' => ∃ a cap, e = .returned (.slice a (pathL n).length cap) ∧ (∀ c, c < w.heap.size → IntsAt w' c a (pathL n)) ∧ Keeps [] w w' := by
  refine calls_hide fun R HR => ?_
  obtain ⟨i0, hi, hz0, hz1, hz2⟩ := info_parts Try.info3
  go_enter Try.func40, Try.ntmps40
  go_wp2_with fail
  refine (bring_any n 16 _ (by omega) (by omega)).mono ?_
  rintro e y ⟨rfl, rfl⟩
  obtain ⟨g0, hg0, hg1, hg2⟩ : ∃ g0 : Nat, 1 + n % 16 = (g0 : Int) ∧ 1 ≤ g0 ∧ g0 ≤ 16 := ⟨(1 + n % 16).toNat, by omega, by omega, by omega⟩
  have HG := Lib.hid (show pathL n = pth g0 by unfold pathL; rw [hg0, Int.toNat_natCast])
  have hb16 : 0 ≤ n % 16 ∧ n % 16 < 16 := by omega
  have HG0 := Lib.hid hg0
  clear hg0
  go_wp2_with fail
  rw [HG0.out]
  go_loopw [0, 3] (fun g v wr => ∃ (k : Nat) (xs : List Int), k ≤ 16 ∧ g = .int .i64 k ∧ xs ++ pth k = pth g0 ∧ wr.ownsRow w.heap.size 3 1 v xs.length (xs.map (.int .i64)) ∧ Keeps [] w wr) (fun g _ _ => (intOf g).toNat)
  case atStart => exact ⟨g0, [], hg2, rfl, rfl, World.ownsRow_nil _ _ _ _, Keeps.refl _ _⟩
  case round =>
    obtain ⟨k, xs, hk16, rfl, hp, hown, hkr⟩ := hrel
    have hxl : xs.length ≤ 5 := by
      have := pth_len g0 hg2
      rw [← hp, List.length_append] at this
      omega
    by_cases h1 : 1 ≤ k
    · have hq : ((k : Int)).tdiv 2 = ((k / 2 : Nat) : Int) := by rw [Int.tdiv_eq_ediv_of_nonneg (by omega)]; rfl
      have hp2 : (xs ++ [(k : Int)]) ++ pth (k / 2) = pth g0 := by rw [List.append_assoc, List.singleton_append, ← pth_step k hk16 h1, hp]
      have hsz := hkr.size
      have HP := Lib.hid (And.intro hp2 hkr)
      have HOB := Lib.hid (hown.lt)
      have HQ := Lib.hid hq
      clear hp hkr hp2 hq
      go_wp2_with (at_builtin; refine wpList_append_own _ rfl _ _ 54 rfl w.heap.size 3 i0 (.int .i64 0) 1 8 Try.underlying54 hi hz0 hz1 hz2 rfl (by decide) _ _ _ rfl (hown.alloc _) ⟨wr.heap.size, 0, none⟩ 1 1 [.int .i64 (k : Int)] rfl rfl ?c1 ?c2 ?c3 ?c4 ?c5 ?_)
      case c1 =>
        intro j u hj
        match j, hj with
        | 0, hj => simp at hj; subst hj; simp [Addr.add]
      case c2 => intro u hu; simp at hu; subst hu; rfl
      case c3 => unfold maxLen; omega
      case c4 => omega
      case c5 => simp; omega
      · intro v' w1 hown' hgrow _
        have hown2 : w1.ownsRow w.heap.size 3 1 v' (xs ++ [(k : Int)]).length ((xs ++ [(k : Int)]).map (.int .i64)) := by simpa using hown'
        have HO := Lib.hid (And.intro hown2 ((HP.out.2.alloc (.cells #[.int .i64 (k : Int)] 3)).grown hgrow (fun q hq => (HOB.out q hq).1)))
        clear hown' hgrow hown hown2
        go_wp2
        try rw [HQ.out]
        go_roundw
        case rel => exact ⟨k / 2, xs ++ [(k : Int)], by omega, by go_num, HP.out.1, HO.out.1, HO.out.2⟩
        case measure => simp [intOf]; omega
    · obtain rfl : k = 0 := by omega
      rw [pth_zero, List.append_nil] at hp
      subst hp
      have hpos : 0 < (pth g0).length := by rw [pth_step g0 hg2 hg1]; simp
      obtain ⟨g, cap, rest, rfl, hg, hrow, _, _⟩ := row_of_owns hown hpos
      have HW := Lib.hid (And.intro hg (And.intro hrow hkr))
      clear hown hg hrow hkr h1
      go_wp2
      try go_ret
      refine HR.out _ _ ⟨some ⟨g, 0, none⟩, cap, by rw [HG.out]; rfl, fun c hc => ?_, HW.out.2.2⟩
      rw [HG.out]
      refine ⟨by have := pth_len g0 hg2; omega, .inr ⟨g, 0, rfl, HW.out.2.1.lt, by have := HW.out.1; omega, fun i hi => ?_⟩⟩
      rw [Nat.zero_add]
      refine HW.out.2.1.cell ?_
      rw [List.getElem?_append_left (by simpa using hi), List.getElem?_map, List.getD_eq_getElem?_getD, List.getElem?_eq_getElem hi]
      rfl

end Go.Proofs.Ytlndpljhcempoaa

/- The package charge: New: nothing charged, no limit but the greatest number. No condition. -/
import Derived.Test.YtlndpljhcempoaaChgQ
namespace Go.Proofs.Ytlndpljhcempoaa
open Go.RowKit

/-- The limits, the first j of which are set. -/
def limTo (j : Nat) : List Int := List.replicate j 9007199254740991 ++ List.replicate (16 - j) 0

theorem limTo_succ (j : Nat) (hj : j < 16) : (limTo j).set j 9007199254740991 = limTo (j + 1) := by
  unfold limTo
  rw [List.set_append_right _ _ (by simp), List.length_replicate, Nat.sub_self, show 16 - j = (16 - (j + 1)) + 1 from by omega, List.replicate_succ, List.set_cons_zero, List.replicate_succ', List.append_assoc]
  rfl

theorem limTo_full : limTo 16 = List.replicate 16 9007199254740991 := by simp [limTo]

theorem new12_start (w : World) : ChgIs (w.alloc (.cells (Value.bool true :: ((List.replicate 16 (0 : Int)).map (.int .i64) ++ (limTo 0).map (.int .i64))).toArray 69)) w.heap.size (List.replicate 16 0) (limTo 0) :=
  ⟨Row.new w _ 69, rfl, rfl, fun x hx => by rw [(List.mem_replicate.1 hx).2]; omega, fun x hx => by
    have : x = 0 := (List.mem_replicate.1 (show x ∈ List.replicate 16 0 from by simpa [limTo] using hx)).2
    omega⟩

set_option maxRecDepth 100000 in
set_option maxHeartbeats 800000 in
theorem new12_any (w : World) :
    Calls Try.prog 37 #[] w fun e w' => e = .returned (.pointer (some ⟨w.heap.size, 0, none⟩)) ∧ ChgIs w' w.heap.size (List.replicate 16 0) (List.replicate 16 9007199254740991) ∧ Keeps [] w w' := by
  refine calls_hide fun R HR => ?_
  have H0 := Lib.hid (And.intro (new12_start w) ((Keeps.refl [] w).alloc (.cells (Value.bool true :: ((List.replicate 16 (0 : Int)).map (.int .i64) ++ (limTo 0).map (.int .i64))).toArray 69)))
  go_enter Try.func37, Try.ntmps37
  go_wp2_with fail
  go_loopw [2, 5] (fun _ i wr => ∃ j : Nat, j ≤ 16 ∧ i = .int .i64 j ∧ ChgIs wr w.heap.size (List.replicate 16 0) (limTo j) ∧ Keeps [] w wr) (fun _ i _ => 16 - (intOf i).toNat)
  case atStart => exact ⟨0, by omega, rfl, H0.out.1, H0.out.2⟩
  case round =>
    obtain ⟨j, hj, rfl, hc, hk⟩ := hrel
    have HM := Lib.hid (And.intro hc hk)
    clear hc hk
    by_cases hlt : j < 16
    · have fr := HM.out.1.hd.free (17 + j)
      have c0 := HM.out.1.cm hlt
      generalize (limTo j).getD j 0 = lj at c0
      have hi : 0 ≤ (j : Int) ∧ (j : Int) < 16 := by omega
      have hst := HM.out.1.setM j (x := 9007199254740991) (by omega)
      rw [limTo_succ j hlt] at hst
      have HS := Lib.hid hst
      clear hst
      go_wp2
      go_roundw
      case rel => exact ⟨j + 1, by omega, by go_num, HS.out, HM.out.2.set (.inr (by show _ ≤ w.heap.size; omega)) _⟩
      case measure => simp [intOf]; omega
    · obtain rfl : j = 16 := by omega
      rw [limTo_full] at HM
      go_wp2
      try go_ret
      exact HR.out _ _ ⟨rfl, HM.out.1, HM.out.2⟩

end Go.Proofs.Ytlndpljhcempoaa

/- CopyInts, EqInts (wainscotref00). Condition: the ints lie where they are said to; no more of them than a process can hold. -/
import Derived.Test.YtlndpljhcempoaaRchC
namespace Go.Proofs.Ytlndpljhcempoaa
open Go.RowKit

set_option maxRecDepth 100000 in
set_option maxHeartbeats 800000 in
theorem copy_any (w : World) (c0 : Nat) (a : Option Addr) (zs : List Int) (cap : Nat) (hz : IntsAt w c0 a zs) (hb : zs.length * 8 ≤ 140737488355328) :
    Calls Try.prog 104 #[.slice a zs.length cap] w fun e w' => ∃ a' cap', e = .returned (.slice a' zs.length cap') ∧ (∀ c, c < w.heap.size → IntsAt w' c a' zs) ∧ Keeps [] w w' := by
  refine calls_hide fun R HR => ?_
  obtain ⟨i0, hi, hz0, hz1, hz2⟩ := info_parts Try.info3
  by_cases h0 : zs.length = 0
  · have hnil : zs = [] := List.length_eq_zero_iff.1 h0
    subst hnil
    clear h0 hb hz
    cases a with
    | none =>
      go_enter Try.func104, Try.ntmps104
      go_wp2
      try go_ret
      exact HR.out _ _ ⟨none, 0, rfl, fun c _ => ⟨by simp, .inl rfl⟩, Keeps.refl _ _⟩
    | some x =>
      go_enter Try.func104, Try.ntmps104
      go_wp2
      try go_ret
      exact HR.out _ _ ⟨none, 0, rfl, fun c _ => ⟨by simp, .inl rfl⟩, Keeps.refl _ _⟩
  · obtain ⟨b, off, rfl, hbl, _, hc⟩ := hz.at (i := 0) (by omega)
    go_enter Try.func104, Try.ntmps104
    go_wp2_with (at_builtin; refine wpList_append_grows _ rfl _ _ 54 rfl 3 i0 (.int .i64 0) 1 8 Try.underlying54 hi hz0 hz1 hz2 rfl (by decide) none 0 0 [] rfl ?_ rfl ?_ ⟨b, off, none⟩ zs.length cap (zs.map (.int .i64)) rfl ?_ ?_ ?_ ?_ ?_ ?_ ?_)
    · intro b' hb' j u hj; simp at hj
    · simp
    · intro j u hj
      have hjl : j < zs.length := by
        rcases Nat.lt_or_ge j zs.length with h | h
        · exact h
        · rw [List.getElem?_eq_none (by simpa using h)] at hj; cases hj
      rw [List.getElem?_map, List.getElem?_eq_getElem hjl] at hj
      simp at hj
      subst hj
      have := hc j hjl
      rw [List.getD_eq_getElem?_getD, List.getElem?_eq_getElem hjl] at this
      unfold Addr.add
      dsimp only
      split
      · next h0 => subst h0; exact this
      · exact this
    · intro u hu; simp only [List.mem_map] at hu; obtain ⟨x, _, rfl⟩ := hu; rfl
    · omega
    · unfold maxLen; omega
    · omega
    intro v1 w1 hown hgrow
    obtain ⟨g, cp, rest, rfl, hg, hrow, hxl, _⟩ := row_of_owns hown (by omega)
    have HP := Lib.hid (And.intro hg (And.intro hrow hgrow))
    clear hown hgrow hg hrow hxl hc
    go_wp2
    try go_ret
    refine HR.out _ _ ⟨some ⟨g, 0, none⟩, cp, by simp, fun c hcl => ?_, Keeps.ofGrown HP.out.2.2⟩
    refine ⟨hz.1, .inr ⟨g, 0, rfl, HP.out.2.1.lt, by have := HP.out.1; omega, fun i hi => ?_⟩⟩
    rw [Nat.zero_add]
    refine HP.out.2.1.cell ?_
    rw [List.getElem?_append_left (by simpa using hi), List.getElem?_map, List.getD_eq_getElem?_getD, List.getElem?_eq_getElem hi]
    rfl

set_option maxRecDepth 100000 in
set_option maxHeartbeats 800000 in
theorem eqints_any (w : World) (c c' : Nat) (a a' : Option Addr) (zs : List Int) (cap cap' : Nat) (h : IntsAt w c a zs) (h' : IntsAt w c' a' zs) :
    Calls Try.prog 110 #[.slice a zs.length cap, .slice a' zs.length cap'] w fun e w' => e = .returned (.bool true) ∧ Keeps [] w w' := by
  refine calls_hide fun R HR => ?_
  have hlen := h.1
  have HZ := Lib.hid (And.intro h h')
  clear h h'
  go_enter Try.func110, Try.ntmps110
  go_wp2_with fail
  go_loopw [5] (fun i wr => ∃ k n : Nat, k ≤ zs.length ∧ i = .int .i64 k ∧ wr = w.drewN n) (fun i _ => zs.length - (intOf i).toNat)
  case atStart => exact ⟨0, 0, Nat.zero_le _, rfl, rfl⟩
  case round =>
    obtain ⟨k, n, hk, rfl, rfl⟩ := hrel
    by_cases hlt : k < zs.length
    · obtain ⟨b1, o1, ha, _, _, hc1⟩ := HZ.out.1.at hlt
      obtain ⟨b2, o2, ha', _, _, hc2⟩ := HZ.out.2.at hlt
      subst ha ha'
      have e1 := hc1 k hlt
      have e2 := hc2 k hlt
      clear hc1 hc2
      generalize zs.getD k 0 = y at *
      have hyy : (y != y) = false := by simp
      have hi1 : 0 ≤ (k : Int) ∧ (k : Int) < (zs.length : Int) := by omega
      go_wp2
      go_quiet (fail)
      go_wp2
      go_roundw
      case rel => exact ⟨k + 1, n + nq, by omega, by go_num, by simp⟩
      case measure => simp [intOf]; omega
    · go_wp2
      try go_ret
      exact HR.out _ _ ⟨rfl, (Keeps.refl _ _).drewN _⟩

end Go.Proofs.Ytlndpljhcempoaa

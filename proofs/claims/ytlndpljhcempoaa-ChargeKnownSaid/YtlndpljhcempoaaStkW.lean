/- The chapter's examples of stocks (wainscotlaw13's works): it returns true and leaves alone what was there. No condition. -/
import Derived.Test.YtlndpljhcempoaaStkS
namespace Go.Proofs.Ytlndpljhcempoaa
open Go.RowKit

theorem StkIs.to {tH tE : TypeId} {w : World} {b bs : Nat} {L L' : List (Int × Int)} (h : StkIs tH tE w b bs L) (e : L = L') : StkIs tH tE w b bs L' := e ▸ h

set_option maxRecDepth 100000 in
set_option maxHeartbeats 800000 in
theorem works13_any (w : World) : Calls Try.prog 54 #[] w fun e w' => e = .returned (.bool true) ∧ Keeps [] w w' := by
  refine calls_hide fun R HR => ?_
  go_enter Try.func54, Try.ntmps54
  go_wp2_with fail
  refine (snew_ok w 1 (by omega) (by omega)).mono ?_
  rintro e w0 ⟨rfl, hm, hk⟩
  obtain ⟨b, hb⟩ : ∃ b, b = w.heap.size + 1 := ⟨_, rfl⟩
  obtain ⟨bs, hbs⟩ : ∃ bs, bs = w.heap.size := ⟨_, rfl⟩
  rw [← hb, ← hbs] at hm
  rw [← hb]
  have hm0 : StkIs 93 132 w0 b bs [(0, 0)] := hm
  have HN := Lib.hid (And.intro hb hbs)
  have H0 := Lib.hid (And.intro hm0 hk)
  clear hb hbs hk hm hm0
  go_wp2_with fail
  refine (put_any w0 b bs [(0, 0)] H0.out.1 0 2 100).mono ?_
  rintro e w1 ⟨rfl, hm, hk⟩
  have hm1 : StkIs 93 132 w1 b bs [(2, 100)] := hm.to (by kernel_rfl)
  have H1 := Lib.hid (And.intro hm1 (H0.out.2.trans hk (by simp; have := HN.out; omega)))
  clear hm hm1 hk
  have q3 : putR [(0, 0)] 0 2 100 = (0, 0) := by kernel_rfl
  have q5 : putE [(0, 0)] 0 2 100 = 0 := by kernel_rfl
  simp only [q3, q5]
  clear q3 q5
  go_wp2_with fail
  refine (take_any w1 b bs [(2, 100)] H1.out.1 0 2 40).mono ?_
  rintro e w2 ⟨rfl, hm, hk⟩
  have hm1 : StkIs 93 132 w2 b bs [(2, 60)] := hm.to (by kernel_rfl)
  have H2 := Lib.hid (And.intro hm1 (H1.out.2.trans hk (by simp; have := HN.out; omega)))
  clear hm hm1 hk
  have q3 : takeB [(2, 100)] 0 2 40 = true := by kernel_rfl
  simp only [q3]
  clear q3
  go_wp2_with fail
  refine (take_any w2 b bs [(2, 60)] H2.out.1 0 3 1).mono ?_
  rintro e w3 ⟨rfl, hm, hk⟩
  have hm1 : StkIs 93 132 w3 b bs [(2, 60)] := hm.to (by kernel_rfl)
  have H3 := Lib.hid (And.intro hm1 (H2.out.2.trans hk (by simp; have := HN.out; omega)))
  clear hm hm1 hk
  have q3 : takeB [(2, 60)] 0 3 1 = false := by kernel_rfl
  simp only [q3]
  clear q3
  go_wp2_with fail
  refine (has_any w3 b bs [(2, 60)] H3.out.1 0).mono ?_
  rintro e w4 ⟨rfl, hk⟩
  have H4 := Lib.hid (And.intro (H3.out.1.keeps hk (by simp) (by simp)) (H3.out.2.trans hk (by simp)))
  clear hk
  have q3 : at2 [(2, 60)] 0 = (2, 60) := by kernel_rfl
  simp only [q3]
  clear q3
  go_wp2_with fail
  refine (put_any w4 b bs [(2, 60)] H4.out.1 0 3 5).mono ?_
  rintro e w5 ⟨rfl, hm, hk⟩
  have hm1 : StkIs 93 132 w5 b bs [(3, 5)] := hm.to (by kernel_rfl)
  have H5 := Lib.hid (And.intro hm1 (H4.out.2.trans hk (by simp; have := HN.out; omega)))
  clear hm hm1 hk
  have q3 : putR [(2, 60)] 0 3 5 = (2, 60) := by kernel_rfl
  have q5 : putE [(2, 60)] 0 3 5 = 0 := by kernel_rfl
  simp only [q3, q5]
  clear q3 q5
  go_wp2_with fail
  refine (put_any w5 b bs [(3, 5)] H5.out.1 0 3 1020).mono ?_
  rintro e w6 ⟨rfl, hm, hk⟩
  have hm1 : StkIs 93 132 w6 b bs [(3, 512)] := hm.to (by kernel_rfl)
  have H6 := Lib.hid (And.intro hm1 (H5.out.2.trans hk (by simp; have := HN.out; omega)))
  clear hm hm1 hk
  have q3 : putR [(3, 5)] 0 3 1020 = (3, 513) := by kernel_rfl
  have q5 : putE [(3, 5)] 0 3 1020 = 0 := by kernel_rfl
  simp only [q3, q5]
  clear q3 q5
  go_wp2_with fail
  refine (has_any w6 b bs [(3, 512)] H6.out.1 0).mono ?_
  rintro e w7 ⟨rfl, hk⟩
  have H7 := Lib.hid (And.intro (H6.out.1.keeps hk (by simp) (by simp)) (H6.out.2.trans hk (by simp)))
  clear hk
  have q3 : at2 [(3, 512)] 0 = (3, 512) := by kernel_rfl
  simp only [q3]
  clear q3
  go_wp2_with fail
  refine (held_any w7 b bs [(3, 512)] H7.out.1 2).mono ?_
  rintro e w8 ⟨rfl, hk⟩
  have H8 := Lib.hid (And.intro (H7.out.1.keeps hk (by simp) (by simp)) (H7.out.2.trans hk (by simp)))
  clear hk
  have q3 : held [(3, 512)] 2 = 0 := by kernel_rfl
  simp only [q3]
  clear q3
  go_wp2_with fail
  refine (drain_any w8 b bs [(3, 512)] H8.out.1 0).mono ?_
  rintro e w9 ⟨rfl, hm, hk⟩
  have hm1 : StkIs 93 132 w9 b bs [(0, 0)] := hm.to (by kernel_rfl)
  have H9 := Lib.hid (And.intro hm1 (H8.out.2.trans hk (by simp; have := HN.out; omega)))
  clear hm hm1 hk
  have q3 : at2 [(3, 512)] 0 = (3, 512) := by kernel_rfl
  simp only [q3]
  clear q3
  go_wp2_with fail
  refine (drain_any w9 b bs [(0, 0)] H9.out.1 0).mono ?_
  rintro e w10 ⟨rfl, hm, hk⟩
  have hm1 : StkIs 93 132 w10 b bs [(0, 0)] := hm.to (by kernel_rfl)
  have H10 := Lib.hid (And.intro hm1 (H9.out.2.trans hk (by simp; have := HN.out; omega)))
  clear hm hm1 hk
  have q3 : at2 [(0, 0)] 0 = (0, 0) := by kernel_rfl
  simp only [q3]
  clear q3
  go_wp2_with fail
  refine (put_any w10 b bs [(0, 0)] H10.out.1 0 17 1).mono ?_
  rintro e w11 ⟨rfl, hm, hk⟩
  have hm1 : StkIs 93 132 w11 b bs [(0, 0)] := hm.to (by kernel_rfl)
  have H11 := Lib.hid (And.intro hm1 (H10.out.2.trans hk (by simp; have := HN.out; omega)))
  clear hm hm1 hk
  have q3 : putR [(0, 0)] 0 17 1 = (0, 0) := by kernel_rfl
  have q5 : putE [(0, 0)] 0 17 1 = 110 := by kernel_rfl
  simp only [q3, q5]
  clear q3 q5
  go_wp2
  try go_ret
  exact HR.out _ _ ⟨rfl, H11.out.2⟩

end Go.Proofs.Ytlndpljhcempoaa

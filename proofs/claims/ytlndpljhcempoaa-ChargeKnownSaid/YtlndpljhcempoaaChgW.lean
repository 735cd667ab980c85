/- The chapter's counters (wainscotlaw12's works): as the chapter says. No condition. -/
import Derived.Test.YtlndpljhcempoaaPath
namespace Go.Proofs.Ytlndpljhcempoaa
open Go.RowKit

def w12U0 : List Int := List.replicate 16 0
def w12U1 : List Int := [60, 60, 60, 0, 0, 0, 0, 0, 0, 0, 0, 0, 0, 0, 0, 0]
def w12U2 : List Int := [0, 60, 0, 0, 0, 0, 0, 0, 0, 0, 0, 0, 0, 0, 0, 0]
def w12M : List Int := (List.replicate 16 9007199254740991).set 0 100

/-- Counters under way: their block, what is kept. -/
structure At12 (w0 w : World) (b : Nat) (U M : List Int) : Prop where
  is : ChgIs w b U M
  ks : Keeps [] w0 w
  nb : w0.heap.size ≤ b

theorem At12.go {w0 w w' : World} {b : Nat} {U U' M M' : List Int} (h : At12 w0 w b U M) (hc : ChgIs w' b U' M') (hk : Keeps [b] w w') : At12 w0 w' b U' M' :=
  ⟨hc, h.ks.trans hk (by simpa using h.nb), h.nb⟩

theorem At12.path {w0 w : World} {b : Nat} {U M : List Int} (h : At12 w0 w b U M) (zs : List Int) (hl : zs.length ≤ 8) :
    At12 w0 (w.alloc (.cells (zs.map (Value.int .i64)).toArray 3)) b U M ∧ IntsAt (w.alloc (.cells (zs.map (Value.int .i64)).toArray 3)) b (some ⟨w.heap.size, 0, none⟩) zs := by
  have hk := (Keeps.refl [] w).alloc (.cells (zs.map (Value.int .i64)).toArray 3)
  have hb := h.is.hd.lt
  exact ⟨⟨h.is.keeps hk (by simp), h.ks.alloc _, h.nb⟩, IntsAt.ofRow (Row.new w _ 3) (by omega) (by omega)⟩

set_option maxRecDepth 100000 in
set_option maxHeartbeats 1600000 in
theorem works12_any (w : World) : Calls Try.prog 44 #[] w fun e w' => e = .returned (.bool true) ∧ Keeps [] w w' := by
  refine calls_hide fun R HR => ?_
  go_enter Try.func44, Try.ntmps44
  go_wp2_with fail
  refine (new12_any w).mono ?_
  rintro e w1 ⟨rfl, hc, hk⟩
  obtain ⟨b, hb⟩ : ∃ b, b = w.heap.size := ⟨_, rfl⟩
  rw [← hb] at hc
  rw [← hb]
  have A1 := Lib.hid (At12.mk hc hk (by omega))
  clear hc hk hb
  go_wp2_with fail
  refine (limit_any w1 b _ _ A1.out.is 1 100).mono ?_
  rintro e w2 ⟨rfl, hc, hk⟩
  rw [show limM (List.replicate 16 9007199254740991) 1 100 = w12M from by decide] at hc
  rw [show askE [1] 100 = 0 from by decide]
  have A2 := Lib.hid (A1.out.go hc hk)
  clear hc hk
  have P2 := Lib.hid (A2.out.path [3, 2, 1] (by decide))
  go_wp2_with fail
  refine (try_any _ b _ _ P2.out.1.is _ [3, 2, 1] _ 60 P2.out.2).mono ?_
  rintro e w3 ⟨rfl, hc, hk⟩
  rw [show tryU (List.replicate 16 0) w12M [3, 2, 1] 60 = w12U1 from by decide] at hc
  rw [show tryR (List.replicate 16 0) w12M [3, 2, 1] 60 = (0, 0) from by decide]
  have A3 := Lib.hid (P2.out.1.go hc hk)
  clear hc hk
  go_wp2_with fail
  refine (used_any w3 b _ _ A3.out.is 2).mono ?_
  rintro e w' ⟨rfl, rfl⟩
  rw [show usedN w12U1 2 = 60 from by decide]
  have P3 := Lib.hid (A3.out.path [2, 1] (by decide))
  go_wp2_with fail
  refine (try_any _ b _ _ P3.out.1.is _ [2, 1] _ 41 P3.out.2).mono ?_
  rintro e w4 ⟨rfl, hc, hk⟩
  rw [show tryU w12U1 w12M [2, 1] 41 = w12U1 from by decide] at hc
  rw [show tryR w12U1 w12M [2, 1] 41 = (1, 120) from by decide]
  have A4 := Lib.hid (P3.out.1.go hc hk)
  clear hc hk
  go_wp2_with fail
  refine (used_any w4 b _ _ A4.out.is 2).mono ?_
  rintro e w' ⟨rfl, rfl⟩
  rw [show usedN w12U1 2 = 60 from by decide]
  have P4 := Lib.hid (A4.out.path [3, 1] (by decide))
  go_wp2_with fail
  refine (back_any _ b _ _ P4.out.1.is _ [3, 1] _ 61 P4.out.2).mono ?_
  rintro e w5 ⟨rfl, hc, hk⟩
  rw [show backU w12U1 [3, 1] 61 = w12U1 from by decide] at hc
  rw [show backE w12U1 [3, 1] 61 = 2 from by decide]
  have A5 := Lib.hid (P4.out.1.go hc hk)
  clear hc hk
  have P5 := Lib.hid (A5.out.path [3, 1] (by decide))
  go_wp2_with fail
  refine (back_any _ b _ _ P5.out.1.is _ [3, 1] _ 60 P5.out.2).mono ?_
  rintro e w6 ⟨rfl, hc, hk⟩
  rw [show backU w12U1 [3, 1] 60 = w12U2 from by decide] at hc
  rw [show backE w12U1 [3, 1] 60 = 0 from by decide]
  have A6 := Lib.hid (P5.out.1.go hc hk)
  clear hc hk
  go_wp2_with fail
  refine (used_any w6 b _ _ A6.out.is 1).mono ?_
  rintro e w' ⟨rfl, rfl⟩
  rw [show usedN w12U2 1 = 0 from by decide]
  go_wp2_with fail
  refine (used_any w6 b _ _ A6.out.is 2).mono ?_
  rintro e w' ⟨rfl, rfl⟩
  rw [show usedN w12U2 2 = 60 from by decide]
  have P6 := Lib.hid (A6.out.path [1, 1] (by decide))
  go_wp2_with fail
  refine (try_any _ b _ _ P6.out.1.is _ [1, 1] _ 1 P6.out.2).mono ?_
  rintro e w7 ⟨rfl, hc, hk⟩
  rw [show tryU w12U2 w12M [1, 1] 1 = w12U2 from by decide] at hc
  rw [show tryR w12U2 w12M [1, 1] 1 = (0, 2) from by decide]
  have A7 := Lib.hid (P6.out.1.go hc hk)
  clear hc hk
  go_wp2_with fail
  refine (up_any w7 b _ _ A7.out.is 17 1).mono ?_
  rintro e w8 ⟨rfl, hc, hk⟩
  rw [show upU w12U2 w12M 17 1 = w12U2 from by decide] at hc
  rw [show upE w12U2 w12M 17 1 = 110 from by decide]
  have A8 := Lib.hid (A7.out.go hc hk)
  clear hc hk
  go_wp2_with fail
  refine (up_any w8 b _ _ A8.out.is 1 (-1)).mono ?_
  rintro e w9 ⟨rfl, hc, hk⟩
  rw [show upU w12U2 w12M 1 (-1) = w12U2 from by decide] at hc
  rw [show upE w12U2 w12M 1 (-1) = 2 from by decide]
  have A9 := Lib.hid (A8.out.go hc hk)
  clear hc hk
  go_wp2_with fail
  refine (down_any w9 b _ _ A9.out.is 2 61).mono ?_
  rintro e w10 ⟨rfl, hc, hk⟩
  rw [show downU w12U2 2 61 = w12U2 from by decide] at hc
  rw [show downE w12U2 2 61 = 2 from by decide]
  have A10 := Lib.hid (A9.out.go hc hk)
  clear hc hk
  go_wp2
  try go_ret
  exact HR.out _ _ ⟨rfl, A10.out.ks⟩

end Go.Proofs.Ytlndpljhcempoaa

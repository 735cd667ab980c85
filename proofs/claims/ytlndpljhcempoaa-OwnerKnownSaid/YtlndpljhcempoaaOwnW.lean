/- The chapter's owners (wainscotlaw14's works): as the chapter says. No condition. -/
import Derived.Test.YtlndpljhcempoaaOwnE
namespace Go.Proofs.Ytlndpljhcempoaa
open Go.RowKit

def w14a : Int → Int → Int := upd (fun _ _ => 0) 1 3 5
def w14b : Int → Int → Int := upd w14a 0 0 5
def w14c : Int → Int → Int := moveF w14b 5 2
def w14d : Int → Int → Int := upd w14c 1 3 0

/-- Owners under way: their blocks, what is kept. -/
structure At14 (w0 w : World) (b m S O : Nat) (f : Int → Int → Int) : Prop where
  is : OwnIs w b m S O f
  ks : Keeps [] w0 w
  nb : w0.heap.size ≤ b ∧ w0.heap.size ≤ m

theorem At14.go {w0 w w' : World} {b m S O : Nat} {f f' : Int → Int → Int} (h : At14 w0 w b m S O f) (hc : OwnIs w' b m S O f') (hk : Keeps [m] w w') : At14 w0 w' b m S O f' :=
  ⟨hc, h.ks.trans hk (by simpa using h.nb.2), h.nb⟩

theorem At14.quiet {w0 w w' : World} {b m S O : Nat} {f : Int → Int → Int} (h : At14 w0 w b m S O f) (hk : Keeps [] w w') : At14 w0 w' b m S O f :=
  ⟨h.is.keeps hk (by simp) (by simp), h.ks.trans hk (by simp), h.nb⟩

set_option maxRecDepth 100000 in
set_option maxHeartbeats 3200000 in
theorem works14_any (w : World) : Calls Try.prog 67 #[] w fun e w' => e = .returned (.bool true) ∧ Keeps [] w w' := by
  refine calls_hide fun R HR => ?_
  go_enter Try.func67, Try.ntmps67
  go_wp2_with fail
  refine (onew_ok w 2 4 (by omega) (by omega) (by omega) (by omega)).mono ?_
  rintro e w1 ⟨rfl, hc, hk⟩
  obtain ⟨m, hm⟩ : ∃ m, m = w.heap.size := ⟨_, rfl⟩
  obtain ⟨b, hb⟩ : ∃ b, b = w.heap.size + 1 := ⟨_, rfl⟩
  rw [← hb, ← hm] at hc
  rw [← hb]
  have A1 := Lib.hid (At14.mk hc hk (by omega))
  clear hc hk hb hm
  go_wp2_with fail
  refine (oset_any w1 b m _ _ _ A1.out.is 1 3 5).mono ?_
  rintro e w2 ⟨rfl, hc, hk⟩
  rw [show setF 2 4 (fun _ _ => 0) 1 3 5 = w14a from if_pos (by decide)] at hc
  rw [show setE 2 4 (fun _ _ => 0) 1 3 5 = 0 from by decide]
  have A2 := Lib.hid (A1.out.go hc hk)
  clear hc hk
  go_wp2_with fail
  refine (oset_any w2 b m _ _ _ A2.out.is 1 3 6).mono ?_
  rintro e w3 ⟨rfl, hc, hk⟩
  rw [show setF 2 4 w14a 1 3 6 = w14a from setF_of (by decide)] at hc
  rw [show setE 2 4 w14a 1 3 6 = 140 from by decide]
  have A3 := Lib.hid (A2.out.go hc hk)
  clear hc hk
  go_wp2_with fail
  refine (oof_any w3 b m _ _ _ A3.out.is 1 3 (wf2_of (by omega) (by omega) (by omega) (by omega))).mono ?_
  rintro e w4 ⟨rfl, rfl⟩
  rw [show w14a 1 3 = 5 from by decide]
  go_wp2_with fail
  refine (oset_any w3 b m _ _ _ A3.out.is 2 0 1).mono ?_
  rintro e w4 ⟨rfl, hc, hk⟩
  rw [show setF 2 4 w14a 2 0 1 = w14a from setF_of (by decide)] at hc
  rw [show setE 2 4 w14a 2 0 1 = 9 from by decide]
  have A4 := Lib.hid (A3.out.go hc hk)
  clear hc hk
  go_wp2_with fail
  refine (oset_any w4 b m _ _ _ A4.out.is 0 0 5).mono ?_
  rintro e w5 ⟨rfl, hc, hk⟩
  rw [show setF 2 4 w14a 0 0 5 = w14b from if_pos (by decide)] at hc
  rw [show setE 2 4 w14a 0 0 5 = 0 from by decide]
  have A5 := Lib.hid (A4.out.go hc hk)
  clear hc hk
  go_wp2_with fail
  refine (omove_any w5 b m _ _ _ A5.out.is 5 2).mono ?_
  rintro e w6 ⟨rfl, hc, hk⟩
  rw [show mvS w14b 5 2 = w14c from if_neg (by decide)] at hc
  rw [show mvN 2 4 w14b 5 2 = 2 from by decide, show mvE 5 2 = 0 from by decide]
  have A6 := Lib.hid (A5.out.go hc hk)
  clear hc hk
  go_wp2_with fail
  refine (ocount_any w6 b m _ _ _ A6.out.is 2).mono ?_
  rintro e w7 ⟨rfl, hk⟩
  rw [show cntO 2 4 w14c 2 = 2 from by decide]
  have A7 := Lib.hid (A6.out.quiet hk)
  clear hk
  go_wp2_with fail
  refine (oclear_any w7 b m _ _ _ A7.out.is 1 3).mono ?_
  rintro e w8 ⟨rfl, hc, hk⟩
  rw [show clrF w14c 1 3 = w14d from if_neg (by decide)] at hc
  rw [show w14c 1 3 = 2 from by decide, show clrE 2 4 w14c 1 3 = 0 from by decide]
  have A8 := Lib.hid (A7.out.go hc hk)
  clear hc hk
  go_wp2_with fail
  refine (oclear_any w8 b m _ _ _ A8.out.is 1 3).mono ?_
  rintro e w9 ⟨rfl, hc, hk⟩
  rw [show clrF w14d 1 3 = w14d from if_pos (by decide)] at hc
  rw [show w14d 1 3 = 0 from by decide, show clrE 2 4 w14d 1 3 = 140 from by decide]
  have A9 := Lib.hid (A8.out.go hc hk)
  clear hc hk
  go_wp2_with fail
  refine (oempty_any w9 b m _ _ _ A9.out.is 1).mono ?_
  rintro e w10 ⟨rfl, hk⟩
  rw [show emptyF 2 4 w14d 1 = true from by decide]
  have A10 := Lib.hid (A9.out.quiet hk)
  clear hk
  go_wp2
  try go_ret
  exact HR.out _ _ ⟨rfl, A10.out.ks⟩

end Go.Proofs.Ytlndpljhcempoaa

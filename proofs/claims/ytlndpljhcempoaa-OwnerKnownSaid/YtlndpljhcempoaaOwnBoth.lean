/- Owners and the document's owners, alike: what 'same' compares. Condition: both read as one grid. -/
import Derived.Test.YtlndpljhcempoaaOwnW
import Derived.Test.YtlndpljhcempoaaOwnN
namespace Go.Proofs.Ytlndpljhcempoaa
open Go.RowKit

/-- Both, alike. -/
structure Both14 (w : World) (b m r g : Nat) (rs : List Nat) (S O : Nat) (f : Int → Int → Int) : Prop where
  pm : OwnIs w b m S O f
  pr : GridIs w r g rs S O f
  n1 : b ≠ r
  n2 : b ≠ g
  n3 : m ≠ r
  n4 : m ≠ g
  n5 : b ∉ rs
  n6 : m ∉ rs

theorem Both14.quiet {w w' : World} {b m r g : Nat} {rs : List Nat} {S O : Nat} {f : Int → Int → Int} (h : Both14 w b m r g rs S O f) (hk : Keeps [] w w') : Both14 w' b m r g rs S O f :=
  ⟨h.pm.keeps hk (by simp) (by simp), h.pr.keeps hk (by simp) (by simp) (fun _ _ => by simp), h.n1, h.n2, h.n3, h.n4, h.n5, h.n6⟩

/-- One step of both. -/
theorem Both14.step {w w1 w2 : World} {b m r g : Nat} {rs : List Nat} {S O : Nat} {f f' : Int → Int → Int} (h : Both14 w b m r g rs S O f) (hm : OwnIs w1 b m S O f') (hk : Keeps rs w1 w2) (hr : GridIs w2 r g rs S O f') : Both14 w2 b m r g rs S O f' :=
  ⟨hm.keeps hk h.n5 h.n6, hr, h.n1, h.n2, h.n3, h.n4, h.n5, h.n6⟩

/-- The reference's owners stay while the map is written. -/
theorem Both14.ref {w w1 : World} {b m r g : Nat} {rs : List Nat} {S O : Nat} {f : Int → Int → Int} (h : Both14 w b m r g rs S O f) (hk : Keeps [m] w w1) : GridIs w1 r g rs S O f :=
  h.pr.keeps hk (by simpa using h.n3.symm) (by simpa using h.n4.symm) (fun q hq => by simp only [List.mem_singleton]; rintro rfl; exact h.n6 hq)

set_option maxRecDepth 100000 in
set_option maxHeartbeats 3200000 in
theorem same14_any (w : World) (b m r g : Nat) (rs : List Nat) (S O : Nat) (f : Int → Int → Int) (h : Both14 w b m r g rs S O f) :
    Calls Try.prog 66 #[.pointer (some ⟨b, 0, none⟩), .pointer (some ⟨r, 0, none⟩)] w fun e w' => e = .returned (.bool true) ∧ Keeps [] w w' := by
  refine calls_hide fun R HR => ?_
  have H := Lib.hid h
  have HS : Hid (S ≤ 256) := Lib.hid h.pm.fine.s2
  clear h
  have qe : ∀ s, (emptyF S O f s != emptyF S O f s) = false := fun s => by simp
  have qc : ∀ s, (cntO S O f s != cntO S O f s) = false := fun s => by simp
  have qf : ∀ s i, (f s i != f s i) = false := fun s i => by simp
  go_enter Try.func66, Try.ntmps66
  go_wp2_with fail
  go_loopw [5] (fun s wr => ∃ x : Int, -1 ≤ x ∧ x ≤ 40 ∧ s = .int .i64 x ∧ Keeps [] w wr) (fun s _ => (41 - intOf s).toNat)
  case atStart => exact ⟨-1, by omega, by omega, rfl, Keeps.refl _ _⟩
  case round =>
    obtain ⟨x, hx1, hx2, rfl, hkr⟩ := hrel
    have HI := Lib.hid (And.intro (H.out.quiet hkr) hkr)
    clear hkr
    have hd : ∃ cap, wr.cell? ⟨r, 0, none⟩ = some (.slice (some ⟨g, 0, none⟩) S cap) := by
      obtain ⟨cap, hd⟩ := HI.out.1.pr.hd
      exact ⟨cap, hd.cell (i := 0) rfl⟩
    obtain ⟨cap, c0⟩ := hd
    by_cases hin : x ≤ S ∧ x < 40
    · obtain ⟨hin1, hin2⟩ := hin
      go_wp2_with fail
      refine (oempty_any wr b m S O f HI.out.1.pm x).mono ?_
      rintro e w1 ⟨rfl, hk⟩
      have H1 := Lib.hid (And.intro (HI.out.1.quiet hk) (HI.out.2.trans hk (by simp)))
      clear hk c0
      go_wp2_with fail
      refine (rempty14_any w1 r g rs S O f H1.out.1.pr x).mono ?_
      rintro e w2 ⟨rfl, rfl⟩
      go_wp2_with fail
      go_loopw [6] (fun i wi => ∃ y : Int, -1 ≤ y ∧ y ≤ 17 ∧ i = .int .i64 y ∧ Keeps [] w wi) (fun i _ => (17 - intOf i).toNat)
      case atStart => exact ⟨-1, by omega, by omega, rfl, H1.out.2⟩
      case round =>
        obtain ⟨y, hy1, hy2, rfl, hkr⟩ := hrel
        have HJ := Lib.hid (And.intro (H.out.quiet hkr) hkr)
        clear hkr
        by_cases hyl : y < 17
        · go_wp2_with fail
          refine (oof_any wr b m S O f HJ.out.1.pm x y (wf2_of (by omega) (by omega) (by omega) (by omega))).mono ?_
          rintro e w3 ⟨rfl, rfl⟩
          go_wp2_with fail
          refine (rof_any wr r g rs S O f HJ.out.1.pr x y).mono ?_
          rintro e w3 ⟨rfl, rfl⟩
          go_wp2
          go_roundw
          case rel => exact ⟨y + 1, by omega, by omega, rfl, HJ.out.2⟩
          case measure => simp [intOf]; omega
        · go_wp2
          go_roundw
          case rel => exact ⟨x + 1, by omega, by omega, rfl, HJ.out.2⟩
          case measure => simp [intOf]; omega
    · have hor : (S : Int) < x ∨ (x ≤ S ∧ 40 ≤ x) := by omega
      clear hin
      rcases hor with hor | ⟨hor1, hor2⟩
      all_goals
        go_wp2_with fail
        clear c0
        go_loopw [7] (fun i wi => ∃ y : Int, -1 ≤ y ∧ y ≤ 18 ∧ i = .int .i64 y ∧ Keeps [] w wi) (fun i _ => (18 - intOf i).toNat)
        case atStart => exact ⟨-1, by omega, by omega, rfl, HI.out.2⟩
        case round =>
          obtain ⟨y, hy1, hy2, rfl, hkr⟩ := hrel
          have HJ := Lib.hid (And.intro (H.out.quiet hkr) hkr)
          clear hkr
          by_cases hyl : y < 18
          · go_wp2_with fail
            refine (ocount_any wr b m S O f HJ.out.1.pm y).mono ?_
            rintro e w3 ⟨rfl, hk⟩
            have H3 := Lib.hid (And.intro (HJ.out.1.quiet hk) (HJ.out.2.trans hk (by simp)))
            clear hk
            go_wp2_with fail
            refine (rcount14_any w3 r g rs S O f H3.out.1.pr y).mono ?_
            rintro e w4 ⟨rfl, rfl⟩
            go_wp2
            go_roundw
            case rel => exact ⟨y + 1, by omega, by omega, rfl, H3.out.2⟩
            case measure => simp [intOf]; omega
          · go_wp2
            try go_ret
            exact HR.out _ _ ⟨rfl, HJ.out.2⟩

end Go.Proofs.Ytlndpljhcempoaa

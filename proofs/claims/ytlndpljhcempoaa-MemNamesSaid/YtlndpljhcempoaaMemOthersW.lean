/- MemOthers, the walk: an access changes no word but those that it names. Condition: the list is read as accesses. -/
import Derived.Test.YtlndpljhcempoaaMemW
import Derived.Test.YtlndpljhcempoaaSmall
import Derived.Test.YtlndpljhcempoaaOpen
namespace Go.Proofs.Ytlndpljhcempoaa
open Go.RowKit

/-- A field of an access. -/
def Good3 (j : Nat) (v : Value) : Prop := ∃ z : Int, v = .int (if j < 2 then .i64 else .u64) z

/-- The six cells of access number j. -/
structure Do3At (w : World) (b o : Nat) (kd pl A B C D : Int) : Prop where
  c0 : w.cell? ⟨b, o, none⟩ = some (.int .i64 kd)
  c1 : w.cell? ⟨b, o + 1, none⟩ = some (.int .i64 pl)
  c2 : w.cell? ⟨b, o + 2, none⟩ = some (.int .u64 A)
  c3 : w.cell? ⟨b, o + 3, none⟩ = some (.int .u64 B)
  c4 : w.cell? ⟨b, o + 4, none⟩ = some (.int .u64 C)
  c5 : w.cell? ⟨b, o + 5, none⟩ = some (.int .u64 D)

theorem Do3At.keeps {w w' : World} {b o : Nat} {kd pl A B C D : Int} {S : List Nat} (h : Do3At w b o kd pl A B C D) (hk : Keeps S w w') (hb : b < w.heap.size) (hS : b ∉ S) : Do3At w' b o kd pl A B C D :=
  ⟨(hk.cell (p := ⟨b, _, none⟩) hb hS).trans h.c0, (hk.cell (p := ⟨b, _, none⟩) hb hS).trans h.c1, (hk.cell (p := ⟨b, _, none⟩) hb hS).trans h.c2,
   (hk.cell (p := ⟨b, _, none⟩) hb hS).trans h.c3, (hk.cell (p := ⟨b, _, none⟩) hb hS).trans h.c4, (hk.cell (p := ⟨b, _, none⟩) hb hS).trans h.c5⟩

theorem IsElems.three {w : World} {a : Option Addr} {len cap : Nat} (h : IsElems w a len cap 6 Good3) {j : Nat} (hj : j < len) :
    ∃ b off kd pl A B C D, a = some ⟨b, off, none⟩ ∧ b < w.heap.size ∧ Do3At w b (off + j * 6) kd pl A B C D := by
  obtain ⟨b, off, ha, hb, hcell⟩ := h.at (by omega) hj
  obtain ⟨v0, c0, kd, rfl⟩ := hcell 0 (by omega)
  obtain ⟨v1, c1, pl, rfl⟩ := hcell 1 (by omega)
  obtain ⟨v2, c2, A, rfl⟩ := hcell 2 (by omega)
  obtain ⟨v3, c3, B, rfl⟩ := hcell 3 (by omega)
  obtain ⟨v4, c4, C, rfl⟩ := hcell 4 (by omega)
  obtain ⟨v5, c5, D, rfl⟩ := hcell 5 (by omega)
  exact ⟨b, off, kd, pl, A, B, C, D, ha, hb, c0, by simpa [Nat.add_assoc] using c1, by simpa [Nat.add_assoc] using c2, by simpa [Nat.add_assoc] using c3, by simpa [Nat.add_assoc] using c4, by simpa [Nat.add_assoc] using c5⟩

theorem ldV_congr {ws ws' : List Int} (k : Nat) (hl : ws'.length = ws.length) (h : ws'.getD k 0 = ws.getD k 0) : ldV ws' k = ldV ws k := by
  unfold ldV
  have e : inb ws' (k : Int) 1 = inb ws (k : Int) 1 := by unfold inb; rw [hl]
  rw [e, Int.toNat_natCast, h]

theorem set_other (ws : List Int) (p k : Nat) (v : Int) (h : p ≠ k) : (ws.set p v).getD k 0 = ws.getD k 0 := by
  simp [List.getD_eq_getElem?_getD, h]

theorem st_len (ws : List Int) (i v : Int) : (stW ws i v).length = ws.length := by unfold stW; split <;> simp
theorem cas_len (ws : List Int) (i o t : Int) : (casW ws i o t).length = ws.length := by unfold casW; split <;> simp
theorem cas2_len (ws : List Int) (i o q t u : Int) : (cas2W ws i o q t u).length = ws.length := by unfold cas2W; split <;> simp
theorem add_len (ws : List Int) (i v : Int) : (addW ws i v).length = ws.length := by unfold addW; split <;> simp

theorem st_other (ws : List Int) (p k : Nat) (v : Int) (h : p ≠ k) : ldV (stW ws p v) k = ldV ws k := by
  refine ldV_congr k (st_len _ _ _) ?_
  unfold stW; split
  · rw [Int.toNat_natCast]; exact set_other _ _ _ _ h
  · rfl
theorem cas_other (ws : List Int) (p k : Nat) (o t : Int) (h : p ≠ k) : ldV (casW ws p o t) k = ldV ws k := by
  refine ldV_congr k (cas_len _ _ _ _) ?_
  unfold casW; split
  · rw [Int.toNat_natCast]; exact set_other _ _ _ _ h
  · rfl
theorem cas2_other (ws : List Int) (p k : Nat) (o q t u : Int) (h : p ≠ k) (h' : p + 1 ≠ k) : ldV (cas2W ws p o q t u) k = ldV ws k := by
  refine ldV_congr k (cas2_len _ _ _ _ _ _) ?_
  unfold cas2W; split
  · rw [Int.toNat_natCast, set_other _ _ _ _ h', set_other _ _ _ _ h]
  · rfl
theorem add_other (ws : List Int) (p k : Nat) (v : Int) (h : p ≠ k) : ldV (addW ws p v) k = ldV ws k := by
  refine ldV_congr k (add_len _ _ _) ?_
  unfold addW; split
  · rw [Int.toNat_natCast]; exact set_other _ _ _ _ h
  · rfl

set_option maxRecDepth 100000 in
set_option maxHeartbeats 1600000 in
theorem others_walk (a : Option Addr) (len cap : Nat) (first : Int) (w : World) (hz : IsElems w a len cap 6 Good3) :
    Calls Try.prog 5 #[.slice a len cap, .int .i64 first] w fun e w' => e = .returned (.bool true) ∧ Below w.heap.size w w' := by
  refine calls_hide fun R HR => ?_
  have hlen := hz.len_le
  have HZ := Lib.hid hz
  clear hz
  go_enter Try.func5, Try.ntmps5
  go_wp2_with fail
  refine (new_ok w 12 (by omega) (by omega)).mono ?_
  rintro e w1 ⟨rfl, hm, hk⟩
  obtain ⟨bm, hbm⟩ : ∃ bm, bm = w.heap.size + 1 := ⟨_, rfl⟩
  obtain ⟨bw, hbw⟩ : ∃ bw, bw = w.heap.size := ⟨_, rfl⟩
  rw [← hbm, ← hbw] at hm
  rw [← hbm]
  have HN := Lib.hid (And.intro (And.intro hbm hbw) (And.intro hm hk))
  clear hbm hbw hk hm
  go_wp2_with fail
  refine (bring_any first 12 _ (by omega) (by omega)).mono ?_
  rintro e w2 ⟨rfl, rfl⟩
  obtain ⟨k, hk, hkn⟩ : ∃ k : Nat, first % 12 = (k : Int) ∧ k < 12 := ⟨(first % 12).toNat, by omega, by omega⟩
  rw [hk]
  clear hk
  go_wp2_with fail
  go_loopw [8] (fun i wr => ∃ (j : Nat) (ws : List Int) (c : Int), j ≤ len ∧ j ≤ 40 ∧ i = .int .i64 j ∧ ws.length = 12 ∧ MemIs wr bm bw ws c ∧ Keeps [] w wr) (fun i _ => len - (intOf i).toNat)
  case atStart => exact ⟨0, _, 0, by omega, by omega, rfl, by simp, HN.out.2.1, HN.out.2.2⟩
  case round =>
    obtain ⟨j, ws, c, hj, hj4, rfl, hws, hm, hkr⟩ := hrel
    by_cases hin : j < len ∧ j < 40
    · obtain ⟨hlt, hlt4⟩ := hin
      have HM := Lib.hid (And.intro hm (And.intro hkr hws))
      clear hm hkr hws
      go_wp2_with fail
      refine (load_any wr bm bw ws c HM.out.1 k).mono ?_
      rintro e w3 ⟨rfl, hm, hk3⟩
      obtain ⟨b, off, kd, pl, A, B, C, D, ha, hb, hdo⟩ := HZ.out.three hlt
      subst ha
      obtain ⟨c0, c1, c2, c3, c4, c5⟩ := hdo.keeps (HM.out.2.1.trans hk3 (by simp; have := HN.out.1; omega)) hb (by simp)
      have H3 := Lib.hid (And.intro hm hk3)
      clear hm hk3 hdo
      go_wp2_with fail
      refine (bring_any pl 12 _ (by omega) (by omega)).mono ?_
      rintro e w4 ⟨rfl, rfl⟩
      obtain ⟨p, hp, hpn⟩ : ∃ p : Nat, pl % 12 = (p : Int) ∧ p < 12 := ⟨(pl % 12).toNat, by omega, by omega⟩
      rw [hp]
      clear hp
      go_wp2_with fail
      refine (bring_any kd 5 _ (by omega) (by omega)).mono ?_
      rintro e w4 ⟨rfl, rfl⟩
      have hbox := Row.new w3 [.int .i64 kd, .int .i64 p, .int .u64 A, .int .u64 B, .int .u64 C, .int .u64 D] 41
      have hbx0 := hbox.cell (i := 0) rfl
      have hbx1 := hbox.cell (i := 1) rfl
      have hmw := H3.out.1.keeps ((Keeps.refl [] w3).alloc (.cells #[.int .i64 kd, .int .i64 p, .int .u64 A, .int .u64 B, .int .u64 C, .int .u64 D] 41)) (by simp) (by simp)
      have hkw : Keeps [] w (w3.alloc (.cells #[.int .i64 kd, .int .i64 p, .int .u64 A, .int .u64 B, .int .u64 C, .int .u64 D] 41)) := (HM.out.2.1.trans H3.out.2 (by simp; have := HN.out.1; omega)).alloc _
      have hbl := H3.out.1.hd.lt
      have hbl' := H3.out.1.wr.lt
      have H4 := Lib.hid (And.intro hmw (And.intro hkw hbox))
      clear hmw hkw hbox
      have h5 : kd % 5 = 0 ∨ kd % 5 = 1 ∨ kd % 5 = 2 ∨ kd % 5 = 3 ∨ kd % 5 = 4 := by omega
      rcases h5 with h5 | h5 | h5 | h5 | h5
      · have HQ := Lib.hid h5
        rw [h5]
        clear h5
        go_wp2_with fail
        have H5 := H4
        clear H4
        refine (load_any _ bm bw _ _ H5.out.1 k).mono ?_
        rintro e w5 ⟨rfl, hm, hk5⟩
        have hbox5 := hk5.row H5.out.2.2 (by simp; omega)
        have hy0 := hbox5.cell (i := 0) rfl
        have hy1 := hbox5.cell (i := 1) rfl
        have H6 := Lib.hid (And.intro hm (H5.out.2.1.trans hk5 (by simp; have := HN.out.1; omega)))
        clear hm hk5 hbox5 H5 hbx0 hbx1 hbl hbl'
        by_cases hpk : p = k
        · have hb1 : ((p : Int) == (k : Int)) = true := by simp [hpk]
          clear hpk
          go_wp2
          go_roundw
          case rel => exact ⟨j + 1, _, _, by omega, by omega, by go_num, HM.out.2.2, H6.out.1, H6.out.2⟩
          case measure => simp [intOf]; omega
        · have hb1 : ((p : Int) == (k : Int)) = false := by simp; omega
          rw [show ldV ws k = ldV ws k from rfl]
          have hxx : (ldV ws k != ldV ws k) = false := by simp
          clear hpk
          go_wp2_with fail
          refine (bring_any kd 5 _ (by omega) (by omega)).mono ?_
          rintro e w6 ⟨rfl, rfl⟩
          rw [HQ.out]
          go_wp2
          go_roundw
          case rel => exact ⟨j + 1, _, _, by omega, by omega, by go_num, HM.out.2.2, H6.out.1, H6.out.2⟩
          case measure => simp [intOf]; omega
      · have HQ := Lib.hid h5
        rw [h5]
        clear h5
        go_wp2_with fail
        refine (store_any _ bm bw ws _ H4.out.1 p A).mono ?_
        rintro e w4 ⟨rfl, hm, hk4⟩
        have hbox4 := hk4.row H4.out.2.2 (by simp; omega)
        have H5 := Lib.hid (And.intro hm (And.intro (H4.out.2.1.trans hk4 (by simp; have := HN.out.1; omega)) hbox4))
        clear hm hk4 hbox4 H4
        go_wp2_with fail
        refine (load_any _ bm bw _ _ H5.out.1 k).mono ?_
        rintro e w5 ⟨rfl, hm, hk5⟩
        have hbox5 := hk5.row H5.out.2.2 (by simp; omega)
        have hy0 := hbox5.cell (i := 0) rfl
        have hy1 := hbox5.cell (i := 1) rfl
        have H6 := Lib.hid (And.intro hm (H5.out.2.1.trans hk5 (by simp; have := HN.out.1; omega)))
        clear hm hk5 hbox5 H5 hbx0 hbx1 hbl hbl'
        by_cases hpk : p = k
        · have hb1 : ((p : Int) == (k : Int)) = true := by simp [hpk]
          clear hpk
          go_wp2
          go_roundw
          case rel => exact ⟨j + 1, _, _, by omega, by omega, by go_num, (by rw [st_len]; exact HM.out.2.2), H6.out.1, H6.out.2⟩
          case measure => simp [intOf]; omega
        · have hb1 : ((p : Int) == (k : Int)) = false := by simp; omega
          rw [show ldV (stW ws p A) k = ldV ws k from st_other ws p k _ hpk]
          have hxx : (ldV ws k != ldV ws k) = false := by simp
          clear hpk
          go_wp2_with fail
          refine (bring_any kd 5 _ (by omega) (by omega)).mono ?_
          rintro e w6 ⟨rfl, rfl⟩
          rw [HQ.out]
          go_wp2
          go_roundw
          case rel => exact ⟨j + 1, _, _, by omega, by omega, by go_num, (by rw [st_len]; exact HM.out.2.2), H6.out.1, H6.out.2⟩
          case measure => simp [intOf]; omega
      · have HQ := Lib.hid h5
        rw [h5]
        clear h5
        go_wp2_with fail
        refine (cas_any _ bm bw ws _ H4.out.1 p A B).mono ?_
        rintro e w4 ⟨rfl, hm, hk4⟩
        have hbox4 := hk4.row H4.out.2.2 (by simp; omega)
        have H5 := Lib.hid (And.intro hm (And.intro (H4.out.2.1.trans hk4 (by simp; have := HN.out.1; omega)) hbox4))
        clear hm hk4 hbox4 H4
        go_wp2_with fail
        refine (load_any _ bm bw _ _ H5.out.1 k).mono ?_
        rintro e w5 ⟨rfl, hm, hk5⟩
        have hbox5 := hk5.row H5.out.2.2 (by simp; omega)
        have hy0 := hbox5.cell (i := 0) rfl
        have hy1 := hbox5.cell (i := 1) rfl
        have H6 := Lib.hid (And.intro hm (H5.out.2.1.trans hk5 (by simp; have := HN.out.1; omega)))
        clear hm hk5 hbox5 H5 hbx0 hbx1 hbl hbl'
        by_cases hpk : p = k
        · have hb1 : ((p : Int) == (k : Int)) = true := by simp [hpk]
          clear hpk
          go_wp2
          go_roundw
          case rel => exact ⟨j + 1, _, _, by omega, by omega, by go_num, (by rw [cas_len]; exact HM.out.2.2), H6.out.1, H6.out.2⟩
          case measure => simp [intOf]; omega
        · have hb1 : ((p : Int) == (k : Int)) = false := by simp; omega
          rw [show ldV (casW ws p A B) k = ldV ws k from cas_other ws p k _ _ hpk]
          have hxx : (ldV ws k != ldV ws k) = false := by simp
          clear hpk
          go_wp2_with fail
          refine (bring_any kd 5 _ (by omega) (by omega)).mono ?_
          rintro e w6 ⟨rfl, rfl⟩
          rw [HQ.out]
          go_wp2
          go_roundw
          case rel => exact ⟨j + 1, _, _, by omega, by omega, by go_num, (by rw [cas_len]; exact HM.out.2.2), H6.out.1, H6.out.2⟩
          case measure => simp [intOf]; omega
      · have HQ := Lib.hid h5
        rw [h5]
        clear h5
        go_wp2_with fail
        refine (cas2_any _ bm bw ws _ H4.out.1 p A B C D).mono ?_
        rintro e w4 ⟨rfl, hm, hk4⟩
        have hbox4 := hk4.row H4.out.2.2 (by simp; omega)
        have H5 := Lib.hid (And.intro hm (And.intro (H4.out.2.1.trans hk4 (by simp; have := HN.out.1; omega)) hbox4))
        clear hm hk4 hbox4 H4
        go_wp2_with fail
        refine (load_any _ bm bw _ _ H5.out.1 k).mono ?_
        rintro e w5 ⟨rfl, hm, hk5⟩
        have hbox5 := hk5.row H5.out.2.2 (by simp; omega)
        have hy0 := hbox5.cell (i := 0) rfl
        have hy1 := hbox5.cell (i := 1) rfl
        have H6 := Lib.hid (And.intro hm (H5.out.2.1.trans hk5 (by simp; have := HN.out.1; omega)))
        clear hm hk5 hbox5 H5 hbx0 hbx1 hbl hbl'
        by_cases hpk : p = k
        · have hb1 : ((p : Int) == (k : Int)) = true := by simp [hpk]
          clear hpk
          go_wp2
          go_roundw
          case rel => exact ⟨j + 1, _, _, by omega, by omega, by go_num, (by rw [cas2_len]; exact HM.out.2.2), H6.out.1, H6.out.2⟩
          case measure => simp [intOf]; omega
        · have hb1 : ((p : Int) == (k : Int)) = false := by simp; omega
          by_cases hpk1 : p + 1 = k
          · have hb2 : ((p : Int) + 1 == (k : Int)) = true := by simp; omega
            clear hpk hpk1
            go_wp2_with fail
            refine (bring_any kd 5 _ (by omega) (by omega)).mono ?_
            rintro e w6 ⟨rfl, rfl⟩
            rw [HQ.out]
            go_wp2
            go_roundw
            case rel => exact ⟨j + 1, _, _, by omega, by omega, by go_num, (by rw [cas2_len]; exact HM.out.2.2), H6.out.1, H6.out.2⟩
            case measure => simp [intOf]; omega
          · have hb2 : ((p : Int) + 1 == (k : Int)) = false := by simp; omega
            rw [show ldV (cas2W ws p A B C D) k = ldV ws k from cas2_other ws p k _ _ _ _ hpk hpk1]
            have hxx : (ldV ws k != ldV ws k) = false := by simp
            clear hpk hpk1
            go_wp2_with fail
            refine (bring_any kd 5 _ (by omega) (by omega)).mono ?_
            rintro e w6 ⟨rfl, rfl⟩
            rw [HQ.out]
            go_wp2
            go_roundw
            case rel => exact ⟨j + 1, _, _, by omega, by omega, by go_num, (by rw [cas2_len]; exact HM.out.2.2), H6.out.1, H6.out.2⟩
            case measure => simp [intOf]; omega
      · have HQ := Lib.hid h5
        rw [h5]
        clear h5
        go_wp2_with fail
        refine (add_any _ bm bw ws _ H4.out.1 p A).mono ?_
        rintro e w4 ⟨rfl, hm, hk4⟩
        have hbox4 := hk4.row H4.out.2.2 (by simp; omega)
        have H5 := Lib.hid (And.intro hm (And.intro (H4.out.2.1.trans hk4 (by simp; have := HN.out.1; omega)) hbox4))
        clear hm hk4 hbox4 H4
        go_wp2_with fail
        refine (load_any _ bm bw _ _ H5.out.1 k).mono ?_
        rintro e w5 ⟨rfl, hm, hk5⟩
        have hbox5 := hk5.row H5.out.2.2 (by simp; omega)
        have hy0 := hbox5.cell (i := 0) rfl
        have hy1 := hbox5.cell (i := 1) rfl
        have H6 := Lib.hid (And.intro hm (H5.out.2.1.trans hk5 (by simp; have := HN.out.1; omega)))
        clear hm hk5 hbox5 H5 hbx0 hbx1 hbl hbl'
        by_cases hpk : p = k
        · have hb1 : ((p : Int) == (k : Int)) = true := by simp [hpk]
          clear hpk
          go_wp2
          go_roundw
          case rel => exact ⟨j + 1, _, _, by omega, by omega, by go_num, (by rw [add_len]; exact HM.out.2.2), H6.out.1, H6.out.2⟩
          case measure => simp [intOf]; omega
        · have hb1 : ((p : Int) == (k : Int)) = false := by simp; omega
          rw [show ldV (addW ws p A) k = ldV ws k from add_other ws p k _ hpk]
          have hxx : (ldV ws k != ldV ws k) = false := by simp
          clear hpk
          go_wp2_with fail
          refine (bring_any kd 5 _ (by omega) (by omega)).mono ?_
          rintro e w6 ⟨rfl, rfl⟩
          rw [HQ.out]
          go_wp2
          go_roundw
          case rel => exact ⟨j + 1, _, _, by omega, by omega, by go_num, (by rw [add_len]; exact HM.out.2.2), H6.out.1, H6.out.2⟩
          case measure => simp [intOf]; omega
    · have HM := Lib.hid hkr
      clear hm hkr hws
      by_cases hlt : j < len
      · have h40 : 40 ≤ j := by omega
        clear hin
        go_wp2_with (go_at_call 21; refine (works3_any wr).mono ?_; rintro e w3 ⟨rfl, hk3⟩)
        try go_ret
        exact HR.out _ _ ⟨rfl, (HM.out.trans hk3 (by simp)).below (Nat.le_refl _) (by simp)⟩
      · clear hin
        go_wp2_with (go_at_call 21; refine (works3_any wr).mono ?_; rintro e w3 ⟨rfl, hk3⟩)
        try go_ret
        exact HR.out _ _ ⟨rfl, (HM.out.trans hk3 (by simp)).below (Nat.le_refl _) (by simp)⟩

end Go.Proofs.Ytlndpljhcempoaa

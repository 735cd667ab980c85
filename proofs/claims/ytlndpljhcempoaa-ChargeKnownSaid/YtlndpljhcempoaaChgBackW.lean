/- ChargeBack, the walk: Try and Back of the same change nothing. Condition: the list is read as calls. -/
import Derived.Test.YtlndpljhcempoaaChgL
import Derived.Test.YtlndpljhcempoaaChgW
import Derived.Test.YtlndpljhcempoaaOpen
import Derived.Deep.RegionHeld3
import Derived.Deep.DeepCutAuto
import Derived.Deep.CutBlock
import Derived.BigQuiet
namespace Go.Proofs.Ytlndpljhcempoaa
open Go.RowKit

/-- The numbers of a call of counters (its path, the last cell, is none of them). -/
def Good12s (j : Nat) (v : Value) : Prop := j < 3 → ∃ z : Int, v = .int .i64 z

structure Do12At (w : World) (b o : Nat) (kd g n : Int) : Prop where
  c0 : w.cell? ⟨b, o, none⟩ = some (.int .i64 kd)
  c1 : w.cell? ⟨b, o + 1, none⟩ = some (.int .i64 g)
  c2 : w.cell? ⟨b, o + 2, none⟩ = some (.int .i64 n)

theorem Do12At.keeps {w w' : World} {b o : Nat} {kd g n : Int} {S : List Nat} (h : Do12At w b o kd g n) (hk : Keeps S w w') (hb : b < w.heap.size) (hS : b ∉ S) : Do12At w' b o kd g n :=
  ⟨(hk.cell (p := ⟨b, _, none⟩) hb hS).trans h.c0, (hk.cell (p := ⟨b, _, none⟩) hb hS).trans h.c1, (hk.cell (p := ⟨b, _, none⟩) hb hS).trans h.c2⟩

theorem IsElems.three {w : World} {a : Option Addr} {len cap : Nat} (h : IsElems w a len cap 4 Good12s) {j : Nat} (hj : j < len) :
    ∃ b off kd g n, a = some ⟨b, off, none⟩ ∧ b < w.heap.size ∧ Do12At w b (off + j * 4) kd g n := by
  obtain ⟨b, off, ha, hb, hcell⟩ := h.at (by omega) hj
  obtain ⟨v0, c0, h0⟩ := hcell 0 (by omega)
  obtain ⟨v1, c1, h1⟩ := hcell 1 (by omega)
  obtain ⟨v2, c2, h2⟩ := hcell 2 (by omega)
  obtain ⟨z0, rfl⟩ := h0 (by omega)
  obtain ⟨z1, rfl⟩ := h1 (by omega)
  obtain ⟨z2, rfl⟩ := h2 (by omega)
  exact ⟨b, off, z0, z1, z2, ha, hb, c0, by simpa [Nat.add_assoc] using c1, by simpa [Nat.add_assoc] using c2⟩

theorem usedN_in (U : List Int) (k : Nat) (hk : k < 16) : usedN U ((k : Int) + 1) = U.getD k 0 := by
  have : okG ((k : Int) + 1) = true := by simp [okG]; omega
  unfold usedN; rw [if_pos this, toNat_sub_one]

theorem arr_new12 (w : World) : ArrIs 61 (w.alloc (.cells (List.replicate 17 (Value.int .i64 0)).toArray 61)) w.heap.size (List.replicate 17 0) := by
  unfold ArrIs; rw [List.map_replicate]; exact Row.new w _ 61

/-- What was charged, group by group, as far as it is written down. -/
structure Was (V U : List Int) (x : Nat) : Prop where
  len : V.length = 17
  each : ∀ k, k < x → V.getD (k + 1) 0 = U.getD k 0

theorem Was.next {V U : List Int} {x : Nat} (h : Was V U x) (hx : x < 16) : Was (V.set (x + 1) (U.getD x 0)) U (x + 1) :=
  ⟨by simpa using h.len, fun k hk => by
    rw [getD_set _ _ _ _ (by rw [h.len]; omega)]
    by_cases e : k = x
    · subst e; rw [if_pos rfl]
    · rw [if_neg (by omega)]; exact h.each k (by omega)⟩

attribute [local irreducible] pathL tryR tryU backE backU askE limM

set_option maxRecDepth 100000 in
set_option maxHeartbeats 3200000 in
theorem chgback_keeps (a : Option Addr) (len cap : Nat) (group n : Int) (w : World) (hz : IsElems w a len cap 4 Good12s) :
    Calls Try.prog 7 #[.slice a len cap, .int .i64 group, .int .i64 n] w fun e w' => e = .returned (.bool true) ∧ Keeps [] w w' := by
  refine calls_hide fun R HR => ?_
  have hlen := hz.len_le
  have HZ := Lib.hid hz
  clear hz
  go_enter Try.func7, Try.ntmps7
  go_wp2_with fail
  refine (new12_any w).mono ?_
  rintro e w1 ⟨rfl, hc, hk⟩
  obtain ⟨b, hb⟩ : ∃ b, b = w.heap.size := ⟨_, rfl⟩
  rw [← hb] at hc
  rw [← hb]
  have A1 := Lib.hid (At12.mk hc hk (show w.heap.size ≤ b by omega))
  clear hc hk hb
  go_upto_block 0 with fail
  go_cut [8] (fun _ wx => ∃ U M, At12 w wx b U M)
  case first =>
   go_wp2_with fail
   go_loopw [8] (fun i wr => ∃ (j : Nat) (U M : List Int), j ≤ len ∧ i = .int .i64 j ∧ At12 w wr b U M) (fun i _ => len - (intOf i).toNat)
   case atStart => exact ⟨0, _, _, by omega, rfl, A1.out⟩
   case round =>
     obtain ⟨j, U, M, hj, rfl, hat⟩ := hrel
     have HA := Lib.hid hat
     clear hat
     by_cases hin : j < len ∧ j < 50
     · obtain ⟨hlt, hlt4⟩ := hin
       obtain ⟨bl, off, kd, g, m, ha, hbl, hdo⟩ := HZ.out.three hlt
       subst ha
       have hdw := hdo.keeps HA.out.ks hbl (by simp)
       obtain ⟨c0, c1, c2⟩ := hdw
       have HD := Lib.hid (And.intro hdo hbl)
       have hbb : bl ≠ b := by have := HA.out.nb; omega
       clear hdo
       go_wp2_with fail
       refine (bring_any kd 2 _ (by omega) (by omega)).mono ?_
       rintro e y ⟨rfl, rfl⟩
       have D0 := Lib.hid (HA.out.is.keeps ((Keeps.refl [] wr).drew) (by simp))
       by_cases hk2 : kd % 2 = 0
       · rw [hk2]
         clear hk2 c0
         go_wp2_with fail
         go_region_held3 (fun w' => w'.cell? ⟨bl, off + j * 4 + 1, none⟩ = some (.int .i64 g) ∧ w'.cell? ⟨bl, off + j * 4 + 2, none⟩ = some (.int .i64 m)) (go_keep)
           (first
             | (go_at_call 22; refine (bring_any _ _ _ (by omega) (by omega)).mono ?_; rintro e y ⟨rfl, rfl⟩)
             | (go_at_call 38; refine (limit_any _ b U M D0.out _ _).mono ?_; rintro e w2 ⟨rfl, hc, hk⟩; have hx1 := (hk.cell (p := ⟨bl, off + j * 4 + 1, none⟩) (by have := HA.out.ks.size; exact Nat.lt_of_lt_of_le hbl this) (by simpa using hbb)).trans c1; have hx2 := (hk.cell (p := ⟨bl, off + j * 4 + 2, none⟩) (by have := HA.out.ks.size; exact Nat.lt_of_lt_of_le hbl this) (by simpa using hbb)).trans c2; have H2 := Lib.hid (And.intro hc hk); clear hc hk))
         go_wp2
         go_roundw
         case rel => exact ⟨j + 1, _, _, by omega, by go_num, HA.out.go H2.out.1 (((Keeps.refl [b] wr).drew).trans H2.out.2 (by simp))⟩
         case measure => simp [intOf]; omega
       · have q2 : (kd % 2 == 0) = false := beq_eq_false_iff_ne.2 hk2
         clear hk2 c0
         generalize kd % 2 = kk at *
         go_wp2_with fail
         go_region_held3 (fun w' => w'.cell? ⟨bl, off + j * 4 + 1, none⟩ = some (.int .i64 g) ∧ w'.cell? ⟨bl, off + j * 4 + 2, none⟩ = some (.int .i64 m)) (go_keep)
           (first
             | (go_at_call 40; refine (path_any g _).mono ?_; rintro e w2 ⟨ap, cp, rfl, hpi, hk⟩; have hx1 := (hk.cell (p := ⟨bl, off + j * 4 + 1, none⟩) (by have := HA.out.ks.size; exact Nat.lt_of_lt_of_le hbl this) (by simp)).trans c1; have hx2 := (hk.cell (p := ⟨bl, off + j * 4 + 2, none⟩) (by have := HA.out.ks.size; exact Nat.lt_of_lt_of_le hbl this) (by simp)).trans c2; have hsz2 := Nat.lt_of_lt_of_le hbl (Nat.le_trans HA.out.ks.size hk.size); have H2 := Lib.hid (And.intro (hpi b D0.out.hd.lt) (And.intro (D0.out.keeps hk (by simp)) hk)); clear hpi hk)
             | (go_at_call 22; refine (bring_any m 300 _ (by omega) (by omega)).mono ?_; rintro e y ⟨rfl, rfl⟩)
             | (go_at_call 39; refine (try_any _ b U M H2.out.2.1 ap (pathL g) cp _ H2.out.1).mono ?_; rintro e w3 ⟨rfl, hc, hk⟩; have hy1 := (hk.cell (p := ⟨bl, off + j * 4 + 1, none⟩) (by exact hsz2) (by simpa using hbb)).trans hx1; have hy2 := (hk.cell (p := ⟨bl, off + j * 4 + 2, none⟩) (by exact hsz2) (by simpa using hbb)).trans hx2; have H3 := Lib.hid (And.intro hc hk); clear hc hk))
         go_wp2
         go_roundw
         case rel => exact ⟨j + 1, _, _, by omega, by go_num, HA.out.go H3.out.1 ((((Keeps.refl [b] wr).drew).trans H2.out.2.2 (by simp)).trans H3.out.2 (by simp))⟩
         case measure => simp [intOf]; omega
     · have hout : ¬ j < len ∨ 50 ≤ j := by omega
       clear hin
       go_wp2
       all_goals (go_meet; exact ⟨U, M, HA.out⟩)
  case rest =>
      obtain ⟨U, M, hat⟩ := hcut
      have HA := Lib.hid hat
      clear hat A1
      obtain ⟨wr, hwr⟩ : ∃ wr, wr = wc := ⟨_, rfl⟩
      subst hwr
      go_wp2_with fail
      have hka : Keeps [] wr (wr.alloc (.cells (List.replicate 17 (Value.int .i64 0)).toArray 61)) := (Keeps.refl [] wr).alloc _
      have hbv : wr.heap.size ≠ b := by have := HA.out.is.hd.lt; omega
      have H2 := Lib.hid (And.intro (HA.out.go (HA.out.is.keeps hka (by simp)) (hka.wider (by simp))) (And.intro (arr_new12 wr) (And.intro hbv HA.out.ks.size)))
      obtain ⟨bv, hbv'⟩ : ∃ bv, bv = wr.heap.size := ⟨_, rfl⟩
      rw [← hbv'] at H2
      rw [← hbv']
      clear hka hbv hbv' HA
      have HW0 := Lib.hid (Was.mk (V := List.replicate 17 0) (U := U) (x := 0) rfl (fun k hk => by omega))
      go_loopw [10] (fun i wi => ∃ (x : Nat) (V : List Int), x ≤ 16 ∧ i = .int .i64 ((x : Int) + 1) ∧ At12 w wi b U M ∧ ArrIs 61 wi bv V ∧ Was V U x) (fun i _ => 17 - (intOf i).toNat)
      case atStart => exact ⟨0, List.replicate 17 0, by omega, rfl, H2.out.1, H2.out.2.1, HW0.out⟩
      case round =>
        obtain ⟨x, V, hx16, rfl, hat, hv, hw⟩ := hrel
        have HM := Lib.hid (And.intro hat (And.intro hv hw))
        clear hat hv hw
        by_cases hx : x < 16
        · have hmt : ((x : Int) + 1).toNat = x + 1 := by omega
          have hi : 0 ≤ (x : Int) + 1 ∧ (x : Int) + 1 < 17 := by omega
          have fr := HM.out.2.1.row.free (x + 1)
          have c1 := HM.out.2.1.cell (g := x + 1) (by rw [HM.out.2.2.len]; omega)
          generalize V.getD (x + 1) 0 = v0 at c1
          have hu := usedN_in U x hx
          have HU := Lib.hid hu
          clear hu
          go_wp2_with fail
          refine (used_any wr b U M HM.out.1.is ((x : Int) + 1)).mono ?_
          rintro e y ⟨rfl, rfl⟩
          rw [HU.out]
          go_wp2
          go_roundw
          case rel => exact ⟨x + 1, V.set (x + 1) (U.getD x 0), by omega, by go_num, ⟨HM.out.1.is.keeps ((Keeps.refl [bv] _).set (by simp) _) (by simp; exact fun h => H2.out.2.2.1 h.symm), HM.out.1.ks.set (.inr (by show w.heap.size ≤ bv; exact H2.out.2.2.2)) _, HM.out.1.nb⟩, HM.out.2.1.set _ _, HM.out.2.2.next hx⟩
          case measure => simp [intOf]; omega
        · obtain rfl : x = 16 := by omega
          have HV := Lib.hid HM.out.2.2
          clear hx
          go_wp2_with fail
          refine (path_any group wr).mono ?_
          rintro e w2 ⟨ap, cp, rfl, hpi, hk2⟩
          have H3 := Lib.hid (And.intro (HM.out.1.go (HM.out.1.is.keeps hk2 (by simp)) (hk2.wider (by simp))) (And.intro (HM.out.2.1.keeps hk2 (by simp)) (hpi b HM.out.1.is.hd.lt)))
          clear hpi hk2
          go_wp2_with fail
          refine (bring_any n 1000 _ (by omega) (by omega)).mono ?_
          rintro e y ⟨rfl, rfl⟩
          obtain ⟨nn, hnn, hn0⟩ : ∃ nn : Int, n % 1000 = nn ∧ 0 ≤ nn ∧ nn < 1000 := ⟨n % 1000, rfl, by omega, by omega⟩
          rw [hnn]
          clear hnn
          have hask := pathL_ask group nn (by omega)
          have HC := Lib.hid (try_cases U M (pathL group) nn H3.out.1.is.lu hask)
          have HB := Lib.hid (And.intro (ask_zero hask) hask)
          clear hask
          go_wp2_with fail
          refine (try_any _ b U M H3.out.1.is ap (pathL group) cp nn H3.out.2.2).mono ?_
          rintro e w3 ⟨rfl, hc, hk3⟩
          rcases HC.out with ⟨e1, e2⟩ | ⟨g, hg1, hg2, e1, e2, hlim⟩
          · rw [e1]
            rw [e2] at hc
            have H4 := Lib.hid (And.intro (H3.out.1.go hc hk3) (And.intro (H3.out.2.1.keeps hk3 (by simpa using H2.out.2.2.1)) (H3.out.2.2.keeps hk3 (by simp))))
            clear hc hk3 e1 e2
            have hUs := fun (k : Nat) (hk : k < 16) (hm : ((k : Int) + 1) ∈ (pathL group).take (pathL group).length) => (usedN_in (chgTo U (pathL group) nn (pathL group).length) k hk).trans ((chgTo_get U (pathL group) nn H3.out.1.is.lu HB.out.1.1 HB.out.1.2.1 k _ (Nat.le_refl _)).trans (by rw [if_pos hm]))
            have hBk := chg_back U (pathL group) nn H3.out.1.is.lu H3.out.1.is.fu HB.out.1.1 HB.out.1.2.1 HB.out.2
            have HUs := Lib.hid hUs
            have HBk := Lib.hid hBk
            have hmem := fun (i : Nat) (hi : i < (pathL group).length) => mem_take_self hi
            have HIN := Lib.hid (And.intro HB.out.1.1 hmem)
            have hl8 : (pathL group).length ≤ 8 := HB.out.1.2.2.2.1
            clear hUs hBk hmem HB HC
            generalize chgTo U (pathL group) nn (pathL group).length = U' at *
            generalize pathL group = ps at *
            go_wp2_with fail
            go_loopw [14] (fun i wi => ∃ x : Nat, x ≤ ps.length ∧ i = .int .i64 x ∧ At12 w wi b U' M ∧ ArrIs 61 wi bv V ∧ IntsAt wi b ap ps) (fun i _ => ps.length - (intOf i).toNat)
            case atStart => exact ⟨0, by omega, rfl, H4.out.1, H4.out.2.1, H4.out.2.2⟩
            case round =>
              obtain ⟨x, hxl, rfl, hat, hv, hps⟩ := hrel
              have HI := Lib.hid (And.intro hat (And.intro hv hps))
              clear hat hv hps
              by_cases hx : x < ps.length
              · obtain ⟨bp, off, ha, hbp, hbne, hcell⟩ := HI.out.2.2.at hx
                subst ha
                have d0 := hcell x hx
                have hg := HIN.out.1 x hx
                have hm := HIN.out.2 x hx
                obtain ⟨k, hk, hk16⟩ : ∃ k : Nat, ps.getD x 0 = (k : Int) + 1 ∧ k < 16 := ⟨(ps.getD x 0 - 1).toNat, by omega, by omega⟩
                rw [hk] at d0 hm
                have c1 := HI.out.2.1.cell (g := k + 1) (by rw [HV.out.len]; omega)
                rw [HV.out.each k hk16] at c1
                have hub := H3.out.1.is.bu hk16
                have hus : ∀ q, Calls Try.prog 41 #[.pointer (some ⟨b, 0, none⟩), .int .i64 ((k : Int) + 1)] (wr.drewN q) fun e w' => e = .returned (.int .i64 (U.getD k 0 + nn)) ∧ w' = wr.drewN q := fun q =>
                  (used_any _ b U' M (HI.out.1.is.keeps ((Keeps.refl [] _).drewN _) (by simp)) _).mono fun _ _ h => ⟨by rw [h.1, HUs.out k hk16 hm], h.2.symm⟩
                have HUC := Lib.hid hus
                have hmt : ((k : Int) + 1).toNat = k + 1 := by omega
                have hi : 0 ≤ (k : Int) + 1 ∧ (k : Int) + 1 < 17 := by omega
                have hix : 0 ≤ (x : Int) ∧ (x : Int) < (ps.length : Int) := by omega
                clear hus hg hm hk hcell
                generalize U.getD k 0 = u at *
                have hq : (u + nn != u + nn) = false := by simp
                go_wp2_with fail
                go_quiet (first | (go_at_call 41; exact Calls.quiet_of_same (HUC.out _)))
                go_wp2
                go_roundw
                case rel => exact ⟨x + 1, by omega, by go_num, HI.out.1.go (HI.out.1.is.keeps ((Keeps.refl [] _).drewN _) (by simp)) ((Keeps.refl [b] _).drewN _), HI.out.2.1.keeps ((Keeps.refl [] _).drewN _) (by simp), HI.out.2.2.keeps ((Keeps.refl [] _).drewN _) (by simp)⟩
                case measure => simp [intOf]; omega
              · obtain rfl : x = ps.length := by omega
                clear hx hxl
                go_wp2_with fail
                refine (back_any wr b U' M HI.out.1.is ap ps cp nn HI.out.2.2).mono ?_
                rintro e w5 ⟨rfl, hc, hk5⟩
                rw [HBk.out.2] at hc
                rw [HBk.out.1]
                have HF := Lib.hid (And.intro (HI.out.1.go hc hk5) (HI.out.2.1.keeps hk5 (by simpa using H2.out.2.2.1)))
                clear hc hk5
                go_wp2_with fail
                go_loopw [15] (fun i wi => ∃ x : Nat, x ≤ 16 ∧ i = .int .i64 ((x : Int) + 1) ∧ At12 w wi b U M ∧ ArrIs 61 wi bv V) (fun i _ => 17 - (intOf i).toNat)
                case atStart => exact ⟨0, by omega, rfl, HF.out.1, HF.out.2⟩
                case round =>
                  obtain ⟨x, hx16, rfl, hat, hv⟩ := hrel
                  have HI := Lib.hid (And.intro hat hv)
                  clear hat hv
                  by_cases hx : x < 16
                  · have c1 := HI.out.2.cell (g := x + 1) (by rw [HV.out.len]; omega)
                    rw [HV.out.each x hx, ← usedN_in U x hx] at c1
                    have hmt : ((x : Int) + 1).toNat = x + 1 := by omega
                    have hi : 0 ≤ (x : Int) + 1 ∧ (x : Int) + 1 < 17 := by omega
                    have hq : (usedN U ((x : Int) + 1) != usedN U ((x : Int) + 1)) = false := by simp
                    go_wp2_with fail
                    go_quiet (first | (go_at_call 41; exact Calls.quiet_of_same ((used_any _ b U M (HI.out.1.is.keeps ((Keeps.refl [] _).drewN _) (by simp)) _).mono fun _ _ h => ⟨h.1, h.2.symm⟩)))
                    go_wp2
                    go_roundw
                    case rel => exact ⟨x + 1, by omega, by go_num, HI.out.1.go (HI.out.1.is.keeps ((Keeps.refl [] _).drewN _) (by simp)) ((Keeps.refl [b] _).drewN _), HI.out.2.keeps ((Keeps.refl [] _).drewN _) (by simp)⟩
                    case measure => simp [intOf]; omega
                  · obtain rfl : x = 16 := by omega
                    clear hx
                    go_wp2_with fail
                    refine (works12_any wr).mono ?_
                    rintro e w9 ⟨rfl, hk9⟩
                    have H9 := Lib.hid (HI.out.1.ks.trans hk9 (by simp))
                    clear hk9
                    go_wp2
                    try go_ret
                    exact HR.out _ _ ⟨rfl, H9.out⟩
          · rw [e1]
            rw [e2] at hc
            have HF := Lib.hid (And.intro (H3.out.1.go hc hk3) (H3.out.2.1.keeps hk3 (by simpa using H2.out.2.2.1)))
            clear hc hk3 e1 e2
            have hg17 : 0 ≤ (g : Int) ∧ (g : Int) < 17 := by omega
            have hgm : (g : Int) % 17 = (g : Int) := by omega
            have c1 := HF.out.2.cell (g := g) (by rw [HV.out.len]; omega)
            have hgv : V.getD g 0 = U.getD (g - 1) 0 := by have := HV.out.each (g - 1) (by omega); rwa [show g - 1 + 1 = g from by omega] at this
            rw [hgv] at c1
            have hmu : usedN M (g : Int) = M.getD (g - 1) 0 := by have := usedN_in M (g - 1) (by omega); rwa [show ((g - 1 : Nat) : Int) + 1 = (g : Int) from by omega] at this
            have hub := HF.out.1.is.bu (k := g - 1) (by omega)
            rw [← hmu] at hlim
            have HG := Lib.hid (And.intro hgv hmu)
            clear hgv hmu
            generalize U.getD (g - 1) 0 = ug at *
            generalize hmm : usedN M (g : Int) = mg at *
            have HMM := Lib.hid hmm
            clear hmm
            have hbr : ∀ w', Calls Try.prog 22 #[.int .i64 (g : Int), .int .i64 17] w' fun e w'' => e = .returned (.int .i64 (g : Int)) ∧ w'' = w' := fun w' => (bring_any (g : Int) 17 w' (by omega) (by omega)).mono fun _ _ h => ⟨by rw [h.1, hgm], h.2.symm⟩
            have hmo : ∀ q, Calls Try.prog 43 #[.pointer (some ⟨b, 0, none⟩), .int .i64 (g : Int)] (w3.drewN q) fun e w' => e = .returned (.int .i64 mg) ∧ w' = w3.drewN q := fun q =>
              (most_any _ b U M (HF.out.1.is.keeps ((Keeps.refl [] _).drewN _) (by simp)) _).mono fun _ _ h => ⟨by rw [h.1, HMM.out], h.2.symm⟩
            have HBR := Lib.hid (And.intro hbr hmo)
            clear hbr hmo hgm
            go_wp2_with fail
            go_quiet (first | (go_at_call 22; exact Calls.quiet_of_same (HBR.out.1 _)) | (go_at_call 43; exact Calls.quiet_of_same (HBR.out.2 _)))
            have HF2 := Lib.hid (And.intro (HF.out.1.go (HF.out.1.is.keeps ((Keeps.refl [] _).drewN nq) (by simp)) ((Keeps.refl [b] _).drewN nq)) (HF.out.2.keeps ((Keeps.refl [] _).drewN nq) (by simp)))
            clear HF HBR c1
            generalize w3.drewN nq = wf at *
            have HF := HF2
            go_wp2_with fail
            go_loopw [15] (fun i wi => ∃ x : Nat, x ≤ 16 ∧ i = .int .i64 ((x : Int) + 1) ∧ At12 w wi b U M ∧ ArrIs 61 wi bv V) (fun i _ => 17 - (intOf i).toNat)
            case atStart => exact ⟨0, by omega, rfl, HF.out.1, HF.out.2⟩
            case round =>
              obtain ⟨x, hx16, rfl, hat, hv⟩ := hrel
              have HI := Lib.hid (And.intro hat hv)
              clear hat hv
              by_cases hx : x < 16
              · have c1 := HI.out.2.cell (g := x + 1) (by rw [HV.out.len]; omega)
                rw [HV.out.each x hx, ← usedN_in U x hx] at c1
                have hmt : ((x : Int) + 1).toNat = x + 1 := by omega
                have hi : 0 ≤ (x : Int) + 1 ∧ (x : Int) + 1 < 17 := by omega
                have hq : (usedN U ((x : Int) + 1) != usedN U ((x : Int) + 1)) = false := by simp
                go_wp2_with fail
                go_quiet (first | (go_at_call 41; exact Calls.quiet_of_same ((used_any _ b U M (HI.out.1.is.keeps ((Keeps.refl [] _).drewN _) (by simp)) _).mono fun _ _ h => ⟨h.1, h.2.symm⟩)))
                go_wp2
                go_roundw
                case rel => exact ⟨x + 1, by omega, by go_num, HI.out.1.go (HI.out.1.is.keeps ((Keeps.refl [] _).drewN _) (by simp)) ((Keeps.refl [b] _).drewN _), HI.out.2.keeps ((Keeps.refl [] _).drewN _) (by simp)⟩
                case measure => simp [intOf]; omega
              · obtain rfl : x = 16 := by omega
                clear hx
                go_wp2_with fail
                refine (works12_any wr).mono ?_
                rintro e w9 ⟨rfl, hk9⟩
                have H9 := Lib.hid (HI.out.1.ks.trans hk9 (by simp))
                clear hk9
                go_wp2
                try go_ret
                exact HR.out _ _ ⟨rfl, H9.out⟩

theorem chgback_any (a : Option Addr) (len cap : Nat) (group n : Int) (w : World) (hz : IsElems w a len cap 4 Good12s) :
    Calls Try.prog 7 #[.slice a len cap, .int .i64 group, .int .i64 n] w fun e w' => e = .returned (.bool true) ∧ Below w.heap.size w w' :=
  (chgback_keeps a len cap group n w hz).mono fun _ _ ⟨he, hk⟩ => ⟨he, hk.below (Nat.le_refl _) (by simp)⟩

end Go.Proofs.Ytlndpljhcempoaa

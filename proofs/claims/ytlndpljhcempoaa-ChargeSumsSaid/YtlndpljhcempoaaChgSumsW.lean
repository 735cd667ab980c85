/- ChargeSums, the walk: each group's count is the sum of all that was tried on paths with it, and not given back. Condition: the list is read as calls. -/
import Derived.Test.YtlndpljhcempoaaChgO
import Derived.Test.YtlndpljhcempoaaChgBackW
namespace Go.Proofs.Ytlndpljhcempoaa
open Go.RowKit

attribute [local irreducible] pathL tryR tryU backE backU askE limM pth chgTo

set_option maxRecDepth 100000 in
set_option maxHeartbeats 3200000 in
theorem chgsums_keeps (a : Option Addr) (len cap : Nat) (w : World) (hz : IsElems w a len cap 4 Good12s) :
    Calls Try.prog 18 #[.slice a len cap] w fun e w' => e = .returned (.bool true) ∧ Keeps [] w w' := by
  refine calls_hide fun R HR => ?_
  have hlen := hz.len_le
  have HZ := Lib.hid hz
  clear hz
  go_enter Try.func18, Try.ntmps18
  go_wp2_with fail
  refine (new12_any w).mono ?_
  rintro e w1 ⟨rfl, hc, hk⟩
  obtain ⟨b, hb⟩ : ∃ b, b = w.heap.size := ⟨_, rfl⟩
  rw [← hb] at hc
  rw [← hb]
  have hka : Keeps [] w1 (w1.alloc (.cells (List.replicate 17 (Value.int .i64 0)).toArray 61)) := (Keeps.refl [] w1).alloc _
  have hbv : w1.heap.size ≠ b := by have := hc.hd.lt; omega
  have A1 := Lib.hid (And.intro (At12.mk (hc.keeps hka (by simp)) (hk.trans hka (by simp)) (show w.heap.size ≤ b by omega)) (And.intro (arr_new12 w1) (And.intro hbv hk.size)))
  obtain ⟨bv, hbv'⟩ : ∃ bv, bv = w1.heap.size := ⟨_, rfl⟩
  clear hc hk hb hka hbv
  go_upto_block 0 with fail
  rw [← hbv'] at A1
  rw [← hbv']
  clear hbv'
  go_cut [5] (fun _ wx => ∃ U M V, At12 w wx b U M ∧ ArrIs 61 wx bv V ∧ Own V U)
  case first =>
   go_wp2_with fail
   go_loopw [5] (fun i wr => ∃ (j : Nat) (U M V : List Int), j ≤ len ∧ i = .int .i64 j ∧ At12 w wr b U M ∧ ArrIs 61 wr bv V ∧ Own V U) (fun i _ => len - (intOf i).toNat)
   case atStart => exact ⟨0, _, _, _, by omega, rfl, A1.out.1, A1.out.2.1, Own.start⟩
   case round =>
     obtain ⟨j, U, M, V, hj, rfl, hat, hv, ho⟩ := hrel
     have HA := Lib.hid (And.intro hat (And.intro hv ho))
     clear hat hv ho
     by_cases hin : j < len ∧ j < 100
     · obtain ⟨hlt, hlt4⟩ := hin
       obtain ⟨bl, off, kd, g, m, ha, hbl, hdo⟩ := HZ.out.three hlt
       subst ha
       have hdw := hdo.keeps HA.out.1.ks hbl (by simp)
       obtain ⟨c0, c1, c2⟩ := hdw
       clear hdo
       go_wp2_with fail
       refine (bring_any g 16 _ (by omega) (by omega)).mono ?_
       rintro e y ⟨rfl, rfl⟩
       obtain ⟨gg, hgg, hg1, hg2⟩ : ∃ gg : Nat, 1 + g % 16 = (gg : Int) ∧ 1 ≤ gg ∧ gg ≤ 16 := ⟨(1 + g % 16).toNat, by omega, by omega, by omega⟩
       have hb16 : 0 ≤ g % 16 ∧ g % 16 < 16 := by omega
       have HG := Lib.hid hgg
       clear hgg
       go_wp2_with fail
       rw [HG.out]
       refine (bring_any m 500 _ (by omega) (by omega)).mono ?_
       rintro e y ⟨rfl, rfl⟩
       obtain ⟨nn, hnn, hn0⟩ : ∃ nn : Int, m % 500 = nn ∧ 0 ≤ nn ∧ nn < 500 := ⟨m % 500, rfl, by omega, by omega⟩
       rw [hnn]
       clear hnn
       go_wp2_with fail
       refine (bring_any kd 3 _ (by omega) (by omega)).mono ?_
       rintro e y ⟨rfl, rfl⟩
       have hk3 : kd % 3 = 0 ∨ kd % 3 = 1 ∨ kd % 3 = 2 := by omega
       generalize kd % 3 = kk at *
       have HP := Lib.hid (pathL_pred gg hg1 hg2)
       have hbd := HA.out.2.2.bd HA.out.1.is.fu HA.out.1.is.lu gg hg1 hg2
       have hi : 0 ≤ (gg : Int) ∧ (gg : Int) < 17 := by omega
       rcases hk3 with rfl | rfl | rfl
       · go_wp2_with fail
         refine (bring_any m 5000 _ (by omega) (by omega)).mono ?_
         rintro e y ⟨rfl, rfl⟩
         go_wp2_with fail
         refine (limit_any wr b U M HA.out.1.is (gg : Int) (m % 5000)).mono ?_
         rintro e w3 ⟨rfl, hc, hk⟩
         have H3 := Lib.hid (And.intro (HA.out.1.go hc hk) (HA.out.2.1.keeps hk (by simpa using A1.out.2.2.1)))
         clear hc hk
         go_wp2
         go_roundw
         case rel => exact ⟨j + 1, U, _, V, by omega, by go_num, H3.out.1, H3.out.2, HA.out.2.2⟩
         case measure => simp [intOf]; omega
       · go_wp2_with fail
         refine (path_any ((gg : Int) - 1) wr).mono ?_
         rintro e w2 ⟨ap, cp, rfl, hpi, hk2⟩
         rw [HP.out] at hpi
         rw [HP.out]
         have H2 := Lib.hid (And.intro (HA.out.1.go (HA.out.1.is.keeps hk2 (by simp)) (hk2.wider (by simp))) (And.intro (HA.out.2.1.keeps hk2 (by simp)) (hpi b HA.out.1.is.hd.lt)))
         clear hpi hk2
         have hask := pathL_ask ((gg : Int) - 1) nn (by omega)
         rw [HP.out] at hask
         have HC := Lib.hid (try_cases U M (pth gg) nn H2.out.1.is.lu hask)
         clear hask
         go_wp2_with fail
         refine (try_any _ b U M H2.out.1.is ap (pth gg) cp nn H2.out.2.2).mono ?_
         rintro e w3 ⟨rfl, hc, hk3⟩
         rcases HC.out with ⟨e1, e2⟩ | ⟨gr, _, _, e1, e2, _⟩
         · rw [e1]
           rw [e2] at hc
           have hset := (H2.out.2.1.keeps hk3 (by simpa using A1.out.2.2.1))
           have c3 := hset.cell (g := gg) (by rw [HA.out.2.2.len]; omega)
           have fr := hset.row.free gg
           have H3 := Lib.hid (And.intro (H2.out.1.go hc hk3) (And.intro (hset.set gg (V.getD gg 0 + nn)) (HA.out.2.2.try HA.out.1.is.lu gg nn hg1 hg2 hn0.1)))
           clear hc hk3 e1 e2 hset HC
           obtain ⟨vv, hvv⟩ : ∃ vv, vv = V.getD gg 0 := ⟨_, rfl⟩
           have HVV := Lib.hid hvv
           rw [← hvv] at c3 hbd
           clear hvv
           go_wp2
           go_roundw
           case rel => exact ⟨j + 1, _, _, _, by omega, by go_num, ⟨H3.out.1.is.keeps ((Keeps.refl [bv] _).set (by simp) _) (by simp; exact fun h => A1.out.2.2.1 h.symm), H3.out.1.ks.set (.inr (by show w.heap.size ≤ bv; exact A1.out.2.2.2)) _, H3.out.1.nb⟩, by rw [HVV.out]; exact H3.out.2.1, H3.out.2.2⟩
           case measure => simp [intOf]; omega
         · rw [e1]
           rw [e2] at hc
           have H3 := Lib.hid (And.intro (H2.out.1.go hc hk3) (H2.out.2.1.keeps hk3 (by simpa using A1.out.2.2.1)))
           clear hc hk3 e1 e2 HC
           go_wp2
           go_roundw
           case rel => exact ⟨j + 1, _, _, V, by omega, by go_num, H3.out.1, H3.out.2, HA.out.2.2⟩
           case measure => simp [intOf]; omega
       · have c3 := HA.out.2.1.cell (g := gg) (by rw [HA.out.2.2.len]; omega)
         by_cases hge : nn ≤ V.getD gg 0
         · have HBK := Lib.hid (HA.out.2.2.back HA.out.1.is.lu gg nn hg1 hg2 (by omega) hge)
           obtain ⟨vv, hvv⟩ : ∃ vv, vv = V.getD gg 0 := ⟨_, rfl⟩
           have HVV := Lib.hid hvv
           rw [← hvv] at c3 hbd hge
           clear hvv
           go_wp2_with fail
           refine (path_any ((gg : Int) - 1) wr).mono ?_
           rintro e w2 ⟨ap, cp, rfl, hpi, hk2⟩
           rw [HP.out] at hpi
           rw [HP.out]
           have H2 := Lib.hid (And.intro (HA.out.1.go (HA.out.1.is.keeps hk2 (by simp)) (hk2.wider (by simp))) (And.intro (HA.out.2.1.keeps hk2 (by simp)) (hpi b HA.out.1.is.hd.lt)))
           clear hpi hk2
           go_wp2_with fail
           refine (back_any _ b U M H2.out.1.is ap (pth gg) cp nn H2.out.2.2).mono ?_
           rintro e w3 ⟨rfl, hc, hk3⟩
           rw [HBK.out.1]
           have hset := (H2.out.2.1.keeps hk3 (by simpa using A1.out.2.2.1))
           have c4 := hset.cell (g := gg) (by rw [HA.out.2.2.len]; omega)
           rw [← HVV.out] at c4
           have fr := hset.row.free gg
           have H3 := Lib.hid (And.intro (H2.out.1.go hc hk3) (And.intro (hset.set gg (V.getD gg 0 - nn)) HBK.out.2))
           clear hc hk3 hset c3
           go_wp2
           go_roundw
           case rel => exact ⟨j + 1, _, _, _, by omega, by go_num, ⟨H3.out.1.is.keeps ((Keeps.refl [bv] _).set (by simp) _) (by simp; exact fun h => A1.out.2.2.1 h.symm), H3.out.1.ks.set (.inr (by show w.heap.size ≤ bv; exact A1.out.2.2.2)) _, H3.out.1.nb⟩, by rw [HVV.out]; exact H3.out.2.1, by have := H3.out.2.2; unfold addTo at this; rw [← Int.sub_eq_add_neg] at this; exact this⟩
           case measure => simp [intOf]; omega
         · generalize V.getD gg 0 = vv at c3 hbd hge
           go_wp2
           go_roundw
           case rel => exact ⟨j + 1, U, M, V, by omega, by go_num, HA.out.1, HA.out.2.1, HA.out.2.2⟩
           case measure => simp [intOf]; omega
     · have hout : ¬ j < len ∨ 100 ≤ j := by omega
       clear hin
       go_wp2
       all_goals (go_meet; exact ⟨U, M, V, HA.out⟩)
  case rest =>
   obtain ⟨U, M, V, hat⟩ := hcut
   have HA := Lib.hid hat
   clear hat
   have hE := HA.out.2.2.eq
   have hB : ∀ k m i, m < 16 → 0 ≤ partTo V k m i ∧ partTo V k m i ≤ 9007199254740991 * 17 := fun k m i hm => partTo_bd HA.out.2.2 HA.out.1.is.fu HA.out.1.is.lu k m i hm
   have HB := Lib.hid (And.intro hE hB)
   have hVb := fun g h1 h2 => HA.out.2.2.bd HA.out.1.is.fu HA.out.1.is.lu g h1 h2
   have HVb := Lib.hid hVb
   clear hE hB hVb
   go_wp2_with fail
   go_loopw [10] (fun i wi => ∃ x : Nat, x ≤ 16 ∧ i = .int .i64 ((x : Int) + 1) ∧ At12 w wi b U M ∧ ArrIs 61 wi bv V) (fun i _ => 17 - (intOf i).toNat)
   case atStart => exact ⟨0, by omega, rfl, HA.out.1, HA.out.2.1⟩
   case round =>
     obtain ⟨x, hx16, rfl, hat, hv⟩ := hrel
     have HI := Lib.hid (And.intro hat hv)
     clear hat hv
     by_cases hx : x < 16
     · go_wp2_with fail
       rw [decide_eq_true (show (x : Int) + 1 < 17 by omega)]
       go_loopw [11, 12] (fun s i wi => ∃ y : Nat, y ≤ 16 ∧ i = .int .i64 ((y : Int) + 1) ∧ s = .int .i64 (sumTo V x y) ∧ At12 w wi b U M ∧ ArrIs 61 wi bv V) (fun _ i _ => 17 - (intOf i).toNat)
       case atStart => exact ⟨0, by omega, rfl, rfl, HI.out.1, HI.out.2⟩
       case round =>
         obtain ⟨y, hy16, rfl, rfl, hat, hv⟩ := hrel
         have HJ := Lib.hid (And.intro hat hv)
         clear hat hv
         by_cases hy : y < 16
         · have HP := Lib.hid (show pathL ((y : Int) + 1 - 1) = pth (y + 1) from by have := pathL_pred (y + 1) (by omega) (by omega); rwa [show ((y + 1 : Nat) : Int) = (y : Int) + 1 from by omega] at this)
           rw [← partTo_zero V x y]
           have HPZ := Lib.hid (show pathL (y : Int) = pth (y + 1) from by have := HP.out; rwa [show (y : Int) + 1 - 1 = (y : Int) from by omega] at this)
           go_wp2_with fail
           refine (path_any (y : Int) wr).mono ?_
           rintro e w2 ⟨ap, cp, rfl, hpi, hk2⟩
           rw [HPZ.out] at hpi
           rw [HPZ.out]
           have H2 := Lib.hid (And.intro (HJ.out.1.go (HJ.out.1.is.keeps hk2 (by simp)) (hk2.wider (by simp))) (And.intro (HJ.out.2.keeps hk2 (by simp)) (hpi b HJ.out.1.is.hd.lt)))
           clear hpi hk2
           have hl8 : (pth (y + 1)).length ≤ 5 := pth_len (y + 1) (by omega)
           go_wp2_with fail
           go_loopw [11, 14] (fun s i wi => ∃ z : Nat, z ≤ (pth (y + 1)).length ∧ i = .int .i64 z ∧ s = .int .i64 (partTo V x y z) ∧ w2 = wi) (fun _ i _ => (pth (y + 1)).length - (intOf i).toNat)
           case atStart => exact ⟨0, by omega, rfl, rfl, rfl⟩
           case round =>
             obtain ⟨z, hz, rfl, rfl, rfl⟩ := hrel
             by_cases hzl : z < (pth (y + 1)).length
             · obtain ⟨bp, off, ha, hbp, hbne, hcell⟩ := H2.out.2.2.at hzl
               subst ha
               have d0 := hcell z hzl
               have c1 := H2.out.2.1.cell (g := y + 1) (by rw [HA.out.2.2.len]; omega)
               have hhit := partTo_hit V x y z hy hzl
               have hmiss := partTo_miss V x y z hzl
               have hpb := HB.out.2 x y z hy
               have hvb := HVb.out (y + 1) (by omega) (by omega)
               have hix : 0 ≤ (z : Int) ∧ (z : Int) < ((pth (y + 1)).length : Int) := by omega
               have hmt : ((y : Int) + 1).toNat = y + 1 := by omega
               have hi : 0 ≤ (y : Int) + 1 ∧ (y : Int) + 1 < 17 := by omega
               have HH := Lib.hid (And.intro hhit hmiss)
               clear hhit hmiss hcell
               by_cases he : (pth (y + 1)).getD z 0 = (x : Int) + 1
               · have hs := HH.out.1 he
                 have HS := Lib.hid hs
                 rw [he] at d0
                 have hq : ((x : Int) + 1 == (x : Int) + 1) = true := by simp
                 clear hs HH he
                 generalize hpp : partTo V x y z = pz at *
                 generalize V.getD (y + 1) 0 = vy at *
                 have HPP := Lib.hid hpp
                 clear hpp
                 go_wp2
                 go_roundw
                 case rel => exact ⟨z + 1, by omega, by go_num, by rw [HS.out], by first | rfl | trivial⟩
                 case measure => simp [intOf]; omega
               · have hs := HH.out.2 he
                 have HS := Lib.hid hs
                 obtain ⟨q, hqq⟩ : ∃ q, q = (pth (y + 1)).getD z 0 := ⟨_, rfl⟩
                 rw [← hqq] at d0 he
                 have hq : (q == (x : Int) + 1) = false := beq_eq_false_iff_ne.2 he
                 clear hs HH he hqq
                 go_wp2
                 go_roundw
                 case rel => exact ⟨z + 1, by omega, by go_num, by rw [HS.out], by first | rfl | trivial⟩
                 case measure => simp [intOf]; omega
             · obtain rfl : z = (pth (y + 1)).length := by omega
               rw [partTo_full]
               clear hzl hz
               go_wp2
               go_roundw
               case rel => exact ⟨y + 1, by omega, by go_num, rfl, H2.out.1, H2.out.2.1⟩
               case measure => simp [intOf]; omega
         · obtain rfl : y = 16 := by omega
           rw [← HB.out.1 x hx, ← usedN_in U x hx]
           have hq : (usedN U ((x : Int) + 1) != usedN U ((x : Int) + 1)) = false := by simp
           clear hy
           go_wp2_with fail
           refine (used_any wr b U M HJ.out.1.is ((x : Int) + 1)).mono ?_
           rintro e y ⟨rfl, rfl⟩
           go_wp2
           go_roundw
           case rel => exact ⟨x + 1, by omega, by go_num, HJ.out.1, HJ.out.2⟩
           case measure => simp [intOf]; omega
     · go_wp2_with fail
       refine (works12_any wr).mono ?_
       rintro e w9 ⟨rfl, hk9⟩
       have H9 := Lib.hid (HI.out.1.ks.trans hk9 (by simp))
       clear hk9
       go_wp2
       try go_ret
       exact HR.out _ _ ⟨rfl, H9.out⟩

theorem chgsums_any (a : Option Addr) (len cap : Nat) (w : World) (hz : IsElems w a len cap 4 Good12s) :
    Calls Try.prog 18 #[.slice a len cap] w fun e w' => e = .returned (.bool true) ∧ Below w.heap.size w w' :=
  (chgsums_keeps a len cap w hz).mono fun _ _ ⟨he, hk⟩ => ⟨he, hk.below (Nat.le_refl _) (by simp)⟩

end Go.Proofs.Ytlndpljhcempoaa

/- StockSums, the walk: what is held is what was put, less what was taken. Condition: the list is read as calls. -/
import Derived.Test.YtlndpljhcempoaaSumsA
import Derived.Test.YtlndpljhcempoaaStkPlaysW
import Derived.Deep.DeepCutAuto
import Derived.Deep.CutBlock
import Derived.Deep.RegionHeld3
namespace Go.Proofs.Ytlndpljhcempoaa
open Go.RowKit

theorem arr_new61 (w : World) : Row (w.alloc (.cells (List.replicate 17 (Value.int .i64 0)).toArray 61)) w.heap.size 61 ((List.replicate 17 (0 : Int)).map (.int .i64)) := by
  rw [List.map_replicate]; exact Row.new w _ 61

theorem putR_bd {L : List (Int × Int)} (hf : ∀ p ∈ L, Fine p) (c n : Int) (g : Nat) (hg : 1 ≤ g ∧ g ≤ 16) (hn : 0 ≤ n ∧ n < 3000) : ∃ (u : Nat) (o : Int), putR L c g n = ((u : Int), o) ∧ u ≤ 16 ∧ 0 ≤ o ∧ o ≤ 4096 := by
  obtain ⟨f1, f2, f3, f4⟩ := at2_fine hf c
  unfold putR
  split
  · exact ⟨0, 0, rfl, by omega, by omega, by omega⟩
  · split
    · exact ⟨(at2 L c).1.toNat, (at2 L c).2, Prod.ext (by dsimp only; omega) rfl, by omega, by omega, by omega⟩
    · split
      · exact ⟨g, _, rfl, by omega, by omega, by omega⟩
      · exact ⟨0, 0, rfl, by omega, by omega, by omega⟩

theorem at2_bd {L : List (Int × Int)} (hf : ∀ p ∈ L, Fine p) (c : Int) : ∃ (u : Nat) (o : Int), at2 L c = ((u : Int), o) ∧ u ≤ 16 ∧ 0 ≤ o ∧ o ≤ 1024 := by
  obtain ⟨f1, f2, f3, f4⟩ := at2_fine hf c
  by_cases h : (at2 L c).2 = 0
  · exact ⟨0, 0, Prod.ext (f3 h) h, by omega, by omega, by omega⟩
  · exact ⟨(at2 L c).1.toNat, (at2 L c).2, Prod.ext (by dsimp only; omega) rfl, by omega, by omega, by omega⟩

theorem Sums.bd {V : List Int} {L : List (Int × Int)} (h : Sums V L) {tH tE : TypeId} {w : World} {b bs : Nat} (hs : StkIs tH tE w b bs L) (g : Nat) (hg : g ≤ 16) : 0 ≤ V.getD g 0 ∧ V.getD g 0 ≤ 8192 := by
  by_cases h0 : g = 0
  · subst h0; rw [h.none]; omega
  · rw [h.each g (by omega) hg]
    have := heldTo_bd hs (g : Int) L.length (Nat.le_refl _)
    have := hs.len
    unfold held
    omega

set_option maxRecDepth 100000 in
set_option maxHeartbeats 3200000 in
theorem sums_keeps (a : Option Addr) (len cap : Nat) (w : World) (hz : IsElems w a len cap 4 GoodInt) :
    Calls Try.prog 11 #[.slice a len cap] w fun e w' => e = .returned (.bool true) ∧ Keeps [] w w' := by
  refine calls_hide fun R HR => ?_
  have hlen := hz.len_le
  have HZ := Lib.hid hz
  clear hz
  go_enter Try.func11, Try.ntmps11
  go_wp2_with fail
  refine (works13_any w).mono ?_
  rintro e w0 ⟨rfl, hk0⟩
  have H0 := Lib.hid hk0
  clear hk0
  go_wp2_with fail
  refine (snew_ok w0 3 (by omega) (by omega)).mono ?_
  rintro e w1 ⟨rfl, hm, hk⟩
  obtain ⟨b1, hb1⟩ : ∃ b1, b1 = w0.heap.size + 1 := ⟨_, rfl⟩
  obtain ⟨s1, hs1⟩ : ∃ s1, s1 = w0.heap.size := ⟨_, rfl⟩
  rw [← hb1, ← hs1] at hm
  rw [← hb1]
  have hge : w.heap.size ≤ b1 ∧ w.heap.size ≤ s1 ∧ b1 < w1.heap.size ∧ s1 < w1.heap.size := by
    have := H0.out.size; have := hm.hd.lt; have := hm.el.lt; omega
  have hk01 := H0.out.trans hk (by simp)
  have H1 := Lib.hid (And.intro hge (And.intro (hm.keeps ((Keeps.refl [] w1).alloc (.cells (List.replicate 17 (Value.int .i64 0)).toArray 61)) (by simp) (by simp)) (And.intro (hk01.alloc (.cells (List.replicate 17 (Value.int .i64 0)).toArray 61)) (arr_new61 w1))))
  clear hb1 hs1 hk hm hge hk01
  go_wp2_with fail
  go_loopw [6] (fun i wr => ∃ (j : Nat) (L : List (Int × Int)) (V : List Int), j ≤ len ∧ i = .int .i64 j ∧ StkIs 93 132 wr b1 s1 L ∧ L.length = 3 ∧ ArrIs 61 wr w1.heap.size V ∧ Sums V L ∧ Keeps [] w wr) (fun i _ => len - (intOf i).toNat)
  case atStart => exact ⟨0, List.replicate 3 (0, 0), List.replicate 17 0, by omega, rfl, H1.out.2.1, rfl, H1.out.2.2.2, Sums.start 3, H1.out.2.2.1⟩
  case round =>
    obtain ⟨j, L, V, hj, rfl, hst, hl3, hv, hsu, hkr⟩ := hrel
    have HM := Lib.hid (And.intro (And.intro hst hl3) (And.intro hv (And.intro hsu hkr)))
    clear hst hl3 hv hsu hkr
    by_cases hin : j < len ∧ j < 150
    · obtain ⟨hlt, hlt4⟩ := hin
      obtain ⟨b, off, kd, c, g, n, ha, hb, hdo⟩ := HZ.out.four hlt
      subst ha
      obtain ⟨c0, c1, c2, c3⟩ := hdo.keeps HM.out.2.2.2 hb (by simp)
      clear hdo
      go_wp2_with fail
      refine (bring_any c 3 _ (by omega) (by omega)).mono ?_
      rintro e y ⟨rfl, rfl⟩
      generalize c % 3 = cc
      go_wp2_with fail
      refine (bring_any g 16 _ (by omega) (by omega)).mono ?_
      rintro e y ⟨rfl, rfl⟩
      obtain ⟨g0, hg0, hg1⟩ : ∃ g0 : Nat, g % 16 = (g0 : Int) ∧ g0 < 16 := ⟨(g % 16).toNat, by omega, by omega⟩
      rw [hg0]
      clear hg0
      go_wp2_with fail
      refine (bring_any n 3000 _ (by omega) (by omega)).mono ?_
      rintro e y ⟨rfl, rfl⟩
      obtain ⟨nn, hnn, hn0⟩ : ∃ nn : Int, n % 3000 = nn ∧ 0 ≤ nn ∧ nn < 3000 := ⟨n % 3000, rfl, by omega, by omega⟩
      rw [hnn]
      clear hnn
      rw [show (1 + (g0 : Int)) = ((g0 + 1 : Nat) : Int) from by omega]
      obtain ⟨gg, hgg⟩ : ∃ gg : Nat, gg = g0 + 1 := ⟨_, rfl⟩
      rw [← hgg]
      have hg' : 1 ≤ gg ∧ gg ≤ 16 := by omega
      clear hgg hg1
      go_upto_block 4 with fail
      go_wp2_with fail
      refine (bring_any kd 3 _ (by omega) (by omega)).mono ?_
      rintro e y ⟨rfl, rfl⟩
      have hk3 : kd % 3 = 0 ∨ kd % 3 = 1 ∨ kd % 3 = 2 := by omega
      generalize kd % 3 = kk at *
      go_upto_block 2 with fail
      have hbx := (Keeps.refl [] wr).alloc (.cells #[.int .i64 kd, .int .i64 c, .int .i64 g, .int .i64 n] 81)
      have lb := H1.out.1
      have lv := HM.out.2.1.row.lt
      have HB := Lib.hid (And.intro (And.intro (HM.out.1.1.keeps hbx (by simp) (by simp)) HM.out.1.2) (And.intro (HM.out.2.1.keeps hbx (by simp)) (And.intro HM.out.2.2.1 (HM.out.2.2.2.trans hbx (by simp)))))
      clear hbx c0 c1 c2 c3 lb lv
      generalize wr.alloc (.cells #[.int .i64 kd, .int .i64 c, .int .i64 g, .int .i64 n] 81) = wb at *
      go_cut [] (fun wx => ∃ (L : List (Int × Int)) (V : List Int), StkIs 93 132 wx b1 s1 L ∧ L.length = 3 ∧ ArrIs 61 wx w1.heap.size V ∧ Sums V L ∧ Keeps [] w wx)
      case first =>
        rcases hk3 with rfl | rfl | rfl
        · go_wp2_with fail
          refine (take_any wb b1 s1 L HB.out.1.1 cc gg nn).mono ?_
          rintro e wt ⟨rfl, hs, hk⟩
          have HT := Lib.hid (And.intro hs (And.intro (HB.out.2.1.keeps hk (by simp; have := H1.out.1; omega)) (HB.out.2.2.2.trans hk (by simp; have := H1.out.1; omega))))
          clear hs hk
          cases htb : takeB L cc gg nn with
          | true =>
            have hx := HB.out.2.2.1.bd HB.out.1.1 gg hg'.2
            have c1 := HT.out.2.1.cell (g := gg) (by rw [HB.out.2.2.1.len]; omega)
            have fr := HT.out.2.1.row.free gg
            have hq := HB.out.2.2.1.take cc nn gg hg'.1 hg'.2 htb
            rw [show addTo V gg (-nn) = V.set gg (V.getD gg 0 - nn) from by unfold addTo; rw [Int.sub_eq_add_neg]] at hq
            have hset := HT.out.2.1.set gg (V.getD gg 0 - nn)
            have hi : 0 ≤ (gg : Int) ∧ (gg : Int) < 17 := by omega
            have HQ := Lib.hid (And.intro hset hq)
            clear hset hq
            generalize V.getD gg 0 = yy at *
            go_wp2
            go_meet
            exact ⟨_, _, HT.out.1.keeps ((Keeps.refl [w1.heap.size] _).set (by simp) _) (by simp; have := H1.out.1; omega) (by simp; have := H1.out.1; omega), by rw [takeL_len]; exact HB.out.1.2, HQ.out.1, HQ.out.2, HT.out.2.2.set (.inr (by show _ ≤ w1.heap.size; have := H1.out.1; omega)) _⟩
          | false =>
            have hl : takeL L cc gg nn = L := by unfold takeL; rw [htb]; rfl
            have HQ := Lib.hid hl
            clear hl
            go_wp2
            go_meet
            exact ⟨_, _, HT.out.1.to HQ.out, HB.out.1.2, HT.out.2.1, HB.out.2.2.1, HT.out.2.2⟩
        · go_wp2_with fail
          refine (put_any wb b1 s1 L HB.out.1.1 cc gg nn).mono ?_
          rintro e wt ⟨rfl, hs, hk⟩
          have HT := Lib.hid (And.intro hs (And.intro (HB.out.2.1.keeps hk (by simp; have := H1.out.1; omega)) (HB.out.2.2.2.trans hk (by simp; have := H1.out.1; omega))))
          clear hs hk
          obtain ⟨u, o, hu, hu1, ho⟩ := putR_bd HB.out.1.1.fine cc nn gg hg' hn0
          rw [hu]
          by_cases htb : putE L cc gg nn = 0
          · have hx := HB.out.2.2.1.bd HB.out.1.1 gg hg'.2
            have c1 := HT.out.2.1.cell (g := gg) (by rw [HB.out.2.2.1.len]; omega)
            have fr := HT.out.2.1.row.free gg
            have hq := HB.out.2.2.1.putOk HB.out.1.1.fine cc nn gg hg'.1 hg'.2 htb u o hu hu1
            have hset : ArrIs 61 _ w1.heap.size (addTo V gg nn) := HT.out.2.1.set gg (V.getD gg 0 + nn)
            have hx2 : -4096 ≤ (addTo V gg nn).getD u 0 ∧ (addTo V gg nn).getD u 0 ≤ 16384 := by
              have := HB.out.2.2.1.bd HB.out.1.1 u hu1
              rw [addTo_get _ _ _ _ (by rw [HB.out.2.2.1.len]; omega)]
              split <;> omega
            have hln : (addTo V gg nn).length = 17 := by rw [addTo_len, HB.out.2.2.1.len]
            have hi : 0 ≤ (gg : Int) ∧ (gg : Int) < 17 := by omega
            have HQ := Lib.hid (And.intro hset (And.intro hq (And.intro hu hln)))
            have HE := Lib.hid htb
            rw [htb]
            clear hset hq htb hu hln
            generalize V.getD gg 0 = y1 at *
            go_wp2_with fail
            refine (bring_any (u : Int) 17 _ (by omega) (by omega)).mono ?_
            rintro e wz ⟨rfl, hwz⟩
            have hV2 : ArrIs 61 wz w1.heap.size (addTo V gg nn) := by rw [← hwz]; exact HQ.out.1
            have hSt : StkIs 93 132 wz b1 s1 (putL L cc gg nn) := by
              rw [← hwz]; exact HT.out.1.keeps ((Keeps.refl [w1.heap.size] _).set (by simp) _) (by simp; have := H1.out.1; omega) (by simp; have := H1.out.1; omega)
            have hKe : Keeps [] w wz := by
              rw [← hwz]; exact HT.out.2.2.set (.inr (by show _ ≤ w1.heap.size; have := H1.out.1; omega)) _
            have hm17 : (u : Int) % 17 = (u : Int) := by omega
            rw [hm17]
            have HM17 := Lib.hid hm17
            have c2 := hV2.cell (g := u) (by rw [HQ.out.2.2.2]; omega)
            have fr2 := hV2.row.free u
            have hi2 : 0 ≤ (u : Int) ∧ (u : Int) < 17 := by omega
            have hq2 := HQ.out.2.1
            rw [show addTo (addTo V gg nn) u (-o) = (addTo V gg nn).set u ((addTo V gg nn).getD u 0 - o) from by rw [Int.sub_eq_add_neg]; rfl] at hq2
            have hset2 := hV2.set u ((addTo V gg nn).getD u 0 - o)
            have HZZ := Lib.hid (And.intro hSt (And.intro hKe (And.intro hq2 hset2)))
            clear hm17 hV2 hSt hKe hwz hq2 hset2 c1 fr hi hx
            generalize (addTo V gg nn).getD u 0 = yy at *
            go_wp2_with fail
            refine (bring_any (u : Int) 17 _ (by omega) (by omega)).mono ?_
            rintro e wz2 ⟨rfl, rfl⟩
            rw [HM17.out]
            go_wp2
            go_meet
            exact ⟨_, _, HZZ.out.1.keeps ((Keeps.refl [w1.heap.size] _).set (by simp) _) (by simp; have := H1.out.1; omega) (by simp; have := H1.out.1; omega), by rw [putL_len]; exact HB.out.1.2, HZZ.out.2.2.2, HZZ.out.2.2.1, HZZ.out.2.1.set (.inr (by show _ ≤ w1.heap.size; have := H1.out.1; omega)) _⟩
          · have hl : putL L cc gg nn = L := by unfold putL; rw [if_pos htb]
            have hbq : (putE L cc gg nn == 0) = false := beq_eq_false_iff_ne.2 htb
            have HQ := Lib.hid hl
            clear hl htb
            generalize putE L cc gg nn = ee at *
            go_wp2
            go_meet
            exact ⟨_, _, HT.out.1.to HQ.out, HB.out.1.2, HT.out.2.1, HB.out.2.2.1, HT.out.2.2⟩
        · go_wp2_with fail
          refine (drain_any wb b1 s1 L HB.out.1.1 cc).mono ?_
          rintro e wt ⟨rfl, hs, hk⟩
          have HT := Lib.hid (And.intro hs (And.intro (HB.out.2.1.keeps hk (by simp; have := H1.out.1; omega)) (HB.out.2.2.2.trans hk (by simp; have := H1.out.1; omega))))
          clear hs hk
          obtain ⟨u, o, hu, hu1, ho⟩ := at2_bd HB.out.1.1.fine cc
          rw [hu]
          have hx := HB.out.2.2.1.bd HB.out.1.1 u hu1
          have c1 := HT.out.2.1.cell (g := u) (by rw [HB.out.2.2.1.len]; omega)
          have fr := HT.out.2.1.row.free u
          have hq := HB.out.2.2.1.drain HB.out.1.1.fine cc u o hu hu1
          rw [show addTo V u (-o) = V.set u (V.getD u 0 - o) from by unfold addTo; rw [Int.sub_eq_add_neg]] at hq
          have hset := HT.out.2.1.set u (V.getD u 0 - o)
          have hi2 : 0 ≤ (u : Int) ∧ (u : Int) < 17 := by omega
          have hm17 : (u : Int) % 17 = (u : Int) := by omega
          have HM17 := Lib.hid hm17
          have HQ := Lib.hid (And.intro hset (And.intro hq hu))
          clear hset hq hu hm17
          generalize V.getD u 0 = yy at *
          go_wp2_with fail
          refine (bring_any (u : Int) 17 _ (by omega) (by omega)).mono ?_
          rintro e wz2 ⟨rfl, rfl⟩
          rw [HM17.out]
          go_wp2_with fail
          refine (bring_any (u : Int) 17 _ (by omega) (by omega)).mono ?_
          rintro e wz2 ⟨rfl, rfl⟩
          rw [HM17.out]
          go_wp2
          go_meet
          exact ⟨_, _, HT.out.1.keeps ((Keeps.refl [w1.heap.size] _).set (by simp) _) (by simp; have := H1.out.1; omega) (by simp; have := H1.out.1; omega), by rw [drainL_len]; exact HB.out.1.2, HQ.out.1, HQ.out.2.1, HT.out.2.2.set (.inr (by show _ ≤ w1.heap.size; have := H1.out.1; omega)) _⟩
      case rest =>
        obtain ⟨L, V, hs, hl3, hv, hsu, hk⟩ := hcut
        have HR2 := Lib.hid (And.intro (And.intro hs hl3) (And.intro hv (And.intro hsu hk)))
        clear hs hl3 hv hsu hk HB
        go_wp2_with fail
        go_loopw [16, 17] (fun s k wi => ∃ x : Nat, x ≤ 16 ∧ k = .int .i64 ((x : Int) + 1) ∧ s = .int .i64 (hsum L L.length x) ∧ StkIs 93 132 wi b1 s1 L ∧ ArrIs 61 wi w1.heap.size V ∧ Keeps [] w wi) (fun _ k _ => 17 - (intOf k).toNat)
        case atStart => exact ⟨0, by omega, rfl, rfl, HR2.out.1.1, HR2.out.2.1, HR2.out.2.2.2⟩
        case round =>
          obtain ⟨x, hx16, rfl, rfl, hs, hv, hk⟩ := hrel
          have HI := Lib.hid (And.intro hs (And.intro hv hk))
          clear hs hv hk
          have hbd := hsum_bd HI.out.1 x
          by_cases hx : x < 16
          · have c1 := HI.out.2.1.cell (g := x + 1) (by rw [HR2.out.2.2.1.len]; omega)
            rw [HR2.out.2.2.1.each (x + 1) (by omega) (by omega), show ((x + 1 : Nat) : Int) = (x : Int) + 1 from by omega] at c1
            have hmt : ((x : Int) + 1).toNat = x + 1 := by omega
            have hh : 0 ≤ held L ((x : Int) + 1) ∧ held L ((x : Int) + 1) ≤ 8192 := by
              have := heldTo_bd HI.out.1 ((x : Int) + 1) L.length (Nat.le_refl _)
              have := HI.out.1.len
              unfold held; omega
            have hst : hsum L L.length x + held L ((x : Int) + 1) = hsum L L.length (x + 1) := rfl
            have HS := Lib.hid hst
            have hbx := HI.out.2.1.row.lt
            have hne : ((held L ((x : Int) + 1)) != (held L ((x : Int) + 1))) = false := by simp
            have hi : 0 ≤ ((x : Int) + 1) ∧ ((x : Int) + 1) < 17 := by omega
            have D0 := Lib.hid (HI.out.1.keeps ((Keeps.refl [] wr).drew) (by simp) (by simp))
            clear hst
            generalize hsum L L.length x = ss at *
            go_wp2_with fail
            go_region_held3 (fun w' => w'.cell? ⟨w1.heap.size, x + 1, none⟩ = some (.int .i64 (held L ((x : Int) + 1)))) (go_keep) (first | (go_at_call 52; refine (held_any _ b1 s1 L D0.out ((x : Int) + 1)).mono ?_; rintro e w3 ⟨rfl, hk⟩; have hcc := (hk.cell (p := ⟨w1.heap.size, x + 1, none⟩) (by exact hbx) (by simp)).trans c1; have HK := Lib.hid hk; clear hk))
            go_wp2
            rw [HS.out]
            go_roundw
            case rel => exact ⟨x + 1, by omega, by go_num, rfl, HI.out.1.keeps (((Keeps.refl [] _).drew).trans HK.out (by simp)) (by simp) (by simp), HI.out.2.1.keeps (((Keeps.refl [] _).drew).trans HK.out (by simp)) (by simp), HI.out.2.2.drew.trans HK.out (by simp)⟩
            case measure => simp [intOf]; omega
          · obtain rfl : x = 16 := by omega
            clear hx hbd
            have htt := hsum_tot L HI.out.1.fine L.length (Nat.le_refl _)
            rw [htt, show (((16 : Nat) : Int) + 1) = 17 from rfl]
            have HTT := Lib.hid htt
            clear htt
            go_wp2_with fail
            go_loopw [16, 18] (fun s k wi => ∃ x : Nat, x ≤ 3 ∧ k = .int .i64 x ∧ s = .int .i64 (tot L L.length - tot L x) ∧ StkIs 93 132 wi b1 s1 L ∧ ArrIs 61 wi w1.heap.size V ∧ Keeps [] w wi) (fun _ k _ => 3 - (intOf k).toNat)
            case atStart => exact ⟨0, by omega, rfl, by simp [tot], HI.out.1, HI.out.2.1, HI.out.2.2⟩
            case round =>
              obtain ⟨x, hx3, rfl, rfl, hs, hv, hk⟩ := hrel
              have HJ := Lib.hid (And.intro hs (And.intro hv hk))
              clear hs hv hk
              have hbd := tot_bd HJ.out.1.fine x (by rw [HR2.out.1.2]; omega)
              have hbt := tot_bd HJ.out.1.fine L.length (Nat.le_refl _)
              have hlL := HJ.out.1.len
              by_cases hx : x < 3
              · have hxl : x < L.length := by rw [HR2.out.1.2]; omega
                have hff := HJ.out.1.at hxl
                have hst : tot L x + (L.getD x (0, 0)).2 = tot L (x + 1) := rfl
                go_wp2_with fail
                refine (has_any wr b1 s1 L HJ.out.1 x).mono ?_
                rintro e w3 ⟨rfl, hk⟩
                rw [at2_nat hxl]
                generalize L.getD x (0, 0) = p at *
                obtain ⟨pg, pm⟩ := p
                obtain ⟨f1, f2, f3, f4⟩ := hff
                dsimp only at f1 f2 f3 f4 hst
                have HK := Lib.hid (And.intro (HJ.out.1.keeps hk (by simp) (by simp)) (And.intro (HJ.out.2.1.keeps hk (by simp)) (And.intro (HJ.out.2.2.trans hk (by simp)) hst)))
                clear hk hst
                by_cases h0 : pm = 0
                · have hg0 := f3 h0
                  subst h0 hg0
                  go_wp2
                  go_roundw
                  case rel => exact ⟨x + 1, by omega, by go_num, by rw [← HK.out.2.2.2]; congr 1; omega, HK.out.1, HK.out.2.1, HK.out.2.2.1⟩
                  case measure => simp [intOf]; omega
                · have hg1 := f4 (by omega)
                  have q1 : (pm == 0) = false := beq_eq_false_iff_ne.2 h0
                  have q2 : (pg == 0) = false := beq_eq_false_iff_ne.2 (by omega)
                  clear f3 f4
                  go_wp2
                  go_roundw
                  case rel => exact ⟨x + 1, by omega, by go_num, by rw [← HK.out.2.2.2]; congr 1; omega, HK.out.1, HK.out.2.1, HK.out.2.2.1⟩
                  case measure => simp [intOf]; omega
              · obtain rfl : x = 3 := by omega
                rw [HR2.out.1.2, Int.sub_self]
                have c1 := HJ.out.2.1.cell (g := 0) (by rw [HR2.out.2.2.1.len]; omega)
                rw [HR2.out.2.2.1.none] at c1
                clear hbd hbt hlL hx
                go_wp2
                go_roundw
                case rel => exact ⟨j + 1, L, V, by omega, by go_num, HJ.out.1, HR2.out.1.2, HJ.out.2.1, HR2.out.2.2.1, HJ.out.2.2⟩
                case measure => simp [intOf]; omega
    · have HK := Lib.hid HM.out.2.2.2
      by_cases hlt : j < len
      · have h40 : 150 ≤ j := by omega
        clear hin
        go_wp2
        try go_ret
        exact HR.out _ _ ⟨rfl, HK.out⟩
      · clear hin
        go_wp2
        try go_ret
        exact HR.out _ _ ⟨rfl, HK.out⟩

theorem sums_any (a : Option Addr) (len cap : Nat) (w : World) (hz : IsElems w a len cap 4 GoodInt) :
    Calls Try.prog 11 #[.slice a len cap] w fun e w' => e = .returned (.bool true) ∧ Below w.heap.size w w' :=
  (sums_keeps a len cap w hz).mono fun _ _ ⟨he, hk⟩ => ⟨he, hk.below (Nat.le_refl _) (by simp)⟩

end Go.Proofs.Ytlndpljhcempoaa

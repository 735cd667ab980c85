/- ChargeKnown, the walk: counters that are none. No condition. -/
import Derived.Test.YtlndpljhcempoaaKnownC
import Derived.Deep.RegionHeldLaw
import Derived.Deep.AppendLies
import Derived.OwnWalk
namespace Go.Proofs.Ytlndpljhcempoaa
open Go.RowKit

theorem noChg_new (w : World) : NoChg (w.alloc (.cells (Value.bool false :: List.replicate 32 (.int .i64 0)).toArray 69)) (.pointer (some ⟨w.heap.size, 0, none⟩)) := by
  have h := Row.new w (Value.bool false :: List.replicate 32 (.int .i64 0)) 69
  exact .inr ⟨_, rfl, h.cell rfl, h.lt⟩

/-- The ten calls of a round. -/
def known40 (N : Int) (q p : Value) : List Value :=
  [.int .i64 0, .int .i64 2, .int .i64 N, .slice none 0 0, .int .i64 1, .int .i64 2, .int .i64 100, .slice none 0 0, .int .i64 1, .int .i64 2, .int .i64 N, .slice none 0 0, .int .i64 2, .int .i64 2, .int .i64 N, .slice none 0 0,
    .int .i64 4, .int .i64 0, .int .i64 50, q, .int .i64 3, .int .i64 0, .int .i64 50, q, .int .i64 4, .int .i64 0, .int .i64 N, p,
    .int .i64 0, .int .i64 17, .int .i64 0, .slice none 0 0, .int .i64 1, .int .i64 0, .int .i64 0, .slice none 0 0, .int .i64 2, .int .i64 (-1), .int .i64 0, .slice none 0 0]

theorem known40_one (N : Int) (qa : Option Addr) (ql qc : Nat) (pa : Option Addr) (pl pc : Nat) : ∀ u ∈ known40 N (.slice qa ql qc) (.slice pa pl pc), u.oneCell' = true := by
  simp [known40, Value.oneCell']

theorem known40_good {w : World} (N : Int) {q p : Value} (hq : Good12L w 3 q) (hp : Good12L w 3 p) : ∀ i u, (known40 N q p)[i]? = some u → Good12L w (i % 4) u :=
  good_four (good_nil w) (good_four (good_nil w) (good_four (good_nil w) (good_four (good_nil w) (good_four hq (good_four hq (good_four hp (good_four (good_nil w) (good_four (good_nil w) (good_four (good_nil w) (good_end w))))))))))

set_option maxRecDepth 100000 in
set_option maxHeartbeats 6400000 in
theorem chgknown_keeps (w : World) : Calls Try.prog 9 #[] w fun e w' => e = .returned (.bool true) ∧ Keeps [] w w' := by
  refine calls_hide fun R HR => ?_
  obtain ⟨i0, hi, hz0, hz1, hz2⟩ := info_parts Try.info56
  go_enter Try.func9, Try.ntmps9
  go_wp2_with fail
  go_loopw [1, 2] (fun v i wr => ∃ k : Nat, k ≤ 2 ∧ i = .int .i64 k ∧ NoChg wr v ∧ Keeps [] w wr) (fun _ i _ => 2 - (intOf i).toNat)
  case atStart => exact ⟨0, by omega, rfl, .inl rfl, Keeps.refl _ _⟩
  case round =>
    obtain ⟨k, hk, rfl, hno, hkr⟩ := hrel
    by_cases hlt : k < 2
    · have HM := Lib.hid (And.intro hno hkr)
      clear hno hkr
      go_wp2_with fail
      refine (try_none wr _ HM.out.1 _ (-1)).mono ?_
      rintro e x1 ⟨rfl, hk1⟩
      have X1 := Lib.hid (And.intro (HM.out.1.keeps hk1 (by simp)) hk1)
      clear hk1
      go_wp2_with fail
      refine (limit_none x1 _ X1.out.1 0 0).mono ?_
      rintro e x2 ⟨rfl, hk2⟩
      have X2 := Lib.hid (And.intro (X1.out.1.keeps hk2 (by simp)) (X1.out.2.trans hk2 (by simp)))
      clear hk2
      go_wp2_with fail
      refine (up_none x2 _ X2.out.1 0 0).mono ?_
      rintro e x3 ⟨rfl, hk3⟩
      have X3 := Lib.hid (And.intro (X2.out.1.keeps hk3 (by simp)) (X2.out.2.trans hk3 (by simp)))
      clear hk3
      go_wp2_with fail
      refine (down_none x3 _ X3.out.1 0 0).mono ?_
      rintro e x4 ⟨rfl, hk4⟩
      have X4 := Lib.hid (And.intro (X3.out.1.keeps hk4 (by simp)) (X3.out.2.trans hk4 (by simp)))
      clear hk4
      go_wp2_with fail
      refine (back_none x4 _ X4.out.1 _ 0).mono ?_
      rintro e y ⟨rfl, rfl⟩
      go_wp2_with fail
      refine (used_none x4 _ X4.out.1 1).mono ?_
      rintro e y ⟨rfl, rfl⟩
      go_wp2_with fail
      refine (most_none x4 _ X4.out.1 1).mono ?_
      rintro e y ⟨rfl, rfl⟩
      go_wp2
      go_roundw
      case rel => exact ⟨k + 1, by omega, by go_num, noChg_new x4, (HM.out.2.trans X4.out.2 (by simp)).alloc _⟩
      case measure => simp [intOf]; omega
    · obtain rfl : k = 2 := by omega
      have H9 := Lib.hid (And.intro (And.intro (kw9_nums wr) (kw9_paths wr)) (And.intro (kps_good wr) (hkr.trans (kw9_all wr) (by simp))))
      obtain ⟨w10, hw⟩ : ∃ w10, w10 = kw9 wr := ⟨_, rfl⟩
      obtain ⟨ps, hps⟩ : ∃ ps, ps = kps wr := ⟨_, rfl⟩
      have hpl : ps.length = 9 := by rw [hps]; rfl
      rw [← hw, ← hps] at H9
      unfold kw9 kw8 kw7 kw6 kw5 kw4 kw3 kw2 kw1 kw0 kps at hw
      clear hno hkr hlt hk hps
      go_wp2_with fail
      rw [← hw]
      clear hw
      rw [show (((2 : Nat)) : Int) = 2 from rfl]
      obtain ⟨nb, hnb⟩ : ∃ nb, nb = wr.heap.size := ⟨_, rfl⟩
      rw [← hnb] at H9 ⊢
      obtain ⟨pb, hpb⟩ : ∃ pb, pb = nb + 1 + 1 + 1 + 1 + 1 + 1 + 1 + 1 + 1 := ⟨_, rfl⟩
      rw [← hpb] at H9 ⊢
      obtain ⟨ns, hns⟩ : ∃ ns : List Int, ns = [-9223372036854775808, -1, 0, 1, 100, 9007199254740991, 9007199254740992, 9223372036854775807] := ⟨_, rfl⟩
      have hnl : ns.length = 8 := by rw [hns]; rfl
      rw [← hns] at H9
      have HR10 : Hid (Row w10 nb 3 (ns.map (.int .i64)) ∧ Row w10 pb 54 ps) := Lib.hid ⟨H9.out.1.1, H9.out.1.2⟩
      have HG10 := Lib.hid (And.intro H9.out.2.1 H9.out.2.2)
      have HLEN := Lib.hid (And.intro hnl hpl)
      have hnb10 : nb < w10.heap.size := HR10.out.1.lt
      have hpb10 : pb < w10.heap.size := HR10.out.2.lt
      clear hnb hpb hns hnl hpl H9
      go_loopw [7, 8] (fun v i wx => ∃ (k : Nat) (cs : List Value), k ≤ 8 ∧ i = .int .i64 k ∧ ListIs w10 wx v (k * 10) cs) (fun _ i _ => 8 - (intOf i).toNat)
      case atStart => exact ⟨0, [], by omega, rfl, ListIs.nil w10⟩
      case round =>
        obtain ⟨k, cs, hk, rfl, hli⟩ := hrel
        have HL := Lib.hid hli
        clear hli
        by_cases hlt : k < 8
        · have i1 : (0 : Int) ≤ (k : Int) := by omega
          have i2 : (k : Int) < 8 := by omega
          obtain ⟨N, hN⟩ : ∃ N, N = ns.getD k 0 := ⟨_, rfl⟩
          have HN : Hid (∀ wx, Row wx nb 3 (ns.map (.int .i64)) → wx.cell? ⟨nb, k, none⟩ = some (.int .i64 N)) := Lib.hid fun wx hr => by rw [hN]; exact row_int12 hr (by have := HLEN.out.1; omega)
          clear hN
          go_wp2_with fail
          go_loopw [7, 9] (fun v j wx => ∃ (y : Nat) (cs : List Value), y ≤ 9 ∧ j = .int .i64 y ∧ ListIs w10 wx v (k * 10 + y) cs) (fun _ j _ => 9 - (intOf j).toNat)
          case atStart => exact ⟨0, cs, by omega, rfl, HL.out⟩
          case round =>
            obtain ⟨y, cs, hy, rfl, hli⟩ := hrel
            have HY := Lib.hid hli
            have HO := Lib.hid hli.own
            have HOB : Hid (∀ q, Value.ownBlock _ = some q → w10.heap.size ≤ q ∧ q < wr.heap.size) := Lib.hid hli.own.lt
            clear hli
            have HRW := Lib.hid (And.intro (HY.out.ks.row HR10.out.1 (by simp)) (HY.out.ks.row HR10.out.2 (by simp)))
            have HB : Hid (k * 10 + y + 1 ≤ maxLen ∧ (k * 10 + y + 1) * 48 ≤ 140737488355328 ∧ w10.heap.size ≤ wr.heap.size) := Lib.hid ⟨by unfold maxLen; omega, by omega, HY.out.ks.size⟩
            by_cases hyl : y < 9
            · obtain ⟨pa, pl, pc, hp, hpg⟩ := good_slice HG10.out.1 (y := y) (by have := HLEN.out.2; omega)
              have HP := Lib.hid (And.intro hp hpg)
              have j1 : (0 : Int) ≤ (y : Int) := by omega
              have j2 : (y : Int) < 9 := by omega
              have HC : Hid (∀ wx, Row wx nb 3 (ns.map (.int .i64)) → Row wx pb 54 ps → wx.cell? ⟨nb, k, none⟩ = some (.int .i64 N) ∧ wx.cell? ⟨pb, y, none⟩ = some (.slice pa pl pc)) :=
                Lib.hid fun wx h1 h2 => ⟨HN.out wx h1, h2.cell HP.out.1⟩
              clear hp hpg
              have HNE : Hid (Value.ownBlock _ ≠ some nb ∧ Value.ownBlock _ ≠ some pb) := Lib.hid ⟨fun e => by have := HOB.out _ e; omega, fun e => by have := HOB.out _ e; omega⟩
              go_wp2_with fail
              go_region_held_law (fun w' => w'.cell? ⟨nb, k, none⟩ = some (.int .i64 N) ∧ w'.cell? ⟨pb, y, none⟩ = some (.slice pa pl pc))
                (first
                  | exact HC.out _ HRW.out.1.drew HRW.out.2.drew
                  | exact HC.out _ (HRW.out.1.alloc _).drew (HRW.out.2.alloc _).drew
                  | exact HC.out _ (((HRW.out.1.alloc _).drew).onto hgrow HNE.out.1) (((HRW.out.2.alloc _).drew).onto hgrow HNE.out.2))
                ((refine step_append_lies _ (by rfl) _ _ _ (by rfl) w10.heap.size 56 i0 _ 4 48 Try.underlying51 hi hz0 hz1 hz2 rfl (by omega) _ _ _ (by rfl) ((HO.out.drew).alloc _)
                    ⟨wr.heap.size, 0, none⟩ 1 1 [.int .i64 3, .int .i64 0, .int .i64 N, .slice pa pl pc] (by rfl) (by rfl) (World.news_of_block (cs := #[.int .i64 3, .int .i64 0, .int .i64 N, .slice pa pl pc]) (t := 56) (fr := (0, 0)) (heap_alloc_new wr.drew _)) (by simp [Value.oneCell'])
                    (by omega) HB.out.1 HB.out.2.1 (by simp; have := HB.out.2.2; omega) (wr.heap.size + 1) (by simp) ?_; intro gg cap w1 hown1 hgrow hat hlt1))
              have HT := Lib.hid (HY.out.next HP.out.2 hown1 (((HY.out.ks.alloc _).drew).grown hgrow (fun q hq => (HOB.out q hq).1)))
              clear hown1 hgrow hat hlt1
              go_wp2
              go_roundw
              case rel => exact ⟨y + 1, _, by omega, by go_num, HT.out⟩
              case measure => simp [intOf]; omega
            · obtain rfl : y = 9 := by omega
              have c0 := HN.out wr HRW.out.1
              go_wp2_with (at_builtin; refine wpList_append_lies _ rfl _ _ 51 rfl w10.heap.size 56 i0 (.agg #[.int .i64 0, .int .i64 0, .int .i64 0, .slice none 0 0]) 4 48 Try.underlying51 hi hz0 hz1 hz2 rfl (by decide) _ _ _ rfl (HO.out.alloc _) ⟨wr.heap.size, 0, none⟩ 1 1 [.int .i64 1, .int .i64 1, .int .i64 N, .slice none 0 0] rfl rfl ?c1 ?c2 (by omega) HB.out.1 HB.out.2.1 ?c3 (wr.heap.size + 1) ?c4 ?_)
              case c1 => exact World.news_of_block (heap_alloc_new wr _)
              case c2 => simp [Value.oneCell']
              case c3 => simp; have := HB.out.2.2; omega
              case c4 => simp
              · intro gg cap w1 hown1 hgrow hat hlt1
                have HT := Lib.hid (HY.out.next (good_nil w10) hown1 ((HY.out.ks.alloc _).grown hgrow (fun q hq => (HOB.out q hq).1)))
                clear hown1 hgrow hat hlt1
                go_wp2
                go_roundw
                case rel => exact ⟨k + 1, _, by omega, by go_num, by rw [show (k + 1) * 10 = k * 10 + 9 + 1 by omega]; exact HT.out⟩
                case measure => simp [intOf]; omega
        · obtain rfl : k = 8 := by omega
          obtain ⟨la, lc, hv, _⟩ := HL.out.elems (Keeps.refl [] _)
          subst hv
          rw [show 8 * 10 = 80 from rfl] at HL ⊢
          obtain ⟨w11, h11⟩ : ∃ w11, w11 = wr := ⟨_, rfl⟩
          subst h11
          have HK11 : Hid (Keeps [] w w11) := Lib.hid (HG10.out.2.trans HL.out.ks (by simp))
          have HR11 := Lib.hid (And.intro (HL.out.ks.row HR10.out.1 (by simp)) (HL.out.ks.row HR10.out.2 (by simp)))
          have HG11 : Hid (∀ v ∈ ps, Good12L w11 3 v) := Lib.hid fun v hv => (HG10.out.1 v hv).keeps HL.out.ks
          have hnb11 : nb < w11.heap.size := HR11.out.1.lt
          have hpb11 : pb < w11.heap.size := HR11.out.2.lt
          clear hlt hk
          go_wp2_with fail
          rw [show (((8 : Nat)) : Int) = 8 from rfl]
          go_loopw [10, 11] (fun v i wx => ∃ (k : Nat) (cs : List Value), k ≤ 8 ∧ i = .int .i64 k ∧ ListIs w11 wx v (k * 10) cs) (fun _ i _ => 8 - (intOf i).toNat)
          case atStart => exact ⟨0, [], by omega, rfl, ListIs.nil w11⟩
          case round =>
            obtain ⟨k, cs', hk, rfl, hli⟩ := hrel
            have HY := Lib.hid hli
            have HO := Lib.hid hli.own
            have HOB : Hid (∀ q, Value.ownBlock _ = some q → w11.heap.size ≤ q ∧ q < wr.heap.size) := Lib.hid hli.own.lt
            clear hli
            by_cases hlt : k < 8
            · have i1 : (0 : Int) ≤ (k : Int) := by omega
              have i2 : (k : Int) < 8 := by omega
              have i3 : (k : Int) < 9 := by omega
              have HRW := Lib.hid (And.intro (HY.out.ks.row HR11.out.1 (by simp)) (HY.out.ks.row HR11.out.2 (by simp)))
              have HB : Hid (k * 10 + 10 ≤ maxLen ∧ (k * 10 + 10) * 48 ≤ 140737488355328 ∧ w11.heap.size ≤ wr.heap.size) := Lib.hid ⟨by unfold maxLen; omega, by omega, HY.out.ks.size⟩
              obtain ⟨N, hN⟩ : ∃ N, N = ns.getD k 0 := ⟨_, rfl⟩
              obtain ⟨qa, ql, qc, hq, hqg⟩ := good_slice HG11.out (y := 2) (by have := HLEN.out.2; omega)
              obtain ⟨pa, pl, pc, hp, hpg⟩ := good_slice HG11.out (y := k) (by have := HLEN.out.2; omega)
              have HP := Lib.hid (And.intro hqg hpg)
              have HC : Hid (∀ wx, Row wx nb 3 (ns.map (.int .i64)) → Row wx pb 54 ps → wx.cell? ⟨nb, k, none⟩ = some (.int .i64 N) ∧ wx.cell? ⟨pb, 2, none⟩ = some (.slice qa ql qc) ∧ wx.cell? ⟨pb, k, none⟩ = some (.slice pa pl pc)) :=
                Lib.hid fun wx h1 h2 => ⟨by rw [hN]; exact row_int12 h1 (by have := HLEN.out.1; omega), h2.cell hq, h2.cell hp⟩
              clear hN hq hqg hp hpg
              have HNE : Hid (Value.ownBlock _ ≠ some nb ∧ Value.ownBlock _ ≠ some pb) := Lib.hid ⟨fun e => by have := HOB.out _ e; omega, fun e => by have := HOB.out _ e; omega⟩
              go_wp2_with fail
              go_region_held_law (fun w' => w'.cell? ⟨nb, k, none⟩ = some (.int .i64 N) ∧ w'.cell? ⟨pb, 2, none⟩ = some (.slice qa ql qc) ∧ w'.cell? ⟨pb, k, none⟩ = some (.slice pa pl pc))
                (first
                  | exact HC.out _ HRW.out.1.drew HRW.out.2.drew
                  | exact HC.out _ (HRW.out.1.alloc _).drew (HRW.out.2.alloc _).drew
                  | exact HC.out _ (((HRW.out.1.alloc _).drew).onto hgrow HNE.out.1) (((HRW.out.2.alloc _).drew).onto hgrow HNE.out.2))
                ((refine step_append_lies _ (by rfl) _ _ _ (by rfl) w11.heap.size 56 i0 _ 4 48 Try.underlying51 hi hz0 hz1 hz2 rfl (by omega) _ _ _ (by rfl) ((HO.out.drew).alloc _)
                    ⟨wr.heap.size, 0, none⟩ 10 10 (known40 N (.slice qa ql qc) (.slice pa pl pc)) (by rfl) (by rfl) (World.news_of_block (cs := (known40 N (.slice qa ql qc) (.slice pa pl pc)).toArray) (t := 56) (fr := (0, 0)) (heap_alloc_new wr.drew _)) (known40_one N qa ql qc pa pl pc)
                    (by omega) HB.out.1 HB.out.2.1 (by simp; have := HB.out.2.2; omega) (wr.heap.size + 1) (by simp) ?_; intro gg cap w1 hown1 hgrow hat hlt1))
              have HT := Lib.hid (HY.out.more (known40_good N HP.out.1 HP.out.2) hown1 (((HY.out.ks.alloc _).drew).grown hgrow (fun q hq => (HOB.out q hq).1)))
              clear hown1 hgrow hat hlt1
              go_wp2
              go_roundw
              case rel => exact ⟨k + 1, _, by omega, by go_num, by rw [show (k + 1) * 10 = k * 10 + 10 by omega]; exact HT.out⟩
              case measure => simp [intOf]; omega
            · obtain rfl : k = 8 := by omega
              obtain ⟨ma, mc, hv, _⟩ := HY.out.elems (Keeps.refl [] _)
              subst hv
              rw [show 8 * 10 = 80 from rfl] at HY ⊢
              have HLE : Hid (∀ wx, Keeps [] w11 wx → IsElems wx la 80 lc 4 (Good12L wx)) := Lib.hid fun wx hk => by
                obtain ⟨a, c, he, hz⟩ := HL.out.elems hk
                cases he
                exact hz
              have HME : Hid (∀ wx, Keeps [] wr wx → IsElems wx ma 80 mc 4 (Good12L wx)) := Lib.hid fun wx hk => by
                obtain ⟨a, c, he, hz⟩ := HY.out.elems hk
                cases he
                exact hz
              have HKY := Lib.hid HY.out.ks
              clear HO HOB hlt hk HY HL
              go_wp2_with fail
              refine (works12_any wr).mono ?_
              rintro e x1 ⟨rfl, hk⟩
              have X1 := Lib.hid (And.intro hk (HKY.out.trans hk (by simp)))
              clear hk
              go_wp2_with fail
              refine (chgplays_keeps _ _ _ _ (HLE.out x1 X1.out.2)).mono ?_
              rintro e x2 ⟨rfl, hk⟩
              have X2 := Lib.hid (And.intro (X1.out.1.trans hk (by simp)) (X1.out.2.trans hk (by simp)))
              clear hk
              go_wp2_with fail
              refine (chgplays_keeps _ _ _ _ (HME.out x2 X2.out.1)).mono ?_
              rintro e x3 ⟨rfl, hk⟩
              have X3 := Lib.hid (And.intro (X2.out.1.trans hk (by simp)) (X2.out.2.trans hk (by simp)))
              clear hk
              go_wp2_with fail
              refine (chgbounds_keeps _ _ _ _ (HLE.out x3 X3.out.2).weak).mono ?_
              rintro e x4 ⟨rfl, hk⟩
              have X4 := Lib.hid (And.intro (X3.out.1.trans hk (by simp)) (X3.out.2.trans hk (by simp)))
              clear hk
              go_wp2_with fail
              refine (chgbounds_keeps _ _ _ _ (HME.out x4 X4.out.1).weak).mono ?_
              rintro e x5 ⟨rfl, hk⟩
              have X5 := Lib.hid (HK11.out.trans (X4.out.2.trans hk (by simp)) (by simp))
              clear hk
              go_wp2
              try go_ret
              exact HR.out _ _ ⟨rfl, X5.out⟩

theorem chgknown_any (w : World) : Calls Try.prog 9 #[] w fun e w' => e = .returned (.bool true) ∧ Below w.heap.size w w' :=
  (chgknown_keeps w).mono fun _ _ ⟨he, hk⟩ => ⟨he, hk.below (Nat.le_refl _) (by simp)⟩

end Go.Proofs.Ytlndpljhcempoaa

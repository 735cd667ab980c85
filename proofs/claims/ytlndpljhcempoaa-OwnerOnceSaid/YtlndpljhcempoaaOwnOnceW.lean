/- OwnerOnce, the walk: what was set, and not cleared, is owned, once each; all Counts together are how many. Condition: the list is read as calls. -/
import Derived.Test.YtlndpljhcempoaaOwnMovesW
import Derived.Test.YtlndpljhcempoaaOwnS
import Derived.IntWalk
namespace Go.Proofs.Ytlndpljhcempoaa
open Go.RowKit

/-! ### Plain -/

/-- The 42 cells of six rows of seven. -/
def flat (f : Int → Int → Int) : List Value := (List.range 42).map fun n => .int .i64 (f ((n / 7 : Nat) : Int) ((n % 7 : Nat) : Int))

theorem flat_get (f : Int → Int → Int) {s k : Nat} (hs : s < 6) (hk : k < 7) : (flat f)[s * 7 + k]? = some (.int .i64 (f s k)) := by
  have h1 : (s * 7 + k) / 7 = s := by omega
  have h2 : (s * 7 + k) % 7 = k := by omega
  unfold flat
  rw [List.getElem?_map, List.getElem?_range (by omega), Option.map_some, h1, h2]

theorem flat_set (f : Int → Int → Int) {s k : Nat} (hk : k < 7) (v : Int) : (flat f).set (s * 7 + k) (.int .i64 v) = flat (upd f s k v) := by
  refine List.ext_getElem (by simp [flat]) fun n h1 h2 => ?_
  have hn : n < 42 := by simpa [flat] using h2
  rw [List.getElem_set]
  by_cases e : s * 7 + k = n
  · subst e
    have h1 : (s * 7 + k) / 7 = s := by omega
    have h2 : (s * 7 + k) % 7 = k := by omega
    rw [if_pos rfl]
    simp only [flat, List.getElem_map, List.getElem_range, h1, h2, upd_same]
  · rw [if_neg e]
    simp only [flat, List.getElem_map, List.getElem_range]
    rw [upd_ne _ _ _ _ (by omega)]

theorem flat_zero : flat (fun _ _ => 0) = List.replicate 42 (.int .i64 0) := rfl

theorem clrF_eq (f : Int → Int → Int) (s i : Int) : clrF f s i = upd f s i 0 := by
  unfold clrF
  split
  · next h =>
    funext a b
    by_cases e : a = s ∧ b = i
    · obtain ⟨rfl, rfl⟩ := e; rw [upd_same, h]
    · rw [upd_ne _ _ _ _ e]
  · rfl

theorem mvS_eq (f : Int → Int → Int) {x y : Int} (hx : 1 ≤ x ∧ x ≤ 16) (hy : 1 ≤ y ∧ y ≤ 16) : mvS f x y = moveF f x y := by
  unfold mvS
  rw [grp_true hx, grp_true hy]
  by_cases h : x = y
  · rw [if_pos (.inr (.inr h))]
    subst h
    funext a b
    unfold moveF
    split
    · next e => exact e
    · rfl
  · rw [if_neg (by simp [h])]

/-- One for each that is owned. -/
def oneF (f : Int → Int → Int) : Int → Int → Int := fun a b => if 0 < f a b then 1 else 0

theorem Fine.ones {S O : Nat} {f : Int → Int → Int} (h : Fine S O f) : Fine S O (oneF f) :=
  ⟨fun a b hn => by
    unfold oneF at hn ⊢
    split at hn
    · next h0 =>
      have := h.inn a b (by omega)
      rw [if_pos h0]
      exact ⟨by omega, by omega, by omega, by omega, by omega, by omega⟩
    · exact absurd rfl hn, h.s1, h.s2, h.o1, h.o2⟩

theorem Fine.all {S O : Nat} {f : Int → Int → Int} (h : Fine S O f) : ofG S O (oneF f) 1 = sumG S O f 16 := by
  rw [h.sum]
  refine cntF_congr fun a b _ _ => ?_
  unfold oneF
  by_cases e : 0 < f a b
  · rw [if_pos e, decide_eq_true e]; rfl
  · rw [if_neg e, decide_eq_false e]; rfl

theorem sumG_le (S O : Nat) (f : Int → Int → Int) : ∀ k : Nat, sumG S O f k ≤ k * (S * O)
  | 0 => by simp [sumG]
  | k + 1 => by have := sumG_le S O f k; have := ofG_le S O f ((k : Int) + 1); simp only [sumG, Nat.succ_mul]; omega

theorem Fine.pos {S O : Nat} {f : Int → Int → Int} (h : Fine S O f) {a b : Int} : f a b ≠ 0 ↔ 0 < f a b := by
  constructor
  · intro hn; have := h.inn a b hn; omega
  · intro hn; omega

/-! ### The walk -/

/-- Owners and the statement's own table. -/
structure Onc (w0 w : World) (b m ob : Nat) (f : Int → Int → Int) : Prop where
  at' : At14 w0 w b m 6 7 f
  tab : Row w ob 108 (flat f)
  nb : w0.heap.size ≤ ob
  n1 : ob ≠ b
  n2 : ob ≠ m

theorem Onc.quiet {w0 w w' : World} {b m ob : Nat} {f : Int → Int → Int} (h : Onc w0 w b m ob f) (hk : Keeps [] w w') : Onc w0 w' b m ob f :=
  ⟨h.at'.quiet hk, hk.row h.tab (by simp), h.nb, h.n1, h.n2⟩

/-- The map has turned; then the table turns with it. -/
theorem Onc.step {w0 w w' : World} {b m ob : Nat} {f f' : Int → Int → Int} (h : Onc w0 w b m ob f) (hc : OwnIs w' b m 6 7 f') (hk : Keeps [m] w w') : At14 w0 w' b m 6 7 f' ∧ Row w' ob 108 (flat f) :=
  ⟨h.at'.go hc hk, hk.row h.tab (by simpa using h.n2)⟩

/-- The table turned where the map has. -/
theorem Onc.put {w0 w w2 : World} {b m ob : Nat} {f : Int → Int → Int} {s k : Nat} {v : Int} (h : Onc w0 w b m ob f) (hA : At14 w0 w2 b m 6 7 (upd f s k v)) (hr : Row w2 ob 108 (flat f)) (hk : k < 7) :
    Onc w0 (w2.setCell ⟨ob, s * 7 + k, none⟩ (.int .i64 v)) b m ob (upd f s k v) := by
  have hk2 : Keeps [ob] w2 (w2.setCell ⟨ob, s * 7 + k, none⟩ (.int .i64 v)) := (Keeps.refl _ _).set (by simp) _
  have hrow := hr.set (s * 7 + k) (.int .i64 v)
  rw [flat_set f hk] at hrow
  exact ⟨⟨hA.is.keeps hk2 (by simpa using h.n1.symm) (by simpa using h.n2.symm), hA.ks.trans hk2 (by simpa using h.nb), hA.nb⟩, hrow, h.nb, h.n1, h.n2⟩

attribute [local irreducible] setE setF mvE mvN mvS clrE clrF cntO

set_option maxRecDepth 100000 in
set_option maxHeartbeats 6400000 in
theorem once14_keeps (a : Option Addr) (len cap : Nat) (w : World) (hz : IsElems w a len cap 5 GoodNum) :
    Calls Try.prog 15 #[.slice a len cap] w fun e w' => e = .returned (.bool true) ∧ Keeps [] w w' := by
  refine calls_hide fun R HR => ?_
  have hlen := hz.len_le
  have HZ := Lib.hid hz
  clear hz
  go_enter Try.func15, Try.ntmps15
  go_wp2_with fail
  refine (works14_any w).mono ?_
  rintro e w0 ⟨rfl, hk0⟩
  have K0 := Lib.hid hk0
  clear hk0
  go_wp2_with fail
  refine (onew_ok w0 6 7 (by omega) (by omega) (by omega) (by omega)).mono ?_
  rintro e w1 ⟨rfl, hc, hk⟩
  obtain ⟨m, hm⟩ : ∃ m, m = w0.heap.size := ⟨_, rfl⟩
  obtain ⟨b, hb⟩ : ∃ b, b = w0.heap.size + 1 := ⟨_, rfl⟩
  rw [← hb, ← hm] at hc
  rw [← hb]
  have hsz := K0.out.size
  have A1 := Lib.hid (At14.mk hc (K0.out.trans hk (by simp)) (show w.heap.size ≤ b ∧ w.heap.size ≤ m by omega))
  clear hc hk hb hm hsz K0
  go_upto_block 0 with fail
  have hka : Keeps [] w1 (w1.alloc (.cells (List.replicate 42 (Value.int .i64 0)).toArray 108)) := (Keeps.refl [] w1).alloc _
  have B1 := Lib.hid (Onc.mk (A1.out.quiet hka) (by rw [flat_zero]; exact Row.new w1 _ 108) (A1.out.ks.size) (by have := A1.out.is.hd.lt; omega) (by have := A1.out.is.om.lt; omega) : Onc w _ b m w1.heap.size (fun _ _ => 0))
  obtain ⟨ob, hob⟩ : ∃ ob, ob = w1.heap.size := ⟨_, rfl⟩
  rw [← hob] at B1
  rw [← hob]
  clear hka hob A1
  go_cut [6] (fun _ wx => ∃ f, Onc w wx b m ob f)
  case first =>
    go_wp2_with fail
    go_loopw [6] (fun i wr => ∃ (j : Nat) (f : Int → Int → Int), j ≤ len ∧ i = .int .i64 j ∧ Onc w wr b m ob f) (fun i _ => len - (intOf i).toNat)
    case atStart => exact ⟨0, _, by omega, rfl, B1.out⟩
    case round =>
      obtain ⟨j, f, hj, rfl, hon⟩ := hrel
      have HM := Lib.hid hon
      clear hon B1
      by_cases hin : j < len ∧ j < 150
      · obtain ⟨hlt, hlt4⟩ := hin
        obtain ⟨bl, off, kd, z1, z2, z3, z4, ha, hbl, hdo⟩ := HZ.out.five hlt
        subst ha
        obtain ⟨c0, c1, c2, c3, c4⟩ := hdo.keeps HM.out.at'.ks hbl (by simp)
        clear hdo
        have hbox := Row.new wr [.int .i64 kd, .int .i64 z1, .int .i64 z2, .int .i64 z3, .int .i64 z4] 102
        have hk0 := (Keeps.refl [] wr).alloc (.cells #[.int .i64 kd, .int .i64 z1, .int .i64 z2, .int .i64 z3, .int .i64 z4] 102)
        have H0 := Lib.hid (And.intro (HM.out.quiet hk0) hbox)
        have L1 := HM.out.at'.is.hd.lt
        have L2 := HM.out.at'.is.om.lt
        have L3 := HM.out.tab.lt
        clear hk0 hbox
        obtain ⟨s, hs⟩ := Int.eq_ofNat_of_zero_le (Int.emod_nonneg z1 (b := 6) (by omega))
        obtain ⟨k, hk⟩ := Int.eq_ofNat_of_zero_le (Int.emod_nonneg z2 (b := 7) (by omega))
        have hd150 : decide ((j : Int) < 150) = true := decide_eq_true (by omega)
        have hs6 : s < 6 := by omega
        have hk7 : k < 7 := by omega
        have HG : Hid (1 ≤ 1 + z3 % 16 ∧ 1 + z3 % 16 ≤ 16) := Lib.hid (by omega)
        have HH : Hid (1 ≤ 1 + z4 % 16 ∧ 1 + z4 % 16 ≤ 16) := Lib.hid (by omega)
        have g1 : 0 ≤ z3 % 16 := by omega
        have g2 : z3 % 16 < 16 := by omega
        have g3 : 0 ≤ z4 % 16 := by omega
        have g4 : z4 % 16 < 16 := by omega
        have HS := Lib.hid (And.intro hs hk)
        clear hs hk
        go_wp2_with fail
        clear c0 c1 c2 c3 c4
        obtain ⟨q0, hq0⟩ : ∃ q0, q0 = wr.heap.size := ⟨_, rfl⟩
        rw [← hq0] at H0 ⊢
        have hqb : q0 ≠ m ∧ b ≠ q0 ∧ ob ≠ q0 := by omega
        generalize wr.alloc (.cells #[.int .i64 kd, .int .i64 z1, .int .i64 z2, .int .i64 z3, .int .i64 z4] 102) = W at *
        have x0 := H0.out.2.cell (i := 0) rfl
        have x1 := H0.out.2.cell (i := 1) rfl
        have x2 := H0.out.2.cell (i := 2) rfl
        have x3 := H0.out.2.cell (i := 3) rfl
        have x4 := H0.out.2.cell (i := 4) rfl
        clear L1 L2 L3 hq0
        have w3 : IntKind.i64.wrap (1 + z3 % 16) = 1 + z3 % 16 := IntWalk.i64_in _ (by omega)
        have w4 : IntKind.i64.wrap (1 + z4 % 16) = 1 + z4 % 16 := IntWalk.i64_in _ (by omega)
        go_quiet ((go_at_call 22; exact Calls.quiet_of_same ((bring_any _ _ _ (by omega) (by omega)).mono fun _ _ h => ⟨h.1, h.2.symm⟩)))
        rw [HS.out.1, HS.out.2]
        clear w3 w4 g1 g2 g3 g4 x1 x2 x3 x4 HS
        generalize 1 + z3 % 16 = g at *
        generalize 1 + z4 % 16 = h at *
        have H1 := Lib.hid (H0.out.1.quiet ((Keeps.refl [] W).drewN nq))
        replace x0 : (W.drewN nq).cell? ⟨q0, 0, none⟩ = some (.int .i64 kd) := x0
        clear H0
        generalize W.drewN nq = W1 at *
        go_wp2_with fail
        refine (bring_any kd 3 _ (by omega) (by omega)).mono ?_
        rintro e y1 ⟨rfl, rfl⟩
        have hq : kd % 3 = 0 ∨ kd % 3 = 1 ∨ kd % 3 = 2 := by omega
        clear x0
        have hgs : grp g = true := grp_true HG.out
        have hbs : inB 6 7 (s : Int) (k : Int) = true := inB_true ⟨by omega, by omega, by omega, by omega⟩
        have c1 := H1.out.tab.cell (flat_get f hs6 hk7)
        have f1 := H1.out.tab.free (s * 7 + k)
        have i1 : (0 : Int) ≤ (s : Int) := by omega
        have i2 : (s : Int) < 6 := by omega
        have i3 : (0 : Int) ≤ (k : Int) := by omega
        have i4 : (k : Int) < 7 := by omega
        rcases hq with hq | hq | hq
        · rw [hq]
          clear hq
          by_cases h0 : f s k = 0
          · have HE : Hid (setE 6 7 f s k g = 0 ∧ setF 6 7 f s k g = upd f s k g) := Lib.hid (by
              have : setE 6 7 f s k g = 0 := by simp [setE, hbs, hgs, h0]
              exact ⟨this, by simp [setF, this]⟩)
            rw [h0] at c1
            clear h0 hgs hbs
            go_wp2_with fail
            have D0 := Lib.hid (H1.out.at'.is.keeps ((Keeps.refl [] W1).drew) (by simp) (by simp))
            go_region_held3 (fun w' => w'.cell? ⟨ob, s * 7 + k, none⟩ = some (.int .i64 0)) (go_keep)
              ((go_at_call 60; refine (oset_any _ b m 6 7 f D0.out s k g).mono ?_; rintro e w2 ⟨rfl, hc, hk⟩; rw [HE.out.1]; rw [HE.out.2] at hc; have hrw := hk.row H1.out.tab.drew (by simpa using H1.out.n2); have hx1 := (hk.cell (p := ⟨ob, s * 7 + k, none⟩) (by exact H1.out.tab.lt) (by simpa using H1.out.n2)).trans c1; have hx2 := hrw.free (s * 7 + k); have H2 := Lib.hid (And.intro hc (And.intro hk hrw)); clear hc hk hrw))
            go_wp2
            go_roundw
            case rel => exact ⟨j + 1, _, by omega, by go_num, H1.out.put (H1.out.at'.go H2.out.1 (((Keeps.refl [m] W1).drew).trans H2.out.2.1 (by simp))) H2.out.2.2 hk7⟩
            case measure => simp [intOf]; omega
          · have HE : Hid (setE 6 7 f s k g = 140 ∧ setF 6 7 f s k g = f) := Lib.hid (by
              have : setE 6 7 f s k g = 140 := by simp [setE, hbs, hgs, h0]
              exact ⟨this, by simp [setF, this]⟩)
            have h0b : (f s k == 0) = false := beq_eq_false_iff_ne.2 h0
            clear h0 hgs hbs f1
            go_wp2_with fail
            have D0 := Lib.hid (H1.out.at'.is.keeps ((Keeps.refl [] W1).drew) (by simp) (by simp))
            go_region_held3 (fun w' => w'.cell? ⟨ob, s * 7 + k, none⟩ = some (.int .i64 (f s k))) (go_keep)
              ((go_at_call 60; refine (oset_any _ b m 6 7 f D0.out s k g).mono ?_; rintro e w2 ⟨rfl, hc, hk⟩; rw [HE.out.1]; rw [HE.out.2] at hc; have hrw := hk.row H1.out.tab.drew (by simpa using H1.out.n2); have hx1 := (hk.cell (p := ⟨ob, s * 7 + k, none⟩) (by exact H1.out.tab.lt) (by simpa using H1.out.n2)).trans c1; have H2 := Lib.hid (And.intro hc (And.intro hk hrw)); clear hc hk hrw))
            go_wp2
            go_roundw
            case rel => exact ⟨j + 1, _, by omega, by go_num, ⟨H1.out.at'.go H2.out.1 (((Keeps.refl [m] W1).drew).trans H2.out.2.1 (by simp)), H2.out.2.2, H1.out.nb, H1.out.n1, H1.out.n2⟩⟩
            case measure => simp [intOf]; omega
        · rw [hq]
          clear hq
          have qa : (f s k != f s k) = false := by simp
          by_cases h0 : f s k = 0
          · have HE : Hid (clrE 6 7 f s k = 140 ∧ clrF f s k = upd f s k 0) := Lib.hid ⟨by simp [clrE, hbs, h0], clrF_eq f s k⟩
            rw [h0] at c1
            have H0 := Lib.hid h0
            clear h0 hgs hbs qa f1
            go_wp2_with fail
            refine (oclear_any W1 b m 6 7 f H1.out.at'.is s k).mono ?_
            rintro e w2 ⟨rfl, hc, hk⟩
            rw [HE.out.1, H0.out]
            rw [HE.out.2] at hc
            have hrw := hk.row H1.out.tab (by simpa using H1.out.n2)
            have hx1 := (hk.cell (p := ⟨ob, s * 7 + k, none⟩) (by exact H1.out.tab.lt) (by simpa using H1.out.n2)).trans c1
            have hx2 := hrw.free (s * 7 + k)
            have H2 := Lib.hid (And.intro hc (And.intro hk hrw))
            clear hc hk hrw c1
            go_wp2
            go_roundw
            case rel => exact ⟨j + 1, _, by omega, by go_num, H1.out.put (H1.out.at'.go H2.out.1 H2.out.2.1) H2.out.2.2 hk7⟩
            case measure => simp [intOf]; omega
          · have HE : Hid (clrE 6 7 f s k = 0 ∧ clrF f s k = upd f s k 0) := Lib.hid ⟨by simp [clrE, hbs, h0], clrF_eq f s k⟩
            have hpos : 0 < f s k := H1.out.at'.is.fine.pos.1 h0
            have hpb : decide (0 < f s k) = true := decide_eq_true hpos
            clear h0 hgs hbs f1 hpos
            go_wp2_with fail
            refine (oclear_any W1 b m 6 7 f H1.out.at'.is s k).mono ?_
            rintro e w2 ⟨rfl, hc, hk⟩
            rw [HE.out.1]
            rw [HE.out.2] at hc
            have hrw := hk.row H1.out.tab (by simpa using H1.out.n2)
            have hx1 := (hk.cell (p := ⟨ob, s * 7 + k, none⟩) (by exact H1.out.tab.lt) (by simpa using H1.out.n2)).trans c1
            have hx2 := hrw.free (s * 7 + k)
            have H2 := Lib.hid (And.intro hc (And.intro hk hrw))
            clear hc hk hrw c1
            go_wp2
            go_roundw
            case rel => exact ⟨j + 1, _, by omega, by go_num, H1.out.put (H1.out.at'.go H2.out.1 H2.out.2.1) H2.out.2.2 hk7⟩
            case measure => simp [intOf]; omega
        · rw [hq]
          clear hq c1 f1 hgs hbs
          have HV := Lib.hid (mvS_eq f HG.out HH.out)
          go_wp2_with fail
          refine (omove_any W1 b m 6 7 f H1.out.at'.is g h).mono ?_
          rintro e w2 ⟨rfl, hc, hk⟩
          rw [HV.out] at hc
          have hrw := hk.row H1.out.tab (by simpa using H1.out.n2)
          have hfi := H1.out.at'.is.fine
          have hg0 : g ≠ 0 := by have := HG.out; omega
          have H2 := Lib.hid (And.intro (H1.out.at'.go hc hk) (And.intro (show Row w2 ob 108 (flat (mvF f (lex 0 0) g h)) by rw [mvF_zero' hfi hg0]; exact hrw) (And.intro hfi hg0)))
          clear hc hk hrw hfi hg0
          go_wp2_with fail
          go_loopw [14] (fun x wi => ∃ x' : Nat, x' ≤ 6 ∧ x = .int .i64 x' ∧ At14 w wi b m 6 7 (moveF f g h) ∧ Row wi ob 108 (flat (mvF f (lex x' 0) g h))) (fun x _ => 6 - (intOf x).toNat)
          case atStart => exact ⟨0, by omega, rfl, H2.out.1, H2.out.2.1⟩
          case round =>
            obtain ⟨x, hx, rfl, hat, hrow⟩ := hrel
            have HI := Lib.hid (And.intro hat hrow)
            clear hat hrow
            by_cases hxl : x < 6
            · go_wp2_with fail
              go_loopw [15] (fun y wi => ∃ y' : Nat, y' ≤ 7 ∧ y = .int .i64 y' ∧ At14 w wi b m 6 7 (moveF f g h) ∧ Row wi ob 108 (flat (mvF f (lex x y') g h))) (fun y _ => 7 - (intOf y).toNat)
              case atStart => exact ⟨0, by omega, rfl, HI.out.1, HI.out.2⟩
              case round =>
                obtain ⟨y, hy, rfl, hat, hrow⟩ := hrel
                have HJ := Lib.hid (And.intro hat hrow)
                clear hat hrow
                by_cases hyl : y < 7
                · have c2 := HJ.out.2.cell (flat_get (mvF f (lex x y) g h) hxl hyl)
                  have f2 := HJ.out.2.free (x * 7 + y)
                  rw [mvF_new (lex_new x y)] at c2
                  have HC1 : Hid ((((y + 1 : Nat)) : Int) = (y : Int) + 1) := Lib.hid (by omega)
                  by_cases hf : f x y = g
                  · have HF := Lib.hid hf
                    have hfb : (f x y == g) = true := beq_iff_eq.2 hf
                    clear hf
                    go_wp2
                    go_roundw
                    case rel => exact ⟨y + 1, by omega, by go_num,
                      ⟨HJ.out.1.is.keeps ((Keeps.refl [ob] _).set (by simp) _) (by simpa using H1.out.n1.symm) (by simpa using H1.out.n2.symm), HJ.out.1.ks.set (.inr H1.out.nb) _, HJ.out.1.nb⟩,
                      by rw [HC1.out, ← lex_next, mvF_hit HF.out, ← flat_set _ hyl]; exact HJ.out.2.set _ _⟩
                    case measure => simp [intOf]; omega
                  · have HF := Lib.hid hf
                    have hfb : (f x y == g) = false := beq_eq_false_iff_ne.2 hf
                    clear hf
                    go_wp2
                    go_roundw
                    case rel => exact ⟨y + 1, by omega, by go_num, HJ.out.1, by rw [HC1.out, ← lex_next, mvF_miss HF.out]; exact HJ.out.2⟩
                    case measure => simp [intOf]; omega
                · obtain rfl : y = 7 := by omega
                  have HR7 := Lib.hid (mvF_row (S := 6) (O := 7) H2.out.2.2.1 (x : Int) (y := h) H2.out.2.2.2)
                  go_wp2
                  go_roundw
                  case rel => exact ⟨x + 1, by omega, by go_num, HJ.out.1, by have := HJ.out.2; rw [show (((7 : Nat)) : Int) = 7 from rfl] at this; rw [show (((x + 1 : Nat)) : Int) = (x : Int) + 1 by omega, ← HR7.out]; exact this⟩
                  case measure => simp [intOf]; omega
            · obtain rfl : x = 6 := by omega
              have HF6 := Lib.hid (mvF_full (S := 6) (O := 7) H2.out.2.2.1 (y := h) H2.out.2.2.2)
              go_wp2
              go_roundw
              case rel => exact ⟨j + 1, _, by omega, by go_num, ⟨HI.out.1, by rw [← HF6.out]; exact HI.out.2, H1.out.nb, H1.out.n1, H1.out.n2⟩⟩
              case measure => simp [intOf]; omega
      · have hout : ¬ j < len ∨ 150 ≤ j := by omega
        clear hin
        go_wp2
        all_goals (go_meet; exact ⟨f, HM.out⟩)
  case rest =>
    obtain ⟨f, hon⟩ := hcut
    have HA := Lib.hid hon
    clear hon B1
    obtain ⟨wz, hwz⟩ : ∃ wz, wz = wc := ⟨_, rfl⟩
    subst hwz
    have HL := Lib.hid (And.intro (cG_zero 6 7 (oneF f) 1) (And.intro (fun x : Nat => cG_row 6 7 (oneF f) (x : Int) 1) ((cG_full 6 7 (oneF f) 1).trans HA.out.at'.is.fine.all)))
    have HE : Hid (∀ x : Nat, x < 6 → (emptyF 6 7 f x == anyIn f x 7) = false) := Lib.hid fun x hx => by
      rw [emptyF, decide_eq_true ⟨by omega, by omega⟩]
      cases anyIn f (x : Int) 7 <;> rfl
    go_wp2_with fail
    go_loopw [16, 18] (fun n x wi => ∃ x' : Nat, x' ≤ 6 ∧ x = .int .i64 x' ∧ n = .int .i64 (cG 6 7 (oneF f) (lex x' 0) 1 : Nat) ∧ Keeps [] wz wi) (fun _ x _ => 6 - (intOf x).toNat)
    case atStart => exact ⟨0, by omega, rfl, by rw [show (((0 : Nat)) : Int) = 0 from rfl, HL.out.1]; rfl, Keeps.refl _ _⟩
    case round =>
      obtain ⟨x, hx, rfl, rfl, hkr⟩ := hrel
      have HI := Lib.hid hkr
      clear hkr
      by_cases hxl : x < 6
      · have qe := HE.out x hxl
        go_wp2_with fail
        go_loopw [16, 19, 20] (fun n t y wi => ∃ y' : Nat, y' ≤ 7 ∧ y = .int .i64 y' ∧ n = .int .i64 (cG 6 7 (oneF f) (lex x y') 1 : Nat) ∧ t = .bool (anyIn f x y') ∧ Keeps [] wz wi) (fun _ _ y _ => 7 - (intOf y).toNat)
        case atStart => exact ⟨0, by omega, rfl, rfl, rfl, HI.out⟩
        case round =>
          obtain ⟨y, hy, rfl, rfl, rfl, hkr⟩ := hrel
          have HJ := Lib.hid (And.intro hkr (HA.out.quiet hkr))
          clear hkr
          have hle : (cG 6 7 (oneF f) (lex x y) 1 : Int) ≤ 42 := by have := cG_le 6 7 (oneF f) (lex x y) 1; omega
          have hge : (0 : Int) ≤ (cG 6 7 (oneF f) (lex x y) 1 : Int) := by omega
          by_cases hyl : y < 7
          · have c1 := HJ.out.2.tab.cell (flat_get f hxl hyl)
            have i1 : (0 : Int) ≤ (x : Int) := by omega
            have i2 : (x : Int) < 6 := by omega
            have i3 : (0 : Int) ≤ (y : Int) := by omega
            have i4 : (y : Int) < 7 := by omega
            have qa : (f x y != f x y) = false := by simp
            have HC1 : Hid ((((y + 1 : Nat)) : Int) = (y : Int) + 1) := Lib.hid (by omega)
            by_cases hp : 0 < f x y
            · have hpb : decide (0 < f x y) = true := decide_eq_true hp
              have HN := Lib.hid (cG_next_hit (S := 6) (O := 7) (s := x) (i := y) HA.out.at'.is.fine.ones (show oneF f x y = 1 from if_pos hp) (by omega))
              have HT : Hid (anyIn f x (y + 1) = true) := Lib.hid (anyIn_true ⟨y, by omega, by omega⟩)
              clear hp
              go_wp2_with fail
              go_quiet ((go_at_call 68; exact Calls.quiet_of_same ((oof_any _ b m 6 7 f (HJ.out.2.at'.is.keeps ((Keeps.refl [] _).drewN _) (by simp) (by simp)) x y (wf2_of (by omega) (by omega) (by omega) (by omega))).mono fun _ _ h => ⟨h.1, h.2.symm⟩)))
              replace c1 : (wr.drewN nq).cell? ⟨ob, x * 7 + y, none⟩ = some (.int .i64 (f x y)) := c1
              go_wp2
              go_roundw
              case rel => exact ⟨y + 1, by omega, by go_num, by rw [HC1.out, HN.out]; go_num, by rw [HT.out], HJ.out.1.drewN nq⟩
              case measure => simp [intOf]; omega
            · have hpb : decide (0 < f x y) = false := decide_eq_false hp
              have h0 : f x y = 0 := Classical.byContradiction fun hn => hp (HA.out.at'.is.fine.pos.1 hn)
              have HN := Lib.hid (cG_next_miss (S := 6) (O := 7) (f := oneF f) (s := x) (i := y) (g := 1) (by rw [show oneF f x y = 0 from if_neg hp]; omega))
              have HT : Hid (anyIn f x (y + 1) = anyIn f x y) := Lib.hid (by simp [anyIn, h0])
              clear hp h0
              go_wp2_with fail
              go_quiet ((go_at_call 68; exact Calls.quiet_of_same ((oof_any _ b m 6 7 f (HJ.out.2.at'.is.keeps ((Keeps.refl [] _).drewN _) (by simp) (by simp)) x y (wf2_of (by omega) (by omega) (by omega) (by omega))).mono fun _ _ h => ⟨h.1, h.2.symm⟩)))
              replace c1 : (wr.drewN nq).cell? ⟨ob, x * 7 + y, none⟩ = some (.int .i64 (f x y)) := c1
              go_wp2
              go_roundw
              case rel => exact ⟨y + 1, by omega, by go_num, by rw [HC1.out, HN.out], by rw [HT.out], HJ.out.1.drewN nq⟩
              case measure => simp [intOf]; omega
          · obtain rfl : y = 7 := by omega
            go_wp2_with fail
            refine (oempty_any wr b m 6 7 f HJ.out.2.at'.is x).mono ?_
            rintro e w3 ⟨rfl, hk⟩
            have H3 := Lib.hid (HJ.out.1.trans hk (by simp))
            clear hk
            go_wp2
            go_roundw
            case rel => exact ⟨x + 1, by omega, by go_num, by have := HL.out.2.1 x; rw [show (((7 : Nat)) : Int) = 7 from rfl] at this; rw [this]; rfl, H3.out⟩
            case measure => simp [intOf]; omega
      · obtain rfl : x = 6 := by omega
        rw [HL.out.2.2]
        go_wp2_with fail
        rw [show (((6 : Nat)) : Int) = 6 from rfl]
        go_loopw [17, 21] (fun n x wi => ∃ k : Nat, k ≤ 16 ∧ x = .int .i64 ((k : Int) + 1) ∧ n = .int .i64 (sumG 6 7 f k : Nat) ∧ Keeps [] wz wi) (fun _ x _ => 17 - (intOf x).toNat)
        case atStart => exact ⟨0, by omega, rfl, rfl, HI.out⟩
        case round =>
          obtain ⟨k, hk, rfl, rfl, hkr⟩ := hrel
          have HJ := Lib.hid (And.intro hkr (HA.out.quiet hkr))
          clear hkr
          by_cases hkl : k < 16
          · have l1 : (sumG 6 7 f k : Int) ≤ 672 := by have := sumG_le 6 7 f k; omega
            have l2 : (ofG 6 7 f ((k : Int) + 1) : Int) ≤ 42 := by have := ofG_le 6 7 f ((k : Int) + 1); omega
            have l3 : (0 : Int) ≤ (sumG 6 7 f k : Int) := by omega
            have l4 : (0 : Int) ≤ (ofG 6 7 f ((k : Int) + 1) : Int) := by omega
            go_wp2_with fail
            refine (ocount_any wr b m 6 7 f HJ.out.2.at'.is ((k : Int) + 1)).mono ?_
            rintro e w3 ⟨rfl, hk3⟩
            rw [cntO_of (by omega)]
            have H3 := Lib.hid (HJ.out.1.trans hk3 (by simp))
            clear hk3
            go_wp2
            go_roundw
            case rel => exact ⟨k + 1, by omega, by go_num, by simp [sumG], H3.out⟩
            case measure => simp [intOf]; omega
          · obtain rfl : k = 16 := by omega
            have qs : ((sumG 6 7 f 16 : Int) == (sumG 6 7 f 16 : Int)) = true := by simp
            go_wp2
            try go_ret
            exact HR.out _ _ ⟨rfl, HA.out.at'.ks.trans HJ.out.1 (by simp)⟩

theorem once14_any (a : Option Addr) (len cap : Nat) (w : World) (hz : IsElems w a len cap 5 GoodNum) :
    Calls Try.prog 15 #[.slice a len cap] w fun e w' => e = .returned (.bool true) ∧ Below w.heap.size w w' :=
  (once14_keeps a len cap w hz).mono fun _ _ ⟨he, hk⟩ => ⟨he, hk.below (Nat.le_refl _) (by simp)⟩

end Go.Proofs.Ytlndpljhcempoaa

/- Sums of stocks: what is held, group by group, and by all, behind each call; in plain Lean; a block of ints. No program, no condition. -/
import Derived.Test.YtlndpljhcempoaaStkW
namespace Go.Proofs.Ytlndpljhcempoaa
open Go.RowKit

/-- A block of ints. -/
def ArrIs (t : TypeId) (w : World) (b : Nat) (V : List Int) : Prop := Row w b t (V.map (.int .i64))

theorem ArrIs.row {t : TypeId} {w : World} {b : Nat} {V : List Int} (h : ArrIs t w b V) : Row w b t (V.map (.int .i64)) := h

theorem ArrIs.cell {t : TypeId} {w : World} {b : Nat} {V : List Int} (h : ArrIs t w b V) {g : Nat} (hg : g < V.length) : w.cell? ⟨b, g, none⟩ = some (.int .i64 (V.getD g 0)) := by
  refine h.row.cell ?_
  rw [List.getElem?_map, List.getElem?_eq_getElem hg, List.getD_eq_getElem?_getD, List.getElem?_eq_getElem hg]
  rfl

theorem ArrIs.keeps {t : TypeId} {w w' : World} {b : Nat} {V : List Int} {S : List Nat} (h : ArrIs t w b V) (hk : Keeps S w w') (hS : b ∉ S) : ArrIs t w' b V := hk.row h hS

theorem ArrIs.set {t : TypeId} {w : World} {b : Nat} {V : List Int} (h : ArrIs t w b V) (g : Nat) (x : Int) : ArrIs t (w.setCell ⟨b, g, none⟩ (.int .i64 x)) b (V.set g x) := by
  have := h.row.set g (.int .i64 x)
  unfold ArrIs
  rw [List.map_set]
  exact this

theorem getD_set (V : List Int) (g k : Nat) (x : Int) (hg : g < V.length) : (V.set g x).getD k 0 = if k = g then x else V.getD k 0 := by
  simp only [List.getD_eq_getElem?_getD, List.getElem?_set]
  by_cases h : g = k
  · subst h; simp [hg]
  · rw [if_neg h, if_neg (by omega)]

/-- What a stock gives to a group. -/
def contr (p : Int × Int) (g : Int) : Int := if p.1 = g then p.2 else 0

theorem contr_whole (g n g' : Int) : contr (whole2 g n) g' = if g = g' then n else 0 := by
  unfold contr whole2
  by_cases h : n = 0
  · subst h; simp
  · simp [h]

theorem getD_set2 (L : List (Int × Int)) (k i : Nat) (p : Int × Int) (hk : k < L.length) : (L.set k p).getD i (0, 0) = if i = k then p else L.getD i (0, 0) := by
  simp only [List.getD_eq_getElem?_getD, List.getElem?_set]
  by_cases h : k = i
  · subst h; simp [hk]
  · rw [if_neg h, if_neg (by omega)]

theorem heldTo_set (L : List (Int × Int)) (k : Nat) (p : Int × Int) (g : Int) (hk : k < L.length) (m : Nat) :
    heldTo (L.set k p) g m = heldTo L g m + if k < m then contr p g - contr (L.getD k (0, 0)) g else 0 := by
  induction m with
  | zero => simp [heldTo]
  | succ m ih =>
    simp only [heldTo]
    rw [ih, getD_set2 L k m p hk]
    unfold contr
    by_cases h : m = k
    · subst h
      rw [if_pos rfl, if_neg (Nat.lt_irrefl _), if_pos (Nat.lt_succ_self _)]
      (repeat' split) <;> omega
    · rw [if_neg h]
      by_cases h2 : k < m
      · rw [if_pos h2, if_pos (show k < m + 1 by omega)]; (repeat' split) <;> omega
      · rw [if_neg h2, if_neg (show ¬ k < m + 1 by omega)]; (repeat' split) <;> omega

theorem held_set (L : List (Int × Int)) (k : Nat) (p : Int × Int) (g : Int) (hk : k < L.length) : held (L.set k p) g = held L g + (contr p g - contr (L.getD k (0, 0)) g) := by
  unfold held
  rw [List.length_set, heldTo_set L k p g hk, if_pos hk]

/-- The array holds what each group has; nothing for nobody. -/
structure Sums (V : List Int) (L : List (Int × Int)) : Prop where
  len : V.length = 17
  none : V.getD 0 0 = 0
  each : ∀ g : Nat, 1 ≤ g → g ≤ 16 → V.getD g 0 = held L g

theorem Sums.start (n : Nat) : Sums (List.replicate 17 0) (List.replicate n (0, 0)) := by
  have z : ∀ m (g : Int), heldTo (List.replicate n ((0 : Int), (0 : Int))) g m = 0 := by
    intro m g
    induction m with
    | zero => rfl
    | succ m ih =>
      simp only [heldTo]
      rw [ih]
      have : (List.replicate n ((0 : Int), (0 : Int))).getD m (0, 0) = (0, 0) := by
        rw [List.getD_eq_getElem?_getD, List.getElem?_replicate]; split <;> rfl
      rw [this]; simp
  refine ⟨rfl, rfl, fun g h1 h2 => ?_⟩
  unfold held
  rw [z]
  rw [List.getD_eq_getElem?_getD, List.getElem?_replicate, if_pos (by omega)]; rfl

/-- A number added at a place. -/
def addTo (V : List Int) (g : Nat) (x : Int) : List Int := V.set g (V.getD g 0 + x)

theorem addTo_len (V : List Int) (g : Nat) (x : Int) : (addTo V g x).length = V.length := by simp [addTo]
theorem addTo_get (V : List Int) (g k : Nat) (x : Int) (hg : g < V.length) : (addTo V g x).getD k 0 = V.getD k 0 + if k = g then x else 0 := by
  unfold addTo
  rw [getD_set _ _ _ _ hg]
  by_cases h : k = g
  · subst h; simp
  · simp [h]

theorem takeB_true {L : List (Int × Int)} {c g n : Int} (h : takeB L c g n = true) : ∃ k : Nat, c = k ∧ k < L.length ∧ 1 ≤ n ∧ n ≤ (L.getD k (0, 0)).2 ∧ (L.getD k (0, 0)).1 = g := by
  unfold takeB at h
  cases hc : okC L c with
  | false => rw [hc] at h; cases h
  | true =>
    obtain ⟨k, rfl, hk⟩ := okC_true hc
    rw [hc, at2_nat hk] at h
    simp only [Bool.true_and, Bool.and_eq_true, decide_eq_true_eq] at h
    exact ⟨k, rfl, hk, h.1, h.2.1, h.2.2⟩

theorem Sums.take {V : List Int} {L : List (Int × Int)} (h : Sums V L) (c n : Int) (g : Nat) (h1 : 1 ≤ g) (h2 : g ≤ 16) (ht : takeB L c g n = true) : Sums (addTo V g (-n)) (takeL L c g n) := by
  obtain ⟨k, rfl, hk, hn1, hn2, hg⟩ := takeB_true ht
  have e : takeL L k g n = L.set k (whole2 g ((L.getD k (0, 0)).2 - n)) := by unfold takeL; rw [if_pos ht, at2_nat hk, Int.toNat_natCast]
  have hl := h.len
  refine ⟨by rw [addTo_len, hl], ?_, fun j j1 j2 => ?_⟩
  · rw [addTo_get _ _ _ _ (by omega), h.none, if_neg (by omega)]; rfl
  · rw [addTo_get _ _ _ _ (by omega), h.each j j1 j2, e, held_set L k _ _ hk, contr_whole]
    unfold contr
    rw [hg]
    by_cases hj : j = g
    · subst hj; simp; omega
    · have : ¬ ((g : Int) = j) := by omega
      simp [hj, this]

theorem Sums.putOk {V : List Int} {L : List (Int × Int)} (h : Sums V L) (hf : ∀ p ∈ L, Fine p) (c n : Int) (g : Nat) (h1 : 1 ≤ g) (h2 : g ≤ 16) (ht : putE L c g n = 0) (u : Nat) (o : Int) (hu : putR L c g n = ((u : Int), o)) (hu' : u ≤ 16) :
    Sums (addTo (addTo V g n) u (-o)) (putL L c g n) := by
  have hl := h.len
  have key : ∀ j : Nat, 1 ≤ j → held (putL L c g n) j = held L j + (if j = g then n else 0) - (if j = u then o else 0) := by
    intro j j1
    cases hc : okC L c with
    | false => rw [(put_range L c g n hc).1] at ht; cases ht
    | true =>
      obtain ⟨k, rfl, hk⟩ := okC_true hc
      by_cases hn : n < 0 ∨ 9007199254740991 < n
      · rw [(put_arg L k g n hc (by omega) hn).1] at ht; cases ht
      have fp := hf _ (getD_mem L k hk)
      cases hp : L.getD k (0, 0) with
      | mk pg pn =>
      rw [hp] at fp
      obtain ⟨f1, f2, f3, f4⟩ := fp
      dsimp only at f1 f2 f3 f4
      by_cases hot : 0 < pn ∧ pg ≠ g
      · by_cases hb : 1024 < n
        · rw [(put_other_bad L k g n pg pn hk hp (by omega) (by omega) hot.1 hot.2 hb).1] at ht; cases ht
        · obtain ⟨_, e2, e3⟩ := put_other L k g n pg pn hk hp (by omega) (by omega) hot.1 hot.2
          rw [e2] at hu
          simp only [Prod.mk.injEq] at hu
          obtain ⟨u1, u2⟩ := hu
          rw [e3, held_set L k _ _ hk, contr_whole, hp]
          unfold contr
          subst u1 u2
          dsimp only
          by_cases a1 : j = g <;> by_cases a2 : j = u <;> simp [a1, a2] <;> first | omega | (split <;> split <;> omega)
      · by_cases hb : 1024 < pn + n
        · obtain ⟨_, e2, e3⟩ := put_same_over L k g n pg pn hk hp (by omega) (by omega) hot hb
          rw [e2] at hu
          simp only [Prod.mk.injEq] at hu
          obtain ⟨u1, u2⟩ := hu
          rw [e3, held_set L k _ _ hk, hp]
          unfold contr
          dsimp only
          (repeat' split) <;> omega
        · obtain ⟨_, e2, e3⟩ := put_same L k g n pg pn hk hp (by omega) (by omega) hot (by omega)
          rw [e2] at hu
          simp only [Prod.mk.injEq] at hu
          obtain ⟨u1, u2⟩ := hu
          rw [e3, held_set L k _ _ hk, contr_whole, hp]
          unfold contr
          dsimp only
          (repeat' split) <;> omega
  refine ⟨by rw [addTo_len, addTo_len, hl], ?_, fun j j1 j2 => ?_⟩
  · rw [addTo_get _ _ _ _ (by rw [addTo_len]; omega), addTo_get _ _ _ _ (by omega), h.none, if_neg (by omega)]
    by_cases h0 : 0 = u
    · subst h0
      have ho : o = 0 := by
        cases hc : okC L c with
        | false => rw [(put_range L c g n hc).1] at ht; cases ht
        | true =>
          obtain ⟨k, rfl, hk⟩ := okC_true hc
          by_cases hn : n < 0 ∨ 9007199254740991 < n
          · rw [(put_arg L k g n hc (by omega) hn).1] at ht; cases ht
          have fp := hf _ (getD_mem L k hk)
          cases hp : L.getD k (0, 0) with
          | mk pg pn =>
          rw [hp] at fp
          obtain ⟨f1, f2, f3, f4⟩ := fp
          dsimp only at f1 f2 f3 f4
          by_cases hot : 0 < pn ∧ pg ≠ g
          · by_cases hb : 1024 < n
            · rw [(put_other_bad L k g n pg pn hk hp (by omega) (by omega) hot.1 hot.2 hb).1] at ht; cases ht
            · obtain ⟨_, e2, e3⟩ := put_other L k g n pg pn hk hp (by omega) (by omega) hot.1 hot.2
              rw [e2] at hu
              simp only [Prod.mk.injEq] at hu
              omega
          · by_cases hb : 1024 < pn + n
            · obtain ⟨_, e2, e3⟩ := put_same_over L k g n pg pn hk hp (by omega) (by omega) hot hb
              rw [e2] at hu
              simp only [Prod.mk.injEq] at hu
              omega
            · obtain ⟨_, e2, e3⟩ := put_same L k g n pg pn hk hp (by omega) (by omega) hot (by omega)
              rw [e2] at hu
              simp only [Prod.mk.injEq] at hu
              omega
      rw [if_pos rfl, ho]; rfl
    · rw [if_neg h0]; rfl
  · rw [addTo_get _ _ _ _ (by rw [addTo_len]; omega), addTo_get _ _ _ _ (by omega), h.each j j1 j2, key j j1]
    (repeat' split) <;> omega

theorem at2_fine {L : List (Int × Int)} (hf : ∀ p ∈ L, Fine p) (c : Int) : Fine (at2 L c) := by
  cases hc : okC L c with
  | false => unfold at2; rw [hc]; exact Fine.zero
  | true =>
    obtain ⟨k, rfl, hk⟩ := okC_true hc
    rw [at2_nat hk]
    exact hf _ (getD_mem L k hk)

theorem Sums.drain {V : List Int} {L : List (Int × Int)} (h : Sums V L) (hf : ∀ p ∈ L, Fine p) (c : Int) (u : Nat) (o : Int) (hu : at2 L c = ((u : Int), o)) (hu' : u ≤ 16) : Sums (addTo V u (-o)) (drainL L c) := by
  have hl := h.len
  have fp := at2_fine hf c
  rw [hu] at fp
  obtain ⟨f1, f2, f3, f4⟩ := fp
  dsimp only at f1 f2 f3 f4
  refine ⟨by rw [addTo_len, hl], ?_, fun j j1 j2 => ?_⟩
  · rw [addTo_get _ _ _ _ (by omega), h.none]
    split <;> omega
  · rw [addTo_get _ _ _ _ (by omega), h.each j j1 j2]
    cases hc : okC L c with
    | false =>
      have e : drainL L c = L := by unfold drainL; rw [hc]; rfl
      unfold at2 at hu
      rw [hc] at hu
      simp at hu
      rw [e]
      split <;> omega
    | true =>
      obtain ⟨k, rfl, hk⟩ := okC_true hc
      have e : drainL L k = L.set k (0, 0) := by unfold drainL; rw [hc, if_pos rfl, Int.toNat_natCast]
      rw [at2_nat hk] at hu
      rw [e, held_set L k _ _ hk, hu]
      unfold contr
      dsimp only
      (repeat' split) <;> omega

/-! ### All -/

/-- What the first k groups have. -/
def hsum (L : List (Int × Int)) (m : Nat) : Nat → Int
  | 0 => 0
  | k + 1 => hsum L m k + heldTo L (k + 1 : Nat) m
/-- What the first k stocks have. -/
def tot (L : List (Int × Int)) : Nat → Int
  | 0 => 0
  | k + 1 => tot L k + (L.getD k (0, 0)).2

def csum (p : Int × Int) : Nat → Int
  | 0 => 0
  | k + 1 => csum p k + contr p (k + 1 : Nat)

theorem csum_eq (p : Int × Int) (k : Nat) : csum p k = if 1 ≤ p.1 ∧ p.1 ≤ k then p.2 else 0 := by
  induction k with
  | zero => simp only [csum]; rw [if_neg (by omega)]
  | succ k ih =>
    simp only [csum]
    rw [ih]
    unfold contr
    (repeat' split) <;> omega

theorem hsum_succ (L : List (Int × Int)) (m k : Nat) : hsum L (m + 1) k = hsum L m k + csum (L.getD m (0, 0)) k := by
  induction k with
  | zero => rfl
  | succ k ih =>
    simp only [hsum, csum]
    rw [ih]
    simp only [heldTo]
    unfold contr
    omega

theorem hsum_tot (L : List (Int × Int)) (hf : ∀ p ∈ L, Fine p) (m : Nat) (hm : m ≤ L.length) : hsum L m 16 = tot L m := by
  induction m with
  | zero =>
    simp only [tot]
    have : ∀ k, hsum L 0 k = 0 := fun k => by
      induction k with
      | zero => rfl
      | succ k ih => simp only [hsum]; rw [ih]; rfl
    exact this 16
  | succ m ih =>
    rw [hsum_succ, ih (by omega), csum_eq]
    simp only [tot]
    obtain ⟨f1, f2, f3, f4⟩ := hf _ (getD_mem L m (by omega))
    congr 1
    split <;> omega

theorem hsum_bd {tH tE : TypeId} {w : World} {b bs : Nat} {L : List (Int × Int)} (h : StkIs tH tE w b bs L) (k : Nat) : 0 ≤ hsum L L.length k ∧ hsum L L.length k ≤ 8192 * k := by
  induction k with
  | zero => simp [hsum]
  | succ k ih =>
    simp only [hsum]
    have h1 := heldTo_bd h (k + 1 : Nat) L.length (Nat.le_refl _)
    have h2 := h.len
    omega

theorem tot_bd {L : List (Int × Int)} (hf : ∀ p ∈ L, Fine p) (m : Nat) (hm : m ≤ L.length) : 0 ≤ tot L m ∧ tot L m ≤ 1024 * m := by
  induction m with
  | zero => simp [tot]
  | succ m ih =>
    simp only [tot]
    obtain ⟨f1, f2, f3, f4⟩ := hf _ (getD_mem L m (by omega))
    have := ih (by omega)
    omega

end Go.Proofs.Ytlndpljhcempoaa

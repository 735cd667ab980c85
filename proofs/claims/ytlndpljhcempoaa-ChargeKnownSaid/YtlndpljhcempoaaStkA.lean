/- Stocks as lists of pairs: what each call answers and leaves, in plain Lean; a stock's blocks. No program, no condition. -/
import Derived.Test.YtlndpljhcempoaaBase
namespace Go.Proofs.Ytlndpljhcempoaa
open Go.RowKit

/-- Pairs as cells. -/
def stc (L : List (Int × Int)) : List Value := L.flatMap fun p => [.int .i64 p.1, .int .i64 p.2]

theorem stc_nil : stc [] = [] := rfl
theorem stc_cons (p : Int × Int) (L : List (Int × Int)) : stc (p :: L) = .int .i64 p.1 :: .int .i64 p.2 :: stc L := rfl

theorem stc_get0 (L : List (Int × Int)) (k : Nat) (h : k < L.length) : (stc L)[k * 2]? = some (.int .i64 (L.getD k (0, 0)).1) := by
  induction L generalizing k with
  | nil => simp at h
  | cons p L ih =>
    cases k with
    | zero => rfl
    | succ k =>
      rw [stc_cons, show (k + 1) * 2 = k * 2 + 1 + 1 from by omega, List.getElem?_cons_succ, List.getElem?_cons_succ, ih k (by simpa using h)]
      rfl

theorem stc_get1 (L : List (Int × Int)) (k : Nat) (h : k < L.length) : (stc L)[k * 2 + 1]? = some (.int .i64 (L.getD k (0, 0)).2) := by
  induction L generalizing k with
  | nil => simp at h
  | cons p L ih =>
    cases k with
    | zero => rfl
    | succ k =>
      rw [stc_cons, show (k + 1) * 2 + 1 = k * 2 + 1 + 1 + 1 from by omega, List.getElem?_cons_succ, List.getElem?_cons_succ, ih k (by simpa using h)]
      rfl

theorem stc_set (L : List (Int × Int)) (k : Nat) (g n : Int) : ((stc L).set (k * 2) (.int .i64 g)).set (k * 2 + 1) (.int .i64 n) = stc (L.set k (g, n)) := by
  induction L generalizing k with
  | nil => rfl
  | cons p L ih =>
    cases k with
    | zero => rfl
    | succ k =>
      rw [stc_cons, show (k + 1) * 2 = k * 2 + 1 + 1 from by omega, List.set_cons_succ, List.set_cons_succ, List.set_cons_succ, List.set_cons_succ, ih k, List.set_cons_succ, stc_cons]

theorem stc_replicate (n : Nat) : stc (List.replicate n (0, 0)) = List.replicate (n * 2) (.int .i64 0) := by
  induction n with
  | zero => rfl
  | succ n ih => rw [List.replicate_succ, stc_cons, ih, show (n + 1) * 2 = n * 2 + 1 + 1 from by omega, List.replicate_succ, List.replicate_succ]

/-- What holds of a stock: at most MaxStock bytes; of no bytes: nobody's. -/
def Fine (p : Int × Int) : Prop := 0 ≤ p.2 ∧ p.2 ≤ 1024 ∧ (p.2 = 0 → p.1 = 0) ∧ (0 < p.2 → 1 ≤ p.1 ∧ p.1 ≤ 16)

/-- Stocks: the block b (of type tH), the stocks' block bs (of elements tE), the stocks. -/
structure StkIs (tH tE : TypeId) (w : World) (b bs : Nat) (L : List (Int × Int)) : Prop where
  hd : Row w b tH [.slice (some ⟨bs, 0, none⟩) L.length L.length]
  el : Row w bs tE (stc L)
  ne : b ≠ bs
  pos : 0 < L.length
  len : L.length ≤ 8
  fine : ∀ p ∈ L, Fine p

theorem StkIs.keeps {tH tE : TypeId} {w w' : World} {b bs : Nat} {L : List (Int × Int)} {S : List Nat} (h : StkIs tH tE w b bs L) (hk : Keeps S w w') (h1 : b ∉ S) (h2 : bs ∉ S) : StkIs tH tE w' b bs L :=
  ⟨hk.row h.hd h1, hk.row h.el h2, h.ne, h.pos, h.len, h.fine⟩

theorem StkIs.drewN {tH tE : TypeId} {w : World} {b bs : Nat} {L : List (Int × Int)} (h : StkIs tH tE w b bs L) (n : Nat) : StkIs tH tE (w.drewN n) b bs L := ⟨h.hd, h.el, h.ne, h.pos, h.len, h.fine⟩

theorem StkIs.put {tH tE : TypeId} {w : World} {b bs : Nat} {L : List (Int × Int)} (h : StkIs tH tE w b bs L) (k : Nat) {g n : Int} (hf : Fine (g, n)) :
    StkIs tH tE ((w.setCell ⟨bs, k * 2, none⟩ (.int .i64 g)).setCell ⟨bs, k * 2 + 1, none⟩ (.int .i64 n)) b bs (L.set k (g, n)) := by
  refine ⟨?_, ?_, h.ne, by simpa using h.pos, by simpa using h.len, fun p hp => ?_⟩
  · rw [List.length_set]
    exact (h.hd.setOther (a := ⟨bs, k * 2, none⟩) h.ne _).setOther (a := ⟨bs, k * 2 + 1, none⟩) h.ne _
  · rw [← stc_set]
    exact (h.el.set (k * 2) _).set (k * 2 + 1) _
  · rcases List.mem_or_eq_of_mem_set hp with h' | rfl
    · exact h.fine p h'
    · exact hf

theorem getD_mem (L : List (Int × Int)) (k : Nat) (h : k < L.length) : L.getD k (0, 0) ∈ L := by
  rw [List.getD_eq_getElem?_getD, List.getElem?_eq_getElem h]
  exact List.getElem_mem h

theorem StkIs.at {tH tE : TypeId} {w : World} {b bs : Nat} {L : List (Int × Int)} (h : StkIs tH tE w b bs L) {k : Nat} (hk : k < L.length) : Fine (L.getD k (0, 0)) := h.fine _ (getD_mem L k hk)

/-! ### What the calls answer -/

def okC (L : List (Int × Int)) (c : Int) : Bool := decide (0 ≤ c) && decide (c < L.length)
def at2 (L : List (Int × Int)) (c : Int) : Int × Int := if okC L c then L.getD c.toNat (0, 0) else (0, 0)
def whole2 (g n : Int) : Int × Int := if n = 0 then (0, 0) else (g, n)
def takeB (L : List (Int × Int)) (c g n : Int) : Bool := okC L c && (decide (1 ≤ n) && (decide (n ≤ (at2 L c).2) && decide ((at2 L c).1 = g)))
def takeL (L : List (Int × Int)) (c g n : Int) : List (Int × Int) := if takeB L c g n then L.set c.toNat (whole2 g ((at2 L c).2 - n)) else L
def putE (L : List (Int × Int)) (c g n : Int) : Int :=
  if okC L c = false then 9 else if g < 1 ∨ 16 < g then 110 else if n < 0 ∨ 9007199254740991 < n then 2
  else if 0 < (at2 L c).2 ∧ (at2 L c).1 ≠ g ∧ 1024 < n then 2 else 0
def putR (L : List (Int × Int)) (c g n : Int) : Int × Int :=
  if putE L c g n ≠ 0 then (0, 0) else if 0 < (at2 L c).2 ∧ (at2 L c).1 ≠ g then at2 L c
  else if 1024 < (at2 L c).2 + n then (g, (at2 L c).2 + n - 512) else (0, 0)
def putL (L : List (Int × Int)) (c g n : Int) : List (Int × Int) :=
  if putE L c g n ≠ 0 then L else if 0 < (at2 L c).2 ∧ (at2 L c).1 ≠ g then L.set c.toNat (whole2 g n)
  else if 1024 < (at2 L c).2 + n then L.set c.toNat (g, 512) else L.set c.toNat (whole2 g ((at2 L c).2 + n))
def drainL (L : List (Int × Int)) (c : Int) : List (Int × Int) := if okC L c then L.set c.toNat (0, 0) else L
/-- What the first k have of a group. -/
def heldTo (L : List (Int × Int)) (g : Int) : Nat → Int
  | 0 => 0
  | k + 1 => heldTo L g k + if (L.getD k (0, 0)).1 = g then (L.getD k (0, 0)).2 else 0
def held (L : List (Int × Int)) (g : Int) : Int := heldTo L g L.length

theorem okC_true {L : List (Int × Int)} {c : Int} (h : okC L c = true) : ∃ k : Nat, c = (k : Int) ∧ k < L.length := by
  simp only [okC, Bool.and_eq_true, decide_eq_true_eq] at h
  exact ⟨c.toNat, by omega, by omega⟩
theorem okC_false {L : List (Int × Int)} {c : Int} (h : okC L c = false) : c < 0 ∨ (L.length : Int) ≤ c := by
  simp only [okC, Bool.and_eq_false_iff, decide_eq_false_iff_not] at h
  omega
theorem okC_nat {L : List (Int × Int)} {k : Nat} (h : k < L.length) : okC L k = true := by simp [okC]; omega
theorem at2_nat {L : List (Int × Int)} {k : Nat} (h : k < L.length) : at2 L k = L.getD k (0, 0) := by unfold at2; rw [if_pos (okC_nat h), Int.toNat_natCast]

theorem heldTo_bd {tH tE : TypeId} {w : World} {b bs : Nat} {L : List (Int × Int)} (h : StkIs tH tE w b bs L) (g : Int) (k : Nat) (hk : k ≤ L.length) : 0 ≤ heldTo L g k ∧ heldTo L g k ≤ 1024 * k := by
  induction k with
  | zero => exact ⟨Int.le_refl _, by simp [heldTo]⟩
  | succ k ih =>
    obtain ⟨h1, h2⟩ := ih (by omega)
    have h3 := h.at (k := k) (by omega)
    unfold Fine at h3
    simp only [heldTo]
    split <;> omega

theorem Fine.zero : Fine (0, 0) := ⟨by simp, by simp, fun _ => rfl, fun h => by simp at h⟩
theorem Fine.whole {g n : Int} (hg : 1 ≤ g ∧ g ≤ 16) (hn : 0 ≤ n ∧ n ≤ 1024) : Fine (whole2 g n) := by
  unfold whole2
  split
  · exact Fine.zero
  · exact ⟨hn.1, hn.2, fun h => by omega, fun _ => hg⟩

/-! ### Put, plainly -/

theorem put_range (L : List (Int × Int)) (c g n : Int) (hc : okC L c = false) : putE L c g n = 9 ∧ putR L c g n = (0, 0) ∧ putL L c g n = L := by
  have e : putE L c g n = 9 := by simp [putE, hc]
  exact ⟨e, by simp [putR, e], by simp [putL, e]⟩

theorem put_group (L : List (Int × Int)) (c g n : Int) (hc : okC L c = true) (hg : g < 1 ∨ 16 < g) : putE L c g n = 110 ∧ putR L c g n = (0, 0) ∧ putL L c g n = L := by
  have e : putE L c g n = 110 := by simp [putE, hc, hg]
  exact ⟨e, by simp [putR, e], by simp [putL, e]⟩

theorem put_arg (L : List (Int × Int)) (c g n : Int) (hc : okC L c = true) (hg : 1 ≤ g ∧ g ≤ 16) (hn : n < 0 ∨ 9007199254740991 < n) : putE L c g n = 2 ∧ putR L c g n = (0, 0) ∧ putL L c g n = L := by
  have h1 : ¬ (g < 1 ∨ 16 < g) := by omega
  have e : putE L c g n = 2 := by simp [putE, hc, h1, hn]
  exact ⟨e, by simp [putR, e], by simp [putL, e]⟩

theorem put_other_bad (L : List (Int × Int)) (k : Nat) (g n pg pn : Int) (hk : k < L.length) (hp : L.getD k (0, 0) = (pg, pn)) (hg : 1 ≤ g ∧ g ≤ 16) (hn : 0 ≤ n ∧ n ≤ 9007199254740991) (h0 : 0 < pn) (hne : pg ≠ g) (hb : 1024 < n) :
    putE L k g n = 2 ∧ putR L k g n = (0, 0) ∧ putL L k g n = L := by
  have h1 : ¬ (g < 1 ∨ 16 < g) := by omega
  have h2 : ¬ (n < 0 ∨ 9007199254740991 < n) := by omega
  have e : putE L k g n = 2 := by unfold putE; rw [okC_nat hk, at2_nat hk, hp, if_neg (by simp), if_neg h1, if_neg h2, if_pos ⟨h0, hne, hb⟩]
  exact ⟨e, by simp [putR, e], by simp [putL, e]⟩

theorem put_other (L : List (Int × Int)) (k : Nat) (g n pg pn : Int) (hk : k < L.length) (hp : L.getD k (0, 0) = (pg, pn)) (hg : 1 ≤ g ∧ g ≤ 16) (hn : 0 ≤ n ∧ n ≤ 1024) (h0 : 0 < pn) (hne : pg ≠ g) :
    putE L k g n = 0 ∧ putR L k g n = (pg, pn) ∧ putL L k g n = L.set k (whole2 g n) := by
  have h1 : ¬ (g < 1 ∨ 16 < g) := by omega
  have h2 : ¬ (n < 0 ∨ 9007199254740991 < n) := by omega
  have h3 : ¬ (0 < pn ∧ pg ≠ g ∧ 1024 < n) := by omega
  have e : putE L k g n = 0 := by unfold putE; rw [okC_nat hk, at2_nat hk, hp, if_neg (by simp), if_neg h1, if_neg h2, if_neg h3]
  refine ⟨e, ?_, ?_⟩
  · unfold putR; rw [e, at2_nat hk, hp, if_neg (by simp), if_pos ⟨h0, hne⟩]
  · unfold putL; rw [e, at2_nat hk, hp, if_neg (by simp), if_pos ⟨h0, hne⟩, Int.toNat_natCast]

theorem put_same_over (L : List (Int × Int)) (k : Nat) (g n pg pn : Int) (hk : k < L.length) (hp : L.getD k (0, 0) = (pg, pn)) (hg : 1 ≤ g ∧ g ≤ 16) (hn : 0 ≤ n ∧ n ≤ 9007199254740991) (h0 : ¬ (0 < pn ∧ pg ≠ g)) (hb : 1024 < pn + n) :
    putE L k g n = 0 ∧ putR L k g n = (g, pn + n - 512) ∧ putL L k g n = L.set k (g, 512) := by
  have h1 : ¬ (g < 1 ∨ 16 < g) := by omega
  have h2 : ¬ (n < 0 ∨ 9007199254740991 < n) := by omega
  have h3 : ¬ (0 < pn ∧ pg ≠ g ∧ 1024 < n) := fun h => h0 ⟨h.1, h.2.1⟩
  have e : putE L k g n = 0 := by unfold putE; rw [okC_nat hk, at2_nat hk, hp, if_neg (by simp), if_neg h1, if_neg h2, if_neg h3]
  refine ⟨e, ?_, ?_⟩
  · unfold putR; rw [e, at2_nat hk, hp, if_neg (by simp), if_neg h0, if_pos hb]
  · unfold putL; rw [e, at2_nat hk, hp, if_neg (by simp), if_neg h0, if_pos hb, Int.toNat_natCast]

theorem put_same (L : List (Int × Int)) (k : Nat) (g n pg pn : Int) (hk : k < L.length) (hp : L.getD k (0, 0) = (pg, pn)) (hg : 1 ≤ g ∧ g ≤ 16) (hn : 0 ≤ n ∧ n ≤ 9007199254740991) (h0 : ¬ (0 < pn ∧ pg ≠ g)) (hb : pn + n ≤ 1024) :
    putE L k g n = 0 ∧ putR L k g n = (0, 0) ∧ putL L k g n = L.set k (whole2 g (pn + n)) := by
  have h1 : ¬ (g < 1 ∨ 16 < g) := by omega
  have h2 : ¬ (n < 0 ∨ 9007199254740991 < n) := by omega
  have h3 : ¬ (0 < pn ∧ pg ≠ g ∧ 1024 < n) := fun h => h0 ⟨h.1, h.2.1⟩
  have h4 : ¬ (1024 < pn + n) := by omega
  have e : putE L k g n = 0 := by unfold putE; rw [okC_nat hk, at2_nat hk, hp, if_neg (by simp), if_neg h1, if_neg h2, if_neg h3]
  refine ⟨e, ?_, ?_⟩
  · unfold putR; rw [e, at2_nat hk, hp, if_neg (by simp), if_neg h0, if_neg h4]
  · unfold putL; rw [e, at2_nat hk, hp, if_neg (by simp), if_neg h0, if_neg h4, Int.toNat_natCast]

end Go.Proofs.Ytlndpljhcempoaa

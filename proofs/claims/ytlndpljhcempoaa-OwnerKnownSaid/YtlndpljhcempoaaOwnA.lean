/- Counting over a grid, in plain Lean: how many cells of S rows of O a test lets by. No program; no condition. -/
import Derived.Test.YtlndpljhcempoaaBase
namespace Go.Proofs.Ytlndpljhcempoaa

/-- Of 0 .. n-1, how many. -/
def rowC (q : Int → Bool) : Nat → Nat
  | 0 => 0
  | n + 1 => rowC q n + (if q n then 1 else 0)

/-- Of S rows of O, how many. -/
def cntF (p : Int → Int → Bool) (O : Nat) : Nat → Nat
  | 0 => 0
  | n + 1 => cntF p O n + rowC (p n) O

/-- One cell turned. -/
def upd {α : Type} (f : Int → Int → α) (s i : Int) (v : α) : Int → Int → α := fun a b => if a = s ∧ b = i then v else f a b

theorem upd_same {α : Type} (f : Int → Int → α) (s i : Int) (v : α) : upd f s i v s i = v := by simp [upd]
theorem upd_ne {α : Type} (f : Int → Int → α) (s i : Int) (v : α) {a b : Int} (h : ¬(a = s ∧ b = i)) : upd f s i v a b = f a b := by simp [upd, h]

theorem rowC_congr {q q' : Int → Bool} : ∀ {n : Nat}, (∀ j : Nat, j < n → q j = q' j) → rowC q n = rowC q' n
  | 0, _ => rfl
  | n + 1, h => by
    simp only [rowC]
    rw [rowC_congr (n := n) fun j hj => h j (by omega), h n (by omega)]

theorem cntF_congr {p p' : Int → Int → Bool} {O : Nat} : ∀ {n : Nat}, (∀ a b : Nat, a < n → b < O → p a b = p' a b) → cntF p O n = cntF p' O n
  | 0, _ => rfl
  | n + 1, h => by
    simp only [cntF]
    rw [cntF_congr (n := n) fun a b ha hb => h a b (by omega) hb, rowC_congr fun j hj => h n j (by omega) hj]

theorem rowC_le (q : Int → Bool) : ∀ n : Nat, rowC q n ≤ n
  | 0 => Nat.le_refl _
  | n + 1 => by have := rowC_le q n; simp only [rowC]; split <;> omega

theorem cntF_le (p : Int → Int → Bool) (O : Nat) : ∀ n : Nat, cntF p O n ≤ n * O
  | 0 => by simp [cntF]
  | n + 1 => by have := cntF_le p O n; have := rowC_le (p n) O; simp only [cntF, Nat.succ_mul]; omega

theorem rowC_none (q : Int → Bool) : ∀ n : Nat, (∀ j : Nat, j < n → q j = false) → rowC q n = 0
  | 0, _ => rfl
  | n + 1, h => by simp only [rowC]; rw [rowC_none q n fun j hj => h j (by omega), h n (by omega)]; rfl

theorem cntF_none (p : Int → Int → Bool) (O : Nat) : ∀ n : Nat, (∀ a b : Nat, a < n → b < O → p a b = false) → cntF p O n = 0
  | 0, _ => rfl
  | n + 1, h => by simp only [cntF]; rw [cntF_none p O n fun a b ha hb => h a b (by omega) hb, rowC_none _ _ fun j hj => h n j (by omega) hj]

theorem rowC_one {q q' : Int → Bool} {i : Nat} (h0 : q i = false) (h1 : q' i = true) (ho : ∀ j : Int, j ≠ i → q' j = q j) : ∀ n : Nat, i < n → rowC q' n = rowC q n + 1
  | 0, h => by omega
  | n + 1, h => by
    simp only [rowC]
    by_cases e : i = n
    · subst e
      rw [h0, h1, rowC_congr (q := q') (q' := q) fun j hj => ho j (by omega)]; rfl
    · rw [rowC_one h0 h1 ho n (by omega), ho n (by omega)]; omega

theorem cntF_upd {p : Int → Int → Bool} {O : Nat} {s i : Nat} (hi : i < O) (h0 : p s i = false) : ∀ n : Nat, s < n → cntF (upd p s i true) O n = cntF p O n + 1
  | 0, h => by omega
  | n + 1, h => by
    simp only [cntF]
    by_cases e : s = n
    · subst e
      rw [cntF_congr (p := upd p s i true) (p' := p) fun a b ha hb => upd_ne _ _ _ _ (by omega), rowC_one (q := p s) (q' := upd p s i true s) h0 (upd_same _ _ _ _) (fun j hj => upd_ne _ _ _ _ (by omega)) O hi]
      omega
    · rw [cntF_upd hi h0 n (by omega), rowC_congr (q := upd p s i true n) (q' := p n) fun j hj => upd_ne _ _ _ _ (by omega)]; omega

theorem rowC_or {q1 q2 q : Int → Bool} : ∀ {n : Nat}, (∀ j : Nat, j < n → q j = (q1 j || q2 j) ∧ (q1 j && q2 j) = false) → rowC q n = rowC q1 n + rowC q2 n
  | 0, _ => rfl
  | n + 1, h => by
    simp only [rowC]
    rw [rowC_or (n := n) fun j hj => h j (by omega)]
    obtain ⟨h1, h2⟩ := h n (by omega)
    rw [h1]
    cases e1 : q1 n <;> cases e2 : q2 n <;> simp [e1, e2] at h2 ⊢ <;> omega

theorem cntF_or {p1 p2 p : Int → Int → Bool} {O : Nat} : ∀ {n : Nat}, (∀ a b : Nat, a < n → b < O → p a b = (p1 a b || p2 a b) ∧ (p1 a b && p2 a b) = false) → cntF p O n = cntF p1 O n + cntF p2 O n
  | 0, _ => rfl
  | n + 1, h => by
    simp only [cntF]
    rw [cntF_or (n := n) fun a b ha hb => h a b (by omega) hb, rowC_or (q := p n) (q1 := p1 n) (q2 := p2 n) fun j hj => h n j (by omega) hj]
    omega

/-! ### What owners hold -/

/-- How many objects a group has. -/
def ofG (S O : Nat) (f : Int → Int → Int) (g : Int) : Nat := cntF (fun a b => f a b == g) O S

/-- All of a group handed to another. -/
def moveF (f : Int → Int → Int) (x y : Int) : Int → Int → Int := fun a b => if f a b = x then y else f a b

/-- Who owns: nobody outside the grid; else a group. -/
structure Fine (S O : Nat) (f : Int → Int → Int) : Prop where
  inn : ∀ a b : Int, f a b ≠ 0 → 0 ≤ a ∧ a < S ∧ 0 ≤ b ∧ b < O ∧ 1 ≤ f a b ∧ f a b ≤ 16
  s1 : 1 ≤ S
  s2 : S ≤ 256
  o1 : 1 ≤ O
  o2 : O ≤ 16

theorem Fine.upd {S O : Nat} {f : Int → Int → Int} (h : Fine S O f) {s i g : Int} (h1 : 0 ≤ s) (h2 : s < S) (h3 : 0 ≤ i) (h4 : i < O) (h5 : 0 ≤ g) (h6 : g ≤ 16) : Fine S O (upd f s i g) :=
  ⟨fun a b hn => by
    by_cases e : a = s ∧ b = i
    · obtain ⟨rfl, rfl⟩ := e
      rw [upd_same] at hn ⊢
      exact ⟨h1, h2, h3, h4, by omega, h6⟩
    · rw [upd_ne _ _ _ _ e] at hn ⊢
      exact h.inn a b hn, h.s1, h.s2, h.o1, h.o2⟩

theorem Fine.move {S O : Nat} {f : Int → Int → Int} (h : Fine S O f) {x y : Int} (hx : x ≠ 0) (h5 : 1 ≤ y) (h6 : y ≤ 16) : Fine S O (moveF f x y) :=
  ⟨fun a b hn => by
    unfold moveF at hn ⊢
    split at hn
    · next e =>
      rw [if_pos e]
      obtain ⟨q1, q2, q3, q4, _, _⟩ := h.inn a b (by omega)
      exact ⟨q1, q2, q3, q4, h5, h6⟩
    · next e =>
      rw [if_neg e]
      exact h.inn a b hn, h.s1, h.s2, h.o1, h.o2⟩

theorem Fine.none {S O : Nat} (h1 : 1 ≤ S) (h2 : S ≤ 256) (h3 : 1 ≤ O) (h4 : O ≤ 16) : Fine S O (fun _ _ => 0) := ⟨fun _ _ h => absurd rfl h, h1, h2, h3, h4⟩

/-- A group that is none has nothing. -/
theorem Fine.zero {S O : Nat} {f : Int → Int → Int} (h : Fine S O f) {g : Int} (hg : g < 0 ∨ 16 < g) : ofG S O f g = 0 :=
  cntF_none _ _ _ fun a b _ _ => by
    simp only [beq_eq_false_iff_ne]
    intro e
    by_cases h0 : f a b = 0
    · omega
    · have := h.inn a b h0; omega

theorem ofG_le (S O : Nat) (f : Int → Int → Int) (g : Int) : ofG S O f g ≤ S * O := cntF_le _ _ _

theorem ofG_moved_from (S O : Nat) (f : Int → Int → Int) {x y : Int} (hxy : x ≠ y) : ofG S O (moveF f x y) x = 0 :=
  cntF_none _ _ _ fun a b _ _ => by
    simp only [beq_eq_false_iff_ne, moveF]
    split <;> omega

theorem ofG_moved_to (S O : Nat) (f : Int → Int → Int) {x y : Int} (hxy : x ≠ y) : ofG S O (moveF f x y) y = ofG S O f x + ofG S O f y :=
  cntF_or fun a b _ _ => by
    simp only [moveF]
    by_cases h1 : f a b = x
    · simp [h1, hxy]
    · by_cases h2 : f a b = y
      · have h3 : ¬ y = x := fun e => hxy e.symm
        simp [h2, h3]
      · simp [h1, h2]

/-- Groups 1 .. k. -/
def sumG (S O : Nat) (f : Int → Int → Int) : Nat → Nat
  | 0 => 0
  | k + 1 => sumG S O f k + ofG S O f ((k : Int) + 1)

theorem sumG_eq (S O : Nat) (f : Int → Int → Int) : ∀ k : Nat, sumG S O f k = cntF (fun a b => decide (1 ≤ f a b ∧ f a b ≤ k)) O S
  | 0 => by
    rw [cntF_none]; rfl
    intro a b _ _
    simp only [decide_eq_false_iff_not]
    omega
  | k + 1 => by
    rw [sumG, sumG_eq S O f k, ofG]
    refine (cntF_or fun a b _ _ => ?_).symm
    refine ⟨?_, ?_⟩
    · rw [Bool.eq_iff_iff]
      simp only [decide_eq_true_eq, Bool.or_eq_true, beq_iff_eq]
      omega
    · rw [← Bool.not_eq_true, Bool.and_eq_true]
      simp only [decide_eq_true_eq, beq_iff_eq]
      omega

theorem Fine.sum {S O : Nat} {f : Int → Int → Int} (h : Fine S O f) : sumG S O f 16 = cntF (fun a b => decide (0 < f a b)) O S := by
  rw [sumG_eq]
  refine cntF_congr fun a b _ _ => ?_
  by_cases h0 : f a b = 0
  · simp [h0]
  · have := h.inn a b h0
    rw [decide_eq_true (by omega), decide_eq_true (by omega)]

/-- Of a row: is there any? -/
def anyIn (f : Int → Int → Int) (s : Int) : Nat → Bool
  | 0 => false
  | n + 1 => anyIn f s n || (f s n != 0)

theorem anyIn_true {f : Int → Int → Int} {s : Int} : ∀ {n : Nat}, (∃ j : Nat, j < n ∧ f s j ≠ 0) → anyIn f s n = true
  | 0, ⟨j, hj, _⟩ => by omega
  | n + 1, ⟨j, hj, h⟩ => by
    simp only [anyIn, Bool.or_eq_true]
    by_cases e : j = n
    · subst e; right; simpa using h
    · left; exact anyIn_true ⟨j, by omega, h⟩

theorem anyIn_false {f : Int → Int → Int} {s : Int} : ∀ {n : Nat}, (∀ j : Nat, j < n → f s j = 0) → anyIn f s n = false
  | 0, _ => rfl
  | n + 1, h => by
    simp only [anyIn]
    rw [anyIn_false fun j hj => h j (by omega), h n (by omega)]
    rfl

/-- Empty's answer. -/
def emptyF (S O : Nat) (f : Int → Int → Int) (s : Int) : Bool := decide (0 ≤ s ∧ s < S) && !anyIn f s O

end Go.Proofs.Ytlndpljhcempoaa

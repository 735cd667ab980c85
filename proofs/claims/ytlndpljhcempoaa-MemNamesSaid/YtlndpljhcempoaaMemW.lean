/- The chapter's examples of a memory (wainscotlaw03's works): it returns true and leaves alone what was there. No condition. -/
import Derived.Test.YtlndpljhcempoaaMemR
namespace Go.Proofs.Ytlndpljhcempoaa
open Go.RowKit

theorem buildOnes (w : World) : (Instr.buildSlice 22 2 #[(0, .int .u64 1), (1, .int .u64 1)]).run Try.prog w = .ok (.slice (some ⟨w.heap.size, 0, none⟩) 2 2) (w.alloc (.cells #[.int .u64 1, .int .u64 1] 29)) := by kernel_rfl

theorem MemIs.to {w : World} {bm bw : Nat} {ws ws' : List Int} {c c' : Int} (h : MemIs w bm bw ws c) (e : ws = ws') (e' : c = c') : MemIs w bm bw ws' c' := by
  subst e e'; exact h

set_option maxRecDepth 100000 in
set_option maxHeartbeats 800000 in
theorem works3_any (w : World) : Calls Try.prog 21 #[] w fun e w' => e = .returned (.bool true) ∧ Keeps [] w w' := by
  refine calls_hide fun R HR => ?_
  go_enter Try.func21, Try.ntmps21
  go_wp2_with fail
  refine (new_ok w 2 (by omega) (by omega)).mono ?_
  rintro e w1 ⟨rfl, hm, hk⟩
  have hm0 : MemIs w1 (w.heap.size + 1) w.heap.size [0, 0] 0 := hm
  obtain ⟨bm, hbm⟩ : ∃ bm, bm = w.heap.size + 1 := ⟨_, rfl⟩
  obtain ⟨bw, hbw⟩ : ∃ bw, bw = w.heap.size := ⟨_, rfl⟩
  rw [← hbm, ← hbw] at hm0
  rw [← hbm]
  have HN := Lib.hid (And.intro (And.intro hbm hbw) hk)
  clear hbm hbw hk hm
  go_wp2_with fail
  refine (store_any w1 bm bw [0, 0] 0 hm0 1 5).mono ?_
  rintro e w2 ⟨rfl, hm, hk⟩
  have hm2 : MemIs w2 bm bw [0, 5] 1 := hm.to (by kernel_rfl) (by kernel_rfl)
  have HK2 := Lib.hid hk
  clear hm hk hm0
  have q : errB (inb [0, 0] 1 1) = 0 := rfl
  simp only [q]
  clear q
  go_wp2_with fail
  refine (cas_any w2 bm bw [0, 5] 1 hm2 1 5 6).mono ?_
  rintro e w3 ⟨rfl, hm, hk⟩
  have hm3 : MemIs w3 bm bw [0, 6] 2 := hm.to (by kernel_rfl) (by kernel_rfl)
  have HK3 := Lib.hid hk
  clear hm hk hm2
  have q : casB [0, 5] 1 5 = true := rfl
  simp only [q]
  clear q
  go_wp2_with fail
  refine (cas_any w3 bm bw [0, 6] 2 hm3 1 5 7).mono ?_
  rintro e w4 ⟨rfl, hm, hk⟩
  have hm4 : MemIs w4 bm bw [0, 6] 3 := hm.to (by kernel_rfl) (by kernel_rfl)
  have HK4 := Lib.hid hk
  clear hm hk hm3
  have q : casB [0, 6] 1 5 = false := rfl
  simp only [q]
  clear q
  go_wp2_with fail
  refine (load_any w4 bm bw [0, 6] 3 hm4 1).mono ?_
  rintro e w5 ⟨rfl, hm, hk⟩
  have hm5 : MemIs w5 bm bw [0, 6] 4 := hm.to (by kernel_rfl) (by kernel_rfl)
  have HK5 := Lib.hid hk
  clear hm hk hm4
  have q : ldV [0, 6] 1 = 6 := rfl
  simp only [q]
  clear q
  go_wp2_with fail
  refine (add_any w5 bm bw [0, 6] 4 hm5 1 3).mono ?_
  rintro e w6 ⟨rfl, hm, hk⟩
  have hm6 : MemIs w6 bm bw [0, 9] 5 := hm.to (by kernel_rfl) (by kernel_rfl)
  have HK6 := Lib.hid hk
  clear hm hk hm5
  have q : ldV [0, 6] 1 = 6 := rfl
  simp only [q]
  clear q
  go_wp2_with fail
  refine (cas2_any w6 bm bw [0, 9] 5 hm6 0 0 9 1 1).mono ?_
  rintro e w7 ⟨rfl, hm, hk⟩
  have hm7 : MemIs w7 bm bw [1, 1] 6 := hm.to (by kernel_rfl) (by kernel_rfl)
  have HK7 := Lib.hid hk
  clear hm hk hm6
  have q : cas2B [0, 9] 0 0 9 = true := rfl
  simp only [q]
  clear q
  go_wp2_with fail
  refine (cas2_any w7 bm bw [1, 1] 6 hm7 1 1 0 1 1).mono ?_
  rintro e w8 ⟨rfl, hm, hk⟩
  have hm8 : MemIs w8 bm bw [1, 1] 6 := hm.to (by kernel_rfl) (by kernel_rfl)
  have HK8 := Lib.hid hk
  clear hm hk hm7
  have q : errB (inb [1, 1] 1 2) = 9 := rfl
  simp only [q]
  clear q
  go_wp2_with fail
  refine (words_any w8 bm bw [1, 1] 6 hm8 (by decide)).mono ?_
  rintro e w9 ⟨v, rfl, ⟨g, cap, rest, rfl, hg, hrow⟩, hk⟩
  have hm9 := hm8.keeps hk (by simp) (by simp)
  have HK9 := Lib.hid hk
  have hr9 := hrow.alloc (.cells #[.int .u64 1, .int .u64 1] 29)
  have ho9 := Row.new w9 [.int .u64 1, .int .u64 1] 29
  have hma := hm9.keeps ((Keeps.refl [] w9).alloc (.cells #[.int .u64 1, .int .u64 1] 29)) (by simp) (by simp)
  clear hm8 hk hrow hm9
  go_wp2_with fail
  refine (eqwords_any _ [1, 1] g w9.heap.size cap 2 rest [] hr9 (by simpa [wd] using ho9) (by decide)).mono ?_
  rintro e wa ⟨rfl, n, rfl⟩
  clear hr9 ho9
  go_wp2_with fail
  refine (count_any _ bm bw [1, 1] 6 (hma.keeps ((Keeps.refl [] _).drewN n) (by simp) (by simp))).mono ?_
  rintro e wb ⟨rfl, rfl⟩
  go_wp2
  try go_ret
  refine HR.out _ _ ⟨rfl, ?_⟩
  have h1 : Keeps [bm, bw] w1 w9 := (((((((HK2.out.trans HK3.out (by simp)).trans HK4.out (by simp)).trans HK5.out (by simp)).trans HK6.out (by simp)).trans HK7.out (by simp)).trans HK8.out (by simp)).trans HK9.out (by simp))
  obtain ⟨⟨e1, e2⟩, hk⟩ := HN.out
  exact hk.trans ((h1.alloc _).drewN n) (by simp; omega)
end Go.Proofs.Ytlndpljhcempoaa

/- The lowest bit that is set: of numbers, of words (as the library finds it), of classes. -/
import Derived.Test.YticpndkcicgenaaDoorBwTab
import Derived.Test.YticpndkcicgenaaDoorCls
namespace Go.Proofs.YticpndkcicgenaaDoor
open Go.Bw
attribute [local irreducible] Go.Bw.OpS
set_option maxHeartbeats 4000000
set_option linter.all false

/-- the lowest bit -/
def low (n : Nat) : Nat := if h : n = 0 ∨ n % 2 = 1 then 0 else low (n / 2) + 1
termination_by n
decreasing_by omega
theorem low_spec (n : Nat) : n ≠ 0 → n.testBit (low n) = true ∧ ∀ j, j < low n → n.testBit j = false := by
  induction n using Nat.strongRecOn with
  | ind n ih =>
    intro h0
    unfold low
    split
    · rename_i h
      refine ⟨?_, fun j hj => by omega⟩
      rw [Nat.testBit_zero]
      simpa using (h.resolve_left h0)
    · rename_i h
      obtain ⟨h1, h2⟩ := ih (n / 2) (by omega) (by omega)
      refine ⟨by rw [Nat.testBit_succ]; exact h1, fun j hj => ?_⟩
      cases j with
      | zero => rw [Nat.testBit_zero]; simp; omega
      | succ j => rw [Nat.testBit_succ]; exact h2 j (by omega)
theorem low_unique {n k : Nat} (h1 : n.testBit k = true) (h2 : ∀ j, j < k → n.testBit j = false) : low n = k := by
  have h0 : n ≠ 0 := by intro h; subst h; simp at h1
  obtain ⟨h3, h4⟩ := low_spec n h0
  rcases Nat.lt_trichotomy (low n) k with h | h | h
  · rw [h2 _ h] at h3; cases h3
  · exact h
  · rw [h4 _ h] at h1; cases h1
theorem low_lt {n m : Nat} (h0 : n ≠ 0) (h : n < 2 ^ m) : low n < m := by
  rcases Nat.lt_or_ge (low n) m with h1 | h1
  · exact h1
  · have := (low_spec n h0).1
    rw [Nat.testBit_lt_two_pow (Nat.lt_of_lt_of_le h (Nat.pow_le_pow_right (by decide) h1))] at this
    cases this

def deB : List Nat := [0, 1, 56, 2, 57, 49, 28, 3, 61, 58, 42, 50, 38, 29, 17, 4, 62, 47, 59, 36, 45, 43, 51, 22, 53, 39, 33, 30, 24, 18, 12, 5, 63, 55, 48, 27, 60, 41, 37, 16, 46, 35, 44, 21, 52, 32, 23, 11, 54, 26, 40, 15, 34, 20, 31, 10, 25, 14, 19, 9, 13, 8, 7, 6]
theorem deB_ok : ((List.range 64).all fun k => decide (2 ^ k * 285870213051353865 % 18446744073709551616 / 288230376151711744 < 64) && (deB.getD (2 ^ k * 285870213051353865 % 18446744073709551616 / 288230376151711744) 0 == k)) = true := by kernel_rfl
theorem deB_at (k : Nat) (h : k < 64) : 2 ^ k * 285870213051353865 % 18446744073709551616 / 288230376151711744 < 64 ∧ deB.getD (2 ^ k * 285870213051353865 % 18446744073709551616 / 288230376151711744) 0 = k := by
  have := List.all_eq_true.1 deB_ok k (List.mem_range.2 h)
  simpa using this
/-- The table's cells in memory. -/
def tabG (g : Nat) : List (Addr × Value) := (List.range 64).map fun i => (⟨g, i, none⟩, .int .u8 (deB.getD i 0 : Nat))
theorem tabG_mem (g i : Nat) (h : i < 64) : ((⟨g, i, none⟩ : Addr), Value.int .u8 ((deB.getD i 0 : Nat) : Int)) ∈ tabG g := List.mem_map.2 ⟨i, List.mem_range.2 h, rfl⟩

/-- x & -x has the lowest bit alone. -/
theorem and_neg (x : BitVec 64) (h0 : x ≠ 0#64) : (x &&& -x).toNat = 2 ^ low x.toNat := by
  have hn : x.toNat ≠ 0 := fun h => h0 (BitVec.eq_of_toNat_eq (by simpa using h))
  obtain ⟨h1, h2⟩ := low_spec x.toNat hn
  have hk : low x.toNat < 64 := low_lt hn x.isLt
  generalize hlow : low x.toNat = k at *
  -- x = 2^k * (2 m + 1)
  have hmod : x.toNat % 2 ^ k = 0 := by
    apply Nat.eq_of_testBit_eq
    intro j
    rw [Nat.testBit_mod_two_pow, Nat.zero_testBit]
    by_cases hj : j < k
    · simp [h2 j hj]
    · simp [hj]
  have hq : x.toNat / 2 ^ k % 2 = 1 := by
    rw [Nat.testBit_eq_decide_div_mod_eq] at h1
    simpa using h1
  have hx : x.toNat = 2 ^ k * (x.toNat / 2 ^ k) := by
    have := Nat.div_add_mod x.toNat (2 ^ k); omega
  generalize hm : x.toNat / 2 ^ k = q at *
  have hneg : -x = ~~~(x - 1#64) := by rw [BitVec.neg_eq_not_add]; bv_omega
  have hsub : (x - 1#64).toNat = 2 ^ k * (q - 1) + (2 ^ k - 1) := by
    have hp : 0 < 2 ^ k := Nat.pow_pos (by decide)
    have hxl := x.isLt
    rw [BitVec.toNat_sub]
    simp only [BitVec.toNat_ofNat]
    have e : 2 ^ k * q = 2 ^ k * (q - 1) + 2 ^ k := by
      conv => lhs; rw [show q = (q - 1) + 1 by omega]
      rw [Nat.mul_add, Nat.mul_one]
    omega
  apply Nat.eq_of_testBit_eq
  intro j
  rw [hneg, BitVec.toNat_and, BitVec.toNat_not, Nat.testBit_and, Nat.testBit_two_pow]
  by_cases hj64 : j < 64
  · rw [show 2 ^ 64 - 1 - (x - 1#64).toNat = 2 ^ 64 - ((x - 1#64).toNat + 1) by omega, Nat.testBit_two_pow_sub_succ (x - 1#64).isLt, hsub]
    rw [Nat.testBit_two_pow_mul_add _ (by have : 0 < 2 ^ k := Nat.pow_pos (by decide); omega)]
    rcases Nat.lt_trichotomy j k with h | h | h
    · simp [h2 j h, Nat.ne_of_gt h]
    · subst h
      simp [h1, hj64, Nat.testBit_zero]
      omega
    · rw [if_neg (by omega), hx, Nat.mul_comm, Nat.testBit_mul_two_pow]
      have hge : k ≤ j := by omega
      have hd : decide (k ≤ j) = true := by simpa using hge
      rw [hd]
      have e1 : q.testBit (j - k) = (q - 1).testBit (j - k) := by
        obtain ⟨i, hi⟩ : ∃ i, j - k = i + 1 := ⟨j - k - 1, by omega⟩
        rw [hi, Nat.testBit_succ, Nat.testBit_succ]
        congr 1; omega
      rw [e1]
      have : ¬ k = j := by omega
      simp [this, hj64]
  · rw [Nat.testBit_lt_two_pow (Nat.lt_of_lt_of_le x.isLt (Nat.pow_le_pow_right (by decide) (by omega)))]
    have : ¬ k = j := by omega
    simp [this]
end Go.Proofs.YticpndkcicgenaaDoor

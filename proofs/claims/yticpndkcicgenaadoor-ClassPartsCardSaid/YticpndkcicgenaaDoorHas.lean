/- Contracts: membership in a class, of the program and of the reference. -/
import Derived.Test.YticpndkcicgenaaDoorBwTab
import Derived.Test.YticpndkcicgenaaDoorLow
set_option linter.unusedVariables false
namespace Go.Proofs.YticpndkcicgenaaDoor
open Go.Bw
attribute [local irreducible] Go.Bw.OpS
set_option maxHeartbeats 4000000
set_option linter.all false

theorem wd_bit (c : Cls) (i j : Nat) (hj : j < 64) : decide (wd c i / 2 ^ j % 2 = 1) = c.getLsbD (64 * i + j) := by
  have h1 : (wb c i).getLsbD j = c.getLsbD (64 * i + j) := by
    unfold wb
    rw [BitVec.getLsbD_extractLsb']
    simp [hj]
  rw [← h1, BitVec.getLsbD, Nat.testBit_eq_decide_div_mod_eq]
  unfold wd
  congr 1
  apply propext
  rw [show ((wb c i).toNat : Int) / 2 ^ j % 2 = (((wb c i).toNat / 2 ^ j % 2 : Nat) : Int) by push_cast; rfl]
  omega
theorem bit_and63 : ((List.range 256).all fun b => ibit .and .u8 (b : Int) 63 == ((b % 64 : Nat) : Int)) = true := by decide +kernel
theorem and63 (b : Nat) (hb : b < 256) : ibit .and .u8 (b : Int) 63 = ((b % 64 : Nat) : Int) := by
  have := List.all_eq_true.1 bit_and63 b (List.mem_range.2 hb)
  simpa using this
theorem and1 (x : Int) (h0 : 0 ≤ x) (h1 : x < 18446744073709551616) : ibit .and .u64 x 1 = x % 2 := by
  show IntKind.u64.wrap ((BitVec.ofInt 64 x &&& BitVec.ofInt 64 1).toNat : Int) = _
  obtain ⟨n, rfl⟩ := Int.eq_ofNat_of_zero_le h0
  have : (BitVec.ofInt 64 (n : Int) &&& BitVec.ofInt 64 1).toNat = n % 2 := by
    rw [BitVec.toNat_and, BitVec.ofInt_natCast, BitVec.toNat_ofNat, Nat.mod_eq_of_lt (by omega)]
    show n &&& 1 = n % 2
    exact Nat.and_one_is_mod n
  rw [this, IntWalk.u64_in _ (by omega)]
  omega
theorem rhas_res (c : Cls) (b : Nat) (hb : b < 256) : sb (wd c ((b : Int) / 64).toNat / 2 ^ ((b : Int) % 64).toNat % 2 = 1) = c.getLsbD b := by
  unfold sb
  rw [show ((b : Int) % 64).toNat = b % 64 by omega, show ((b : Int) / 64).toNat = b / 64 by omega, wd_bit c (b / 64) (b % 64) (by omega), show 64 * (b / 64) + b % 64 = b by omega]
theorem has_res (c : Cls) (b : Nat) (hb : b < 256) : sb (ibit .and .u64 (wd c ((b : Int) / 2 ^ Int.toNat 6).toNat / 2 ^ (ibit .and .u8 (b : Int) 63).toNat) 1 = 1) = c.getLsbD b := by
  rw [show ((b : Int) / 2 ^ Int.toNat 6).toNat = b / 64 by (have : Int.toNat 6 = 6 := rfl); rw [this]; omega, and63 b hb, and1]
  · unfold sb
    rw [Int.toNat_natCast, wd_bit c (b / 64) (b % 64) (by omega), show 64 * (b / 64) + b % 64 = b by omega]
  · exact Int.ediv_nonneg (wd_range c _).1 (Int.pow_nonneg (by decide))
  · have h1 := wd_range c (b / 64)
    exact Int.lt_of_le_of_lt (Int.ediv_le_self _ h1.1) (by omega)
theorem rhas_ac (G) (c : Cls) (b : Nat) (hb : b < 256) : ACalls Tryd.prog G 35 [clsA c, AI .i64 (b : Int)] [] [] [] [] (AB (c.getLsbD b)) := by
  refine acalls_fn xt Tryd.func35 [AB (c.getLsbD b)] rfl rfl rfl ?_
  (intro φ0 F0 w0; conv => whnf)
  repeat (first | (refine code_ap xt ?_; conv => whnf) | (refine And.intro (by omega) ?_; conv => whnf) | (refine And.intro (by simp only [andP, addO, mulO, IntKind.bits, Int.reduceToNat]; omega) ?_; conv => whnf) | (refine And.intro (draw_ok (by kernel_rfl) (by kernel_rfl)) ?_; conv => whnf) | (refine cond_T (by first | with_reducible assumption | omega) ?_) | (refine cond_F (by first | with_reducible assumption | omega) ?_) | (refine bcond_T (by first | with_reducible assumption | omega) ?_; conv => whnf) | (refine bcond_F (by first | with_reducible assumption | omega) ?_; conv => whnf) | (refine bcond_ble (by first | omega | (simp only [addO, mulO, Int.reduceToNat]; omega)) ?_; conv => whnf))
  ((repeat' (refine And.intro ?_ ?_)) <;> first | exact rhas_res c b hb | exact rfl | exact trivial | exact fun _ _ _ _ => CoD.refl _ | exact fun _ _ => CoD.refl _ | exact Nat.le_refl _ | omega | ((conv => whnf); first | exact rhas_res c b hb | omega | rfl))
theorem has_ac (G) (c : Cls) (b : Nat) (hb : b < 256) : ACalls Tryd.prog G 37 [clsA c, AI .u8 (b : Int)] [] [] [] [] (AB (c.getLsbD b)) := by
  refine acalls_fn xt Tryd.func37 [AB (c.getLsbD b)] rfl rfl rfl ?_
  (intro φ0 F0 w0; conv => whnf)
  repeat (first | (refine code_ap xt ?_; conv => whnf) | (refine And.intro (by omega) ?_; conv => whnf) | (refine And.intro (by simp only [andP, addO, mulO, IntKind.bits, Int.reduceToNat]; omega) ?_; conv => whnf) | (refine And.intro (draw_ok (by kernel_rfl) (by kernel_rfl)) ?_; conv => whnf) | (refine cond_T (by first | with_reducible assumption | omega) ?_) | (refine cond_F (by first | with_reducible assumption | omega) ?_) | (refine bcond_T (by first | with_reducible assumption | omega) ?_; conv => whnf) | (refine bcond_F (by first | with_reducible assumption | omega) ?_; conv => whnf) | (refine bcond_ble (by first | omega | (simp only [addO, mulO, Int.reduceToNat]; omega)) ?_; conv => whnf))
  have h63 := and63 b hb
  repeat (first | refine And.intro (by rw [h63, IntKind.bits]; omega) ?_; conv => whnf | (refine code_ap xt ?_; conv => whnf) | (refine And.intro (by omega) ?_; conv => whnf) | (refine And.intro (by simp only [andP, addO, mulO, IntKind.bits, Int.reduceToNat]; omega) ?_; conv => whnf) | (refine And.intro (draw_ok (by kernel_rfl) (by kernel_rfl)) ?_; conv => whnf) | (refine cond_T (by first | with_reducible assumption | omega) ?_) | (refine cond_F (by first | with_reducible assumption | omega) ?_) | (refine bcond_T (by first | with_reducible assumption | omega) ?_; conv => whnf) | (refine bcond_F (by first | with_reducible assumption | omega) ?_; conv => whnf) | (refine bcond_ble (by first | omega | (simp only [addO, mulO, Int.reduceToNat]; omega)) ?_; conv => whnf))
  ((repeat' (refine And.intro ?_ ?_)) <;> first | exact has_res c b hb | exact rfl | exact trivial | exact fun _ _ _ _ => CoD.refl _ | exact fun _ _ => CoD.refl _ | exact Nat.le_refl _ | omega | ((conv => whnf); first | exact has_res c b hb | omega | rfl))
end Go.Proofs.YticpndkcicgenaaDoor

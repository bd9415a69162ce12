/- Contracts of the functions on classes of bytes. -/
import Derived.Test.YticpndkcicgenaaDoorBwTab
set_option linter.unusedVariables false
namespace Go.Proofs.YticpndkcicgenaaDoor
open Go.Bw
attribute [local irreducible] Go.Bw.OpS
set_option maxHeartbeats 4000000
set_option linter.all false
abbrev Cls := BitVec 256
def wb (c : Cls) (i : Nat) : BitVec 64 := c.extractLsb' (64 * i) 64
def wd (c : Cls) (i : Nat) : Int := ((wb c i).toNat : Int)
def clsD (c : Cls) : Nat → D := fun j => .raw (.int .u64 (wd c j))
def clsC (c : Cls) : Nat → C := fun j => .d (.raw (.int .u64 (wd c j)))
def clsA (c : Cls) : AV := .agg 4 (clsC c)

theorem wd_range (c : Cls) (i : Nat) : 0 ≤ wd c i ∧ wd c i ≤ 18446744073709551615 := by
  unfold wd
  have := (wb c i).isLt
  omega
theorem wb_of (c : Cls) (i : Nat) : BitVec.ofInt 64 (wd c i) = wb c i := by
  unfold wd
  rw [BitVec.ofInt_natCast, BitVec.ofNat_toNat, BitVec.setWidth_eq]
theorem ibit_u64 (x : BitVec 64) : IntKind.u64.wrap (x.toNat : Int) = (x.toNat : Int) := IntWalk.u64_in _ (by have := x.isLt; omega)
theorem wd_not (c : Cls) (i : Nat) (hi : i < 4) : ibit .xor .u64 (if IntKind.u64.signed then -1 else IntKind.u64.max) (wd c i) = wd (~~~c) i := by
  show IntKind.u64.wrap ((BitVec.ofInt 64 _ ^^^ BitVec.ofInt 64 (wd c i)).toNat : Int) = _
  rw [wb_of, ibit_u64]
  unfold wd
  congr 2
  rw [show (BitVec.ofInt 64 (if IntKind.u64.signed = true then -1 else IntKind.u64.max)) = BitVec.allOnes 64 from rfl]
  rw [BitVec.allOnes_xor]
  unfold wb
  ext j hj
  simp only [BitVec.getElem_not, BitVec.getElem_extractLsb', BitVec.getLsbD_not]
  have : 64 * i + j < 256 := by omega
  simp [this]
theorem wd_and (c d : Cls) (i : Nat) : ibit .and .u64 (wd c i) (wd d i) = wd (c &&& d) i := by
  show IntKind.u64.wrap ((BitVec.ofInt 64 (wd c i) &&& BitVec.ofInt 64 (wd d i)).toNat : Int) = _
  rw [wb_of, wb_of, ibit_u64]
  unfold wd
  congr 2
  unfold wb
  ext j hj
  simp
theorem wd_or (c d : Cls) (i : Nat) : ibit .or .u64 (wd c i) (wd d i) = wd (c ||| d) i := by
  show IntKind.u64.wrap ((BitVec.ofInt 64 (wd c i) ||| BitVec.ofInt 64 (wd d i)).toNat : Int) = _
  rw [wb_of, wb_of, ibit_u64]
  unfold wd
  congr 2
  unfold wb
  ext j hj
  simp

theorem not_ac (G) (c : Cls) : ACalls Tryd.prog G 31 [clsA c] [] [] [] [] (clsA (~~~c)) := by
  refine acalls_fn xt Tryd.func31 [clsA (~~~c)] rfl rfl rfl ?_
  (intro φ0 F0 w0; conv => whnf)
  repeat (first | (refine code_ap xt ?_; conv => whnf) | (refine And.intro (by omega) ?_; conv => whnf) | (refine And.intro (by simp only [andP, addO, mulO, IntKind.bits, Int.reduceToNat]; omega) ?_; conv => whnf) | (refine And.intro (draw_ok (by kernel_rfl) (by kernel_rfl)) ?_; conv => whnf) | (refine cond_T (by first | with_reducible assumption | omega) ?_) | (refine cond_F (by first | with_reducible assumption | omega) ?_) | (refine bcond_T (by first | with_reducible assumption | omega) ?_; conv => whnf) | (refine bcond_F (by first | with_reducible assumption | omega) ?_; conv => whnf) | (refine bcond_ble (by first | omega | (simp only [addO, mulO, Int.reduceToNat]; omega)) ?_; conv => whnf))
  refine loop_rounds 5 ?_
  conv => whnf
  repeat (first | (refine code_ap xt ?_; conv => whnf) | (refine And.intro (by omega) ?_; conv => whnf) | (refine And.intro (by simp only [andP, addO, mulO, IntKind.bits, Int.reduceToNat]; omega) ?_; conv => whnf) | (refine And.intro (draw_ok (by kernel_rfl) (by kernel_rfl)) ?_; conv => whnf) | (refine cond_T (by first | with_reducible assumption | omega) ?_) | (refine cond_F (by first | with_reducible assumption | omega) ?_) | (refine bcond_T (by first | with_reducible assumption | omega) ?_; conv => whnf) | (refine bcond_F (by first | with_reducible assumption | omega) ?_; conv => whnf) | (refine bcond_ble (by first | omega | (simp only [addO, mulO, Int.reduceToNat]; omega)) ?_; conv => whnf))
  ((repeat' (refine And.intro ?_ ?_)) <;> first | exact wd_not c _ (by decide) | exact rfl | exact trivial | exact fun _ _ _ _ => CoD.refl _ | exact fun _ _ => CoD.refl _ | exact Nat.le_refl _ | omega | ((conv => whnf); first | exact wd_not c _ (by decide) | omega | rfl))
theorem meet_ac (G) (c d : Cls) : ACalls Tryd.prog G 32 [clsA c, clsA d] [] [] [] [] (clsA (c &&& d)) := by
  refine acalls_fn xt Tryd.func32 [clsA (c &&& d)] rfl rfl rfl ?_
  (intro φ0 F0 w0; conv => whnf)
  repeat (first | (refine code_ap xt ?_; conv => whnf) | (refine And.intro (by omega) ?_; conv => whnf) | (refine And.intro (by simp only [andP, addO, mulO, IntKind.bits, Int.reduceToNat]; omega) ?_; conv => whnf) | (refine And.intro (draw_ok (by kernel_rfl) (by kernel_rfl)) ?_; conv => whnf) | (refine cond_T (by first | with_reducible assumption | omega) ?_) | (refine cond_F (by first | with_reducible assumption | omega) ?_) | (refine bcond_T (by first | with_reducible assumption | omega) ?_; conv => whnf) | (refine bcond_F (by first | with_reducible assumption | omega) ?_; conv => whnf) | (refine bcond_ble (by first | omega | (simp only [addO, mulO, Int.reduceToNat]; omega)) ?_; conv => whnf))
  refine loop_rounds 5 ?_
  conv => whnf
  repeat (first | (refine code_ap xt ?_; conv => whnf) | (refine And.intro (by omega) ?_; conv => whnf) | (refine And.intro (by simp only [andP, addO, mulO, IntKind.bits, Int.reduceToNat]; omega) ?_; conv => whnf) | (refine And.intro (draw_ok (by kernel_rfl) (by kernel_rfl)) ?_; conv => whnf) | (refine cond_T (by first | with_reducible assumption | omega) ?_) | (refine cond_F (by first | with_reducible assumption | omega) ?_) | (refine bcond_T (by first | with_reducible assumption | omega) ?_; conv => whnf) | (refine bcond_F (by first | with_reducible assumption | omega) ?_; conv => whnf) | (refine bcond_ble (by first | omega | (simp only [addO, mulO, Int.reduceToNat]; omega)) ?_; conv => whnf))
  ((repeat' (refine And.intro ?_ ?_)) <;> first | exact wd_and c d _ | exact rfl | exact trivial | exact fun _ _ _ _ => CoD.refl _ | exact fun _ _ => CoD.refl _ | exact Nat.le_refl _ | omega | ((conv => whnf); first | exact wd_and c d _ | omega | rfl))
theorem join_ac (G) (c d : Cls) : ACalls Tryd.prog G 76 [clsA c, clsA d] [] [] [] [] (clsA (c ||| d)) := by
  refine acalls_fn xt Tryd.func76 [clsA (c ||| d)] rfl rfl rfl ?_
  (intro φ0 F0 w0; conv => whnf)
  repeat (first | (refine code_ap xt ?_; conv => whnf) | (refine And.intro (by omega) ?_; conv => whnf) | (refine And.intro (by simp only [andP, addO, mulO, IntKind.bits, Int.reduceToNat]; omega) ?_; conv => whnf) | (refine And.intro (draw_ok (by kernel_rfl) (by kernel_rfl)) ?_; conv => whnf) | (refine cond_T (by first | with_reducible assumption | omega) ?_) | (refine cond_F (by first | with_reducible assumption | omega) ?_) | (refine bcond_T (by first | with_reducible assumption | omega) ?_; conv => whnf) | (refine bcond_F (by first | with_reducible assumption | omega) ?_; conv => whnf) | (refine bcond_ble (by first | omega | (simp only [addO, mulO, Int.reduceToNat]; omega)) ?_; conv => whnf))
  refine loop_rounds 5 ?_
  conv => whnf
  repeat (first | (refine code_ap xt ?_; conv => whnf) | (refine And.intro (by omega) ?_; conv => whnf) | (refine And.intro (by simp only [andP, addO, mulO, IntKind.bits, Int.reduceToNat]; omega) ?_; conv => whnf) | (refine And.intro (draw_ok (by kernel_rfl) (by kernel_rfl)) ?_; conv => whnf) | (refine cond_T (by first | with_reducible assumption | omega) ?_) | (refine cond_F (by first | with_reducible assumption | omega) ?_) | (refine bcond_T (by first | with_reducible assumption | omega) ?_; conv => whnf) | (refine bcond_F (by first | with_reducible assumption | omega) ?_; conv => whnf) | (refine bcond_ble (by first | omega | (simp only [addO, mulO, Int.reduceToNat]; omega)) ?_; conv => whnf))
  ((repeat' (refine And.intro ?_ ?_)) <;> first | exact wd_or c d _ | exact rfl | exact trivial | exact fun _ _ _ _ => CoD.refl _ | exact fun _ _ => CoD.refl _ | exact Nat.le_refl _ | omega | ((conv => whnf); first | exact wd_or c d _ | omega | rfl))
end Go.Proofs.YticpndkcicgenaaDoor

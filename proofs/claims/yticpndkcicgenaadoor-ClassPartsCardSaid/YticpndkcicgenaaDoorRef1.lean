/- The reference's parts: contracts of its membership test by closure, of the class where a test holds. -/
import Derived.Test.YticpndkcicgenaaDoorBwTab
import Derived.Test.YticpndkcicgenaaDoorEq
set_option linter.unusedVariables false
namespace Go.Proofs.YticpndkcicgenaaDoor
open Go.Bw
attribute [local irreducible] Go.Bw.OpS
set_option maxHeartbeats 4000000
set_option linter.all false

def alike (L : List Cls) (b c : Nat) : Bool := L.all fun x => x.getLsbD b == x.getLsbD c
def ofB (f : Nat → Bool) : Nat → Cls
  | 0 => 0#256
  | k + 1 => if f k then ofB f k ||| BitVec.twoPow 256 k else ofB f k
theorem ofB_bit (f : Nat → Bool) : ∀ (k : Nat), k ≤ 256 → ∀ j, (ofB f k).getLsbD j = (decide (j < k) && f j)
  | 0, _, j => by simp [ofB]
  | k + 1, hk, j => by
    have ih := ofB_bit f k (by omega) j
    unfold ofB
    by_cases hjk : j = k
    · subst hjk
      split
      · rename_i h
        rw [BitVec.getLsbD_or, ih, BitVec.getLsbD_twoPow]
        simp [h]; omega
      · rename_i h
        rw [ih]; simp at h; simp [h]
    · have h1 : decide (j < k + 1) = decide (j < k) := by
        rw [decide_eq_decide]; omega
      split
      · rw [BitVec.getLsbD_or, ih, BitVec.getLsbD_twoPow, h1]
        have : decide (k = j) = false := by simp; omega
        simp [this]
      · rw [ih, h1]
def cl (L : List Cls) (b : Nat) : Cls := ofB (alike L b) 256
theorem cl_bit (L : List Cls) (b j : Nat) (hj : j < 256) : (cl L b).getLsbD j = alike L b j := by
  unfold cl
  rw [ofB_bit _ _ (Nat.le_refl _)]
  simp [hj]
def isFirst (L : List Cls) (b : Nat) : Bool := (List.range b).all fun c => !alike L b c
def refParts (L : List Cls) : List Cls := ((List.range 256).filter (isFirst L)).map (cl L)

theorem wd_eq_of_bits {c d : Cls} {i : Nat} (h : ∀ j, j < 64 → c.getLsbD (64 * i + j) = d.getLsbD (64 * i + j)) : wd c i = wd d i := by
  unfold wd
  congr 1
  apply Nat.eq_of_testBit_eq
  intro j
  by_cases hj : j < 64
  · rw [wb_bit c i j hj, wb_bit d i j hj, h j hj]
  · rw [Nat.testBit_lt_two_pow (Nat.lt_of_lt_of_le (wb c i).isLt (Nat.pow_le_pow_right (by decide) (by omega))), Nat.testBit_lt_two_pow (Nat.lt_of_lt_of_le (wb d i).isLt (Nat.pow_le_pow_right (by decide) (by omega)))]
theorem or_bit (c : Cls) (b : Nat) (hb : b < 256) : ibit .or .u64 (wd c (b / 64)) (IntKind.u64.wrap (1 * 2 ^ (b % 64))) = wd (c ||| BitVec.twoPow 256 b) (b / 64) := by
  have hlt : b % 64 < 64 := Nat.mod_lt _ (by decide)
  have e : IntKind.u64.wrap (1 * 2 ^ (b % 64)) = wd (BitVec.twoPow 256 b) (b / 64) := by
    have h1 : (wb (BitVec.twoPow 256 b) (b / 64)).toNat = 2 ^ (b % 64) := by
      apply Nat.eq_of_testBit_eq
      intro j
      rw [Nat.testBit_two_pow]
      by_cases hj : j < 64
      · rw [wb_bit _ _ _ hj, BitVec.getLsbD_twoPow]
        rw [Bool.eq_iff_iff]; simp; omega
      · rw [Nat.testBit_lt_two_pow (Nat.lt_of_lt_of_le (wb _ _).isLt (Nat.pow_le_pow_right (by decide) (by omega)))]
        have : ¬ b % 64 = j := by omega
        simp [this]
    unfold wd
    rw [h1, Int.one_mul, IntWalk.u64_in]
    · norm_cast
    · have : 2 ^ (b % 64) ≤ 2 ^ 63 := Nat.pow_le_pow_right (by decide) (by omega)
      have h2 : ((2 : Int) ^ (b % 64)) = ((2 ^ (b % 64) : Nat) : Int) := by norm_cast
      rw [h2]
      omega
  rw [e, wd_or]

abbrev lC (L : List Cls) : C := .d (.lst 4 L.length (fun i => clsD (L.getD i 0#256)))
abbrev lO (L : List Cls) : AObj := .var 1 (fun _ => lC L)
abbrev iO (b : Nat) : AObj := .var 1 (fun _ => .d (.raw (.int .i64 (b : Int))))
theorem wd_zero (i : Nat) : wd 0#256 i = 0 := by
  unfold wd wb
  simp
theorem alike_ac (G) (L : List Cls) (b c : Nat) (hb : b < 256) (hc : c < 256) : ACalls Tryd.prog G 34 [AI .i64 (c : Int), .one (.ptr (1, 0) 0), .one (.ptr (4, 0) 0)] [((1, 0), lO L), ((4, 0), iO b)] [] [] [] (AB (alike L b c)) := by
  refine acalls_fn xt Tryd.func34 [AB (alike L b c)] rfl rfl rfl ?_
  (intro φ0 F0 w0; conv => whnf)
  repeat (first | (refine code_ap xt ?_; conv => whnf) | (refine And.intro (by omega) ?_; conv => whnf) | (refine And.intro (by simp only [andP, addO, mulO, IntKind.bits, Int.reduceToNat]; omega) ?_; conv => whnf) | (refine And.intro (draw_ok (by kernel_rfl) (by kernel_rfl)) ?_; conv => whnf) | (refine cond_T (by first | with_reducible assumption | omega) ?_) | (refine cond_F (by first | with_reducible assumption | omega) ?_) | (refine bcond_T (by first | with_reducible assumption | omega) ?_; conv => whnf) | (refine bcond_F (by first | with_reducible assumption | omega) ?_; conv => whnf) | (refine bcond_ble (by first | omega | (simp only [addO, mulO, Int.reduceToNat]; omega)) ?_; conv => whnf))
  refine loop_u (fun (i : Nat) => i ≤ L.length ∧ ∀ j, j < i → ((L.getD j 0#256).getLsbD b == (L.getD j 0#256).getLsbD c) = true) (fun i => [(5, AI .i64 (i : Int)), (4, AB false)]) (fun i => []) (fun i => L.length - i) 0 ⟨by omega, by intro j hj; omega⟩ ?_
  conv => whnf
  refine And.intro ?_ ?_
  · conv => whnf
    ((repeat' (refine And.intro ?_ ?_)) <;> first | exact rfl | exact trivial | exact fun _ _ _ _ => CoD.refl _ | exact fun _ _ => CoD.refl _ | exact Nat.le_refl _ | omega | ((conv => whnf); first | omega | rfl))
  · intro i ⟨hi, hz⟩
    repeat (first | (refine code_ap xt ?_; conv => whnf) | (refine And.intro (by omega) ?_; conv => whnf) | (refine And.intro (by simp only [andP, addO, mulO, IntKind.bits, Int.reduceToNat]; omega) ?_; conv => whnf) | (refine And.intro (draw_ok (by kernel_rfl) (by kernel_rfl)) ?_; conv => whnf) | (refine cond_T (by first | with_reducible assumption | omega) ?_) | (refine cond_F (by first | with_reducible assumption | omega) ?_) | (refine bcond_T (by first | with_reducible assumption | omega) ?_; conv => whnf) | (refine bcond_F (by first | with_reducible assumption | omega) ?_; conv => whnf) | (refine bcond_ble (by first | omega | (simp only [addO, mulO, Int.reduceToNat]; omega)) ?_; conv => whnf))
    refine cond_s (fun hc => ?_) (fun hc => ?_)
    · have hiL : i < L.length := by omega
      repeat (first | (refine code_ap xt ?_; conv => whnf) | (refine And.intro (by omega) ?_; conv => whnf) | (refine And.intro (by simp only [andP, addO, mulO, IntKind.bits, Int.reduceToNat]; omega) ?_; conv => whnf) | (refine And.intro (draw_ok (by kernel_rfl) (by kernel_rfl)) ?_; conv => whnf) | (refine cond_T (by first | with_reducible assumption | omega) ?_) | (refine cond_F (by first | with_reducible assumption | omega) ?_) | (refine bcond_T (by first | with_reducible assumption | omega) ?_; conv => whnf) | (refine bcond_F (by first | with_reducible assumption | omega) ?_; conv => whnf) | (refine bcond_ble (by first | omega | (simp only [addO, mulO, Int.reduceToNat]; omega)) ?_; conv => whnf))
      (refine opx_call (rhas_ac G (L.getD i 0#256) b hb) (by kernel_rfl) rfl ?_; (conv => whnf); repeat (refine And.intro ?_ ?_; (focus (((repeat' (refine And.intro ?_ ?_)) <;> first | exact rfl | exact trivial | exact fun _ _ _ _ => CoD.refl _ | exact fun _ _ => CoD.refl _ | exact Nat.le_refl _ | omega | ((conv => whnf); first | omega | rfl)); done)); conv => whnf))
      repeat (first | (refine code_ap xt ?_; conv => whnf) | (refine And.intro (by omega) ?_; conv => whnf) | (refine And.intro (by simp only [andP, addO, mulO, IntKind.bits, Int.reduceToNat]; omega) ?_; conv => whnf) | (refine And.intro (draw_ok (by kernel_rfl) (by kernel_rfl)) ?_; conv => whnf) | (refine cond_T (by first | with_reducible assumption | omega) ?_) | (refine cond_F (by first | with_reducible assumption | omega) ?_) | (refine bcond_T (by first | with_reducible assumption | omega) ?_; conv => whnf) | (refine bcond_F (by first | with_reducible assumption | omega) ?_; conv => whnf) | (refine bcond_ble (by first | omega | (simp only [addO, mulO, Int.reduceToNat]; omega)) ?_; conv => whnf))
      (refine opx_call (rhas_ac G (L.getD i 0#256) c (by assumption)) (by kernel_rfl) rfl ?_; (conv => whnf); repeat (refine And.intro ?_ ?_; (focus (((repeat' (refine And.intro ?_ ?_)) <;> first | exact rfl | exact trivial | exact fun _ _ _ _ => CoD.refl _ | exact fun _ _ => CoD.refl _ | exact Nat.le_refl _ | omega | ((conv => whnf); first | omega | rfl)); done)); conv => whnf))
      repeat (first | (refine code_ap xt ?_; conv => whnf) | (refine And.intro (by omega) ?_; conv => whnf) | (refine And.intro (by simp only [andP, addO, mulO, IntKind.bits, Int.reduceToNat]; omega) ?_; conv => whnf) | (refine And.intro (draw_ok (by kernel_rfl) (by kernel_rfl)) ?_; conv => whnf) | (refine cond_T (by first | with_reducible assumption | omega) ?_) | (refine cond_F (by first | with_reducible assumption | omega) ?_) | (refine bcond_T (by first | with_reducible assumption | omega) ?_; conv => whnf) | (refine bcond_F (by first | with_reducible assumption | omega) ?_; conv => whnf) | (refine bcond_ble (by first | omega | (simp only [addO, mulO, Int.reduceToNat]; omega)) ?_; conv => whnf))
      refine cond_b (fun hd => ?_) (fun hd => ?_)
      · repeat (first | (refine code_ap xt ?_; conv => whnf) | (refine And.intro (by omega) ?_; conv => whnf) | (refine And.intro (by simp only [andP, addO, mulO, IntKind.bits, Int.reduceToNat]; omega) ?_; conv => whnf) | (refine And.intro (draw_ok (by kernel_rfl) (by kernel_rfl)) ?_; conv => whnf) | (refine cond_T (by first | with_reducible assumption | omega) ?_) | (refine cond_F (by first | with_reducible assumption | omega) ?_) | (refine bcond_T (by first | with_reducible assumption | omega) ?_; conv => whnf) | (refine bcond_F (by first | with_reducible assumption | omega) ?_; conv => whnf) | (refine bcond_ble (by first | omega | (simp only [addO, mulO, Int.reduceToNat]; omega)) ?_; conv => whnf))
        rw [show alike L b c = false from all_not 0#256 hiL (by simpa using hd)]
        ((repeat' (refine And.intro ?_ ?_)) <;> first | exact rfl | exact trivial | exact fun _ _ _ _ => CoD.refl _ | exact fun _ _ => CoD.refl _ | exact Nat.le_refl _ | omega | ((conv => whnf); first | omega | rfl))
      · refine code_lst 7 rfl fun hL => ?_
        repeat (first | (refine code_ap xt ?_; conv => whnf) | (refine And.intro (by omega) ?_; conv => whnf) | (refine And.intro (by simp only [andP, addO, mulO, IntKind.bits, Int.reduceToNat]; omega) ?_; conv => whnf) | (refine And.intro (draw_ok (by kernel_rfl) (by kernel_rfl)) ?_; conv => whnf) | (refine cond_T (by first | with_reducible assumption | omega) ?_) | (refine cond_F (by first | with_reducible assumption | omega) ?_) | (refine bcond_T (by first | with_reducible assumption | omega) ?_; conv => whnf) | (refine bcond_F (by first | with_reducible assumption | omega) ?_; conv => whnf) | (refine bcond_ble (by first | omega | (simp only [addO, mulO, Int.reduceToNat]; omega)) ?_; conv => whnf))
        (refine round_end (i + 1) (⟨by omega, upto_succ hz (by simpa using hd)⟩) (by (try dsimp only); omega) ?_; (conv => whnf); ((repeat' (refine And.intro ?_ ?_)) <;> first | exact rfl | exact trivial | exact fun _ _ _ _ => CoD.refl _ | exact fun _ _ => CoD.refl _ | exact Nat.le_refl _ | omega | ((conv => whnf); first | omega | rfl)))
    · have h4 : i = L.length := by omega
      repeat (first | (refine code_ap xt ?_; conv => whnf) | (refine And.intro (by omega) ?_; conv => whnf) | (refine And.intro (by simp only [andP, addO, mulO, IntKind.bits, Int.reduceToNat]; omega) ?_; conv => whnf) | (refine And.intro (draw_ok (by kernel_rfl) (by kernel_rfl)) ?_; conv => whnf) | (refine cond_T (by first | with_reducible assumption | omega) ?_) | (refine cond_F (by first | with_reducible assumption | omega) ?_) | (refine bcond_T (by first | with_reducible assumption | omega) ?_; conv => whnf) | (refine bcond_F (by first | with_reducible assumption | omega) ?_; conv => whnf) | (refine bcond_ble (by first | omega | (simp only [addO, mulO, Int.reduceToNat]; omega)) ?_; conv => whnf))
      rw [show alike L b c = true from all_upto 0#256 (by rw [← h4]; exact hz)]
      ((repeat' (refine And.intro ?_ ?_)) <;> first | exact rfl | exact trivial | exact fun _ _ _ _ => CoD.refl _ | exact fun _ _ => CoD.refl _ | exact Nat.le_refl _ | omega | ((conv => whnf); first | omega | rfl))
theorem bit_in {c d : Cls} {k q : Nat} (he : d = c ||| BitVec.twoPow 256 k) (hk : k < 256) (hq : k / 64 = q) : ibit .or .u64 (wd c q) (IntKind.u64.wrap (1 * 2 ^ ((k : Int) % 64).toNat)) = wd d q := by
  subst hq; subst he
  rw [show ((k : Int) % 64).toNat = k % 64 by omega]
  exact or_bit c k hk
theorem bit_out {c d : Cls} {k q : Nat} (he : d = c ||| BitVec.twoPow 256 k) (hq : k / 64 ≠ q) : wd c q = wd d q := by
  subst he
  refine wd_eq_of_bits fun j hj => ?_
  rw [BitVec.getLsbD_or, BitVec.getLsbD_twoPow]
  have : decide (k = 64 * q + j) = false := by simp; omega
  simp [this]
attribute [local irreducible] wd ibit in
theorem where_ac (G) (L : List Cls) (b : Nat) (hb : b < 256) : ACalls Tryd.prog G 36 [.one (.clo 34 2 (nth junkC [.ptr (1, 0) 0, .ptr (4, 0) 0]))] [((1, 0), lO L), ((4, 0), iO b)] [] [] [] (clsA (cl L b)) := by
  refine acalls_fn xt Tryd.func36 [clsA (cl L b)] rfl rfl rfl ?_
  (intro φ0 F0 w0; conv => whnf)
  repeat (first | (refine code_ap xt ?_; conv => whnf) | (refine And.intro (by omega) ?_; conv => whnf) | (refine And.intro (by simp only [andP, addO, mulO, IntKind.bits, Int.reduceToNat]; omega) ?_; conv => whnf) | (refine And.intro (draw_ok (by kernel_rfl) (by kernel_rfl)) ?_; conv => whnf) | (refine cond_T (by first | with_reducible assumption | omega) ?_) | (refine cond_F (by first | with_reducible assumption | omega) ?_) | (refine bcond_T (by first | with_reducible assumption | omega) ?_; conv => whnf) | (refine bcond_F (by first | with_reducible assumption | omega) ?_; conv => whnf) | (refine bcond_ble (by first | omega | (simp only [addO, mulO, Int.reduceToNat]; omega)) ?_; conv => whnf))
  refine loop_u (fun (k : Nat) => k ≤ 256) (fun k => [(4, AI .i64 (k : Int))]) (fun k => [((3, 0), some (.var 4 (clsC (ofB (alike L b) k))))]) (fun k => 256 - k) 0 (by omega) ?_
  conv => whnf
  refine And.intro ?_ ?_
  · conv => whnf
    ((repeat' (refine And.intro ?_ ?_)) <;> first | exact (wd_zero _).symm | exact rfl | exact trivial | exact fun _ _ _ _ => CoD.refl _ | exact fun _ _ => CoD.refl _ | exact Nat.le_refl _ | omega | ((conv => whnf); first | exact (wd_zero _).symm | omega | rfl))
  · intro k hk
    repeat (first | (refine code_ap xt ?_; conv => whnf) | (refine And.intro (by omega) ?_; conv => whnf) | (refine And.intro (by simp only [andP, addO, mulO, IntKind.bits, Int.reduceToNat]; omega) ?_; conv => whnf) | (refine And.intro (draw_ok (by kernel_rfl) (by kernel_rfl)) ?_; conv => whnf) | (refine cond_T (by first | with_reducible assumption | omega) ?_) | (refine cond_F (by first | with_reducible assumption | omega) ?_) | (refine bcond_T (by first | with_reducible assumption | omega) ?_; conv => whnf) | (refine bcond_F (by first | with_reducible assumption | omega) ?_; conv => whnf) | (refine bcond_ble (by first | omega | (simp only [addO, mulO, Int.reduceToNat]; omega)) ?_; conv => whnf))
    refine cond_s (fun hc => ?_) (fun hc => ?_)
    · have hk2 : k < 256 := by omega
      repeat (first | (refine code_ap xt ?_; conv => whnf) | (refine And.intro (by omega) ?_; conv => whnf) | (refine And.intro (by simp only [andP, addO, mulO, IntKind.bits, Int.reduceToNat]; omega) ?_; conv => whnf) | (refine And.intro (draw_ok (by kernel_rfl) (by kernel_rfl)) ?_; conv => whnf) | (refine cond_T (by first | with_reducible assumption | omega) ?_) | (refine cond_F (by first | with_reducible assumption | omega) ?_) | (refine bcond_T (by first | with_reducible assumption | omega) ?_; conv => whnf) | (refine bcond_F (by first | with_reducible assumption | omega) ?_; conv => whnf) | (refine bcond_ble (by first | omega | (simp only [addO, mulO, Int.reduceToNat]; omega)) ?_; conv => whnf))
      (refine opx_call (alike_ac G L b k hb hk2) (by kernel_rfl) rfl ?_; (conv => whnf); repeat (refine And.intro ?_ ?_; (focus (((repeat' (refine And.intro ?_ ?_)) <;> first | exact rfl | exact trivial | exact fun _ _ _ _ => CoD.refl _ | exact fun _ _ => CoD.refl _ | exact Nat.le_refl _ | omega | ((conv => whnf); first | omega | rfl)); done)); conv => whnf))
      repeat (first | (refine code_ap xt ?_; conv => whnf) | (refine And.intro (by omega) ?_; conv => whnf) | (refine And.intro (by simp only [andP, addO, mulO, IntKind.bits, Int.reduceToNat]; omega) ?_; conv => whnf) | (refine And.intro (draw_ok (by kernel_rfl) (by kernel_rfl)) ?_; conv => whnf) | (refine cond_T (by first | with_reducible assumption | omega) ?_) | (refine cond_F (by first | with_reducible assumption | omega) ?_) | (refine bcond_T (by first | with_reducible assumption | omega) ?_; conv => whnf) | (refine bcond_F (by first | with_reducible assumption | omega) ?_; conv => whnf) | (refine bcond_ble (by first | omega | (simp only [addO, mulO, Int.reduceToNat]; omega)) ?_; conv => whnf))
      refine cond_b (fun hd => ?_) (fun hd => ?_)
      · have he : ofB (alike L b) (k + 1) = ofB (alike L b) k ||| BitVec.twoPow 256 k := by show (if alike L b k = true then _ else _) = _; rw [if_pos hd]
        repeat (first | (refine code_ap xt ?_; conv => whnf) | (refine And.intro (by omega) ?_; conv => whnf) | (refine And.intro (by simp only [andP, addO, mulO, IntKind.bits, Int.reduceToNat]; omega) ?_; conv => whnf) | (refine And.intro (draw_ok (by kernel_rfl) (by kernel_rfl)) ?_; conv => whnf) | (refine cond_T (by first | with_reducible assumption | omega) ?_) | (refine cond_F (by first | with_reducible assumption | omega) ?_) | (refine bcond_T (by first | with_reducible assumption | omega) ?_; conv => whnf) | (refine bcond_F (by first | with_reducible assumption | omega) ?_; conv => whnf) | (refine bcond_ble (by first | omega | (simp only [addO, mulO, Int.reduceToNat]; omega)) ?_; conv => whnf))
        rcases (show k / 64 = 0 ∨ k / 64 = 1 ∨ k / 64 = 2 ∨ k / 64 = 3 by omega) with hq | hq | hq | hq
        · rw [show ((k : Int) / 64).toNat = 0 by omega]
          (refine round_end (k + 1) (by omega) (by (try dsimp only); omega) ?_; (conv => whnf); ((repeat' (refine And.intro ?_ ?_)) <;> first | exact bit_out he (by rw [hq]; decide) | exact bit_in he hk2 hq | exact rfl | exact trivial | exact fun _ _ _ _ => CoD.refl _ | exact fun _ _ => CoD.refl _ | exact Nat.le_refl _ | omega | ((conv => whnf); first | exact bit_out he (by rw [hq]; decide) | exact bit_in he hk2 hq | omega | rfl)))
        · rw [show ((k : Int) / 64).toNat = 1 by omega]
          (refine round_end (k + 1) (by omega) (by (try dsimp only); omega) ?_; (conv => whnf); ((repeat' (refine And.intro ?_ ?_)) <;> first | exact bit_out he (by rw [hq]; decide) | exact bit_in he hk2 hq | exact rfl | exact trivial | exact fun _ _ _ _ => CoD.refl _ | exact fun _ _ => CoD.refl _ | exact Nat.le_refl _ | omega | ((conv => whnf); first | exact bit_out he (by rw [hq]; decide) | exact bit_in he hk2 hq | omega | rfl)))
        · rw [show ((k : Int) / 64).toNat = 2 by omega]
          (refine round_end (k + 1) (by omega) (by (try dsimp only); omega) ?_; (conv => whnf); ((repeat' (refine And.intro ?_ ?_)) <;> first | exact bit_out he (by rw [hq]; decide) | exact bit_in he hk2 hq | exact rfl | exact trivial | exact fun _ _ _ _ => CoD.refl _ | exact fun _ _ => CoD.refl _ | exact Nat.le_refl _ | omega | ((conv => whnf); first | exact bit_out he (by rw [hq]; decide) | exact bit_in he hk2 hq | omega | rfl)))
        · rw [show ((k : Int) / 64).toNat = 3 by omega]
          (refine round_end (k + 1) (by omega) (by (try dsimp only); omega) ?_; (conv => whnf); ((repeat' (refine And.intro ?_ ?_)) <;> first | exact bit_out he (by rw [hq]; decide) | exact bit_in he hk2 hq | exact rfl | exact trivial | exact fun _ _ _ _ => CoD.refl _ | exact fun _ _ => CoD.refl _ | exact Nat.le_refl _ | omega | ((conv => whnf); first | exact bit_out he (by rw [hq]; decide) | exact bit_in he hk2 hq | omega | rfl)))
      · have he : ofB (alike L b) (k + 1) = ofB (alike L b) k := by show (if alike L b k = true then _ else _) = _; rw [if_neg (by rw [hd]; decide)]
        repeat (first | (refine code_ap xt ?_; conv => whnf) | (refine And.intro (by omega) ?_; conv => whnf) | (refine And.intro (by simp only [andP, addO, mulO, IntKind.bits, Int.reduceToNat]; omega) ?_; conv => whnf) | (refine And.intro (draw_ok (by kernel_rfl) (by kernel_rfl)) ?_; conv => whnf) | (refine cond_T (by first | with_reducible assumption | omega) ?_) | (refine cond_F (by first | with_reducible assumption | omega) ?_) | (refine bcond_T (by first | with_reducible assumption | omega) ?_; conv => whnf) | (refine bcond_F (by first | with_reducible assumption | omega) ?_; conv => whnf) | (refine bcond_ble (by first | omega | (simp only [addO, mulO, Int.reduceToNat]; omega)) ?_; conv => whnf))
        (refine round_end (k + 1) (by omega) (by (try dsimp only); omega) ?_; (conv => whnf); ((repeat' (refine And.intro ?_ ?_)) <;> first | exact congrArg (fun c => wd c _) he.symm | exact rfl | exact trivial | exact fun _ _ _ _ => CoD.refl _ | exact fun _ _ => CoD.refl _ | exact Nat.le_refl _ | omega | ((conv => whnf); first | exact congrArg (fun c => wd c _) he.symm | omega | rfl)))
    · have h4 : k = 256 := by omega
      subst h4
      repeat (first | (refine code_ap xt ?_; conv => whnf) | (refine And.intro (by omega) ?_; conv => whnf) | (refine And.intro (by simp only [andP, addO, mulO, IntKind.bits, Int.reduceToNat]; omega) ?_; conv => whnf) | (refine And.intro (draw_ok (by kernel_rfl) (by kernel_rfl)) ?_; conv => whnf) | (refine cond_T (by first | with_reducible assumption | omega) ?_) | (refine cond_F (by first | with_reducible assumption | omega) ?_) | (refine bcond_T (by first | with_reducible assumption | omega) ?_; conv => whnf) | (refine bcond_F (by first | with_reducible assumption | omega) ?_; conv => whnf) | (refine bcond_ble (by first | omega | (simp only [addO, mulO, Int.reduceToNat]; omega)) ?_; conv => whnf))
      ((repeat' (refine And.intro ?_ ?_)) <;> first | exact rfl | exact trivial | exact fun _ _ _ _ => CoD.refl _ | exact fun _ _ => CoD.refl _ | exact Nat.le_refl _ | omega | ((conv => whnf); first | omega | rfl))
end Go.Proofs.YticpndkcicgenaaDoor
